-- Written by a program of this session (wip/tools), over the kit's printed words: functions as plain Lean, and that the code answers so.
import Derived.Test.YtlljdocflfpnkaaDoorShort
import Derived.Test.YtlljdocflfpnkaaDoorPCmdTextsx0
import Derived.Test.YtlljdocflfpnkaaDoorPCmdTextsx1
import Derived.Test.YtlljdocflfpnkaaDoorPCmdTextsx4
import Derived.Test.YtlljdocflfpnkaaDoorPCmdTextsx7
import Derived.Test.YtlljdocflfpnkaaDoorPCmdTextsx8
namespace Go.Proofs.YtlljdocflfpnkaaDoor.PCmdTexts
open Go.Proofs.YtlljdocflfpnkaaDoor.Short Go.RowKit Go.Proofs.YtlljdocflfpnkaaDoorW.PrintWords Go.Proofs.YtlljdocflfpnkaaDoorW.PrintLast Go.Proofs.YtlljdocflfpnkaaDoorW.PrintMore
attribute [local go_sem] max2_int min2_int max_two min_two max_three min_three max_four min_four Goto.sig_u8 Goto.sig_u16 Goto.sig_u32 Goto.sig_u64 Goto.top_u8 Goto.top_u16 Goto.top_u32 Goto.top_u64   -- for this text's walks alone
set_option linter.unusedVariables false
set_option linter.unusedSimpArgs false

attribute [local go_sem high] eqA24
/-! ### comitialaw07_CmdTexts: function 8 -/
def comitialaw07_CmdTexts.f (k : Nat) (a0_0 : Int) (a0_1 : Int) (a0_2 : Int) (a0_3 : ByteArray) (a0_4 : ByteArray) (a0_5 : Bool) (a1_0 : Int) (a1_1 : Int) (a1_2 : Int) (a1_3 : ByteArray) (a1_4 : ByteArray) (a1_5 : Bool) : Option (Bool) := (comitialaw07_examples.f k).bind fun t181 => (if t181 = true then ((comitialaw07_Wish_wish.f k a0_0 a0_1 a0_2 a0_3 a0_4 true).bind fun bt182 => ((comitialaw07_Wish_wish.f k a1_0 a1_1 a1_2 a1_3 a1_4 true).bind fun bt188 => ((cmd_Text.f k bt182.1 bt182.2.1 bt182.2.2.1 bt182.2.2.2.1 bt182.2.2.2.2).bind fun t194 => ((cmd_Text.f k bt188.1 bt188.2.1 bt188.2.2.1 bt188.2.2.2.1 bt188.2.2.2.2).bind fun t195 => (if ((t194.toList == t195.toList) == (bt182.1 == bt188.1 && (bt182.2.1 == bt188.2.1 && (bt182.2.2.1 == bt188.2.2.1 && (bt182.2.2.2.1.toList == bt188.2.2.2.1.toList && (bt182.2.2.2.2.toList == bt188.2.2.2.2.toList)))))) = true then ((cmd_Text.f k bt182.1 bt182.2.1 bt182.2.2.1 bt182.2.2.2.1 bt182.2.2.2.2).bind fun t196 => (some ((t196.toList == ([45] : List UInt8)) == (bt182.1 == 0)))) else (some false)))))) else (some false))
theorem comitialaw07_CmdTexts.mono : ∀ a0 a1 a2 a3 a4 a5 a6 a7 a8 a9 a10 a11 k, LeO (comitialaw07_CmdTexts.f k a0 a1 a2 a3 a4 a5 a6 a7 a8 a9 a10 a11) (comitialaw07_CmdTexts.f (k + 1) a0 a1 a2 a3 a4 a5 a6 a7 a8 a9 a10 a11) := by
 intro a0 a1 a2 a3 a4 a5 a6 a7 a8 a9 a10 a11 k
 unfold comitialaw07_CmdTexts.f
 repeat' first
   | (with_reducible exact cmd_Text.mono _ _ _ _ _ _)
   | (with_reducible exact comitialaw07_Wish_wish.mono _ _ _ _ _ _ _)
   | (with_reducible exact comitialaw07_examples.mono _)
   | (with_reducible exact LeO.refl _)
   | (with_reducible exact LeO.none _)
   | (with_reducible refine LeO.ite ?_ ?_)
   | (with_reducible refine LeO.bind ?_ (fun _ => ?_))
   | exact cmd_Text.mono _ _ _ _ _ _
   | exact comitialaw07_Wish_wish.mono _ _ _ _ _ _ _
   | exact comitialaw07_examples.mono _
   | exact LeO.none _
   | refine LeO.ite ?_ ?_
   | refine LeO.bind ?_ (fun _ => ?_)
def comitialaw07_CmdTexts.T8 : Bool × List (List Nat × List Nat) := (true, [([], []), ([0], [0]), ([1], [1]), ([2, 1, 1], [1, 2]), ([1], [1]), ([4, 3, 1], [1, 4]), ([3, 5, 1], [1, 3, 5]), ([1], [1]), ([1], [1]), ([7, 8, 1], [1, 7, 8]), ([6, 9, 1], [1, 6, 9]), ([1, 10], [1, 10]), ([11, 5], [11]), ([12], [12]), ([13, 12, 12], [12, 13]), ([14, 12], [12, 14]), ([12], [12]), ([16, 12], [12, 16]), ([17, 12], [12, 17]), ([15, 18, 12], [12, 15, 18]), ([12, 19], [12, 19]), ([20, 14, 0, 1, 2, 3, 4, 5, 6, 7, 8, 9, 10, 11, 12, 13, 14, 15, 16, 17, 18, 19, 20], [20])])
def comitialaw07_CmdTexts.B8 : List Nat := [0, 1, 3, 7, 3, 31, 63, 3, 3, 387, 1023, 2047, 4095, 8191, 16383, 32767, 8191, 73727, 204799, 524287, 1048575, 2097151]
theorem comitialaw07_CmdTexts.tab8 : rtab .any (opsOf Tryd.f8 8) = comitialaw07_CmdTexts.T8 := by kernel_rfl
theorem comitialaw07_CmdTexts.bits8 : waitsOk comitialaw07_CmdTexts.T8.2 comitialaw07_CmdTexts.B8 = true := by kernel_rfl
set_option maxHeartbeats 8000000 in
set_option maxRecDepth 100000 in
theorem comitialaw07_CmdTexts.calls (k : Nat) (a0_0 : Int) (a0_1 : Int) (a0_2 : Int) (a0_3 : ByteArray) (a0_4 : ByteArray) (a0_5 : Bool) (a1_0 : Int) (a1_1 : Int) (a1_2 : Int) (a1_3 : ByteArray) (a1_4 : ByteArray) (a1_5 : Bool) (r : Bool) (w : World) (hT_ : Strconv.Tab w) (h : comitialaw07_CmdTexts.f k a0_0 a0_1 a0_2 a0_3 a0_4 a0_5 a1_0 a1_1 a1_2 a1_3 a1_4 a1_5 = some r) :
  Calls Tryd.prog 8 #[.agg #[.int .i64 a0_0, .int .i64 a0_1, .int .u32 a0_2, .string a0_3, .string a0_4, .bool a0_5], .agg #[.int .i64 a1_0, .int .i64 a1_1, .int .u32 a1_2, .string a1_3, .string a1_4, .bool a1_5]] w fun e w' => e = .returned (.bool r) ∧ Below w.heap.size w w' := by
 have hu26 := Tryd.underlying26
 have hu24 := Tryd.underlying24
 have HSC_ := aM hT_
 clear hT_
 have HB := aM (Below.refl w.heap.size w)
 have H : ((comitialaw07_examples.f k).bind fun t181 => (if t181 = true then ((comitialaw07_Wish_wish.f k a0_0 a0_1 a0_2 a0_3 a0_4 true).bind fun bt182 => ((comitialaw07_Wish_wish.f k a1_0 a1_1 a1_2 a1_3 a1_4 true).bind fun bt188 => ((cmd_Text.f k bt182.1 bt182.2.1 bt182.2.2.1 bt182.2.2.2.1 bt182.2.2.2.2).bind fun t194 => ((cmd_Text.f k bt188.1 bt188.2.1 bt188.2.2.1 bt188.2.2.2.1 bt188.2.2.2.2).bind fun t195 => (if ((t194.toList == t195.toList) == (bt182.1 == bt188.1 && (bt182.2.1 == bt188.2.1 && (bt182.2.2.1 == bt188.2.2.1 && (bt182.2.2.2.1.toList == bt188.2.2.2.1.toList && (bt182.2.2.2.2.toList == bt188.2.2.2.2.toList)))))) = true then ((cmd_Text.f k bt182.1 bt182.2.1 bt182.2.2.1 bt182.2.2.2.1 bt182.2.2.2.2).bind fun t196 => (some ((t196.toList == ([45] : List UInt8)) == (bt182.1 == 0)))) else (some false)))))) else (some false))) = some r := h
 clear h
 replace H := Option.bind_eq_some_iff.mp H
 obtain ⟨t181, A30, H⟩ := H
 replace H : (if t181 = true then ((comitialaw07_Wish_wish.f k a0_0 a0_1 a0_2 a0_3 a0_4 true).bind fun bt182 => ((comitialaw07_Wish_wish.f k a1_0 a1_1 a1_2 a1_3 a1_4 true).bind fun bt188 => ((cmd_Text.f k bt182.1 bt182.2.1 bt182.2.2.1 bt182.2.2.2.1 bt182.2.2.2.2).bind fun t194 => ((cmd_Text.f k bt188.1 bt188.2.1 bt188.2.2.1 bt188.2.2.2.1 bt188.2.2.2.2).bind fun t195 => (if ((t194.toList == t195.toList) == (bt182.1 == bt188.1 && (bt182.2.1 == bt188.2.1 && (bt182.2.2.1 == bt188.2.2.1 && (bt182.2.2.2.1.toList == bt188.2.2.2.1.toList && (bt182.2.2.2.2.toList == bt188.2.2.2.2.toList)))))) = true then ((cmd_Text.f k bt182.1 bt182.2.1 bt182.2.2.1 bt182.2.2.2.1 bt182.2.2.2.2).bind fun t196 => (some ((t196.toList == ([45] : List UInt8)) == (bt182.1 == 0)))) else (some false)))))) else (some false)) = some r := H
 have A3 := aM A30
 clear A30
 go_enter Tryd.func8, Tryd.ntmps8
 go_upto_if 10 with (first | ((with_reducible refine gate_dst (N := 2) rfl ?_); refine box_event ?hg (N := 2) ?hd (cs := #[.int .i64 a0_0, .int .i64 a0_1, .int .u32 a0_2, .string a0_3, .string a0_4, .bool a0_5]) (t := 26) ?hr ?_; (case hd => rfl); (case hg => rfl); (case hr => first | (go_simp; done) | (go_simp; rfl) | (go_simp; simp only [IntKind.wrap_u8, IntKind.wrap_u32]; done) | (go_simp; simp only [IntKind.wrap_u8, IntKind.wrap_u32]; rfl)); intro gb179 hg w4 hbox hb; have n0_ := aM (below_step (by repeat (first | (with_reducible first | exact HB.out | apply bA | apply bN | apply bD) | exact HB.out)) hb); have n1_ := aM (hbox); have n2_ := aM ((by rw [hg]; exact (below_size (by repeat (first | (with_reducible first | exact HB.out | apply bA | apply bN | apply bD) | exact HB.out))) : w.heap.size ≤ gb179)); have n3_ := aM ((by rw [hg]; exact (below_size (by repeat (first | (with_reducible first | exact HB.out | apply bA | apply bN | apply bD) | exact HB.out))) : w.heap.size ≤ gb179)); clear HB; have HB := n0_; have BK179 := n1_; have GW179 := n2_; have GE179 := n3_; clear n0_ n1_ n2_ n3_; clear hb hbox hg) | ((with_reducible refine gate_dst (N := 3) rfl ?_); refine box_event ?hg (N := 3) ?hd (cs := #[.int .i64 a1_0, .int .i64 a1_1, .int .u32 a1_2, .string a1_3, .string a1_4, .bool a1_5]) (t := 26) ?hr ?_; (case hd => rfl); (case hg => rfl); (case hr => first | (go_simp; done) | (go_simp; rfl) | (go_simp; simp only [IntKind.wrap_u8, IntKind.wrap_u32]; done) | (go_simp; simp only [IntKind.wrap_u8, IntKind.wrap_u32]; rfl)); intro gb180 hg w5 hbox hb; have n0_ := aM (kB (g := gb179) (o := .cells #[.int .i64 a0_0, .int .i64 a0_1, .int .u32 a0_2, .string a0_3, .string a0_4, .bool a0_5] 26 (0, 0)) (by (with_reducible repeat (first | refine kN ?_ _ | refine kD ?_ | refine kA ?_ _)); exact BK179.out) hb); have n1_ := aM (below_step (by repeat (first | (with_reducible first | exact HB.out | apply bA | apply bN | apply bD | refine bS ?_ GE179.out) | exact HB.out)) hb); have n2_ := aM (hbox); have n3_ := aM ((by rw [hg]; exact (below_size (by repeat (first | (with_reducible first | exact HB.out | apply bA | apply bN | apply bD | refine bS ?_ GE179.out) | exact HB.out))) : w.heap.size ≤ gb180)); have n4_ := aM ((by rw [hg]; exact (below_size (by repeat (first | (with_reducible first | exact HB.out | apply bA | apply bN | apply bD | refine bS ?_ GE179.out) | exact HB.out))) : w.heap.size ≤ gb180)); have n5_ := aM ((by rw [hg]; exact Nat.ne_of_lt (blk_lt (g := gb179) (o := .cells #[.int .i64 a0_0, .int .i64 a0_1, .int .u32 a0_2, .string a0_3, .string a0_4, .bool a0_5] 26 (0, 0)) (by (with_reducible repeat (first | refine kN ?_ _ | refine kD ?_ | refine kA ?_ _)); exact BK179.out)) : gb179 ≠ gb180)); have n6_ := aM ((by rw [hg]; exact Nat.ne_of_gt (blk_lt (g := gb179) (o := .cells #[.int .i64 a0_0, .int .i64 a0_1, .int .u32 a0_2, .string a0_3, .string a0_4, .bool a0_5] 26 (0, 0)) (by (with_reducible repeat (first | refine kN ?_ _ | refine kD ?_ | refine kA ?_ _)); exact BK179.out)) : gb180 ≠ gb179)); clear BK179; clear HB; have BK179 := n0_; have HB := n1_; have BK180 := n2_; have GW180 := n3_; have GE180 := n4_; have NB179_180 := n5_; have NB180_179 := n6_; clear n0_ n1_ n2_ n3_ n4_ n5_ n6_; clear hb hbox hg) | ((with_reducible refine gate_callee (f := 9) rfl ?_); refine goesL_ (some 8) rfl rfl Tryd.func9 (by kernel_rfl) rfl #[] rfl (by (try simp only [List.map_toArray, List.map_cons, List.map_nil]); first | done | rfl | (simp only [List.length_drop, List.length_take]; rfl)) ?_; (with_reducible refine (comitialaw07_examples.calls k  t181 _ ?side1 A3.out).mono ?_); (case side1 => first | (with_reducible exact HSC_.out) | exact Strconv.Tab.below HSC_.out (by repeat (first | (with_reducible first | exact HB.out | apply bA | apply bN | apply bD | refine bS ?_ GE179.out | refine bS ?_ GE180.out) | exact HB.out))); rintro e w6 ⟨rfl, hb⟩; refine ⟨_, rfl, ?_⟩; have n0_ := aM (kB (g := gb179) (o := .cells #[.int .i64 a0_0, .int .i64 a0_1, .int .u32 a0_2, .string a0_3, .string a0_4, .bool a0_5] 26 (0, 0)) (by (with_reducible repeat (first | refine kN ?_ _ | refine kD ?_ | refine kA ?_ _)); exact BK179.out) hb); have n1_ := aM (kB (g := gb180) (o := .cells #[.int .i64 a1_0, .int .i64 a1_1, .int .u32 a1_2, .string a1_3, .string a1_4, .bool a1_5] 26 (0, 0)) (by (with_reducible repeat (first | refine kN ?_ _ | refine kD ?_ | refine kA ?_ _)); exact BK180.out) hb); have n2_ := aM (below_step (by repeat (first | (with_reducible first | exact HB.out | apply bA | apply bN | apply bD | refine bS ?_ GE179.out | refine bS ?_ GE180.out) | exact HB.out)) hb); clear BK179; clear BK180; clear HB; have BK179 := n0_; have BK180 := n1_; have HB := n2_; clear n0_ n1_ n2_; (try clear hb); (try clear hb2); (try clear hk); (try clear hi)))
 by_cases c7 : t181 = true
 ·subst c7
  have H1 : ((comitialaw07_Wish_wish.f k a0_0 a0_1 a0_2 a0_3 a0_4 true).bind fun bt182 => ((comitialaw07_Wish_wish.f k a1_0 a1_1 a1_2 a1_3 a1_4 true).bind fun bt188 => ((cmd_Text.f k bt182.1 bt182.2.1 bt182.2.2.1 bt182.2.2.2.1 bt182.2.2.2.2).bind fun t194 => ((cmd_Text.f k bt188.1 bt188.2.1 bt188.2.2.1 bt188.2.2.2.1 bt188.2.2.2.2).bind fun t195 => (if ((t194.toList == t195.toList) == (bt182.1 == bt188.1 && (bt182.2.1 == bt188.2.1 && (bt182.2.2.1 == bt188.2.2.1 && (bt182.2.2.2.1.toList == bt188.2.2.2.1.toList && (bt182.2.2.2.2.toList == bt188.2.2.2.2.toList)))))) = true then ((cmd_Text.f k bt182.1 bt182.2.1 bt182.2.2.1 bt182.2.2.2.1 bt182.2.2.2.2).bind fun t196 => (some ((t196.toList == ([45] : List UInt8)) == (bt182.1 == 0)))) else (some false)))))) = some r := by rw [if_pos rfl] at H; exact H
  clear H
  have H := H1
  clear H1
  replace H := Option.bind_eq_some_iff.mp H
  obtain ⟨⟨t182, t183, t184, t185, t186⟩, A80, H⟩ := H
  replace H : ((comitialaw07_Wish_wish.f k a1_0 a1_1 a1_2 a1_3 a1_4 true).bind fun bt188 => ((cmd_Text.f k t182 t183 t184 t185 t186).bind fun t194 => ((cmd_Text.f k bt188.1 bt188.2.1 bt188.2.2.1 bt188.2.2.2.1 bt188.2.2.2.2).bind fun t195 => (if ((t194.toList == t195.toList) == (t182 == bt188.1 && (t183 == bt188.2.1 && (t184 == bt188.2.2.1 && (t185.toList == bt188.2.2.2.1.toList && (t186.toList == bt188.2.2.2.2.toList)))))) = true then ((cmd_Text.f k t182 t183 t184 t185 t186).bind fun t196 => (some ((t196.toList == ([45] : List UInt8)) == (t182 == 0)))) else (some false))))) = some r := H
  have A8 := aM A80
  clear A80
  replace H := Option.bind_eq_some_iff.mp H
  obtain ⟨⟨t188, t189, t190, t191, t192⟩, A90, H⟩ := H
  replace H : ((cmd_Text.f k t182 t183 t184 t185 t186).bind fun t194 => ((cmd_Text.f k t188 t189 t190 t191 t192).bind fun t195 => (if ((t194.toList == t195.toList) == (t182 == t188 && (t183 == t189 && (t184 == t190 && (t185.toList == t191.toList && (t186.toList == t192.toList)))))) = true then ((cmd_Text.f k t182 t183 t184 t185 t186).bind fun t196 => (some ((t196.toList == ([45] : List UInt8)) == (t182 == 0)))) else (some false)))) = some r := H
  have A9 := aM A90
  clear A90
  replace H := Option.bind_eq_some_iff.mp H
  obtain ⟨t194, A100, H⟩ := H
  replace H : ((cmd_Text.f k t188 t189 t190 t191 t192).bind fun t195 => (if ((t194.toList == t195.toList) == (t182 == t188 && (t183 == t189 && (t184 == t190 && (t185.toList == t191.toList && (t186.toList == t192.toList)))))) = true then ((cmd_Text.f k t182 t183 t184 t185 t186).bind fun t196 => (some ((t196.toList == ([45] : List UInt8)) == (t182 == 0)))) else (some false))) = some r := H
  have A10 := aM A100
  clear A100
  replace H := Option.bind_eq_some_iff.mp H
  obtain ⟨t195, A110, H⟩ := H
  replace H : (if ((t194.toList == t195.toList) == (t182 == t188 && (t183 == t189 && (t184 == t190 && (t185.toList == t191.toList && (t186.toList == t192.toList)))))) = true then ((cmd_Text.f k t182 t183 t184 t185 t186).bind fun t196 => (some ((t196.toList == ([45] : List UInt8)) == (t182 == 0)))) else (some false)) = some r := H
  have A11 := aM A110
  clear A110
  by_cases c12 : ((t194.toList == t195.toList) == (t182 == t188 && (t183 == t189 && (t184 == t190 && (t185.toList == t191.toList && (t186.toList == t192.toList)))))) = true
  ·rw [if_pos c12] at H
   have c12b0 : ((t194.toList == t195.toList) == (t182 == t188 && (t183 == t189 && (t184 == t190 && (t185.toList == t191.toList && (t186.toList == t192.toList)))))) = true := c12
   (try (have c12b1 : decide ((t194.toList == t195.toList) = (t182 == t188 && (t183 == t189 && (t184 == t190 && (t185.toList == t191.toList && (t186.toList == t192.toList)))))) = true := by simpa using c12))
   (try (have c12b2 : ((t194.toList == t195.toList) == (t182 == t188 && (t183 == t189 && (t184 == t190 && (t185.toList == t191.toList && (t186.toList == t192.toList)))))) = true := by simpa using c12))
   clear c12
   (first | rw [c12b0] | (simp only [i64_w, i32_w]; rw [c12b0]) | skip)
   replace H := Option.bind_eq_some_iff.mp H
   obtain ⟨t196, A130, H⟩ := H
   replace H : (some ((t196.toList == ([45] : List UInt8)) == (t182 == 0))) = some r := H
   have A13 := aM A130
   clear A130
   obtain rfl := Option.some.inj H
   have hnb14 := NB179_180.out
   have hnc14 := NB180_179.out
   have hcz15_0 : w6.cell? ⟨gb179, 0, none⟩ = some (.int .i64 a0_0) := (kC BK179.out 0).trans rfl
   have hcz15_1 : w6.cell? ⟨gb179, 1, none⟩ = some (.int .i64 a0_1) := (kC BK179.out 1).trans rfl
   have hcz15_2 : w6.cell? ⟨gb179, 2, none⟩ = some (.int .u32 a0_2) := (kC BK179.out 2).trans rfl
   have hcz15_3 : w6.cell? ⟨gb179, 3, none⟩ = some (.string a0_3) := (kC BK179.out 3).trans rfl
   have hcz15_4 : w6.cell? ⟨gb179, 4, none⟩ = some (.string a0_4) := (kC BK179.out 4).trans rfl
   have hcz15_5 : w6.cell? ⟨gb179, 5, none⟩ = some (.bool a0_5) := (kC BK179.out 5).trans rfl
   have hfz15_0 := kF BK179.out 0
   have hfz15_1 := kF BK179.out 1
   have hfz15_2 := kF BK179.out 2
   have hfz15_3 := kF BK179.out 3
   have hfz15_4 := kF BK179.out 4
   have hfz15_5 := kF BK179.out 5
   have hcz16_0 : w6.cell? ⟨gb180, 0, none⟩ = some (.int .i64 a1_0) := (kC BK180.out 0).trans rfl
   have hcz16_1 : w6.cell? ⟨gb180, 1, none⟩ = some (.int .i64 a1_1) := (kC BK180.out 1).trans rfl
   have hcz16_2 : w6.cell? ⟨gb180, 2, none⟩ = some (.int .u32 a1_2) := (kC BK180.out 2).trans rfl
   have hcz16_3 : w6.cell? ⟨gb180, 3, none⟩ = some (.string a1_3) := (kC BK180.out 3).trans rfl
   have hcz16_4 : w6.cell? ⟨gb180, 4, none⟩ = some (.string a1_4) := (kC BK180.out 4).trans rfl
   have hcz16_5 : w6.cell? ⟨gb180, 5, none⟩ = some (.bool a1_5) := (kC BK180.out 5).trans rfl
   have hfz16_0 := kF BK180.out 0
   have hfz16_1 := kF BK180.out 1
   have hfz16_2 := kF BK180.out 2
   have hfz16_3 := kF BK180.out 3
   have hfz16_4 := kF BK180.out 4
   have hfz16_5 := kF BK180.out 5
   try go_wp2_with (first | ((with_reducible refine gate_callee (f := 10) rfl ?_); refine goesL_ (some 14) rfl rfl Tryd.func10 (by kernel_rfl) rfl #[.agg #[.int .i64 a0_0, .int .i64 a0_1, .int .u32 a0_2, .string a0_3, .string a0_4, .bool true]] rfl (by (try simp only [List.map_toArray, List.map_cons, List.map_nil]); first | done | rfl | (simp only [List.length_drop, List.length_take]; rfl)) ?_; (with_reducible refine (comitialaw07_Wish_wish.calls k a0_0 a0_1 a0_2 a0_3 a0_4 true t182 t183 t184 t185 t186 _ A8.out).mono ?_); rintro e w17 ⟨rfl, hb⟩; refine ⟨_, rfl, ?_⟩; have n0_ := aM (kB (g := gb179) (o := .cells #[.int .i64 a0_0, .int .i64 a0_1, .int .u32 a0_2, .string a0_3, .string a0_4, .bool true] 26 (0, 0)) (by (with_reducible repeat (first | refine kN ?_ _ | refine kD ?_ | refine kA ?_ _)); refine kR ?_ NB179_180.out _; (with_reducible repeat (first | refine kN ?_ _ | refine kD ?_ | refine kA ?_ _)); refine blk_put (cs := #[.int .i64 a0_0, .int .i64 a0_1, .int .u32 a0_2, .string a0_3, .string a0_4, .bool a0_5]) ?_ 5 _ rfl; (with_reducible repeat (first | refine kN ?_ _ | refine kD ?_ | refine kA ?_ _)); exact BK179.out) hb); have n1_ := aM (kB (g := gb180) (o := .cells #[.int .i64 a1_0, .int .i64 a1_1, .int .u32 a1_2, .string a1_3, .string a1_4, .bool true] 26 (0, 0)) (by (with_reducible repeat (first | refine kN ?_ _ | refine kD ?_ | refine kA ?_ _)); refine blk_put (cs := #[.int .i64 a1_0, .int .i64 a1_1, .int .u32 a1_2, .string a1_3, .string a1_4, .bool a1_5]) ?_ 5 _ rfl; (with_reducible repeat (first | refine kN ?_ _ | refine kD ?_ | refine kA ?_ _)); refine kR ?_ NB180_179.out _; (with_reducible repeat (first | refine kN ?_ _ | refine kD ?_ | refine kA ?_ _)); exact BK180.out) hb); have n2_ := aM (below_step (by repeat (first | (with_reducible first | exact HB.out | apply bA | apply bN | apply bD | refine bS ?_ GE179.out | refine bS ?_ GE180.out) | exact HB.out)) hb); clear BK179; clear BK180; clear HB; have BK179 := n0_; have BK180 := n1_; have HB := n2_; clear n0_ n1_ n2_; (try clear hb); (try clear hb2); (try clear hk); (try clear hi)) | ((with_reducible refine gate_dst (N := 6) rfl ?_); refine box_event ?hg (N := 6) ?hd (cs := #[.int .i64 0, .int .i64 0, .int .u32 0, .string (⟨#[]⟩ : ByteArray), .string (⟨#[]⟩ : ByteArray)]) (t := 24) ?hr ?_; (case hd => rfl); (case hg => rfl); (case hr => first | (go_simp; done) | (go_simp; rfl) | (go_simp; simp only [IntKind.wrap_u8, IntKind.wrap_u32]; done) | (go_simp; simp only [IntKind.wrap_u8, IntKind.wrap_u32]; rfl)); intro gb187 hg w18 hbox hb; have n0_ := aM (kB (g := gb179) (o := .cells #[.int .i64 a0_0, .int .i64 a0_1, .int .u32 a0_2, .string a0_3, .string a0_4, .bool true] 26 (0, 0)) (by (with_reducible repeat (first | refine kN ?_ _ | refine kD ?_ | refine kA ?_ _)); exact BK179.out) hb); have n1_ := aM (kB (g := gb180) (o := .cells #[.int .i64 a1_0, .int .i64 a1_1, .int .u32 a1_2, .string a1_3, .string a1_4, .bool true] 26 (0, 0)) (by (with_reducible repeat (first | refine kN ?_ _ | refine kD ?_ | refine kA ?_ _)); exact BK180.out) hb); have n2_ := aM (below_step (by repeat (first | (with_reducible first | exact HB.out | apply bA | apply bN | apply bD | refine bS ?_ GE179.out | refine bS ?_ GE180.out) | exact HB.out)) hb); have n3_ := aM (hbox); have n4_ := aM ((by rw [hg]; exact (below_size (by repeat (first | (with_reducible first | exact HB.out | apply bA | apply bN | apply bD | refine bS ?_ GE179.out | refine bS ?_ GE180.out) | exact HB.out))) : w.heap.size ≤ gb187)); have n5_ := aM ((by rw [hg]; exact (below_size (by repeat (first | (with_reducible first | exact HB.out | apply bA | apply bN | apply bD | refine bS ?_ GE179.out | refine bS ?_ GE180.out) | exact HB.out))) : w.heap.size ≤ gb187)); have n6_ := aM ((by rw [hg]; exact Nat.ne_of_lt (blk_lt (g := gb179) (o := .cells #[.int .i64 a0_0, .int .i64 a0_1, .int .u32 a0_2, .string a0_3, .string a0_4, .bool true] 26 (0, 0)) (by (with_reducible repeat (first | refine kN ?_ _ | refine kD ?_ | refine kA ?_ _)); exact BK179.out)) : gb179 ≠ gb187)); have n7_ := aM ((by rw [hg]; exact Nat.ne_of_gt (blk_lt (g := gb179) (o := .cells #[.int .i64 a0_0, .int .i64 a0_1, .int .u32 a0_2, .string a0_3, .string a0_4, .bool true] 26 (0, 0)) (by (with_reducible repeat (first | refine kN ?_ _ | refine kD ?_ | refine kA ?_ _)); exact BK179.out)) : gb187 ≠ gb179)); have n8_ := aM ((by rw [hg]; exact Nat.ne_of_lt (blk_lt (g := gb180) (o := .cells #[.int .i64 a1_0, .int .i64 a1_1, .int .u32 a1_2, .string a1_3, .string a1_4, .bool true] 26 (0, 0)) (by (with_reducible repeat (first | refine kN ?_ _ | refine kD ?_ | refine kA ?_ _)); exact BK180.out)) : gb180 ≠ gb187)); have n9_ := aM ((by rw [hg]; exact Nat.ne_of_gt (blk_lt (g := gb180) (o := .cells #[.int .i64 a1_0, .int .i64 a1_1, .int .u32 a1_2, .string a1_3, .string a1_4, .bool true] 26 (0, 0)) (by (with_reducible repeat (first | refine kN ?_ _ | refine kD ?_ | refine kA ?_ _)); exact BK180.out)) : gb187 ≠ gb180)); clear BK179; clear BK180; clear HB; have BK179 := n0_; have BK180 := n1_; have HB := n2_; have BK187 := n3_; have GW187 := n4_; have GE187 := n5_; have NB179_187 := n6_; have NB187_179 := n7_; have NB180_187 := n8_; have NB187_180 := n9_; clear n0_ n1_ n2_ n3_ n4_ n5_ n6_ n7_ n8_ n9_; clear hb hbox hg; have hnb19 := NB187_179.out; have hnc19 := NB179_187.out; have hnb20 := NB187_180.out; have hnc20 := NB180_187.out; have hcz21_0 : w18.cell? ⟨gb187, 0, none⟩ = some (.int .i64 0) := (kC BK187.out 0).trans rfl; have hcz21_1 : w18.cell? ⟨gb187, 1, none⟩ = some (.int .i64 0) := (kC BK187.out 1).trans rfl; have hcz21_2 : w18.cell? ⟨gb187, 2, none⟩ = some (.int .u32 0) := (kC BK187.out 2).trans rfl; have hcz21_3 : w18.cell? ⟨gb187, 3, none⟩ = some (.string (⟨#[]⟩ : ByteArray)) := (kC BK187.out 3).trans rfl; have hcz21_4 : w18.cell? ⟨gb187, 4, none⟩ = some (.string (⟨#[]⟩ : ByteArray)) := (kC BK187.out 4).trans rfl; have hfz21_0 := kF BK187.out 0; have hfz21_1 := kF BK187.out 1; have hfz21_2 := kF BK187.out 2; have hfz21_3 := kF BK187.out 3; have hfz21_4 := kF BK187.out 4; have hcz22_0 : w18.cell? ⟨gb180, 0, none⟩ = some (.int .i64 a1_0) := (kC BK180.out 0).trans rfl; have hcz22_1 : w18.cell? ⟨gb180, 1, none⟩ = some (.int .i64 a1_1) := (kC BK180.out 1).trans rfl; have hcz22_2 : w18.cell? ⟨gb180, 2, none⟩ = some (.int .u32 a1_2) := (kC BK180.out 2).trans rfl; have hcz22_3 : w18.cell? ⟨gb180, 3, none⟩ = some (.string a1_3) := (kC BK180.out 3).trans rfl; have hcz22_4 : w18.cell? ⟨gb180, 4, none⟩ = some (.string a1_4) := (kC BK180.out 4).trans rfl; have hcz22_5 : w18.cell? ⟨gb180, 5, none⟩ = some (.bool true) := (kC BK180.out 5).trans rfl; have hfz22_0 := kF BK180.out 0; have hfz22_1 := kF BK180.out 1; have hfz22_2 := kF BK180.out 2; have hfz22_3 := kF BK180.out 3; have hfz22_4 := kF BK180.out 4; have hfz22_5 := kF BK180.out 5) | ((with_reducible refine gate_callee (f := 10) rfl ?_); refine goesL_ (some 16) rfl rfl Tryd.func10 (by kernel_rfl) rfl #[.agg #[.int .i64 a1_0, .int .i64 a1_1, .int .u32 a1_2, .string a1_3, .string a1_4, .bool true]] rfl (by (try simp only [List.map_toArray, List.map_cons, List.map_nil]); first | done | rfl | (simp only [List.length_drop, List.length_take]; rfl)) ?_; (with_reducible refine (comitialaw07_Wish_wish.calls k a1_0 a1_1 a1_2 a1_3 a1_4 true t188 t189 t190 t191 t192 _ A9.out).mono ?_); rintro e w23 ⟨rfl, hb⟩; refine ⟨_, rfl, ?_⟩; have n0_ := aM (kB (g := gb179) (o := .cells #[.int .i64 a0_0, .int .i64 a0_1, .int .u32 a0_2, .string a0_3, .string a0_4, .bool true] 26 (0, 0)) (by (with_reducible repeat (first | refine kN ?_ _ | refine kD ?_ | refine kA ?_ _)); refine kR ?_ NB179_187.out _; (with_reducible repeat (first | refine kN ?_ _ | refine kD ?_ | refine kA ?_ _)); refine kR ?_ NB179_187.out _; (with_reducible repeat (first | refine kN ?_ _ | refine kD ?_ | refine kA ?_ _)); refine kR ?_ NB179_187.out _; (with_reducible repeat (first | refine kN ?_ _ | refine kD ?_ | refine kA ?_ _)); refine kR ?_ NB179_187.out _; (with_reducible repeat (first | refine kN ?_ _ | refine kD ?_ | refine kA ?_ _)); refine kR ?_ NB179_187.out _; (with_reducible repeat (first | refine kN ?_ _ | refine kD ?_ | refine kA ?_ _)); exact BK179.out) hb); have n1_ := aM (kB (g := gb180) (o := .cells #[.int .i64 a1_0, .int .i64 a1_1, .int .u32 a1_2, .string a1_3, .string a1_4, .bool true] 26 (0, 0)) (by (with_reducible repeat (first | refine kN ?_ _ | refine kD ?_ | refine kA ?_ _)); refine kR ?_ NB180_187.out _; (with_reducible repeat (first | refine kN ?_ _ | refine kD ?_ | refine kA ?_ _)); refine kR ?_ NB180_187.out _; (with_reducible repeat (first | refine kN ?_ _ | refine kD ?_ | refine kA ?_ _)); refine kR ?_ NB180_187.out _; (with_reducible repeat (first | refine kN ?_ _ | refine kD ?_ | refine kA ?_ _)); refine kR ?_ NB180_187.out _; (with_reducible repeat (first | refine kN ?_ _ | refine kD ?_ | refine kA ?_ _)); refine kR ?_ NB180_187.out _; (with_reducible repeat (first | refine kN ?_ _ | refine kD ?_ | refine kA ?_ _)); exact BK180.out) hb); have n2_ := aM (kB (g := gb187) (o := .cells #[.int .i64 t182, .int .i64 t183, .int .u32 t184, .string t185, .string t186] 24 (0, 0)) (by (with_reducible repeat (first | refine kN ?_ _ | refine kD ?_ | refine kA ?_ _)); refine blk_put (cs := #[.int .i64 t182, .int .i64 t183, .int .u32 t184, .string t185, .string (⟨#[]⟩ : ByteArray)]) ?_ 4 _ rfl; (with_reducible repeat (first | refine kN ?_ _ | refine kD ?_ | refine kA ?_ _)); refine blk_put (cs := #[.int .i64 t182, .int .i64 t183, .int .u32 t184, .string (⟨#[]⟩ : ByteArray), .string (⟨#[]⟩ : ByteArray)]) ?_ 3 _ rfl; (with_reducible repeat (first | refine kN ?_ _ | refine kD ?_ | refine kA ?_ _)); refine blk_put (cs := #[.int .i64 t182, .int .i64 t183, .int .u32 0, .string (⟨#[]⟩ : ByteArray), .string (⟨#[]⟩ : ByteArray)]) ?_ 2 _ rfl; (with_reducible repeat (first | refine kN ?_ _ | refine kD ?_ | refine kA ?_ _)); refine blk_put (cs := #[.int .i64 t182, .int .i64 0, .int .u32 0, .string (⟨#[]⟩ : ByteArray), .string (⟨#[]⟩ : ByteArray)]) ?_ 1 _ rfl; (with_reducible repeat (first | refine kN ?_ _ | refine kD ?_ | refine kA ?_ _)); refine blk_put (cs := #[.int .i64 0, .int .i64 0, .int .u32 0, .string (⟨#[]⟩ : ByteArray), .string (⟨#[]⟩ : ByteArray)]) ?_ 0 _ rfl; (with_reducible repeat (first | refine kN ?_ _ | refine kD ?_ | refine kA ?_ _)); exact BK187.out) hb); have n3_ := aM (below_step (by repeat (first | (with_reducible first | exact HB.out | apply bA | apply bN | apply bD | refine bS ?_ GE179.out | refine bS ?_ GE180.out | refine bS ?_ GE187.out) | exact HB.out)) hb); clear BK179; clear BK180; clear BK187; clear HB; have BK179 := n0_; have BK180 := n1_; have BK187 := n2_; have HB := n3_; clear n0_ n1_ n2_ n3_; (try clear hb); (try clear hb2); (try clear hk); (try clear hi)) | ((with_reducible refine gate_dst (N := 7) rfl ?_); refine box_event ?hg (N := 7) ?hd (cs := #[.int .i64 0, .int .i64 0, .int .u32 0, .string (⟨#[]⟩ : ByteArray), .string (⟨#[]⟩ : ByteArray)]) (t := 24) ?hr ?_; (case hd => rfl); (case hg => rfl); (case hr => first | (go_simp; done) | (go_simp; rfl) | (go_simp; simp only [IntKind.wrap_u8, IntKind.wrap_u32]; done) | (go_simp; simp only [IntKind.wrap_u8, IntKind.wrap_u32]; rfl)); intro gb193 hg w24 hbox hb; have n0_ := aM (kB (g := gb179) (o := .cells #[.int .i64 a0_0, .int .i64 a0_1, .int .u32 a0_2, .string a0_3, .string a0_4, .bool true] 26 (0, 0)) (by (with_reducible repeat (first | refine kN ?_ _ | refine kD ?_ | refine kA ?_ _)); exact BK179.out) hb); have n1_ := aM (kB (g := gb180) (o := .cells #[.int .i64 a1_0, .int .i64 a1_1, .int .u32 a1_2, .string a1_3, .string a1_4, .bool true] 26 (0, 0)) (by (with_reducible repeat (first | refine kN ?_ _ | refine kD ?_ | refine kA ?_ _)); exact BK180.out) hb); have n2_ := aM (kB (g := gb187) (o := .cells #[.int .i64 t182, .int .i64 t183, .int .u32 t184, .string t185, .string t186] 24 (0, 0)) (by (with_reducible repeat (first | refine kN ?_ _ | refine kD ?_ | refine kA ?_ _)); exact BK187.out) hb); have n3_ := aM (below_step (by repeat (first | (with_reducible first | exact HB.out | apply bA | apply bN | apply bD | refine bS ?_ GE179.out | refine bS ?_ GE180.out | refine bS ?_ GE187.out) | exact HB.out)) hb); have n4_ := aM (hbox); have n5_ := aM ((by rw [hg]; exact (below_size (by repeat (first | (with_reducible first | exact HB.out | apply bA | apply bN | apply bD | refine bS ?_ GE179.out | refine bS ?_ GE180.out | refine bS ?_ GE187.out) | exact HB.out))) : w.heap.size ≤ gb193)); have n6_ := aM ((by rw [hg]; exact (below_size (by repeat (first | (with_reducible first | exact HB.out | apply bA | apply bN | apply bD | refine bS ?_ GE179.out | refine bS ?_ GE180.out | refine bS ?_ GE187.out) | exact HB.out))) : w.heap.size ≤ gb193)); have n7_ := aM ((by rw [hg]; exact Nat.ne_of_lt (blk_lt (g := gb179) (o := .cells #[.int .i64 a0_0, .int .i64 a0_1, .int .u32 a0_2, .string a0_3, .string a0_4, .bool true] 26 (0, 0)) (by (with_reducible repeat (first | refine kN ?_ _ | refine kD ?_ | refine kA ?_ _)); exact BK179.out)) : gb179 ≠ gb193)); have n8_ := aM ((by rw [hg]; exact Nat.ne_of_gt (blk_lt (g := gb179) (o := .cells #[.int .i64 a0_0, .int .i64 a0_1, .int .u32 a0_2, .string a0_3, .string a0_4, .bool true] 26 (0, 0)) (by (with_reducible repeat (first | refine kN ?_ _ | refine kD ?_ | refine kA ?_ _)); exact BK179.out)) : gb193 ≠ gb179)); have n9_ := aM ((by rw [hg]; exact Nat.ne_of_lt (blk_lt (g := gb180) (o := .cells #[.int .i64 a1_0, .int .i64 a1_1, .int .u32 a1_2, .string a1_3, .string a1_4, .bool true] 26 (0, 0)) (by (with_reducible repeat (first | refine kN ?_ _ | refine kD ?_ | refine kA ?_ _)); exact BK180.out)) : gb180 ≠ gb193)); have n10_ := aM ((by rw [hg]; exact Nat.ne_of_gt (blk_lt (g := gb180) (o := .cells #[.int .i64 a1_0, .int .i64 a1_1, .int .u32 a1_2, .string a1_3, .string a1_4, .bool true] 26 (0, 0)) (by (with_reducible repeat (first | refine kN ?_ _ | refine kD ?_ | refine kA ?_ _)); exact BK180.out)) : gb193 ≠ gb180)); have n11_ := aM ((by rw [hg]; exact Nat.ne_of_lt (blk_lt (g := gb187) (o := .cells #[.int .i64 t182, .int .i64 t183, .int .u32 t184, .string t185, .string t186] 24 (0, 0)) (by (with_reducible repeat (first | refine kN ?_ _ | refine kD ?_ | refine kA ?_ _)); exact BK187.out)) : gb187 ≠ gb193)); have n12_ := aM ((by rw [hg]; exact Nat.ne_of_gt (blk_lt (g := gb187) (o := .cells #[.int .i64 t182, .int .i64 t183, .int .u32 t184, .string t185, .string t186] 24 (0, 0)) (by (with_reducible repeat (first | refine kN ?_ _ | refine kD ?_ | refine kA ?_ _)); exact BK187.out)) : gb193 ≠ gb187)); clear BK179; clear BK180; clear BK187; clear HB; have BK179 := n0_; have BK180 := n1_; have BK187 := n2_; have HB := n3_; have BK193 := n4_; have GW193 := n5_; have GE193 := n6_; have NB179_193 := n7_; have NB193_179 := n8_; have NB180_193 := n9_; have NB193_180 := n10_; have NB187_193 := n11_; have NB193_187 := n12_; clear n0_ n1_ n2_ n3_ n4_ n5_ n6_ n7_ n8_ n9_ n10_ n11_ n12_; clear hb hbox hg; have hnb25 := NB193_179.out; have hnc25 := NB179_193.out; have hnb26 := NB193_180.out; have hnc26 := NB180_193.out; have hnb27 := NB193_187.out; have hnc27 := NB187_193.out; have hcz28_0 : w24.cell? ⟨gb193, 0, none⟩ = some (.int .i64 0) := (kC BK193.out 0).trans rfl; have hcz28_1 : w24.cell? ⟨gb193, 1, none⟩ = some (.int .i64 0) := (kC BK193.out 1).trans rfl; have hcz28_2 : w24.cell? ⟨gb193, 2, none⟩ = some (.int .u32 0) := (kC BK193.out 2).trans rfl; have hcz28_3 : w24.cell? ⟨gb193, 3, none⟩ = some (.string (⟨#[]⟩ : ByteArray)) := (kC BK193.out 3).trans rfl; have hcz28_4 : w24.cell? ⟨gb193, 4, none⟩ = some (.string (⟨#[]⟩ : ByteArray)) := (kC BK193.out 4).trans rfl; have hfz28_0 := kF BK193.out 0; have hfz28_1 := kF BK193.out 1; have hfz28_2 := kF BK193.out 2; have hfz28_3 := kF BK193.out 3; have hfz28_4 := kF BK193.out 4))
   have n0_ : Aside0 ((((((w24.setCell ⟨gb193, 0, none⟩ (.int .i64 t188)).setCell ⟨gb193, 1, none⟩ (.int .i64 t189)).setCell ⟨gb193, 2, none⟩ (.int .u32 t190)).setCell ⟨gb193, 3, none⟩ (.string t191)).setCell ⟨gb193, 4, none⟩ (.string t192)).heap[gb179]? = some (.cells #[.int .i64 a0_0, .int .i64 a0_1, .int .u32 a0_2, .string a0_3, .string a0_4, .bool true] 26 (0, 0))) := ⟨by (with_reducible repeat (first | refine kN ?_ _ | refine kD ?_ | refine kA ?_ _)); refine kR ?_ NB179_193.out _; (with_reducible repeat (first | refine kN ?_ _ | refine kD ?_ | refine kA ?_ _)); refine kR ?_ NB179_193.out _; (with_reducible repeat (first | refine kN ?_ _ | refine kD ?_ | refine kA ?_ _)); refine kR ?_ NB179_193.out _; (with_reducible repeat (first | refine kN ?_ _ | refine kD ?_ | refine kA ?_ _)); refine kR ?_ NB179_193.out _; (with_reducible repeat (first | refine kN ?_ _ | refine kD ?_ | refine kA ?_ _)); refine kR ?_ NB179_193.out _; (with_reducible repeat (first | refine kN ?_ _ | refine kD ?_ | refine kA ?_ _)); exact BK179.out⟩
   have n1_ : Aside0 ((((((w24.setCell ⟨gb193, 0, none⟩ (.int .i64 t188)).setCell ⟨gb193, 1, none⟩ (.int .i64 t189)).setCell ⟨gb193, 2, none⟩ (.int .u32 t190)).setCell ⟨gb193, 3, none⟩ (.string t191)).setCell ⟨gb193, 4, none⟩ (.string t192)).heap[gb180]? = some (.cells #[.int .i64 a1_0, .int .i64 a1_1, .int .u32 a1_2, .string a1_3, .string a1_4, .bool true] 26 (0, 0))) := ⟨by (with_reducible repeat (first | refine kN ?_ _ | refine kD ?_ | refine kA ?_ _)); refine kR ?_ NB180_193.out _; (with_reducible repeat (first | refine kN ?_ _ | refine kD ?_ | refine kA ?_ _)); refine kR ?_ NB180_193.out _; (with_reducible repeat (first | refine kN ?_ _ | refine kD ?_ | refine kA ?_ _)); refine kR ?_ NB180_193.out _; (with_reducible repeat (first | refine kN ?_ _ | refine kD ?_ | refine kA ?_ _)); refine kR ?_ NB180_193.out _; (with_reducible repeat (first | refine kN ?_ _ | refine kD ?_ | refine kA ?_ _)); refine kR ?_ NB180_193.out _; (with_reducible repeat (first | refine kN ?_ _ | refine kD ?_ | refine kA ?_ _)); exact BK180.out⟩
   have n2_ : Aside0 ((((((w24.setCell ⟨gb193, 0, none⟩ (.int .i64 t188)).setCell ⟨gb193, 1, none⟩ (.int .i64 t189)).setCell ⟨gb193, 2, none⟩ (.int .u32 t190)).setCell ⟨gb193, 3, none⟩ (.string t191)).setCell ⟨gb193, 4, none⟩ (.string t192)).heap[gb187]? = some (.cells #[.int .i64 t182, .int .i64 t183, .int .u32 t184, .string t185, .string t186] 24 (0, 0))) := ⟨by (with_reducible repeat (first | refine kN ?_ _ | refine kD ?_ | refine kA ?_ _)); refine kR ?_ NB187_193.out _; (with_reducible repeat (first | refine kN ?_ _ | refine kD ?_ | refine kA ?_ _)); refine kR ?_ NB187_193.out _; (with_reducible repeat (first | refine kN ?_ _ | refine kD ?_ | refine kA ?_ _)); refine kR ?_ NB187_193.out _; (with_reducible repeat (first | refine kN ?_ _ | refine kD ?_ | refine kA ?_ _)); refine kR ?_ NB187_193.out _; (with_reducible repeat (first | refine kN ?_ _ | refine kD ?_ | refine kA ?_ _)); refine kR ?_ NB187_193.out _; (with_reducible repeat (first | refine kN ?_ _ | refine kD ?_ | refine kA ?_ _)); exact BK187.out⟩
   have n3_ : Aside0 ((((((w24.setCell ⟨gb193, 0, none⟩ (.int .i64 t188)).setCell ⟨gb193, 1, none⟩ (.int .i64 t189)).setCell ⟨gb193, 2, none⟩ (.int .u32 t190)).setCell ⟨gb193, 3, none⟩ (.string t191)).setCell ⟨gb193, 4, none⟩ (.string t192)).heap[gb193]? = some (.cells #[.int .i64 t188, .int .i64 t189, .int .u32 t190, .string t191, .string t192] 24 (0, 0))) := ⟨by (with_reducible repeat (first | refine kN ?_ _ | refine kD ?_ | refine kA ?_ _)); refine blk_put (cs := #[.int .i64 t188, .int .i64 t189, .int .u32 t190, .string t191, .string (⟨#[]⟩ : ByteArray)]) ?_ 4 _ rfl; (with_reducible repeat (first | refine kN ?_ _ | refine kD ?_ | refine kA ?_ _)); refine blk_put (cs := #[.int .i64 t188, .int .i64 t189, .int .u32 t190, .string (⟨#[]⟩ : ByteArray), .string (⟨#[]⟩ : ByteArray)]) ?_ 3 _ rfl; (with_reducible repeat (first | refine kN ?_ _ | refine kD ?_ | refine kA ?_ _)); refine blk_put (cs := #[.int .i64 t188, .int .i64 t189, .int .u32 0, .string (⟨#[]⟩ : ByteArray), .string (⟨#[]⟩ : ByteArray)]) ?_ 2 _ rfl; (with_reducible repeat (first | refine kN ?_ _ | refine kD ?_ | refine kA ?_ _)); refine blk_put (cs := #[.int .i64 t188, .int .i64 0, .int .u32 0, .string (⟨#[]⟩ : ByteArray), .string (⟨#[]⟩ : ByteArray)]) ?_ 1 _ rfl; (with_reducible repeat (first | refine kN ?_ _ | refine kD ?_ | refine kA ?_ _)); refine blk_put (cs := #[.int .i64 0, .int .i64 0, .int .u32 0, .string (⟨#[]⟩ : ByteArray), .string (⟨#[]⟩ : ByteArray)]) ?_ 0 _ rfl; (with_reducible repeat (first | refine kN ?_ _ | refine kD ?_ | refine kA ?_ _)); exact BK193.out⟩
   have n4_ : Aside0 (Below w.heap.size w (((((w24.setCell ⟨gb193, 0, none⟩ (.int .i64 t188)).setCell ⟨gb193, 1, none⟩ (.int .i64 t189)).setCell ⟨gb193, 2, none⟩ (.int .u32 t190)).setCell ⟨gb193, 3, none⟩ (.string t191)).setCell ⟨gb193, 4, none⟩ (.string t192))) := ⟨by repeat (first | (with_reducible first | exact HB.out | apply bA | apply bN | apply bD | refine bS ?_ GE179.out | refine bS ?_ GE180.out | refine bS ?_ GE187.out | refine bS ?_ GE193.out) | exact HB.out)⟩
   (try clear BK179)
   (try clear BK180)
   (try clear BK187)
   (try clear BK193)
   (try clear HB)
   generalize (((((w24.setCell ⟨gb193, 0, none⟩ (.int .i64 t188)).setCell ⟨gb193, 1, none⟩ (.int .i64 t189)).setCell ⟨gb193, 2, none⟩ (.int .u32 t190)).setCell ⟨gb193, 3, none⟩ (.string t191)).setCell ⟨gb193, 4, none⟩ (.string t192)) = w29 at n0_ n1_ n2_ n3_ n4_ ⊢
   have BK179 := n0_
   have BK180 := n1_
   have BK187 := n2_
   have BK193 := n3_
   have HB := n4_
   clear n0_ n1_ n2_ n3_ n4_
   have n0_ := aM (kD BK179.out)
   have n1_ := aM (kD BK180.out)
   have n2_ := aM (kD BK187.out)
   have n3_ := aM (kD BK193.out)
   have n4_ := aM (bD HB.out)
   clear BK179
   clear BK180
   clear BK187
   clear BK193
   clear HB
   have BK179 := n0_
   have BK180 := n1_
   have BK187 := n2_
   have BK193 := n3_
   have HB := n4_
   clear n0_ n1_ n2_ n3_ n4_
   refine start_ (n := 22) (S := fun w' => w'.cell? ⟨gb187, 0, none⟩ = some (.int .i64 t182) ∧ w'.cell? ⟨gb187, 1, none⟩ = some (.int .i64 t183) ∧ w'.cell? ⟨gb187, 2, none⟩ = some (.int .u32 t184) ∧ w'.cell? ⟨gb187, 3, none⟩ = some (.string t185) ∧ w'.cell? ⟨gb187, 4, none⟩ = some (.string t186) ∧ w'.cell? ⟨gb193, 0, none⟩ = some (.int .i64 t188) ∧ w'.cell? ⟨gb193, 1, none⟩ = some (.int .i64 t189) ∧ w'.cell? ⟨gb193, 2, none⟩ = some (.int .u32 t190) ∧ w'.cell? ⟨gb193, 3, none⟩ = some (.string t191) ∧ w'.cell? ⟨gb193, 4, none⟩ = some (.string t192)) (ds := []) #[false, false, false, false, false, false, false, false, false, false, false, false, false, false, false, false, false, false, false, false, false, false] (by kernel_rfl) rfl rfl ⟨(kC BK187.out 0).trans rfl, (kC BK187.out 1).trans rfl, (kC BK187.out 2).trans rfl, (kC BK187.out 3).trans rfl, (kC BK187.out 4).trans rfl, (kC BK193.out 0).trans rfl, (kC BK193.out 1).trans rfl, (kC BK193.out 2).trans rfl, (kC BK193.out 3).trans rfl, (kC BK193.out 4).trans rfl⟩ (fun hHeld => ?_); refine with_tabW comitialaw07_CmdTexts.tab8 comitialaw07_CmdTexts.bits8 (fun HT_ HW_ => ?_)
   generalize w29.drew = w30 at BK179 BK180 BK187 BK193 HB hHeld ⊢
   refine pure_ (i := 0) (N := some 17) (v := ?_) (a' := ?_) #[true, false, false, false, false, false, false, false, false, false, false, false, false, false, false, false, false, false, false, false, false, false] rfl rfl (any_of HT_.out (by kernel_rfl)) (fun _ _ _ h => h) (Or.inl ⟨by rfl, ?_⟩) ?_ ?_
   rotate_left
   ·intro w'
    go_simp
    with_reducible rfl
   rotate_left
   ·simp only [Act.put, List.setIfInBounds_toArray, List.set_cons_zero, List.set_cons_succ, i64_w, i32_w, IntKind.wrap_u8, IntKind.wrap_u32]
    rfl
   refine pure_ (i := 1) (N := some 18) (v := ?_) (a' := ?_) #[true, true, false, false, false, false, false, false, false, false, false, false, false, false, false, false, false, false, false, false, false, false] rfl rfl (any_of HT_.out (by kernel_rfl)) (fun _ _ _ h => h) (Or.inl ⟨by rfl, ?_⟩) ?_ ?_
   rotate_left
   ·intro w'
    go_simp
    with_reducible rfl
   rotate_left
   ·simp only [Act.put, List.setIfInBounds_toArray, List.set_cons_zero, List.set_cons_succ, i64_w, i32_w, IntKind.wrap_u8, IntKind.wrap_u32]
    rfl
   refine take_ (i := 2) (N := some 19) (v := ?_) (a' := ?_) #[true, true, true, false, false, false, false, false, false, false, false, false, false, false, false, false, false, false, false, false, false, false] rfl rfl (take_ofW HT_.out HW_.out (by kernel_rfl)) (fun _ _ _ h => h) (Or.inl ⟨by rfl, ?_⟩) hHeld ?_ ?_
   rotate_left
   ·rintro w' ⟨s0, s1, s2, s3, s4, s5, s6, s7, s8, s9⟩
    go_simp
    with_reducible rfl
   rotate_left
   ·simp only [Act.put, List.setIfInBounds_toArray, List.set_cons_zero, List.set_cons_succ, i64_w, i32_w, IntKind.wrap_u8, IntKind.wrap_u32]
    rfl
   refine take_ (i := 4) (N := some 21) (v := ?_) (a' := ?_) #[true, true, true, false, true, false, false, false, false, false, false, false, false, false, false, false, false, false, false, false, false, false] rfl rfl (take_ofW HT_.out HW_.out (by kernel_rfl)) (fun _ _ _ h => h) (Or.inl ⟨by rfl, ?_⟩) hHeld ?_ ?_
   rotate_left
   ·rintro w' ⟨s0, s1, s2, s3, s4, s5, s6, s7, s8, s9⟩
    go_simp
    with_reducible rfl
   rotate_left
   ·simp only [Act.put, List.setIfInBounds_toArray, List.set_cons_zero, List.set_cons_succ, i64_w, i32_w, IntKind.wrap_u8, IntKind.wrap_u32]
    rfl
   refine take_ (i := 7) (N := some 24) (v := ?_) (a' := ?_) #[true, true, true, false, true, false, false, true, false, false, false, false, false, false, false, false, false, false, false, false, false, false] rfl rfl (take_ofW HT_.out HW_.out (by kernel_rfl)) (fun _ _ _ h => h) (Or.inl ⟨by rfl, ?_⟩) hHeld ?_ ?_
   rotate_left
   ·rintro w' ⟨s0, s1, s2, s3, s4, s5, s6, s7, s8, s9⟩
    go_simp
    with_reducible rfl
   rotate_left
   ·simp only [Act.put, List.setIfInBounds_toArray, List.set_cons_zero, List.set_cons_succ, i64_w, i32_w, IntKind.wrap_u8, IntKind.wrap_u32]
    rfl
   refine take_ (i := 8) (N := some 25) (v := ?_) (a' := ?_) #[true, true, true, false, true, false, false, true, true, false, false, false, false, false, false, false, false, false, false, false, false, false] rfl rfl (take_ofW HT_.out HW_.out (by kernel_rfl)) (fun _ _ _ h => h) (Or.inl ⟨by rfl, ?_⟩) hHeld ?_ ?_
   rotate_left
   ·rintro w' ⟨s0, s1, s2, s3, s4, s5, s6, s7, s8, s9⟩
    go_simp
    with_reducible rfl
   rotate_left
   ·simp only [Act.put, List.setIfInBounds_toArray, List.set_cons_zero, List.set_cons_succ, i64_w, i32_w, IntKind.wrap_u8, IntKind.wrap_u32]
    rfl
   refine pure_ (i := 9) (N := some 26) (v := ?_) (a' := ?_) #[true, true, true, false, true, false, false, true, true, true, false, false, false, false, false, false, false, false, false, false, false, false] rfl rfl (any_of HT_.out (by kernel_rfl)) (fun _ _ _ h => h) (Or.inl ⟨by rfl, ?_⟩) ?_ ?_
   rotate_left
   ·intro w'
    go_simp
    with_reducible rfl
   rotate_left
   ·simp only [Act.put, List.setIfInBounds_toArray, List.set_cons_zero, List.set_cons_succ, i64_w, i32_w, IntKind.wrap_u8, IntKind.wrap_u32]
    rfl
   refine one_ (i := 3) (N := some 20) #[true, true, true, true, true, false, false, true, true, true, false, false, false, false, false, false, false, false, false, false, false, false] rfl rfl (one_of HT_.out (by kernel_rfl)) (by decide) (fun K hK => ?_)
   refine goes_ Tryd.func18 (by kernel_rfl) rfl #[.agg #[.int .i64 t182, .int .i64 t183, .int .u32 t184, .string t185, .string t186]] (by rfl) rfl rfl (by (try simp only [List.map_toArray, List.map_cons, List.map_nil]); first | done | rfl | (simp only [List.length_drop, List.length_take]; rfl)) ?_
   with_reducible refine (cmd_Text.calls k t182 t183 t184 t185 t186 t194 _ ?side1 A10.out).mono ?_
   (case side1 => first | (with_reducible exact HSC_.out) | exact Strconv.Tab.below HSC_.out (by repeat (first | (with_reducible first | exact HB.out | apply bA | apply bN | apply bD | refine bS ?_ GE179.out | refine bS ?_ GE180.out | refine bS ?_ GE187.out | refine bS ?_ GE193.out) | exact HB.out)))
   rintro e w31 ⟨rfl, hb⟩
   refine ⟨_, rfl, ?_⟩
   have n0_ := aM (kB (g := gb179) (o := .cells #[.int .i64 a0_0, .int .i64 a0_1, .int .u32 a0_2, .string a0_3, .string a0_4, .bool true] 26 (0, 0)) (by (with_reducible repeat (first | refine kN ?_ _ | refine kD ?_ | refine kA ?_ _)); exact BK179.out) hb)
   have n1_ := aM (kB (g := gb180) (o := .cells #[.int .i64 a1_0, .int .i64 a1_1, .int .u32 a1_2, .string a1_3, .string a1_4, .bool true] 26 (0, 0)) (by (with_reducible repeat (first | refine kN ?_ _ | refine kD ?_ | refine kA ?_ _)); exact BK180.out) hb)
   have n2_ := aM (kB (g := gb187) (o := .cells #[.int .i64 t182, .int .i64 t183, .int .u32 t184, .string t185, .string t186] 24 (0, 0)) (by (with_reducible repeat (first | refine kN ?_ _ | refine kD ?_ | refine kA ?_ _)); exact BK187.out) hb)
   have n3_ := aM (kB (g := gb193) (o := .cells #[.int .i64 t188, .int .i64 t189, .int .u32 t190, .string t191, .string t192] 24 (0, 0)) (by (with_reducible repeat (first | refine kN ?_ _ | refine kD ?_ | refine kA ?_ _)); exact BK193.out) hb)
   have n4_ := aM (below_step (by repeat (first | (with_reducible first | exact HB.out | apply bA | apply bN | apply bD | refine bS ?_ GE179.out | refine bS ?_ GE180.out | refine bS ?_ GE187.out | refine bS ?_ GE193.out) | exact HB.out)) hb)
   clear BK179
   clear BK180
   clear BK187
   clear BK193
   clear HB
   have BK179 := n0_
   have BK180 := n1_
   have BK187 := n2_
   have BK193 := n3_
   have HB := n4_
   clear n0_ n1_ n2_ n3_ n4_
   (try clear hb)
   (try clear hb2)
   (try clear hk)
   (try clear hi)
   refine hK.out _ _ ⟨(kC BK187.out 0).trans rfl, (kC BK187.out 1).trans rfl, (kC BK187.out 2).trans rfl, (kC BK187.out 3).trans rfl, (kC BK187.out 4).trans rfl, (kC BK193.out 0).trans rfl, (kC BK193.out 1).trans rfl, (kC BK193.out 2).trans rfl, (kC BK193.out 3).trans rfl, (kC BK193.out 4).trans rfl⟩ (fun hHeld => ?_)
   clear hK K
   refine norm_ (a' := ?_) ?_ ?_
   rotate_left
   ·show Act.put _ (some 20) _ = _
    simp only [Act.put, List.setIfInBounds_toArray, List.set_cons_zero, List.set_cons_succ, i64_w, i32_w, IntKind.wrap_u8, IntKind.wrap_u32]
    rfl
   refine one_ (i := 5) (N := some 22) #[true, true, true, true, true, true, false, true, true, true, false, false, false, false, false, false, false, false, false, false, false, false] rfl rfl (one_of HT_.out (by kernel_rfl)) (by decide) (fun K hK => ?_)
   refine goes_ Tryd.func18 (by kernel_rfl) rfl #[.agg #[.int .i64 t188, .int .i64 t189, .int .u32 t190, .string t191, .string t192]] (by rfl) rfl rfl (by (try simp only [List.map_toArray, List.map_cons, List.map_nil]); first | done | rfl | (simp only [List.length_drop, List.length_take]; rfl)) ?_
   with_reducible refine (cmd_Text.calls k t188 t189 t190 t191 t192 t195 _ ?side1 A11.out).mono ?_
   (case side1 => first | (with_reducible exact HSC_.out) | exact Strconv.Tab.below HSC_.out (by repeat (first | (with_reducible first | exact HB.out | apply bA | apply bN | apply bD | refine bS ?_ GE179.out | refine bS ?_ GE180.out | refine bS ?_ GE187.out | refine bS ?_ GE193.out) | exact HB.out)))
   rintro e w32 ⟨rfl, hb⟩
   refine ⟨_, rfl, ?_⟩
   have n0_ := aM (kB (g := gb179) (o := .cells #[.int .i64 a0_0, .int .i64 a0_1, .int .u32 a0_2, .string a0_3, .string a0_4, .bool true] 26 (0, 0)) (by (with_reducible repeat (first | refine kN ?_ _ | refine kD ?_ | refine kA ?_ _)); exact BK179.out) hb)
   have n1_ := aM (kB (g := gb180) (o := .cells #[.int .i64 a1_0, .int .i64 a1_1, .int .u32 a1_2, .string a1_3, .string a1_4, .bool true] 26 (0, 0)) (by (with_reducible repeat (first | refine kN ?_ _ | refine kD ?_ | refine kA ?_ _)); exact BK180.out) hb)
   have n2_ := aM (kB (g := gb187) (o := .cells #[.int .i64 t182, .int .i64 t183, .int .u32 t184, .string t185, .string t186] 24 (0, 0)) (by (with_reducible repeat (first | refine kN ?_ _ | refine kD ?_ | refine kA ?_ _)); exact BK187.out) hb)
   have n3_ := aM (kB (g := gb193) (o := .cells #[.int .i64 t188, .int .i64 t189, .int .u32 t190, .string t191, .string t192] 24 (0, 0)) (by (with_reducible repeat (first | refine kN ?_ _ | refine kD ?_ | refine kA ?_ _)); exact BK193.out) hb)
   have n4_ := aM (below_step (by repeat (first | (with_reducible first | exact HB.out | apply bA | apply bN | apply bD | refine bS ?_ GE179.out | refine bS ?_ GE180.out | refine bS ?_ GE187.out | refine bS ?_ GE193.out) | exact HB.out)) hb)
   clear BK179
   clear BK180
   clear BK187
   clear BK193
   clear HB
   have BK179 := n0_
   have BK180 := n1_
   have BK187 := n2_
   have BK193 := n3_
   have HB := n4_
   clear n0_ n1_ n2_ n3_ n4_
   (try clear hb)
   (try clear hb2)
   (try clear hk)
   (try clear hi)
   refine hK.out _ _ ⟨(kC BK187.out 0).trans rfl, (kC BK187.out 1).trans rfl, (kC BK187.out 2).trans rfl, (kC BK187.out 3).trans rfl, (kC BK187.out 4).trans rfl, (kC BK193.out 0).trans rfl, (kC BK193.out 1).trans rfl, (kC BK193.out 2).trans rfl, (kC BK193.out 3).trans rfl, (kC BK193.out 4).trans rfl⟩ (fun hHeld => ?_)
   clear hK K
   refine norm_ (a' := ?_) ?_ ?_
   rotate_left
   ·show Act.put _ (some 22) _ = _
    simp only [Act.put, List.setIfInBounds_toArray, List.set_cons_zero, List.set_cons_succ, i64_w, i32_w, IntKind.wrap_u8, IntKind.wrap_u32]
    rfl
   refine pure_ (i := 6) (N := some 23) (v := ?_) (a' := ?_) #[true, true, true, true, true, true, true, true, true, true, false, false, false, false, false, false, false, false, false, false, false, false] rfl rfl (any_of HT_.out (by kernel_rfl)) (fun _ _ _ h => h) (Or.inl ⟨by rfl, ?_⟩) ?_ ?_
   rotate_left
   ·intro w'
    go_simp
    with_reducible rfl
   rotate_left
   ·simp only [Act.put, List.setIfInBounds_toArray, List.set_cons_zero, List.set_cons_succ, i64_w, i32_w, IntKind.wrap_u8, IntKind.wrap_u32]
    rfl
   refine pure_ (i := 10) (N := some 27) (v := ?_) (a' := ?_) #[true, true, true, true, true, true, true, true, true, true, true, false, false, false, false, false, false, false, false, false, false, false] rfl rfl (any_of HT_.out (by kernel_rfl)) (fun _ _ _ h => h) (Or.inl ⟨by rfl, ?_⟩) ?_ ?_
   rotate_left
   ·intro w'
    go_simp
    with_reducible rfl
   rotate_left
   ·simp only [Act.put, List.setIfInBounds_toArray, List.set_cons_zero, List.set_cons_succ, i64_w, i32_w, IntKind.wrap_u8, IntKind.wrap_u32]
    rfl
   refine pure_ (i := 11) (N := some 28) (v := ?_) (a' := ?_) #[true, true, true, true, true, true, true, true, true, true, true, true, false, false, false, false, false, false, false, false, false, false] rfl rfl (any_of HT_.out (by kernel_rfl)) (fun _ _ _ h => h) (Or.inl ⟨by rfl, ?_⟩) ?_ ?_
   rotate_left
   ·intro w'
    go_simp
    with_reducible rfl
   rotate_left
   ·simp only [Act.put, List.setIfInBounds_toArray, List.set_cons_zero, List.set_cons_succ, i64_w, i32_w, IntKind.wrap_u8, IntKind.wrap_u32]
    rfl
   refine pure_ (i := 12) (N := some 29) (v := ?_) (a' := ?_) #[true, true, true, true, true, true, true, true, true, true, true, true, true, false, false, false, false, false, false, false, false, false] rfl rfl (any_of HT_.out (by kernel_rfl)) (fun _ _ _ h => h) (Or.inl ⟨by rfl, ?_⟩) ?_ ?_
   rotate_left
   ·intro w'
    go_simp
    with_reducible rfl
   rotate_left
   ·simp only [Act.put, List.setIfInBounds_toArray, List.set_cons_zero, List.set_cons_succ, i64_w, i32_w, IntKind.wrap_u8, IntKind.wrap_u32]
    rfl
   refine pure_ (i := 16) (N := some 33) (v := ?_) (a' := ?_) #[true, true, true, true, true, true, true, true, true, true, true, true, true, false, false, false, true, false, false, false, false, false] rfl rfl (any_of HT_.out (by kernel_rfl)) (fun _ _ _ h => h) (Or.inl ⟨by rfl, ?_⟩) ?_ ?_
   rotate_left
   ·intro w'
    go_simp
    with_reducible rfl
   rotate_left
   ·simp only [Act.put, List.setIfInBounds_toArray, List.set_cons_zero, List.set_cons_succ, i64_w, i32_w, IntKind.wrap_u8, IntKind.wrap_u32]
    rfl
   refine take_ (i := 13) (N := some 30) (v := ?_) (a' := ?_) #[true, true, true, true, true, true, true, true, true, true, true, true, true, true, false, false, true, false, false, false, false, false] rfl rfl (take_ofW HT_.out HW_.out (by kernel_rfl)) (fun _ _ _ h => h) (Or.inl ⟨by rfl, ?_⟩) hHeld ?_ ?_
   rotate_left
   ·rintro w' ⟨s0, s1, s2, s3, s4, s5, s6, s7, s8, s9⟩
    go_simp
    with_reducible rfl
   rotate_left
   ·simp only [Act.put, List.setIfInBounds_toArray, List.set_cons_zero, List.set_cons_succ, i64_w, i32_w, IntKind.wrap_u8, IntKind.wrap_u32]
    rfl
   refine take_ (i := 17) (N := some 34) (v := ?_) (a' := ?_) #[true, true, true, true, true, true, true, true, true, true, true, true, true, true, false, false, true, true, false, false, false, false] rfl rfl (take_ofW HT_.out HW_.out (by kernel_rfl)) (fun _ _ _ h => h) (Or.inl ⟨by rfl, ?_⟩) hHeld ?_ ?_
   rotate_left
   ·rintro w' ⟨s0, s1, s2, s3, s4, s5, s6, s7, s8, s9⟩
    go_simp
    with_reducible rfl
   rotate_left
   ·simp only [Act.put, List.setIfInBounds_toArray, List.set_cons_zero, List.set_cons_succ, i64_w, i32_w, IntKind.wrap_u8, IntKind.wrap_u32]
    rfl
   refine pure_ (i := 18) (N := some 35) (v := ?_) (a' := ?_) #[true, true, true, true, true, true, true, true, true, true, true, true, true, true, false, false, true, true, true, false, false, false] rfl rfl (any_of HT_.out (by kernel_rfl)) (fun _ _ _ h => h) (Or.inl ⟨by rfl, ?_⟩) ?_ ?_
   rotate_left
   ·intro w'
    go_simp
    with_reducible rfl
   rotate_left
   ·simp only [Act.put, List.setIfInBounds_toArray, List.set_cons_zero, List.set_cons_succ, i64_w, i32_w, IntKind.wrap_u8, IntKind.wrap_u32]
    rfl
   refine one_ (i := 14) (N := some 31) #[true, true, true, true, true, true, true, true, true, true, true, true, true, true, true, false, true, true, true, false, false, false] rfl rfl (one_of HT_.out (by kernel_rfl)) (by decide) (fun K hK => ?_)
   refine goes_ Tryd.func18 (by kernel_rfl) rfl #[.agg #[.int .i64 t182, .int .i64 t183, .int .u32 t184, .string t185, .string t186]] (by rfl) rfl rfl (by (try simp only [List.map_toArray, List.map_cons, List.map_nil]); first | done | rfl | (simp only [List.length_drop, List.length_take]; rfl)) ?_
   with_reducible refine (cmd_Text.calls k t182 t183 t184 t185 t186 t196 _ ?side1 A13.out).mono ?_
   (case side1 => first | (with_reducible exact HSC_.out) | exact Strconv.Tab.below HSC_.out (by repeat (first | (with_reducible first | exact HB.out | apply bA | apply bN | apply bD | refine bS ?_ GE179.out | refine bS ?_ GE180.out | refine bS ?_ GE187.out | refine bS ?_ GE193.out) | exact HB.out)))
   rintro e w33 ⟨rfl, hb⟩
   refine ⟨_, rfl, ?_⟩
   have n0_ := aM (kB (g := gb179) (o := .cells #[.int .i64 a0_0, .int .i64 a0_1, .int .u32 a0_2, .string a0_3, .string a0_4, .bool true] 26 (0, 0)) (by (with_reducible repeat (first | refine kN ?_ _ | refine kD ?_ | refine kA ?_ _)); exact BK179.out) hb)
   have n1_ := aM (kB (g := gb180) (o := .cells #[.int .i64 a1_0, .int .i64 a1_1, .int .u32 a1_2, .string a1_3, .string a1_4, .bool true] 26 (0, 0)) (by (with_reducible repeat (first | refine kN ?_ _ | refine kD ?_ | refine kA ?_ _)); exact BK180.out) hb)
   have n2_ := aM (kB (g := gb187) (o := .cells #[.int .i64 t182, .int .i64 t183, .int .u32 t184, .string t185, .string t186] 24 (0, 0)) (by (with_reducible repeat (first | refine kN ?_ _ | refine kD ?_ | refine kA ?_ _)); exact BK187.out) hb)
   have n3_ := aM (kB (g := gb193) (o := .cells #[.int .i64 t188, .int .i64 t189, .int .u32 t190, .string t191, .string t192] 24 (0, 0)) (by (with_reducible repeat (first | refine kN ?_ _ | refine kD ?_ | refine kA ?_ _)); exact BK193.out) hb)
   have n4_ := aM (below_step (by repeat (first | (with_reducible first | exact HB.out | apply bA | apply bN | apply bD | refine bS ?_ GE179.out | refine bS ?_ GE180.out | refine bS ?_ GE187.out | refine bS ?_ GE193.out) | exact HB.out)) hb)
   clear BK179
   clear BK180
   clear BK187
   clear BK193
   clear HB
   have BK179 := n0_
   have BK180 := n1_
   have BK187 := n2_
   have BK193 := n3_
   have HB := n4_
   clear n0_ n1_ n2_ n3_ n4_
   (try clear hb)
   (try clear hb2)
   (try clear hk)
   (try clear hi)
   refine hK.out _ _ ⟨(kC BK187.out 0).trans rfl, (kC BK187.out 1).trans rfl, (kC BK187.out 2).trans rfl, (kC BK187.out 3).trans rfl, (kC BK187.out 4).trans rfl, (kC BK193.out 0).trans rfl, (kC BK193.out 1).trans rfl, (kC BK193.out 2).trans rfl, (kC BK193.out 3).trans rfl, (kC BK193.out 4).trans rfl⟩ (fun hHeld => ?_)
   clear hK K
   refine norm_ (a' := ?_) ?_ ?_
   rotate_left
   ·show Act.put _ (some 31) _ = _
    simp only [Act.put, List.setIfInBounds_toArray, List.set_cons_zero, List.set_cons_succ, i64_w, i32_w, IntKind.wrap_u8, IntKind.wrap_u32]
    rfl
   refine pure_ (i := 15) (N := some 32) (v := ?_) (a' := ?_) #[true, true, true, true, true, true, true, true, true, true, true, true, true, true, true, true, true, true, true, false, false, false] rfl rfl (any_of HT_.out (by kernel_rfl)) (fun _ _ _ h => h) (Or.inl ⟨by rfl, ?_⟩) ?_ ?_
   rotate_left
   ·intro w'
    go_simp
    with_reducible rfl
   rotate_left
   ·simp only [Act.put, List.setIfInBounds_toArray, List.set_cons_zero, List.set_cons_succ, i64_w, i32_w, IntKind.wrap_u8, IntKind.wrap_u32]
    rfl
   refine pure_ (i := 19) (N := some 36) (v := ?_) (a' := ?_) #[true, true, true, true, true, true, true, true, true, true, true, true, true, true, true, true, true, true, true, true, false, false] rfl rfl (any_of HT_.out (by kernel_rfl)) (fun _ _ _ h => h) (Or.inl ⟨by rfl, ?_⟩) ?_ ?_
   rotate_left
   ·intro w'
    go_simp
    with_reducible rfl
   rotate_left
   ·simp only [Act.put, List.setIfInBounds_toArray, List.set_cons_zero, List.set_cons_succ, i64_w, i32_w, IntKind.wrap_u8, IntKind.wrap_u32]
    rfl
   refine pure_ (i := 20) (N := some 37) (v := ?_) (a' := ?_) #[true, true, true, true, true, true, true, true, true, true, true, true, true, true, true, true, true, true, true, true, true, false] rfl rfl (any_of HT_.out (by kernel_rfl)) (fun _ _ _ h => h) (Or.inl ⟨by rfl, ?_⟩) ?_ ?_
   rotate_left
   ·intro w'
    go_simp
    with_reducible rfl
   rotate_left
   ·simp only [Act.put, List.setIfInBounds_toArray, List.set_cons_zero, List.set_cons_succ, i64_w, i32_w, IntKind.wrap_u8, IntKind.wrap_u32]
    rfl
   refine pure_ (i := 21) (N := some 4) (v := ?_) (a' := ?_) #[true, true, true, true, true, true, true, true, true, true, true, true, true, true, true, true, true, true, true, true, true, true] rfl rfl (any_of HT_.out (by kernel_rfl)) (fun _ _ _ h => h) (Or.inl ⟨by rfl, ?_⟩) ?_ ?_
   rotate_left
   ·intro w'
    go_simp
    with_reducible rfl
   rotate_left
   ·simp only [Act.put, List.setIfInBounds_toArray, List.set_cons_zero, List.set_cons_succ, i64_w, i32_w, IntKind.wrap_u8, IntKind.wrap_u32]
    rfl
   refine done_ (done_of HT_.out (by kernel_rfl)) ?_
   try go_wp2
   go_ret
   exact ⟨by first | rfl | (simp [errW_none, errW_some] <;> rfl) | (simp [*, errW_none, errW_some] <;> rfl), by repeat (first | (with_reducible first | exact HB.out | apply bA | apply bN | apply bD | refine bS ?_ GE179.out | refine bS ?_ GE180.out | refine bS ?_ GE187.out | refine bS ?_ GE193.out) | exact HB.out)⟩
  ·rw [if_neg c12] at H
   have c12b0 : ((t194.toList == t195.toList) == (t182 == t188 && (t183 == t189 && (t184 == t190 && (t185.toList == t191.toList && (t186.toList == t192.toList)))))) = false := by simpa using c12
   (try (have c12b1 : decide ((t194.toList == t195.toList) = (t182 == t188 && (t183 == t189 && (t184 == t190 && (t185.toList == t191.toList && (t186.toList == t192.toList)))))) = false := by simpa using c12))
   (try (have c12b2 : ((t194.toList == t195.toList) == (t182 == t188 && (t183 == t189 && (t184 == t190 && (t185.toList == t191.toList && (t186.toList == t192.toList)))))) = false := by simpa using c12))
   (try (have c12b3 : ¬ ((t194.toList == t195.toList) = (t182 == t188 && (t183 == t189 && (t184 == t190 && (t185.toList == t191.toList && (t186.toList == t192.toList)))))) := by simpa using c12))
   clear c12
   (first | rw [c12b0] | (simp only [i64_w, i32_w]; rw [c12b0]) | skip)
   obtain rfl := Option.some.inj H
   have hnb34 := NB179_180.out
   have hnc34 := NB180_179.out
   have hcz35_0 : w6.cell? ⟨gb179, 0, none⟩ = some (.int .i64 a0_0) := (kC BK179.out 0).trans rfl
   have hcz35_1 : w6.cell? ⟨gb179, 1, none⟩ = some (.int .i64 a0_1) := (kC BK179.out 1).trans rfl
   have hcz35_2 : w6.cell? ⟨gb179, 2, none⟩ = some (.int .u32 a0_2) := (kC BK179.out 2).trans rfl
   have hcz35_3 : w6.cell? ⟨gb179, 3, none⟩ = some (.string a0_3) := (kC BK179.out 3).trans rfl
   have hcz35_4 : w6.cell? ⟨gb179, 4, none⟩ = some (.string a0_4) := (kC BK179.out 4).trans rfl
   have hcz35_5 : w6.cell? ⟨gb179, 5, none⟩ = some (.bool a0_5) := (kC BK179.out 5).trans rfl
   have hfz35_0 := kF BK179.out 0
   have hfz35_1 := kF BK179.out 1
   have hfz35_2 := kF BK179.out 2
   have hfz35_3 := kF BK179.out 3
   have hfz35_4 := kF BK179.out 4
   have hfz35_5 := kF BK179.out 5
   have hcz36_0 : w6.cell? ⟨gb180, 0, none⟩ = some (.int .i64 a1_0) := (kC BK180.out 0).trans rfl
   have hcz36_1 : w6.cell? ⟨gb180, 1, none⟩ = some (.int .i64 a1_1) := (kC BK180.out 1).trans rfl
   have hcz36_2 : w6.cell? ⟨gb180, 2, none⟩ = some (.int .u32 a1_2) := (kC BK180.out 2).trans rfl
   have hcz36_3 : w6.cell? ⟨gb180, 3, none⟩ = some (.string a1_3) := (kC BK180.out 3).trans rfl
   have hcz36_4 : w6.cell? ⟨gb180, 4, none⟩ = some (.string a1_4) := (kC BK180.out 4).trans rfl
   have hcz36_5 : w6.cell? ⟨gb180, 5, none⟩ = some (.bool a1_5) := (kC BK180.out 5).trans rfl
   have hfz36_0 := kF BK180.out 0
   have hfz36_1 := kF BK180.out 1
   have hfz36_2 := kF BK180.out 2
   have hfz36_3 := kF BK180.out 3
   have hfz36_4 := kF BK180.out 4
   have hfz36_5 := kF BK180.out 5
   try go_wp2_with (first | ((with_reducible refine gate_callee (f := 10) rfl ?_); refine goesL_ (some 14) rfl rfl Tryd.func10 (by kernel_rfl) rfl #[.agg #[.int .i64 a0_0, .int .i64 a0_1, .int .u32 a0_2, .string a0_3, .string a0_4, .bool true]] rfl (by (try simp only [List.map_toArray, List.map_cons, List.map_nil]); first | done | rfl | (simp only [List.length_drop, List.length_take]; rfl)) ?_; (with_reducible refine (comitialaw07_Wish_wish.calls k a0_0 a0_1 a0_2 a0_3 a0_4 true t182 t183 t184 t185 t186 _ A8.out).mono ?_); rintro e w37 ⟨rfl, hb⟩; refine ⟨_, rfl, ?_⟩; have n0_ := aM (kB (g := gb179) (o := .cells #[.int .i64 a0_0, .int .i64 a0_1, .int .u32 a0_2, .string a0_3, .string a0_4, .bool true] 26 (0, 0)) (by (with_reducible repeat (first | refine kN ?_ _ | refine kD ?_ | refine kA ?_ _)); refine kR ?_ NB179_180.out _; (with_reducible repeat (first | refine kN ?_ _ | refine kD ?_ | refine kA ?_ _)); refine blk_put (cs := #[.int .i64 a0_0, .int .i64 a0_1, .int .u32 a0_2, .string a0_3, .string a0_4, .bool a0_5]) ?_ 5 _ rfl; (with_reducible repeat (first | refine kN ?_ _ | refine kD ?_ | refine kA ?_ _)); exact BK179.out) hb); have n1_ := aM (kB (g := gb180) (o := .cells #[.int .i64 a1_0, .int .i64 a1_1, .int .u32 a1_2, .string a1_3, .string a1_4, .bool true] 26 (0, 0)) (by (with_reducible repeat (first | refine kN ?_ _ | refine kD ?_ | refine kA ?_ _)); refine blk_put (cs := #[.int .i64 a1_0, .int .i64 a1_1, .int .u32 a1_2, .string a1_3, .string a1_4, .bool a1_5]) ?_ 5 _ rfl; (with_reducible repeat (first | refine kN ?_ _ | refine kD ?_ | refine kA ?_ _)); refine kR ?_ NB180_179.out _; (with_reducible repeat (first | refine kN ?_ _ | refine kD ?_ | refine kA ?_ _)); exact BK180.out) hb); have n2_ := aM (below_step (by repeat (first | (with_reducible first | exact HB.out | apply bA | apply bN | apply bD | refine bS ?_ GE179.out | refine bS ?_ GE180.out) | exact HB.out)) hb); clear BK179; clear BK180; clear HB; have BK179 := n0_; have BK180 := n1_; have HB := n2_; clear n0_ n1_ n2_; (try clear hb); (try clear hb2); (try clear hk); (try clear hi)) | ((with_reducible refine gate_dst (N := 6) rfl ?_); refine box_event ?hg (N := 6) ?hd (cs := #[.int .i64 0, .int .i64 0, .int .u32 0, .string (⟨#[]⟩ : ByteArray), .string (⟨#[]⟩ : ByteArray)]) (t := 24) ?hr ?_; (case hd => rfl); (case hg => rfl); (case hr => first | (go_simp; done) | (go_simp; rfl) | (go_simp; simp only [IntKind.wrap_u8, IntKind.wrap_u32]; done) | (go_simp; simp only [IntKind.wrap_u8, IntKind.wrap_u32]; rfl)); intro gb187 hg w38 hbox hb; have n0_ := aM (kB (g := gb179) (o := .cells #[.int .i64 a0_0, .int .i64 a0_1, .int .u32 a0_2, .string a0_3, .string a0_4, .bool true] 26 (0, 0)) (by (with_reducible repeat (first | refine kN ?_ _ | refine kD ?_ | refine kA ?_ _)); exact BK179.out) hb); have n1_ := aM (kB (g := gb180) (o := .cells #[.int .i64 a1_0, .int .i64 a1_1, .int .u32 a1_2, .string a1_3, .string a1_4, .bool true] 26 (0, 0)) (by (with_reducible repeat (first | refine kN ?_ _ | refine kD ?_ | refine kA ?_ _)); exact BK180.out) hb); have n2_ := aM (below_step (by repeat (first | (with_reducible first | exact HB.out | apply bA | apply bN | apply bD | refine bS ?_ GE179.out | refine bS ?_ GE180.out) | exact HB.out)) hb); have n3_ := aM (hbox); have n4_ := aM ((by rw [hg]; exact (below_size (by repeat (first | (with_reducible first | exact HB.out | apply bA | apply bN | apply bD | refine bS ?_ GE179.out | refine bS ?_ GE180.out) | exact HB.out))) : w.heap.size ≤ gb187)); have n5_ := aM ((by rw [hg]; exact (below_size (by repeat (first | (with_reducible first | exact HB.out | apply bA | apply bN | apply bD | refine bS ?_ GE179.out | refine bS ?_ GE180.out) | exact HB.out))) : w.heap.size ≤ gb187)); have n6_ := aM ((by rw [hg]; exact Nat.ne_of_lt (blk_lt (g := gb179) (o := .cells #[.int .i64 a0_0, .int .i64 a0_1, .int .u32 a0_2, .string a0_3, .string a0_4, .bool true] 26 (0, 0)) (by (with_reducible repeat (first | refine kN ?_ _ | refine kD ?_ | refine kA ?_ _)); exact BK179.out)) : gb179 ≠ gb187)); have n7_ := aM ((by rw [hg]; exact Nat.ne_of_gt (blk_lt (g := gb179) (o := .cells #[.int .i64 a0_0, .int .i64 a0_1, .int .u32 a0_2, .string a0_3, .string a0_4, .bool true] 26 (0, 0)) (by (with_reducible repeat (first | refine kN ?_ _ | refine kD ?_ | refine kA ?_ _)); exact BK179.out)) : gb187 ≠ gb179)); have n8_ := aM ((by rw [hg]; exact Nat.ne_of_lt (blk_lt (g := gb180) (o := .cells #[.int .i64 a1_0, .int .i64 a1_1, .int .u32 a1_2, .string a1_3, .string a1_4, .bool true] 26 (0, 0)) (by (with_reducible repeat (first | refine kN ?_ _ | refine kD ?_ | refine kA ?_ _)); exact BK180.out)) : gb180 ≠ gb187)); have n9_ := aM ((by rw [hg]; exact Nat.ne_of_gt (blk_lt (g := gb180) (o := .cells #[.int .i64 a1_0, .int .i64 a1_1, .int .u32 a1_2, .string a1_3, .string a1_4, .bool true] 26 (0, 0)) (by (with_reducible repeat (first | refine kN ?_ _ | refine kD ?_ | refine kA ?_ _)); exact BK180.out)) : gb187 ≠ gb180)); clear BK179; clear BK180; clear HB; have BK179 := n0_; have BK180 := n1_; have HB := n2_; have BK187 := n3_; have GW187 := n4_; have GE187 := n5_; have NB179_187 := n6_; have NB187_179 := n7_; have NB180_187 := n8_; have NB187_180 := n9_; clear n0_ n1_ n2_ n3_ n4_ n5_ n6_ n7_ n8_ n9_; clear hb hbox hg; have hnb39 := NB187_179.out; have hnc39 := NB179_187.out; have hnb40 := NB187_180.out; have hnc40 := NB180_187.out; have hcz41_0 : w38.cell? ⟨gb187, 0, none⟩ = some (.int .i64 0) := (kC BK187.out 0).trans rfl; have hcz41_1 : w38.cell? ⟨gb187, 1, none⟩ = some (.int .i64 0) := (kC BK187.out 1).trans rfl; have hcz41_2 : w38.cell? ⟨gb187, 2, none⟩ = some (.int .u32 0) := (kC BK187.out 2).trans rfl; have hcz41_3 : w38.cell? ⟨gb187, 3, none⟩ = some (.string (⟨#[]⟩ : ByteArray)) := (kC BK187.out 3).trans rfl; have hcz41_4 : w38.cell? ⟨gb187, 4, none⟩ = some (.string (⟨#[]⟩ : ByteArray)) := (kC BK187.out 4).trans rfl; have hfz41_0 := kF BK187.out 0; have hfz41_1 := kF BK187.out 1; have hfz41_2 := kF BK187.out 2; have hfz41_3 := kF BK187.out 3; have hfz41_4 := kF BK187.out 4; have hcz42_0 : w38.cell? ⟨gb180, 0, none⟩ = some (.int .i64 a1_0) := (kC BK180.out 0).trans rfl; have hcz42_1 : w38.cell? ⟨gb180, 1, none⟩ = some (.int .i64 a1_1) := (kC BK180.out 1).trans rfl; have hcz42_2 : w38.cell? ⟨gb180, 2, none⟩ = some (.int .u32 a1_2) := (kC BK180.out 2).trans rfl; have hcz42_3 : w38.cell? ⟨gb180, 3, none⟩ = some (.string a1_3) := (kC BK180.out 3).trans rfl; have hcz42_4 : w38.cell? ⟨gb180, 4, none⟩ = some (.string a1_4) := (kC BK180.out 4).trans rfl; have hcz42_5 : w38.cell? ⟨gb180, 5, none⟩ = some (.bool true) := (kC BK180.out 5).trans rfl; have hfz42_0 := kF BK180.out 0; have hfz42_1 := kF BK180.out 1; have hfz42_2 := kF BK180.out 2; have hfz42_3 := kF BK180.out 3; have hfz42_4 := kF BK180.out 4; have hfz42_5 := kF BK180.out 5) | ((with_reducible refine gate_callee (f := 10) rfl ?_); refine goesL_ (some 16) rfl rfl Tryd.func10 (by kernel_rfl) rfl #[.agg #[.int .i64 a1_0, .int .i64 a1_1, .int .u32 a1_2, .string a1_3, .string a1_4, .bool true]] rfl (by (try simp only [List.map_toArray, List.map_cons, List.map_nil]); first | done | rfl | (simp only [List.length_drop, List.length_take]; rfl)) ?_; (with_reducible refine (comitialaw07_Wish_wish.calls k a1_0 a1_1 a1_2 a1_3 a1_4 true t188 t189 t190 t191 t192 _ A9.out).mono ?_); rintro e w43 ⟨rfl, hb⟩; refine ⟨_, rfl, ?_⟩; have n0_ := aM (kB (g := gb179) (o := .cells #[.int .i64 a0_0, .int .i64 a0_1, .int .u32 a0_2, .string a0_3, .string a0_4, .bool true] 26 (0, 0)) (by (with_reducible repeat (first | refine kN ?_ _ | refine kD ?_ | refine kA ?_ _)); refine kR ?_ NB179_187.out _; (with_reducible repeat (first | refine kN ?_ _ | refine kD ?_ | refine kA ?_ _)); refine kR ?_ NB179_187.out _; (with_reducible repeat (first | refine kN ?_ _ | refine kD ?_ | refine kA ?_ _)); refine kR ?_ NB179_187.out _; (with_reducible repeat (first | refine kN ?_ _ | refine kD ?_ | refine kA ?_ _)); refine kR ?_ NB179_187.out _; (with_reducible repeat (first | refine kN ?_ _ | refine kD ?_ | refine kA ?_ _)); refine kR ?_ NB179_187.out _; (with_reducible repeat (first | refine kN ?_ _ | refine kD ?_ | refine kA ?_ _)); exact BK179.out) hb); have n1_ := aM (kB (g := gb180) (o := .cells #[.int .i64 a1_0, .int .i64 a1_1, .int .u32 a1_2, .string a1_3, .string a1_4, .bool true] 26 (0, 0)) (by (with_reducible repeat (first | refine kN ?_ _ | refine kD ?_ | refine kA ?_ _)); refine kR ?_ NB180_187.out _; (with_reducible repeat (first | refine kN ?_ _ | refine kD ?_ | refine kA ?_ _)); refine kR ?_ NB180_187.out _; (with_reducible repeat (first | refine kN ?_ _ | refine kD ?_ | refine kA ?_ _)); refine kR ?_ NB180_187.out _; (with_reducible repeat (first | refine kN ?_ _ | refine kD ?_ | refine kA ?_ _)); refine kR ?_ NB180_187.out _; (with_reducible repeat (first | refine kN ?_ _ | refine kD ?_ | refine kA ?_ _)); refine kR ?_ NB180_187.out _; (with_reducible repeat (first | refine kN ?_ _ | refine kD ?_ | refine kA ?_ _)); exact BK180.out) hb); have n2_ := aM (kB (g := gb187) (o := .cells #[.int .i64 t182, .int .i64 t183, .int .u32 t184, .string t185, .string t186] 24 (0, 0)) (by (with_reducible repeat (first | refine kN ?_ _ | refine kD ?_ | refine kA ?_ _)); refine blk_put (cs := #[.int .i64 t182, .int .i64 t183, .int .u32 t184, .string t185, .string (⟨#[]⟩ : ByteArray)]) ?_ 4 _ rfl; (with_reducible repeat (first | refine kN ?_ _ | refine kD ?_ | refine kA ?_ _)); refine blk_put (cs := #[.int .i64 t182, .int .i64 t183, .int .u32 t184, .string (⟨#[]⟩ : ByteArray), .string (⟨#[]⟩ : ByteArray)]) ?_ 3 _ rfl; (with_reducible repeat (first | refine kN ?_ _ | refine kD ?_ | refine kA ?_ _)); refine blk_put (cs := #[.int .i64 t182, .int .i64 t183, .int .u32 0, .string (⟨#[]⟩ : ByteArray), .string (⟨#[]⟩ : ByteArray)]) ?_ 2 _ rfl; (with_reducible repeat (first | refine kN ?_ _ | refine kD ?_ | refine kA ?_ _)); refine blk_put (cs := #[.int .i64 t182, .int .i64 0, .int .u32 0, .string (⟨#[]⟩ : ByteArray), .string (⟨#[]⟩ : ByteArray)]) ?_ 1 _ rfl; (with_reducible repeat (first | refine kN ?_ _ | refine kD ?_ | refine kA ?_ _)); refine blk_put (cs := #[.int .i64 0, .int .i64 0, .int .u32 0, .string (⟨#[]⟩ : ByteArray), .string (⟨#[]⟩ : ByteArray)]) ?_ 0 _ rfl; (with_reducible repeat (first | refine kN ?_ _ | refine kD ?_ | refine kA ?_ _)); exact BK187.out) hb); have n3_ := aM (below_step (by repeat (first | (with_reducible first | exact HB.out | apply bA | apply bN | apply bD | refine bS ?_ GE179.out | refine bS ?_ GE180.out | refine bS ?_ GE187.out) | exact HB.out)) hb); clear BK179; clear BK180; clear BK187; clear HB; have BK179 := n0_; have BK180 := n1_; have BK187 := n2_; have HB := n3_; clear n0_ n1_ n2_ n3_; (try clear hb); (try clear hb2); (try clear hk); (try clear hi)) | ((with_reducible refine gate_dst (N := 7) rfl ?_); refine box_event ?hg (N := 7) ?hd (cs := #[.int .i64 0, .int .i64 0, .int .u32 0, .string (⟨#[]⟩ : ByteArray), .string (⟨#[]⟩ : ByteArray)]) (t := 24) ?hr ?_; (case hd => rfl); (case hg => rfl); (case hr => first | (go_simp; done) | (go_simp; rfl) | (go_simp; simp only [IntKind.wrap_u8, IntKind.wrap_u32]; done) | (go_simp; simp only [IntKind.wrap_u8, IntKind.wrap_u32]; rfl)); intro gb193 hg w44 hbox hb; have n0_ := aM (kB (g := gb179) (o := .cells #[.int .i64 a0_0, .int .i64 a0_1, .int .u32 a0_2, .string a0_3, .string a0_4, .bool true] 26 (0, 0)) (by (with_reducible repeat (first | refine kN ?_ _ | refine kD ?_ | refine kA ?_ _)); exact BK179.out) hb); have n1_ := aM (kB (g := gb180) (o := .cells #[.int .i64 a1_0, .int .i64 a1_1, .int .u32 a1_2, .string a1_3, .string a1_4, .bool true] 26 (0, 0)) (by (with_reducible repeat (first | refine kN ?_ _ | refine kD ?_ | refine kA ?_ _)); exact BK180.out) hb); have n2_ := aM (kB (g := gb187) (o := .cells #[.int .i64 t182, .int .i64 t183, .int .u32 t184, .string t185, .string t186] 24 (0, 0)) (by (with_reducible repeat (first | refine kN ?_ _ | refine kD ?_ | refine kA ?_ _)); exact BK187.out) hb); have n3_ := aM (below_step (by repeat (first | (with_reducible first | exact HB.out | apply bA | apply bN | apply bD | refine bS ?_ GE179.out | refine bS ?_ GE180.out | refine bS ?_ GE187.out) | exact HB.out)) hb); have n4_ := aM (hbox); have n5_ := aM ((by rw [hg]; exact (below_size (by repeat (first | (with_reducible first | exact HB.out | apply bA | apply bN | apply bD | refine bS ?_ GE179.out | refine bS ?_ GE180.out | refine bS ?_ GE187.out) | exact HB.out))) : w.heap.size ≤ gb193)); have n6_ := aM ((by rw [hg]; exact (below_size (by repeat (first | (with_reducible first | exact HB.out | apply bA | apply bN | apply bD | refine bS ?_ GE179.out | refine bS ?_ GE180.out | refine bS ?_ GE187.out) | exact HB.out))) : w.heap.size ≤ gb193)); have n7_ := aM ((by rw [hg]; exact Nat.ne_of_lt (blk_lt (g := gb179) (o := .cells #[.int .i64 a0_0, .int .i64 a0_1, .int .u32 a0_2, .string a0_3, .string a0_4, .bool true] 26 (0, 0)) (by (with_reducible repeat (first | refine kN ?_ _ | refine kD ?_ | refine kA ?_ _)); exact BK179.out)) : gb179 ≠ gb193)); have n8_ := aM ((by rw [hg]; exact Nat.ne_of_gt (blk_lt (g := gb179) (o := .cells #[.int .i64 a0_0, .int .i64 a0_1, .int .u32 a0_2, .string a0_3, .string a0_4, .bool true] 26 (0, 0)) (by (with_reducible repeat (first | refine kN ?_ _ | refine kD ?_ | refine kA ?_ _)); exact BK179.out)) : gb193 ≠ gb179)); have n9_ := aM ((by rw [hg]; exact Nat.ne_of_lt (blk_lt (g := gb180) (o := .cells #[.int .i64 a1_0, .int .i64 a1_1, .int .u32 a1_2, .string a1_3, .string a1_4, .bool true] 26 (0, 0)) (by (with_reducible repeat (first | refine kN ?_ _ | refine kD ?_ | refine kA ?_ _)); exact BK180.out)) : gb180 ≠ gb193)); have n10_ := aM ((by rw [hg]; exact Nat.ne_of_gt (blk_lt (g := gb180) (o := .cells #[.int .i64 a1_0, .int .i64 a1_1, .int .u32 a1_2, .string a1_3, .string a1_4, .bool true] 26 (0, 0)) (by (with_reducible repeat (first | refine kN ?_ _ | refine kD ?_ | refine kA ?_ _)); exact BK180.out)) : gb193 ≠ gb180)); have n11_ := aM ((by rw [hg]; exact Nat.ne_of_lt (blk_lt (g := gb187) (o := .cells #[.int .i64 t182, .int .i64 t183, .int .u32 t184, .string t185, .string t186] 24 (0, 0)) (by (with_reducible repeat (first | refine kN ?_ _ | refine kD ?_ | refine kA ?_ _)); exact BK187.out)) : gb187 ≠ gb193)); have n12_ := aM ((by rw [hg]; exact Nat.ne_of_gt (blk_lt (g := gb187) (o := .cells #[.int .i64 t182, .int .i64 t183, .int .u32 t184, .string t185, .string t186] 24 (0, 0)) (by (with_reducible repeat (first | refine kN ?_ _ | refine kD ?_ | refine kA ?_ _)); exact BK187.out)) : gb193 ≠ gb187)); clear BK179; clear BK180; clear BK187; clear HB; have BK179 := n0_; have BK180 := n1_; have BK187 := n2_; have HB := n3_; have BK193 := n4_; have GW193 := n5_; have GE193 := n6_; have NB179_193 := n7_; have NB193_179 := n8_; have NB180_193 := n9_; have NB193_180 := n10_; have NB187_193 := n11_; have NB193_187 := n12_; clear n0_ n1_ n2_ n3_ n4_ n5_ n6_ n7_ n8_ n9_ n10_ n11_ n12_; clear hb hbox hg; have hnb45 := NB193_179.out; have hnc45 := NB179_193.out; have hnb46 := NB193_180.out; have hnc46 := NB180_193.out; have hnb47 := NB193_187.out; have hnc47 := NB187_193.out; have hcz48_0 : w44.cell? ⟨gb193, 0, none⟩ = some (.int .i64 0) := (kC BK193.out 0).trans rfl; have hcz48_1 : w44.cell? ⟨gb193, 1, none⟩ = some (.int .i64 0) := (kC BK193.out 1).trans rfl; have hcz48_2 : w44.cell? ⟨gb193, 2, none⟩ = some (.int .u32 0) := (kC BK193.out 2).trans rfl; have hcz48_3 : w44.cell? ⟨gb193, 3, none⟩ = some (.string (⟨#[]⟩ : ByteArray)) := (kC BK193.out 3).trans rfl; have hcz48_4 : w44.cell? ⟨gb193, 4, none⟩ = some (.string (⟨#[]⟩ : ByteArray)) := (kC BK193.out 4).trans rfl; have hfz48_0 := kF BK193.out 0; have hfz48_1 := kF BK193.out 1; have hfz48_2 := kF BK193.out 2; have hfz48_3 := kF BK193.out 3; have hfz48_4 := kF BK193.out 4))
   have n0_ : Aside0 ((((((w44.setCell ⟨gb193, 0, none⟩ (.int .i64 t188)).setCell ⟨gb193, 1, none⟩ (.int .i64 t189)).setCell ⟨gb193, 2, none⟩ (.int .u32 t190)).setCell ⟨gb193, 3, none⟩ (.string t191)).setCell ⟨gb193, 4, none⟩ (.string t192)).heap[gb179]? = some (.cells #[.int .i64 a0_0, .int .i64 a0_1, .int .u32 a0_2, .string a0_3, .string a0_4, .bool true] 26 (0, 0))) := ⟨by (with_reducible repeat (first | refine kN ?_ _ | refine kD ?_ | refine kA ?_ _)); refine kR ?_ NB179_193.out _; (with_reducible repeat (first | refine kN ?_ _ | refine kD ?_ | refine kA ?_ _)); refine kR ?_ NB179_193.out _; (with_reducible repeat (first | refine kN ?_ _ | refine kD ?_ | refine kA ?_ _)); refine kR ?_ NB179_193.out _; (with_reducible repeat (first | refine kN ?_ _ | refine kD ?_ | refine kA ?_ _)); refine kR ?_ NB179_193.out _; (with_reducible repeat (first | refine kN ?_ _ | refine kD ?_ | refine kA ?_ _)); refine kR ?_ NB179_193.out _; (with_reducible repeat (first | refine kN ?_ _ | refine kD ?_ | refine kA ?_ _)); exact BK179.out⟩
   have n1_ : Aside0 ((((((w44.setCell ⟨gb193, 0, none⟩ (.int .i64 t188)).setCell ⟨gb193, 1, none⟩ (.int .i64 t189)).setCell ⟨gb193, 2, none⟩ (.int .u32 t190)).setCell ⟨gb193, 3, none⟩ (.string t191)).setCell ⟨gb193, 4, none⟩ (.string t192)).heap[gb180]? = some (.cells #[.int .i64 a1_0, .int .i64 a1_1, .int .u32 a1_2, .string a1_3, .string a1_4, .bool true] 26 (0, 0))) := ⟨by (with_reducible repeat (first | refine kN ?_ _ | refine kD ?_ | refine kA ?_ _)); refine kR ?_ NB180_193.out _; (with_reducible repeat (first | refine kN ?_ _ | refine kD ?_ | refine kA ?_ _)); refine kR ?_ NB180_193.out _; (with_reducible repeat (first | refine kN ?_ _ | refine kD ?_ | refine kA ?_ _)); refine kR ?_ NB180_193.out _; (with_reducible repeat (first | refine kN ?_ _ | refine kD ?_ | refine kA ?_ _)); refine kR ?_ NB180_193.out _; (with_reducible repeat (first | refine kN ?_ _ | refine kD ?_ | refine kA ?_ _)); refine kR ?_ NB180_193.out _; (with_reducible repeat (first | refine kN ?_ _ | refine kD ?_ | refine kA ?_ _)); exact BK180.out⟩
   have n2_ : Aside0 ((((((w44.setCell ⟨gb193, 0, none⟩ (.int .i64 t188)).setCell ⟨gb193, 1, none⟩ (.int .i64 t189)).setCell ⟨gb193, 2, none⟩ (.int .u32 t190)).setCell ⟨gb193, 3, none⟩ (.string t191)).setCell ⟨gb193, 4, none⟩ (.string t192)).heap[gb187]? = some (.cells #[.int .i64 t182, .int .i64 t183, .int .u32 t184, .string t185, .string t186] 24 (0, 0))) := ⟨by (with_reducible repeat (first | refine kN ?_ _ | refine kD ?_ | refine kA ?_ _)); refine kR ?_ NB187_193.out _; (with_reducible repeat (first | refine kN ?_ _ | refine kD ?_ | refine kA ?_ _)); refine kR ?_ NB187_193.out _; (with_reducible repeat (first | refine kN ?_ _ | refine kD ?_ | refine kA ?_ _)); refine kR ?_ NB187_193.out _; (with_reducible repeat (first | refine kN ?_ _ | refine kD ?_ | refine kA ?_ _)); refine kR ?_ NB187_193.out _; (with_reducible repeat (first | refine kN ?_ _ | refine kD ?_ | refine kA ?_ _)); refine kR ?_ NB187_193.out _; (with_reducible repeat (first | refine kN ?_ _ | refine kD ?_ | refine kA ?_ _)); exact BK187.out⟩
   have n3_ : Aside0 ((((((w44.setCell ⟨gb193, 0, none⟩ (.int .i64 t188)).setCell ⟨gb193, 1, none⟩ (.int .i64 t189)).setCell ⟨gb193, 2, none⟩ (.int .u32 t190)).setCell ⟨gb193, 3, none⟩ (.string t191)).setCell ⟨gb193, 4, none⟩ (.string t192)).heap[gb193]? = some (.cells #[.int .i64 t188, .int .i64 t189, .int .u32 t190, .string t191, .string t192] 24 (0, 0))) := ⟨by (with_reducible repeat (first | refine kN ?_ _ | refine kD ?_ | refine kA ?_ _)); refine blk_put (cs := #[.int .i64 t188, .int .i64 t189, .int .u32 t190, .string t191, .string (⟨#[]⟩ : ByteArray)]) ?_ 4 _ rfl; (with_reducible repeat (first | refine kN ?_ _ | refine kD ?_ | refine kA ?_ _)); refine blk_put (cs := #[.int .i64 t188, .int .i64 t189, .int .u32 t190, .string (⟨#[]⟩ : ByteArray), .string (⟨#[]⟩ : ByteArray)]) ?_ 3 _ rfl; (with_reducible repeat (first | refine kN ?_ _ | refine kD ?_ | refine kA ?_ _)); refine blk_put (cs := #[.int .i64 t188, .int .i64 t189, .int .u32 0, .string (⟨#[]⟩ : ByteArray), .string (⟨#[]⟩ : ByteArray)]) ?_ 2 _ rfl; (with_reducible repeat (first | refine kN ?_ _ | refine kD ?_ | refine kA ?_ _)); refine blk_put (cs := #[.int .i64 t188, .int .i64 0, .int .u32 0, .string (⟨#[]⟩ : ByteArray), .string (⟨#[]⟩ : ByteArray)]) ?_ 1 _ rfl; (with_reducible repeat (first | refine kN ?_ _ | refine kD ?_ | refine kA ?_ _)); refine blk_put (cs := #[.int .i64 0, .int .i64 0, .int .u32 0, .string (⟨#[]⟩ : ByteArray), .string (⟨#[]⟩ : ByteArray)]) ?_ 0 _ rfl; (with_reducible repeat (first | refine kN ?_ _ | refine kD ?_ | refine kA ?_ _)); exact BK193.out⟩
   have n4_ : Aside0 (Below w.heap.size w (((((w44.setCell ⟨gb193, 0, none⟩ (.int .i64 t188)).setCell ⟨gb193, 1, none⟩ (.int .i64 t189)).setCell ⟨gb193, 2, none⟩ (.int .u32 t190)).setCell ⟨gb193, 3, none⟩ (.string t191)).setCell ⟨gb193, 4, none⟩ (.string t192))) := ⟨by repeat (first | (with_reducible first | exact HB.out | apply bA | apply bN | apply bD | refine bS ?_ GE179.out | refine bS ?_ GE180.out | refine bS ?_ GE187.out | refine bS ?_ GE193.out) | exact HB.out)⟩
   (try clear BK179)
   (try clear BK180)
   (try clear BK187)
   (try clear BK193)
   (try clear HB)
   generalize (((((w44.setCell ⟨gb193, 0, none⟩ (.int .i64 t188)).setCell ⟨gb193, 1, none⟩ (.int .i64 t189)).setCell ⟨gb193, 2, none⟩ (.int .u32 t190)).setCell ⟨gb193, 3, none⟩ (.string t191)).setCell ⟨gb193, 4, none⟩ (.string t192)) = w49 at n0_ n1_ n2_ n3_ n4_ ⊢
   have BK179 := n0_
   have BK180 := n1_
   have BK187 := n2_
   have BK193 := n3_
   have HB := n4_
   clear n0_ n1_ n2_ n3_ n4_
   have n0_ := aM (kD BK179.out)
   have n1_ := aM (kD BK180.out)
   have n2_ := aM (kD BK187.out)
   have n3_ := aM (kD BK193.out)
   have n4_ := aM (bD HB.out)
   clear BK179
   clear BK180
   clear BK187
   clear BK193
   clear HB
   have BK179 := n0_
   have BK180 := n1_
   have BK187 := n2_
   have BK193 := n3_
   have HB := n4_
   clear n0_ n1_ n2_ n3_ n4_
   refine start_ (n := 22) (S := fun w' => w'.cell? ⟨gb187, 0, none⟩ = some (.int .i64 t182) ∧ w'.cell? ⟨gb187, 1, none⟩ = some (.int .i64 t183) ∧ w'.cell? ⟨gb187, 2, none⟩ = some (.int .u32 t184) ∧ w'.cell? ⟨gb187, 3, none⟩ = some (.string t185) ∧ w'.cell? ⟨gb187, 4, none⟩ = some (.string t186) ∧ w'.cell? ⟨gb193, 0, none⟩ = some (.int .i64 t188) ∧ w'.cell? ⟨gb193, 1, none⟩ = some (.int .i64 t189) ∧ w'.cell? ⟨gb193, 2, none⟩ = some (.int .u32 t190) ∧ w'.cell? ⟨gb193, 3, none⟩ = some (.string t191) ∧ w'.cell? ⟨gb193, 4, none⟩ = some (.string t192)) (ds := []) #[false, false, false, false, false, false, false, false, false, false, false, false, false, false, false, false, false, false, false, false, false, false] (by kernel_rfl) rfl rfl ⟨(kC BK187.out 0).trans rfl, (kC BK187.out 1).trans rfl, (kC BK187.out 2).trans rfl, (kC BK187.out 3).trans rfl, (kC BK187.out 4).trans rfl, (kC BK193.out 0).trans rfl, (kC BK193.out 1).trans rfl, (kC BK193.out 2).trans rfl, (kC BK193.out 3).trans rfl, (kC BK193.out 4).trans rfl⟩ (fun hHeld => ?_); refine with_tabW comitialaw07_CmdTexts.tab8 comitialaw07_CmdTexts.bits8 (fun HT_ HW_ => ?_)
   generalize w49.drew = w50 at BK179 BK180 BK187 BK193 HB hHeld ⊢
   refine pure_ (i := 0) (N := some 17) (v := ?_) (a' := ?_) #[true, false, false, false, false, false, false, false, false, false, false, false, false, false, false, false, false, false, false, false, false, false] rfl rfl (any_of HT_.out (by kernel_rfl)) (fun _ _ _ h => h) (Or.inl ⟨by rfl, ?_⟩) ?_ ?_
   rotate_left
   ·intro w'
    go_simp
    with_reducible rfl
   rotate_left
   ·simp only [Act.put, List.setIfInBounds_toArray, List.set_cons_zero, List.set_cons_succ, i64_w, i32_w, IntKind.wrap_u8, IntKind.wrap_u32]
    rfl
   refine pure_ (i := 1) (N := some 18) (v := ?_) (a' := ?_) #[true, true, false, false, false, false, false, false, false, false, false, false, false, false, false, false, false, false, false, false, false, false] rfl rfl (any_of HT_.out (by kernel_rfl)) (fun _ _ _ h => h) (Or.inl ⟨by rfl, ?_⟩) ?_ ?_
   rotate_left
   ·intro w'
    go_simp
    with_reducible rfl
   rotate_left
   ·simp only [Act.put, List.setIfInBounds_toArray, List.set_cons_zero, List.set_cons_succ, i64_w, i32_w, IntKind.wrap_u8, IntKind.wrap_u32]
    rfl
   refine take_ (i := 2) (N := some 19) (v := ?_) (a' := ?_) #[true, true, true, false, false, false, false, false, false, false, false, false, false, false, false, false, false, false, false, false, false, false] rfl rfl (take_ofW HT_.out HW_.out (by kernel_rfl)) (fun _ _ _ h => h) (Or.inl ⟨by rfl, ?_⟩) hHeld ?_ ?_
   rotate_left
   ·rintro w' ⟨s0, s1, s2, s3, s4, s5, s6, s7, s8, s9⟩
    go_simp
    with_reducible rfl
   rotate_left
   ·simp only [Act.put, List.setIfInBounds_toArray, List.set_cons_zero, List.set_cons_succ, i64_w, i32_w, IntKind.wrap_u8, IntKind.wrap_u32]
    rfl
   refine take_ (i := 4) (N := some 21) (v := ?_) (a' := ?_) #[true, true, true, false, true, false, false, false, false, false, false, false, false, false, false, false, false, false, false, false, false, false] rfl rfl (take_ofW HT_.out HW_.out (by kernel_rfl)) (fun _ _ _ h => h) (Or.inl ⟨by rfl, ?_⟩) hHeld ?_ ?_
   rotate_left
   ·rintro w' ⟨s0, s1, s2, s3, s4, s5, s6, s7, s8, s9⟩
    go_simp
    with_reducible rfl
   rotate_left
   ·simp only [Act.put, List.setIfInBounds_toArray, List.set_cons_zero, List.set_cons_succ, i64_w, i32_w, IntKind.wrap_u8, IntKind.wrap_u32]
    rfl
   refine take_ (i := 7) (N := some 24) (v := ?_) (a' := ?_) #[true, true, true, false, true, false, false, true, false, false, false, false, false, false, false, false, false, false, false, false, false, false] rfl rfl (take_ofW HT_.out HW_.out (by kernel_rfl)) (fun _ _ _ h => h) (Or.inl ⟨by rfl, ?_⟩) hHeld ?_ ?_
   rotate_left
   ·rintro w' ⟨s0, s1, s2, s3, s4, s5, s6, s7, s8, s9⟩
    go_simp
    with_reducible rfl
   rotate_left
   ·simp only [Act.put, List.setIfInBounds_toArray, List.set_cons_zero, List.set_cons_succ, i64_w, i32_w, IntKind.wrap_u8, IntKind.wrap_u32]
    rfl
   refine take_ (i := 8) (N := some 25) (v := ?_) (a' := ?_) #[true, true, true, false, true, false, false, true, true, false, false, false, false, false, false, false, false, false, false, false, false, false] rfl rfl (take_ofW HT_.out HW_.out (by kernel_rfl)) (fun _ _ _ h => h) (Or.inl ⟨by rfl, ?_⟩) hHeld ?_ ?_
   rotate_left
   ·rintro w' ⟨s0, s1, s2, s3, s4, s5, s6, s7, s8, s9⟩
    go_simp
    with_reducible rfl
   rotate_left
   ·simp only [Act.put, List.setIfInBounds_toArray, List.set_cons_zero, List.set_cons_succ, i64_w, i32_w, IntKind.wrap_u8, IntKind.wrap_u32]
    rfl
   refine pure_ (i := 9) (N := some 26) (v := ?_) (a' := ?_) #[true, true, true, false, true, false, false, true, true, true, false, false, false, false, false, false, false, false, false, false, false, false] rfl rfl (any_of HT_.out (by kernel_rfl)) (fun _ _ _ h => h) (Or.inl ⟨by rfl, ?_⟩) ?_ ?_
   rotate_left
   ·intro w'
    go_simp
    with_reducible rfl
   rotate_left
   ·simp only [Act.put, List.setIfInBounds_toArray, List.set_cons_zero, List.set_cons_succ, i64_w, i32_w, IntKind.wrap_u8, IntKind.wrap_u32]
    rfl
   refine one_ (i := 3) (N := some 20) #[true, true, true, true, true, false, false, true, true, true, false, false, false, false, false, false, false, false, false, false, false, false] rfl rfl (one_of HT_.out (by kernel_rfl)) (by decide) (fun K hK => ?_)
   refine goes_ Tryd.func18 (by kernel_rfl) rfl #[.agg #[.int .i64 t182, .int .i64 t183, .int .u32 t184, .string t185, .string t186]] (by rfl) rfl rfl (by (try simp only [List.map_toArray, List.map_cons, List.map_nil]); first | done | rfl | (simp only [List.length_drop, List.length_take]; rfl)) ?_
   with_reducible refine (cmd_Text.calls k t182 t183 t184 t185 t186 t194 _ ?side1 A10.out).mono ?_
   (case side1 => first | (with_reducible exact HSC_.out) | exact Strconv.Tab.below HSC_.out (by repeat (first | (with_reducible first | exact HB.out | apply bA | apply bN | apply bD | refine bS ?_ GE179.out | refine bS ?_ GE180.out | refine bS ?_ GE187.out | refine bS ?_ GE193.out) | exact HB.out)))
   rintro e w51 ⟨rfl, hb⟩
   refine ⟨_, rfl, ?_⟩
   have n0_ := aM (kB (g := gb179) (o := .cells #[.int .i64 a0_0, .int .i64 a0_1, .int .u32 a0_2, .string a0_3, .string a0_4, .bool true] 26 (0, 0)) (by (with_reducible repeat (first | refine kN ?_ _ | refine kD ?_ | refine kA ?_ _)); exact BK179.out) hb)
   have n1_ := aM (kB (g := gb180) (o := .cells #[.int .i64 a1_0, .int .i64 a1_1, .int .u32 a1_2, .string a1_3, .string a1_4, .bool true] 26 (0, 0)) (by (with_reducible repeat (first | refine kN ?_ _ | refine kD ?_ | refine kA ?_ _)); exact BK180.out) hb)
   have n2_ := aM (kB (g := gb187) (o := .cells #[.int .i64 t182, .int .i64 t183, .int .u32 t184, .string t185, .string t186] 24 (0, 0)) (by (with_reducible repeat (first | refine kN ?_ _ | refine kD ?_ | refine kA ?_ _)); exact BK187.out) hb)
   have n3_ := aM (kB (g := gb193) (o := .cells #[.int .i64 t188, .int .i64 t189, .int .u32 t190, .string t191, .string t192] 24 (0, 0)) (by (with_reducible repeat (first | refine kN ?_ _ | refine kD ?_ | refine kA ?_ _)); exact BK193.out) hb)
   have n4_ := aM (below_step (by repeat (first | (with_reducible first | exact HB.out | apply bA | apply bN | apply bD | refine bS ?_ GE179.out | refine bS ?_ GE180.out | refine bS ?_ GE187.out | refine bS ?_ GE193.out) | exact HB.out)) hb)
   clear BK179
   clear BK180
   clear BK187
   clear BK193
   clear HB
   have BK179 := n0_
   have BK180 := n1_
   have BK187 := n2_
   have BK193 := n3_
   have HB := n4_
   clear n0_ n1_ n2_ n3_ n4_
   (try clear hb)
   (try clear hb2)
   (try clear hk)
   (try clear hi)
   refine hK.out _ _ ⟨(kC BK187.out 0).trans rfl, (kC BK187.out 1).trans rfl, (kC BK187.out 2).trans rfl, (kC BK187.out 3).trans rfl, (kC BK187.out 4).trans rfl, (kC BK193.out 0).trans rfl, (kC BK193.out 1).trans rfl, (kC BK193.out 2).trans rfl, (kC BK193.out 3).trans rfl, (kC BK193.out 4).trans rfl⟩ (fun hHeld => ?_)
   clear hK K
   refine norm_ (a' := ?_) ?_ ?_
   rotate_left
   ·show Act.put _ (some 20) _ = _
    simp only [Act.put, List.setIfInBounds_toArray, List.set_cons_zero, List.set_cons_succ, i64_w, i32_w, IntKind.wrap_u8, IntKind.wrap_u32]
    rfl
   refine one_ (i := 5) (N := some 22) #[true, true, true, true, true, true, false, true, true, true, false, false, false, false, false, false, false, false, false, false, false, false] rfl rfl (one_of HT_.out (by kernel_rfl)) (by decide) (fun K hK => ?_)
   refine goes_ Tryd.func18 (by kernel_rfl) rfl #[.agg #[.int .i64 t188, .int .i64 t189, .int .u32 t190, .string t191, .string t192]] (by rfl) rfl rfl (by (try simp only [List.map_toArray, List.map_cons, List.map_nil]); first | done | rfl | (simp only [List.length_drop, List.length_take]; rfl)) ?_
   with_reducible refine (cmd_Text.calls k t188 t189 t190 t191 t192 t195 _ ?side1 A11.out).mono ?_
   (case side1 => first | (with_reducible exact HSC_.out) | exact Strconv.Tab.below HSC_.out (by repeat (first | (with_reducible first | exact HB.out | apply bA | apply bN | apply bD | refine bS ?_ GE179.out | refine bS ?_ GE180.out | refine bS ?_ GE187.out | refine bS ?_ GE193.out) | exact HB.out)))
   rintro e w52 ⟨rfl, hb⟩
   refine ⟨_, rfl, ?_⟩
   have n0_ := aM (kB (g := gb179) (o := .cells #[.int .i64 a0_0, .int .i64 a0_1, .int .u32 a0_2, .string a0_3, .string a0_4, .bool true] 26 (0, 0)) (by (with_reducible repeat (first | refine kN ?_ _ | refine kD ?_ | refine kA ?_ _)); exact BK179.out) hb)
   have n1_ := aM (kB (g := gb180) (o := .cells #[.int .i64 a1_0, .int .i64 a1_1, .int .u32 a1_2, .string a1_3, .string a1_4, .bool true] 26 (0, 0)) (by (with_reducible repeat (first | refine kN ?_ _ | refine kD ?_ | refine kA ?_ _)); exact BK180.out) hb)
   have n2_ := aM (kB (g := gb187) (o := .cells #[.int .i64 t182, .int .i64 t183, .int .u32 t184, .string t185, .string t186] 24 (0, 0)) (by (with_reducible repeat (first | refine kN ?_ _ | refine kD ?_ | refine kA ?_ _)); exact BK187.out) hb)
   have n3_ := aM (kB (g := gb193) (o := .cells #[.int .i64 t188, .int .i64 t189, .int .u32 t190, .string t191, .string t192] 24 (0, 0)) (by (with_reducible repeat (first | refine kN ?_ _ | refine kD ?_ | refine kA ?_ _)); exact BK193.out) hb)
   have n4_ := aM (below_step (by repeat (first | (with_reducible first | exact HB.out | apply bA | apply bN | apply bD | refine bS ?_ GE179.out | refine bS ?_ GE180.out | refine bS ?_ GE187.out | refine bS ?_ GE193.out) | exact HB.out)) hb)
   clear BK179
   clear BK180
   clear BK187
   clear BK193
   clear HB
   have BK179 := n0_
   have BK180 := n1_
   have BK187 := n2_
   have BK193 := n3_
   have HB := n4_
   clear n0_ n1_ n2_ n3_ n4_
   (try clear hb)
   (try clear hb2)
   (try clear hk)
   (try clear hi)
   refine hK.out _ _ ⟨(kC BK187.out 0).trans rfl, (kC BK187.out 1).trans rfl, (kC BK187.out 2).trans rfl, (kC BK187.out 3).trans rfl, (kC BK187.out 4).trans rfl, (kC BK193.out 0).trans rfl, (kC BK193.out 1).trans rfl, (kC BK193.out 2).trans rfl, (kC BK193.out 3).trans rfl, (kC BK193.out 4).trans rfl⟩ (fun hHeld => ?_)
   clear hK K
   refine norm_ (a' := ?_) ?_ ?_
   rotate_left
   ·show Act.put _ (some 22) _ = _
    simp only [Act.put, List.setIfInBounds_toArray, List.set_cons_zero, List.set_cons_succ, i64_w, i32_w, IntKind.wrap_u8, IntKind.wrap_u32]
    rfl
   refine pure_ (i := 6) (N := some 23) (v := ?_) (a' := ?_) #[true, true, true, true, true, true, true, true, true, true, false, false, false, false, false, false, false, false, false, false, false, false] rfl rfl (any_of HT_.out (by kernel_rfl)) (fun _ _ _ h => h) (Or.inl ⟨by rfl, ?_⟩) ?_ ?_
   rotate_left
   ·intro w'
    go_simp
    with_reducible rfl
   rotate_left
   ·simp only [Act.put, List.setIfInBounds_toArray, List.set_cons_zero, List.set_cons_succ, i64_w, i32_w, IntKind.wrap_u8, IntKind.wrap_u32]
    rfl
   refine pure_ (i := 10) (N := some 27) (v := ?_) (a' := ?_) #[true, true, true, true, true, true, true, true, true, true, true, false, false, false, false, false, false, false, false, false, false, false] rfl rfl (any_of HT_.out (by kernel_rfl)) (fun _ _ _ h => h) (Or.inl ⟨by rfl, ?_⟩) ?_ ?_
   rotate_left
   ·intro w'
    go_simp
    with_reducible rfl
   rotate_left
   ·simp only [Act.put, List.setIfInBounds_toArray, List.set_cons_zero, List.set_cons_succ, i64_w, i32_w, IntKind.wrap_u8, IntKind.wrap_u32]
    rfl
   refine pure_ (i := 11) (N := some 28) (v := ?_) (a' := ?_) #[true, true, true, true, true, true, true, true, true, true, true, true, false, false, false, false, false, false, false, false, false, false] rfl rfl (any_of HT_.out (by kernel_rfl)) (fun _ _ _ h => h) (Or.inl ⟨by rfl, ?_⟩) ?_ ?_
   rotate_left
   ·intro w'
    go_simp
    with_reducible rfl
   rotate_left
   ·simp only [Act.put, List.setIfInBounds_toArray, List.set_cons_zero, List.set_cons_succ, i64_w, i32_w, IntKind.wrap_u8, IntKind.wrap_u32]
    rfl
   refine pure_ (i := 12) (N := some 29) (v := ?_) (a' := ?_) #[true, true, true, true, true, true, true, true, true, true, true, true, true, false, false, false, false, false, false, false, false, false] rfl rfl (any_of HT_.out (by kernel_rfl)) (fun _ _ _ h => h) (Or.inl ⟨by rfl, ?_⟩) ?_ ?_
   rotate_left
   ·intro w'
    go_simp
    with_reducible rfl
   rotate_left
   ·simp only [Act.put, List.setIfInBounds_toArray, List.set_cons_zero, List.set_cons_succ, i64_w, i32_w, IntKind.wrap_u8, IntKind.wrap_u32]
    rfl
   refine pure_ (i := 13) (N := some 30) (v := undef) (a' := ?_) #[true, true, true, true, true, true, true, true, true, true, true, true, true, true, false, false, false, false, false, false, false, false] rfl rfl (any_of HT_.out (by kernel_rfl)) (fun _ _ _ h => h) (Or.inr ⟨by rfl, rfl⟩) ?_ ?_
   rotate_left
   ·simp only [Act.put, List.setIfInBounds_toArray, List.set_cons_zero, List.set_cons_succ, i64_w, i32_w, IntKind.wrap_u8, IntKind.wrap_u32]
    rfl
   refine pure_ (i := 14) (N := some 31) (v := undef) (a' := ?_) #[true, true, true, true, true, true, true, true, true, true, true, true, true, true, true, false, false, false, false, false, false, false] rfl rfl (any_of HT_.out (by kernel_rfl)) (fun _ _ _ h => h) (Or.inr ⟨by rfl, rfl⟩) ?_ ?_
   rotate_left
   ·simp only [Act.put, List.setIfInBounds_toArray, List.set_cons_zero, List.set_cons_succ, i64_w, i32_w, IntKind.wrap_u8, IntKind.wrap_u32]
    rfl
   refine pure_ (i := 15) (N := some 32) (v := undef) (a' := ?_) #[true, true, true, true, true, true, true, true, true, true, true, true, true, true, true, true, false, false, false, false, false, false] rfl rfl (any_of HT_.out (by kernel_rfl)) (fun _ _ _ h => h) (Or.inr ⟨by rfl, rfl⟩) ?_ ?_
   rotate_left
   ·simp only [Act.put, List.setIfInBounds_toArray, List.set_cons_zero, List.set_cons_succ, i64_w, i32_w, IntKind.wrap_u8, IntKind.wrap_u32]
    rfl
   refine pure_ (i := 16) (N := some 33) (v := undef) (a' := ?_) #[true, true, true, true, true, true, true, true, true, true, true, true, true, true, true, true, true, false, false, false, false, false] rfl rfl (any_of HT_.out (by kernel_rfl)) (fun _ _ _ h => h) (Or.inr ⟨by rfl, rfl⟩) ?_ ?_
   rotate_left
   ·simp only [Act.put, List.setIfInBounds_toArray, List.set_cons_zero, List.set_cons_succ, i64_w, i32_w, IntKind.wrap_u8, IntKind.wrap_u32]
    rfl
   refine pure_ (i := 17) (N := some 34) (v := undef) (a' := ?_) #[true, true, true, true, true, true, true, true, true, true, true, true, true, true, true, true, true, true, false, false, false, false] rfl rfl (any_of HT_.out (by kernel_rfl)) (fun _ _ _ h => h) (Or.inr ⟨by rfl, rfl⟩) ?_ ?_
   rotate_left
   ·simp only [Act.put, List.setIfInBounds_toArray, List.set_cons_zero, List.set_cons_succ, i64_w, i32_w, IntKind.wrap_u8, IntKind.wrap_u32]
    rfl
   refine pure_ (i := 18) (N := some 35) (v := undef) (a' := ?_) #[true, true, true, true, true, true, true, true, true, true, true, true, true, true, true, true, true, true, true, false, false, false] rfl rfl (any_of HT_.out (by kernel_rfl)) (fun _ _ _ h => h) (Or.inr ⟨by rfl, rfl⟩) ?_ ?_
   rotate_left
   ·simp only [Act.put, List.setIfInBounds_toArray, List.set_cons_zero, List.set_cons_succ, i64_w, i32_w, IntKind.wrap_u8, IntKind.wrap_u32]
    rfl
   refine pure_ (i := 19) (N := some 36) (v := undef) (a' := ?_) #[true, true, true, true, true, true, true, true, true, true, true, true, true, true, true, true, true, true, true, true, false, false] rfl rfl (any_of HT_.out (by kernel_rfl)) (fun _ _ _ h => h) (Or.inr ⟨by rfl, rfl⟩) ?_ ?_
   rotate_left
   ·simp only [Act.put, List.setIfInBounds_toArray, List.set_cons_zero, List.set_cons_succ, i64_w, i32_w, IntKind.wrap_u8, IntKind.wrap_u32]
    rfl
   refine pure_ (i := 20) (N := some 37) (v := ?_) (a' := ?_) #[true, true, true, true, true, true, true, true, true, true, true, true, true, true, true, true, true, true, true, true, true, false] rfl rfl (any_of HT_.out (by kernel_rfl)) (fun _ _ _ h => h) (Or.inl ⟨by rfl, ?_⟩) ?_ ?_
   rotate_left
   ·intro w'
    go_simp
    with_reducible rfl
   rotate_left
   ·simp only [Act.put, List.setIfInBounds_toArray, List.set_cons_zero, List.set_cons_succ, i64_w, i32_w, IntKind.wrap_u8, IntKind.wrap_u32]
    rfl
   refine pure_ (i := 21) (N := some 4) (v := ?_) (a' := ?_) #[true, true, true, true, true, true, true, true, true, true, true, true, true, true, true, true, true, true, true, true, true, true] rfl rfl (any_of HT_.out (by kernel_rfl)) (fun _ _ _ h => h) (Or.inl ⟨by rfl, ?_⟩) ?_ ?_
   rotate_left
   ·intro w'
    go_simp
    with_reducible rfl
   rotate_left
   ·simp only [Act.put, List.setIfInBounds_toArray, List.set_cons_zero, List.set_cons_succ, i64_w, i32_w, IntKind.wrap_u8, IntKind.wrap_u32]
    rfl
   refine done_ (done_of HT_.out (by kernel_rfl)) ?_
   try go_wp2
   go_ret
   exact ⟨by first | rfl | (simp [errW_none, errW_some] <;> rfl) | (simp [*, errW_none, errW_some] <;> rfl), by repeat (first | (with_reducible first | exact HB.out | apply bA | apply bN | apply bD | refine bS ?_ GE179.out | refine bS ?_ GE180.out | refine bS ?_ GE187.out | refine bS ?_ GE193.out) | exact HB.out)⟩
 ·replace c7 := Bool.eq_false_iff.mpr c7
  subst c7
  have H1 : (some false) = some r := by rw [if_neg (show ¬ (false = true) by decide)] at H; exact H
  clear H
  have H := H1
  clear H1
  obtain rfl := Option.some.inj H
  go_wp2
  go_ret
  exact ⟨by first | rfl | (simp [errW_none, errW_some] <;> rfl) | (simp [*, errW_none, errW_some] <;> rfl), by repeat (first | (with_reducible first | exact HB.out | apply bA | apply bN | apply bD | refine bS ?_ GE179.out | refine bS ?_ GE180.out) | exact HB.out)⟩

/-- What is known of such a value that comes in. -/
def GoodS24 (x : S24) : Prop := (Lit.int .i64 x.f0).wf = true ∧ (Lit.int .i64 x.f1).wf = true ∧ (Lit.int .u32 x.f2).wf = true ∧ x.f3.size ≤ 140737488351232 ∧ x.f4.size ≤ 140737488351232
/-- What is known of such a value that comes in. -/
def GoodS26 (x : S26) : Prop := GoodS24 x.f0 ∧ True
/-- THE ONE PURE STATEMENT of comitialaw07_CmdTexts. -/
def comitialaw07_CmdTexts.Pure : Prop := ∀ (a0_0 : Int) (a0_1 : Int) (a0_2 : Int) (a0_3 : ByteArray) (a0_4 : ByteArray) (a0_5 : Bool) (a1_0 : Int) (a1_1 : Int) (a1_2 : Int) (a1_3 : ByteArray) (a1_4 : ByteArray) (a1_5 : Bool), (Lit.int .i64 a0_0).wf = true → (Lit.int .i64 a0_1).wf = true → (Lit.int .u32 a0_2).wf = true → a0_3.size ≤ 140737488351232 → a0_4.size ≤ 140737488351232 → (Lit.int .i64 a1_0).wf = true → (Lit.int .i64 a1_1).wf = true → (Lit.int .u32 a1_2).wf = true → a1_3.size ≤ 140737488351232 → a1_4.size ≤ 140737488351232 → ∃ k, comitialaw07_CmdTexts.f k a0_0 a0_1 a0_2 a0_3 a0_4 a0_5 a1_0 a1_1 a1_2 a1_3 a1_4 a1_5 = some true

end Go.Proofs.YtlljdocflfpnkaaDoor.PCmdTexts
