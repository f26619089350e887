-- Written by a program of this session (wip/tools), over the kit's printed words: functions as plain Lean, and that the code answers so.
import Derived.Test.YtlljdocflfpnkaaDoorShort
import Derived.Test.YtlljdocflfpnkaaDoorPCmdBackx0
import Derived.Test.YtlljdocflfpnkaaDoorPCmdBackx1
import Derived.Test.YtlljdocflfpnkaaDoorPCmdBackx3
import Derived.Test.YtlljdocflfpnkaaDoorPCmdBackx6
import Derived.Test.YtlljdocflfpnkaaDoorPCmdBackx7
import Derived.Test.YtlljdocflfpnkaaDoorPCmdBackx8
namespace Go.Proofs.YtlljdocflfpnkaaDoor.PCmdBack
open Go.Proofs.YtlljdocflfpnkaaDoor.Short Go.RowKit Go.Proofs.YtlljdocflfpnkaaDoorW.PrintWords Go.Proofs.YtlljdocflfpnkaaDoorW.PrintLast Go.Proofs.YtlljdocflfpnkaaDoorW.PrintMore
attribute [local go_sem] max2_int min2_int max_two min_two max_three min_three max_four min_four Goto.sig_u8 Goto.sig_u16 Goto.sig_u32 Goto.sig_u64 Goto.top_u8 Goto.top_u16 Goto.top_u32 Goto.top_u64   -- for this text's walks alone
set_option linter.unusedVariables false
set_option linter.unusedSimpArgs false

attribute [local go_sem high] eqA24
/-! ### comitialaw07_CmdBack: function 6 -/
def comitialaw07_CmdBack.f (k : Nat) (a0_0 : Int) (a0_1 : Int) (a0_2 : Int) (a0_3 : ByteArray) (a0_4 : ByteArray) (a0_5 : Bool) (a1_0 : Int) (a1_1 : Int) (a1_2 : Int) (a1_3 : ByteArray) (a1_4 : ByteArray) (a1_5 : Bool) (a2 : ByteArray) (a3 : Int) : Option (Bool) := (comitialaw07_examples.f k).bind fun t181 => (if t181 = true then ((comitialaw07_Wish_wish.f k a0_0 a0_1 a0_2 a0_3 a0_4 true).bind fun bt182 => ((comitialaw07_Wish_wish.f k a1_0 a1_1 a1_2 a1_3 a1_4 true).bind fun bt188 => ((cmd_Bytes.f k bt182.1 bt182.2.1 bt182.2.2.1 bt182.2.2.2.1 bt182.2.2.2.2).bind fun bt194 => ((cmd_Bytes.f k bt188.1 bt188.2.1 bt188.2.2.1 bt188.2.2.2.1 bt188.2.2.2.2).bind fun bt196 => (if bt194.1.toList = ([] : List UInt8) then (some false) else (if bt194.1.size + a2.size ≤ 9223372036854775807 then ((cmd_Read.f k (bt194.1 ++ a2) false).bind fun bt198 => (if (bt194.1.size : Int) = 0 then (none) else (if 0 ≤ (Int.tmod (wrap64 (a3)) (bt194.1.size : Int)) then (if (Int.tmod (wrap64 (a3)) (bt194.1.size : Int)) ≤ (bt194.1.size : Int) then ((cmd_Read.f k (bt194.1.extract 0 ((Int.tmod (wrap64 (a3)) (bt194.1.size : Int)) : Int).toNat) false).bind fun bt207 => (if bt194.2 = true then (if bt196.2 = true then (if (bt198.1 == bt182.1 && (bt198.2.1 == bt182.2.1 && (bt198.2.2.1 == bt182.2.2.1 && (bt198.2.2.2.1.toList == bt182.2.2.2.1.toList && (bt198.2.2.2.2.1.toList == bt182.2.2.2.2.toList))))) = true then (if bt198.2.2.2.2.2.1.toList = a2.toList then (if bt198.2.2.2.2.2.2 = true then (some false) else (if bt207.2.2.2.2.2.2 = true then (some ((bt194.1.toList == bt196.1.toList) == (bt182.1 == bt188.1 && (bt182.2.1 == bt188.2.1 && (bt182.2.2.1 == bt188.2.2.1 && (bt182.2.2.2.1.toList == bt188.2.2.2.1.toList && (bt182.2.2.2.2.toList == bt188.2.2.2.2.toList))))))) else (some false))) else (some false)) else (some false)) else (some false)) else (some false))) else (none)) else (none)))) else (none))))))) else (some false))
theorem comitialaw07_CmdBack.mono : ∀ a0 a1 a2 a3 a4 a5 a6 a7 a8 a9 a10 a11 a12 a13 k, LeO (comitialaw07_CmdBack.f k a0 a1 a2 a3 a4 a5 a6 a7 a8 a9 a10 a11 a12 a13) (comitialaw07_CmdBack.f (k + 1) a0 a1 a2 a3 a4 a5 a6 a7 a8 a9 a10 a11 a12 a13) := by
 intro a0 a1 a2 a3 a4 a5 a6 a7 a8 a9 a10 a11 a12 a13 k
 unfold comitialaw07_CmdBack.f
 repeat' first
   | (with_reducible exact cmd_Bytes.mono _ _ _ _ _ _)
   | (with_reducible exact cmd_Read.mono _ _ _)
   | (with_reducible exact comitialaw07_Wish_wish.mono _ _ _ _ _ _ _)
   | (with_reducible exact comitialaw07_examples.mono _)
   | (with_reducible exact LeO.refl _)
   | (with_reducible exact LeO.none _)
   | (with_reducible refine LeO.ite ?_ ?_)
   | (with_reducible refine LeO.bind ?_ (fun _ => ?_))
   | exact cmd_Bytes.mono _ _ _ _ _ _
   | exact cmd_Read.mono _ _ _
   | exact comitialaw07_Wish_wish.mono _ _ _ _ _ _ _
   | exact comitialaw07_examples.mono _
   | exact LeO.none _
   | refine LeO.ite ?_ ?_
   | refine LeO.bind ?_ (fun _ => ?_)
set_option maxHeartbeats 8000000 in
set_option maxRecDepth 100000 in
theorem comitialaw07_CmdBack.calls (k : Nat) (a0_0 : Int) (a0_1 : Int) (a0_2 : Int) (a0_3 : ByteArray) (a0_4 : ByteArray) (a0_5 : Bool) (a1_0 : Int) (a1_1 : Int) (a1_2 : Int) (a1_3 : ByteArray) (a1_4 : ByteArray) (a1_5 : Bool) (a2 : ByteArray) (a3 : Int) (r : Bool) (w : World) (hT_ : Strconv.Tab w) (h : comitialaw07_CmdBack.f k a0_0 a0_1 a0_2 a0_3 a0_4 a0_5 a1_0 a1_1 a1_2 a1_3 a1_4 a1_5 a2 a3 = some r) :
  Calls Tryd.prog 6 #[.agg #[.int .i64 a0_0, .int .i64 a0_1, .int .u32 a0_2, .string a0_3, .string a0_4, .bool a0_5], .agg #[.int .i64 a1_0, .int .i64 a1_1, .int .u32 a1_2, .string a1_3, .string a1_4, .bool a1_5], .string a2, .int .u8 a3] w fun e w' => e = .returned (.bool r) ∧ Below w.heap.size w w' := by
 have hu26 := Tryd.underlying26
 have hu24 := Tryd.underlying24
 have hu43 := Tryd.underlying43
 have HSC_ := aM hT_
 clear hT_
 have HB := aM (Below.refl w.heap.size w)
 have H : ((comitialaw07_examples.f k).bind fun t181 => (if t181 = true then ((comitialaw07_Wish_wish.f k a0_0 a0_1 a0_2 a0_3 a0_4 true).bind fun bt182 => ((comitialaw07_Wish_wish.f k a1_0 a1_1 a1_2 a1_3 a1_4 true).bind fun bt188 => ((cmd_Bytes.f k bt182.1 bt182.2.1 bt182.2.2.1 bt182.2.2.2.1 bt182.2.2.2.2).bind fun bt194 => ((cmd_Bytes.f k bt188.1 bt188.2.1 bt188.2.2.1 bt188.2.2.2.1 bt188.2.2.2.2).bind fun bt196 => (if bt194.1.toList = ([] : List UInt8) then (some false) else (if bt194.1.size + a2.size ≤ 9223372036854775807 then ((cmd_Read.f k (bt194.1 ++ a2) false).bind fun bt198 => (if (bt194.1.size : Int) = 0 then (none) else (if 0 ≤ (Int.tmod (wrap64 (a3)) (bt194.1.size : Int)) then (if (Int.tmod (wrap64 (a3)) (bt194.1.size : Int)) ≤ (bt194.1.size : Int) then ((cmd_Read.f k (bt194.1.extract 0 ((Int.tmod (wrap64 (a3)) (bt194.1.size : Int)) : Int).toNat) false).bind fun bt207 => (if bt194.2 = true then (if bt196.2 = true then (if (bt198.1 == bt182.1 && (bt198.2.1 == bt182.2.1 && (bt198.2.2.1 == bt182.2.2.1 && (bt198.2.2.2.1.toList == bt182.2.2.2.1.toList && (bt198.2.2.2.2.1.toList == bt182.2.2.2.2.toList))))) = true then (if bt198.2.2.2.2.2.1.toList = a2.toList then (if bt198.2.2.2.2.2.2 = true then (some false) else (if bt207.2.2.2.2.2.2 = true then (some ((bt194.1.toList == bt196.1.toList) == (bt182.1 == bt188.1 && (bt182.2.1 == bt188.2.1 && (bt182.2.2.1 == bt188.2.2.1 && (bt182.2.2.2.1.toList == bt188.2.2.2.1.toList && (bt182.2.2.2.2.toList == bt188.2.2.2.2.toList))))))) else (some false))) else (some false)) else (some false)) else (some false)) else (some false))) else (none)) else (none)))) else (none))))))) else (some false))) = some r := h
 clear h
 replace H := Option.bind_eq_some_iff.mp H
 obtain ⟨t181, A50, H⟩ := H
 replace H : (if t181 = true then ((comitialaw07_Wish_wish.f k a0_0 a0_1 a0_2 a0_3 a0_4 true).bind fun bt182 => ((comitialaw07_Wish_wish.f k a1_0 a1_1 a1_2 a1_3 a1_4 true).bind fun bt188 => ((cmd_Bytes.f k bt182.1 bt182.2.1 bt182.2.2.1 bt182.2.2.2.1 bt182.2.2.2.2).bind fun bt194 => ((cmd_Bytes.f k bt188.1 bt188.2.1 bt188.2.2.1 bt188.2.2.2.1 bt188.2.2.2.2).bind fun bt196 => (if bt194.1.toList = ([] : List UInt8) then (some false) else (if bt194.1.size + a2.size ≤ 9223372036854775807 then ((cmd_Read.f k (bt194.1 ++ a2) false).bind fun bt198 => (if (bt194.1.size : Int) = 0 then (none) else (if 0 ≤ (Int.tmod (wrap64 (a3)) (bt194.1.size : Int)) then (if (Int.tmod (wrap64 (a3)) (bt194.1.size : Int)) ≤ (bt194.1.size : Int) then ((cmd_Read.f k (bt194.1.extract 0 ((Int.tmod (wrap64 (a3)) (bt194.1.size : Int)) : Int).toNat) false).bind fun bt207 => (if bt194.2 = true then (if bt196.2 = true then (if (bt198.1 == bt182.1 && (bt198.2.1 == bt182.2.1 && (bt198.2.2.1 == bt182.2.2.1 && (bt198.2.2.2.1.toList == bt182.2.2.2.1.toList && (bt198.2.2.2.2.1.toList == bt182.2.2.2.2.toList))))) = true then (if bt198.2.2.2.2.2.1.toList = a2.toList then (if bt198.2.2.2.2.2.2 = true then (some false) else (if bt207.2.2.2.2.2.2 = true then (some ((bt194.1.toList == bt196.1.toList) == (bt182.1 == bt188.1 && (bt182.2.1 == bt188.2.1 && (bt182.2.2.1 == bt188.2.2.1 && (bt182.2.2.2.1.toList == bt188.2.2.2.1.toList && (bt182.2.2.2.2.toList == bt188.2.2.2.2.toList))))))) else (some false))) else (some false)) else (some false)) else (some false)) else (some false))) else (none)) else (none)))) else (none))))))) else (some false)) = some r := H
 have A5 := aM A50
 clear A50
 go_enter Tryd.func6, Tryd.ntmps6
 go_upto_if 22 with (first | ((with_reducible refine gate_dst (N := 4) rfl ?_); refine box_event ?hg (N := 4) ?hd (cs := #[.int .i64 a0_0, .int .i64 a0_1, .int .u32 a0_2, .string a0_3, .string a0_4, .bool a0_5]) (t := 26) ?hr ?_; (case hd => rfl); (case hg => rfl); (case hr => first | (go_simp; done) | (go_simp; rfl) | (go_simp; simp only [IntKind.wrap_u8, IntKind.wrap_u32]; done) | (go_simp; simp only [IntKind.wrap_u8, IntKind.wrap_u32]; rfl)); intro gb179 hg w6 hbox hb; have n0_ := aM (below_step (by repeat (first | (with_reducible first | exact HB.out | apply bA | apply bN | apply bD) | exact HB.out)) hb); have n1_ := aM (hbox); have n2_ := aM ((by rw [hg]; exact (below_size (by repeat (first | (with_reducible first | exact HB.out | apply bA | apply bN | apply bD) | exact HB.out))) : w.heap.size ≤ gb179)); have n3_ := aM ((by rw [hg]; exact (below_size (by repeat (first | (with_reducible first | exact HB.out | apply bA | apply bN | apply bD) | exact HB.out))) : w.heap.size ≤ gb179)); clear HB; have HB := n0_; have BK179 := n1_; have GW179 := n2_; have GE179 := n3_; clear n0_ n1_ n2_ n3_; clear hb hbox hg) | ((with_reducible refine gate_dst (N := 5) rfl ?_); refine box_event ?hg (N := 5) ?hd (cs := #[.int .i64 a1_0, .int .i64 a1_1, .int .u32 a1_2, .string a1_3, .string a1_4, .bool a1_5]) (t := 26) ?hr ?_; (case hd => rfl); (case hg => rfl); (case hr => first | (go_simp; done) | (go_simp; rfl) | (go_simp; simp only [IntKind.wrap_u8, IntKind.wrap_u32]; done) | (go_simp; simp only [IntKind.wrap_u8, IntKind.wrap_u32]; rfl)); intro gb180 hg w7 hbox hb; have n0_ := aM (kB (g := gb179) (o := .cells #[.int .i64 a0_0, .int .i64 a0_1, .int .u32 a0_2, .string a0_3, .string a0_4, .bool a0_5] 26 (0, 0)) (by (with_reducible repeat (first | refine kN ?_ _ | refine kD ?_ | refine kA ?_ _)); exact BK179.out) hb); have n1_ := aM (below_step (by repeat (first | (with_reducible first | exact HB.out | apply bA | apply bN | apply bD | refine bS ?_ GE179.out) | exact HB.out)) hb); have n2_ := aM (hbox); have n3_ := aM ((by rw [hg]; exact (below_size (by repeat (first | (with_reducible first | exact HB.out | apply bA | apply bN | apply bD | refine bS ?_ GE179.out) | exact HB.out))) : w.heap.size ≤ gb180)); have n4_ := aM ((by rw [hg]; exact (below_size (by repeat (first | (with_reducible first | exact HB.out | apply bA | apply bN | apply bD | refine bS ?_ GE179.out) | exact HB.out))) : w.heap.size ≤ gb180)); have n5_ := aM ((by rw [hg]; exact Nat.ne_of_lt (blk_lt (g := gb179) (o := .cells #[.int .i64 a0_0, .int .i64 a0_1, .int .u32 a0_2, .string a0_3, .string a0_4, .bool a0_5] 26 (0, 0)) (by (with_reducible repeat (first | refine kN ?_ _ | refine kD ?_ | refine kA ?_ _)); exact BK179.out)) : gb179 ≠ gb180)); have n6_ := aM ((by rw [hg]; exact Nat.ne_of_gt (blk_lt (g := gb179) (o := .cells #[.int .i64 a0_0, .int .i64 a0_1, .int .u32 a0_2, .string a0_3, .string a0_4, .bool a0_5] 26 (0, 0)) (by (with_reducible repeat (first | refine kN ?_ _ | refine kD ?_ | refine kA ?_ _)); exact BK179.out)) : gb180 ≠ gb179)); clear BK179; clear HB; have BK179 := n0_; have HB := n1_; have BK180 := n2_; have GW180 := n3_; have GE180 := n4_; have NB179_180 := n5_; have NB180_179 := n6_; clear n0_ n1_ n2_ n3_ n4_ n5_ n6_; clear hb hbox hg) | ((with_reducible refine gate_callee (f := 9) rfl ?_); refine goesL_ (some 20) rfl rfl Tryd.func9 (by kernel_rfl) rfl #[] rfl (by (try simp only [List.map_toArray, List.map_cons, List.map_nil]); first | done | rfl | (simp only [List.length_drop, List.length_take]; rfl)) ?_; (with_reducible refine (comitialaw07_examples.calls k  t181 _ ?side1 A5.out).mono ?_); (case side1 => first | (with_reducible exact HSC_.out) | exact Strconv.Tab.below HSC_.out (by repeat (first | (with_reducible first | exact HB.out | apply bA | apply bN | apply bD | refine bS ?_ GE179.out | refine bS ?_ GE180.out) | exact HB.out))); rintro e w8 ⟨rfl, hb⟩; refine ⟨_, rfl, ?_⟩; have n0_ := aM (kB (g := gb179) (o := .cells #[.int .i64 a0_0, .int .i64 a0_1, .int .u32 a0_2, .string a0_3, .string a0_4, .bool a0_5] 26 (0, 0)) (by (with_reducible repeat (first | refine kN ?_ _ | refine kD ?_ | refine kA ?_ _)); exact BK179.out) hb); have n1_ := aM (kB (g := gb180) (o := .cells #[.int .i64 a1_0, .int .i64 a1_1, .int .u32 a1_2, .string a1_3, .string a1_4, .bool a1_5] 26 (0, 0)) (by (with_reducible repeat (first | refine kN ?_ _ | refine kD ?_ | refine kA ?_ _)); exact BK180.out) hb); have n2_ := aM (below_step (by repeat (first | (with_reducible first | exact HB.out | apply bA | apply bN | apply bD | refine bS ?_ GE179.out | refine bS ?_ GE180.out) | exact HB.out)) hb); clear BK179; clear BK180; clear HB; have BK179 := n0_; have BK180 := n1_; have HB := n2_; clear n0_ n1_ n2_; (try clear hb); (try clear hb2); (try clear hk); (try clear hi)))
 by_cases c9 : t181 = true
 ·subst c9
  have H1 : ((comitialaw07_Wish_wish.f k a0_0 a0_1 a0_2 a0_3 a0_4 true).bind fun bt182 => ((comitialaw07_Wish_wish.f k a1_0 a1_1 a1_2 a1_3 a1_4 true).bind fun bt188 => ((cmd_Bytes.f k bt182.1 bt182.2.1 bt182.2.2.1 bt182.2.2.2.1 bt182.2.2.2.2).bind fun bt194 => ((cmd_Bytes.f k bt188.1 bt188.2.1 bt188.2.2.1 bt188.2.2.2.1 bt188.2.2.2.2).bind fun bt196 => (if bt194.1.toList = ([] : List UInt8) then (some false) else (if bt194.1.size + a2.size ≤ 9223372036854775807 then ((cmd_Read.f k (bt194.1 ++ a2) false).bind fun bt198 => (if (bt194.1.size : Int) = 0 then (none) else (if 0 ≤ (Int.tmod (wrap64 (a3)) (bt194.1.size : Int)) then (if (Int.tmod (wrap64 (a3)) (bt194.1.size : Int)) ≤ (bt194.1.size : Int) then ((cmd_Read.f k (bt194.1.extract 0 ((Int.tmod (wrap64 (a3)) (bt194.1.size : Int)) : Int).toNat) false).bind fun bt207 => (if bt194.2 = true then (if bt196.2 = true then (if (bt198.1 == bt182.1 && (bt198.2.1 == bt182.2.1 && (bt198.2.2.1 == bt182.2.2.1 && (bt198.2.2.2.1.toList == bt182.2.2.2.1.toList && (bt198.2.2.2.2.1.toList == bt182.2.2.2.2.toList))))) = true then (if bt198.2.2.2.2.2.1.toList = a2.toList then (if bt198.2.2.2.2.2.2 = true then (some false) else (if bt207.2.2.2.2.2.2 = true then (some ((bt194.1.toList == bt196.1.toList) == (bt182.1 == bt188.1 && (bt182.2.1 == bt188.2.1 && (bt182.2.2.1 == bt188.2.2.1 && (bt182.2.2.2.1.toList == bt188.2.2.2.1.toList && (bt182.2.2.2.2.toList == bt188.2.2.2.2.toList))))))) else (some false))) else (some false)) else (some false)) else (some false)) else (some false))) else (none)) else (none)))) else (none))))))) = some r := by rw [if_pos rfl] at H; exact H
  clear H
  have H := H1
  clear H1
  replace H := Option.bind_eq_some_iff.mp H
  obtain ⟨⟨t182, t183, t184, t185, t186⟩, A100, H⟩ := H
  replace H : ((comitialaw07_Wish_wish.f k a1_0 a1_1 a1_2 a1_3 a1_4 true).bind fun bt188 => ((cmd_Bytes.f k t182 t183 t184 t185 t186).bind fun bt194 => ((cmd_Bytes.f k bt188.1 bt188.2.1 bt188.2.2.1 bt188.2.2.2.1 bt188.2.2.2.2).bind fun bt196 => (if bt194.1.toList = ([] : List UInt8) then (some false) else (if bt194.1.size + a2.size ≤ 9223372036854775807 then ((cmd_Read.f k (bt194.1 ++ a2) false).bind fun bt198 => (if (bt194.1.size : Int) = 0 then (none) else (if 0 ≤ (Int.tmod (wrap64 (a3)) (bt194.1.size : Int)) then (if (Int.tmod (wrap64 (a3)) (bt194.1.size : Int)) ≤ (bt194.1.size : Int) then ((cmd_Read.f k (bt194.1.extract 0 ((Int.tmod (wrap64 (a3)) (bt194.1.size : Int)) : Int).toNat) false).bind fun bt207 => (if bt194.2 = true then (if bt196.2 = true then (if (bt198.1 == t182 && (bt198.2.1 == t183 && (bt198.2.2.1 == t184 && (bt198.2.2.2.1.toList == t185.toList && (bt198.2.2.2.2.1.toList == t186.toList))))) = true then (if bt198.2.2.2.2.2.1.toList = a2.toList then (if bt198.2.2.2.2.2.2 = true then (some false) else (if bt207.2.2.2.2.2.2 = true then (some ((bt194.1.toList == bt196.1.toList) == (t182 == bt188.1 && (t183 == bt188.2.1 && (t184 == bt188.2.2.1 && (t185.toList == bt188.2.2.2.1.toList && (t186.toList == bt188.2.2.2.2.toList))))))) else (some false))) else (some false)) else (some false)) else (some false)) else (some false))) else (none)) else (none)))) else (none)))))) = some r := H
  have A10 := aM A100
  clear A100
  replace H := Option.bind_eq_some_iff.mp H
  obtain ⟨⟨t188, t189, t190, t191, t192⟩, A110, H⟩ := H
  replace H : ((cmd_Bytes.f k t182 t183 t184 t185 t186).bind fun bt194 => ((cmd_Bytes.f k t188 t189 t190 t191 t192).bind fun bt196 => (if bt194.1.toList = ([] : List UInt8) then (some false) else (if bt194.1.size + a2.size ≤ 9223372036854775807 then ((cmd_Read.f k (bt194.1 ++ a2) false).bind fun bt198 => (if (bt194.1.size : Int) = 0 then (none) else (if 0 ≤ (Int.tmod (wrap64 (a3)) (bt194.1.size : Int)) then (if (Int.tmod (wrap64 (a3)) (bt194.1.size : Int)) ≤ (bt194.1.size : Int) then ((cmd_Read.f k (bt194.1.extract 0 ((Int.tmod (wrap64 (a3)) (bt194.1.size : Int)) : Int).toNat) false).bind fun bt207 => (if bt194.2 = true then (if bt196.2 = true then (if (bt198.1 == t182 && (bt198.2.1 == t183 && (bt198.2.2.1 == t184 && (bt198.2.2.2.1.toList == t185.toList && (bt198.2.2.2.2.1.toList == t186.toList))))) = true then (if bt198.2.2.2.2.2.1.toList = a2.toList then (if bt198.2.2.2.2.2.2 = true then (some false) else (if bt207.2.2.2.2.2.2 = true then (some ((bt194.1.toList == bt196.1.toList) == (t182 == t188 && (t183 == t189 && (t184 == t190 && (t185.toList == t191.toList && (t186.toList == t192.toList))))))) else (some false))) else (some false)) else (some false)) else (some false)) else (some false))) else (none)) else (none)))) else (none))))) = some r := H
  have A11 := aM A110
  clear A110
  replace H := Option.bind_eq_some_iff.mp H
  obtain ⟨⟨t194, t195⟩, A120, H⟩ := H
  replace H : ((cmd_Bytes.f k t188 t189 t190 t191 t192).bind fun bt196 => (if t194.toList = ([] : List UInt8) then (some false) else (if t194.size + a2.size ≤ 9223372036854775807 then ((cmd_Read.f k (t194 ++ a2) false).bind fun bt198 => (if (t194.size : Int) = 0 then (none) else (if 0 ≤ (Int.tmod (wrap64 (a3)) (t194.size : Int)) then (if (Int.tmod (wrap64 (a3)) (t194.size : Int)) ≤ (t194.size : Int) then ((cmd_Read.f k (t194.extract 0 ((Int.tmod (wrap64 (a3)) (t194.size : Int)) : Int).toNat) false).bind fun bt207 => (if t195 = true then (if bt196.2 = true then (if (bt198.1 == t182 && (bt198.2.1 == t183 && (bt198.2.2.1 == t184 && (bt198.2.2.2.1.toList == t185.toList && (bt198.2.2.2.2.1.toList == t186.toList))))) = true then (if bt198.2.2.2.2.2.1.toList = a2.toList then (if bt198.2.2.2.2.2.2 = true then (some false) else (if bt207.2.2.2.2.2.2 = true then (some ((t194.toList == bt196.1.toList) == (t182 == t188 && (t183 == t189 && (t184 == t190 && (t185.toList == t191.toList && (t186.toList == t192.toList))))))) else (some false))) else (some false)) else (some false)) else (some false)) else (some false))) else (none)) else (none)))) else (none)))) = some r := H
  have A12 := aM A120
  clear A120
  replace H := Option.bind_eq_some_iff.mp H
  obtain ⟨⟨t196, t197⟩, A130, H⟩ := H
  replace H : (if t194.toList = ([] : List UInt8) then (some false) else (if t194.size + a2.size ≤ 9223372036854775807 then ((cmd_Read.f k (t194 ++ a2) false).bind fun bt198 => (if (t194.size : Int) = 0 then (none) else (if 0 ≤ (Int.tmod (wrap64 (a3)) (t194.size : Int)) then (if (Int.tmod (wrap64 (a3)) (t194.size : Int)) ≤ (t194.size : Int) then ((cmd_Read.f k (t194.extract 0 ((Int.tmod (wrap64 (a3)) (t194.size : Int)) : Int).toNat) false).bind fun bt207 => (if t195 = true then (if t197 = true then (if (bt198.1 == t182 && (bt198.2.1 == t183 && (bt198.2.2.1 == t184 && (bt198.2.2.2.1.toList == t185.toList && (bt198.2.2.2.2.1.toList == t186.toList))))) = true then (if bt198.2.2.2.2.2.1.toList = a2.toList then (if bt198.2.2.2.2.2.2 = true then (some false) else (if bt207.2.2.2.2.2.2 = true then (some ((t194.toList == t196.toList) == (t182 == t188 && (t183 == t189 && (t184 == t190 && (t185.toList == t191.toList && (t186.toList == t192.toList))))))) else (some false))) else (some false)) else (some false)) else (some false)) else (some false))) else (none)) else (none)))) else (none))) = some r := H
  have A13 := aM A130
  clear A130
  have hnb14 := NB179_180.out
  have hnc14 := NB180_179.out
  have hcz15_0 : w8.cell? ⟨gb179, 0, none⟩ = some (.int .i64 a0_0) := (kC BK179.out 0).trans rfl
  have hcz15_1 : w8.cell? ⟨gb179, 1, none⟩ = some (.int .i64 a0_1) := (kC BK179.out 1).trans rfl
  have hcz15_2 : w8.cell? ⟨gb179, 2, none⟩ = some (.int .u32 a0_2) := (kC BK179.out 2).trans rfl
  have hcz15_3 : w8.cell? ⟨gb179, 3, none⟩ = some (.string a0_3) := (kC BK179.out 3).trans rfl
  have hcz15_4 : w8.cell? ⟨gb179, 4, none⟩ = some (.string a0_4) := (kC BK179.out 4).trans rfl
  have hcz15_5 : w8.cell? ⟨gb179, 5, none⟩ = some (.bool a0_5) := (kC BK179.out 5).trans rfl
  have hfz15_0 := kF BK179.out 0
  have hfz15_1 := kF BK179.out 1
  have hfz15_2 := kF BK179.out 2
  have hfz15_3 := kF BK179.out 3
  have hfz15_4 := kF BK179.out 4
  have hfz15_5 := kF BK179.out 5
  have hcz16_0 : w8.cell? ⟨gb180, 0, none⟩ = some (.int .i64 a1_0) := (kC BK180.out 0).trans rfl
  have hcz16_1 : w8.cell? ⟨gb180, 1, none⟩ = some (.int .i64 a1_1) := (kC BK180.out 1).trans rfl
  have hcz16_2 : w8.cell? ⟨gb180, 2, none⟩ = some (.int .u32 a1_2) := (kC BK180.out 2).trans rfl
  have hcz16_3 : w8.cell? ⟨gb180, 3, none⟩ = some (.string a1_3) := (kC BK180.out 3).trans rfl
  have hcz16_4 : w8.cell? ⟨gb180, 4, none⟩ = some (.string a1_4) := (kC BK180.out 4).trans rfl
  have hcz16_5 : w8.cell? ⟨gb180, 5, none⟩ = some (.bool a1_5) := (kC BK180.out 5).trans rfl
  have hfz16_0 := kF BK180.out 0
  have hfz16_1 := kF BK180.out 1
  have hfz16_2 := kF BK180.out 2
  have hfz16_3 := kF BK180.out 3
  have hfz16_4 := kF BK180.out 4
  have hfz16_5 := kF BK180.out 5
  go_upto_if 40 with (first | ((with_reducible refine gate_callee (f := 10) rfl ?_); refine goesL_ (some 26) rfl rfl Tryd.func10 (by kernel_rfl) rfl #[.agg #[.int .i64 a0_0, .int .i64 a0_1, .int .u32 a0_2, .string a0_3, .string a0_4, .bool true]] rfl (by (try simp only [List.map_toArray, List.map_cons, List.map_nil]); first | done | rfl | (simp only [List.length_drop, List.length_take]; rfl)) ?_; (with_reducible refine (comitialaw07_Wish_wish.calls k a0_0 a0_1 a0_2 a0_3 a0_4 true t182 t183 t184 t185 t186 _ A10.out).mono ?_); rintro e w17 ⟨rfl, hb⟩; refine ⟨_, rfl, ?_⟩; have n0_ := aM (kB (g := gb179) (o := .cells #[.int .i64 a0_0, .int .i64 a0_1, .int .u32 a0_2, .string a0_3, .string a0_4, .bool true] 26 (0, 0)) (by (with_reducible repeat (first | refine kN ?_ _ | refine kD ?_ | refine kA ?_ _)); refine kR ?_ NB179_180.out _; (with_reducible repeat (first | refine kN ?_ _ | refine kD ?_ | refine kA ?_ _)); refine blk_put (cs := #[.int .i64 a0_0, .int .i64 a0_1, .int .u32 a0_2, .string a0_3, .string a0_4, .bool a0_5]) ?_ 5 _ rfl; (with_reducible repeat (first | refine kN ?_ _ | refine kD ?_ | refine kA ?_ _)); exact BK179.out) hb); have n1_ := aM (kB (g := gb180) (o := .cells #[.int .i64 a1_0, .int .i64 a1_1, .int .u32 a1_2, .string a1_3, .string a1_4, .bool true] 26 (0, 0)) (by (with_reducible repeat (first | refine kN ?_ _ | refine kD ?_ | refine kA ?_ _)); refine blk_put (cs := #[.int .i64 a1_0, .int .i64 a1_1, .int .u32 a1_2, .string a1_3, .string a1_4, .bool a1_5]) ?_ 5 _ rfl; (with_reducible repeat (first | refine kN ?_ _ | refine kD ?_ | refine kA ?_ _)); refine kR ?_ NB180_179.out _; (with_reducible repeat (first | refine kN ?_ _ | refine kD ?_ | refine kA ?_ _)); exact BK180.out) hb); have n2_ := aM (below_step (by repeat (first | (with_reducible first | exact HB.out | apply bA | apply bN | apply bD | refine bS ?_ GE179.out | refine bS ?_ GE180.out) | exact HB.out)) hb); clear BK179; clear BK180; clear HB; have BK179 := n0_; have BK180 := n1_; have HB := n2_; clear n0_ n1_ n2_; (try clear hb); (try clear hb2); (try clear hk); (try clear hi)) | ((with_reducible refine gate_dst (N := 10) rfl ?_); refine box_event ?hg (N := 10) ?hd (cs := #[.int .i64 0, .int .i64 0, .int .u32 0, .string (⟨#[]⟩ : ByteArray), .string (⟨#[]⟩ : ByteArray)]) (t := 24) ?hr ?_; (case hd => rfl); (case hg => rfl); (case hr => first | (go_simp; done) | (go_simp; rfl) | (go_simp; simp only [IntKind.wrap_u8, IntKind.wrap_u32]; done) | (go_simp; simp only [IntKind.wrap_u8, IntKind.wrap_u32]; rfl)); intro gb187 hg w18 hbox hb; have n0_ := aM (kB (g := gb179) (o := .cells #[.int .i64 a0_0, .int .i64 a0_1, .int .u32 a0_2, .string a0_3, .string a0_4, .bool true] 26 (0, 0)) (by (with_reducible repeat (first | refine kN ?_ _ | refine kD ?_ | refine kA ?_ _)); exact BK179.out) hb); have n1_ := aM (kB (g := gb180) (o := .cells #[.int .i64 a1_0, .int .i64 a1_1, .int .u32 a1_2, .string a1_3, .string a1_4, .bool true] 26 (0, 0)) (by (with_reducible repeat (first | refine kN ?_ _ | refine kD ?_ | refine kA ?_ _)); exact BK180.out) hb); have n2_ := aM (below_step (by repeat (first | (with_reducible first | exact HB.out | apply bA | apply bN | apply bD | refine bS ?_ GE179.out | refine bS ?_ GE180.out) | exact HB.out)) hb); have n3_ := aM (hbox); have n4_ := aM ((by rw [hg]; exact (below_size (by repeat (first | (with_reducible first | exact HB.out | apply bA | apply bN | apply bD | refine bS ?_ GE179.out | refine bS ?_ GE180.out) | exact HB.out))) : w.heap.size ≤ gb187)); have n5_ := aM ((by rw [hg]; exact (below_size (by repeat (first | (with_reducible first | exact HB.out | apply bA | apply bN | apply bD | refine bS ?_ GE179.out | refine bS ?_ GE180.out) | exact HB.out))) : w.heap.size ≤ gb187)); have n6_ := aM ((by rw [hg]; exact Nat.ne_of_lt (blk_lt (g := gb179) (o := .cells #[.int .i64 a0_0, .int .i64 a0_1, .int .u32 a0_2, .string a0_3, .string a0_4, .bool true] 26 (0, 0)) (by (with_reducible repeat (first | refine kN ?_ _ | refine kD ?_ | refine kA ?_ _)); exact BK179.out)) : gb179 ≠ gb187)); have n7_ := aM ((by rw [hg]; exact Nat.ne_of_gt (blk_lt (g := gb179) (o := .cells #[.int .i64 a0_0, .int .i64 a0_1, .int .u32 a0_2, .string a0_3, .string a0_4, .bool true] 26 (0, 0)) (by (with_reducible repeat (first | refine kN ?_ _ | refine kD ?_ | refine kA ?_ _)); exact BK179.out)) : gb187 ≠ gb179)); have n8_ := aM ((by rw [hg]; exact Nat.ne_of_lt (blk_lt (g := gb180) (o := .cells #[.int .i64 a1_0, .int .i64 a1_1, .int .u32 a1_2, .string a1_3, .string a1_4, .bool true] 26 (0, 0)) (by (with_reducible repeat (first | refine kN ?_ _ | refine kD ?_ | refine kA ?_ _)); exact BK180.out)) : gb180 ≠ gb187)); have n9_ := aM ((by rw [hg]; exact Nat.ne_of_gt (blk_lt (g := gb180) (o := .cells #[.int .i64 a1_0, .int .i64 a1_1, .int .u32 a1_2, .string a1_3, .string a1_4, .bool true] 26 (0, 0)) (by (with_reducible repeat (first | refine kN ?_ _ | refine kD ?_ | refine kA ?_ _)); exact BK180.out)) : gb187 ≠ gb180)); clear BK179; clear BK180; clear HB; have BK179 := n0_; have BK180 := n1_; have HB := n2_; have BK187 := n3_; have GW187 := n4_; have GE187 := n5_; have NB179_187 := n6_; have NB187_179 := n7_; have NB180_187 := n8_; have NB187_180 := n9_; clear n0_ n1_ n2_ n3_ n4_ n5_ n6_ n7_ n8_ n9_; clear hb hbox hg; have hnb19 := NB187_179.out; have hnc19 := NB179_187.out; have hnb20 := NB187_180.out; have hnc20 := NB180_187.out; have hcz21_0 : w18.cell? ⟨gb187, 0, none⟩ = some (.int .i64 0) := (kC BK187.out 0).trans rfl; have hcz21_1 : w18.cell? ⟨gb187, 1, none⟩ = some (.int .i64 0) := (kC BK187.out 1).trans rfl; have hcz21_2 : w18.cell? ⟨gb187, 2, none⟩ = some (.int .u32 0) := (kC BK187.out 2).trans rfl; have hcz21_3 : w18.cell? ⟨gb187, 3, none⟩ = some (.string (⟨#[]⟩ : ByteArray)) := (kC BK187.out 3).trans rfl; have hcz21_4 : w18.cell? ⟨gb187, 4, none⟩ = some (.string (⟨#[]⟩ : ByteArray)) := (kC BK187.out 4).trans rfl; have hfz21_0 := kF BK187.out 0; have hfz21_1 := kF BK187.out 1; have hfz21_2 := kF BK187.out 2; have hfz21_3 := kF BK187.out 3; have hfz21_4 := kF BK187.out 4; have hcz22_0 : w18.cell? ⟨gb180, 0, none⟩ = some (.int .i64 a1_0) := (kC BK180.out 0).trans rfl; have hcz22_1 : w18.cell? ⟨gb180, 1, none⟩ = some (.int .i64 a1_1) := (kC BK180.out 1).trans rfl; have hcz22_2 : w18.cell? ⟨gb180, 2, none⟩ = some (.int .u32 a1_2) := (kC BK180.out 2).trans rfl; have hcz22_3 : w18.cell? ⟨gb180, 3, none⟩ = some (.string a1_3) := (kC BK180.out 3).trans rfl; have hcz22_4 : w18.cell? ⟨gb180, 4, none⟩ = some (.string a1_4) := (kC BK180.out 4).trans rfl; have hcz22_5 : w18.cell? ⟨gb180, 5, none⟩ = some (.bool true) := (kC BK180.out 5).trans rfl; have hfz22_0 := kF BK180.out 0; have hfz22_1 := kF BK180.out 1; have hfz22_2 := kF BK180.out 2; have hfz22_3 := kF BK180.out 3; have hfz22_4 := kF BK180.out 4; have hfz22_5 := kF BK180.out 5) | ((with_reducible refine gate_callee (f := 10) rfl ?_); refine goesL_ (some 28) rfl rfl Tryd.func10 (by kernel_rfl) rfl #[.agg #[.int .i64 a1_0, .int .i64 a1_1, .int .u32 a1_2, .string a1_3, .string a1_4, .bool true]] rfl (by (try simp only [List.map_toArray, List.map_cons, List.map_nil]); first | done | rfl | (simp only [List.length_drop, List.length_take]; rfl)) ?_; (with_reducible refine (comitialaw07_Wish_wish.calls k a1_0 a1_1 a1_2 a1_3 a1_4 true t188 t189 t190 t191 t192 _ A11.out).mono ?_); rintro e w23 ⟨rfl, hb⟩; refine ⟨_, rfl, ?_⟩; have n0_ := aM (kB (g := gb179) (o := .cells #[.int .i64 a0_0, .int .i64 a0_1, .int .u32 a0_2, .string a0_3, .string a0_4, .bool true] 26 (0, 0)) (by (with_reducible repeat (first | refine kN ?_ _ | refine kD ?_ | refine kA ?_ _)); refine kR ?_ NB179_187.out _; (with_reducible repeat (first | refine kN ?_ _ | refine kD ?_ | refine kA ?_ _)); refine kR ?_ NB179_187.out _; (with_reducible repeat (first | refine kN ?_ _ | refine kD ?_ | refine kA ?_ _)); refine kR ?_ NB179_187.out _; (with_reducible repeat (first | refine kN ?_ _ | refine kD ?_ | refine kA ?_ _)); refine kR ?_ NB179_187.out _; (with_reducible repeat (first | refine kN ?_ _ | refine kD ?_ | refine kA ?_ _)); refine kR ?_ NB179_187.out _; (with_reducible repeat (first | refine kN ?_ _ | refine kD ?_ | refine kA ?_ _)); exact BK179.out) hb); have n1_ := aM (kB (g := gb180) (o := .cells #[.int .i64 a1_0, .int .i64 a1_1, .int .u32 a1_2, .string a1_3, .string a1_4, .bool true] 26 (0, 0)) (by (with_reducible repeat (first | refine kN ?_ _ | refine kD ?_ | refine kA ?_ _)); refine kR ?_ NB180_187.out _; (with_reducible repeat (first | refine kN ?_ _ | refine kD ?_ | refine kA ?_ _)); refine kR ?_ NB180_187.out _; (with_reducible repeat (first | refine kN ?_ _ | refine kD ?_ | refine kA ?_ _)); refine kR ?_ NB180_187.out _; (with_reducible repeat (first | refine kN ?_ _ | refine kD ?_ | refine kA ?_ _)); refine kR ?_ NB180_187.out _; (with_reducible repeat (first | refine kN ?_ _ | refine kD ?_ | refine kA ?_ _)); refine kR ?_ NB180_187.out _; (with_reducible repeat (first | refine kN ?_ _ | refine kD ?_ | refine kA ?_ _)); exact BK180.out) hb); have n2_ := aM (kB (g := gb187) (o := .cells #[.int .i64 t182, .int .i64 t183, .int .u32 t184, .string t185, .string t186] 24 (0, 0)) (by (with_reducible repeat (first | refine kN ?_ _ | refine kD ?_ | refine kA ?_ _)); refine blk_put (cs := #[.int .i64 t182, .int .i64 t183, .int .u32 t184, .string t185, .string (⟨#[]⟩ : ByteArray)]) ?_ 4 _ rfl; (with_reducible repeat (first | refine kN ?_ _ | refine kD ?_ | refine kA ?_ _)); refine blk_put (cs := #[.int .i64 t182, .int .i64 t183, .int .u32 t184, .string (⟨#[]⟩ : ByteArray), .string (⟨#[]⟩ : ByteArray)]) ?_ 3 _ rfl; (with_reducible repeat (first | refine kN ?_ _ | refine kD ?_ | refine kA ?_ _)); refine blk_put (cs := #[.int .i64 t182, .int .i64 t183, .int .u32 0, .string (⟨#[]⟩ : ByteArray), .string (⟨#[]⟩ : ByteArray)]) ?_ 2 _ rfl; (with_reducible repeat (first | refine kN ?_ _ | refine kD ?_ | refine kA ?_ _)); refine blk_put (cs := #[.int .i64 t182, .int .i64 0, .int .u32 0, .string (⟨#[]⟩ : ByteArray), .string (⟨#[]⟩ : ByteArray)]) ?_ 1 _ rfl; (with_reducible repeat (first | refine kN ?_ _ | refine kD ?_ | refine kA ?_ _)); refine blk_put (cs := #[.int .i64 0, .int .i64 0, .int .u32 0, .string (⟨#[]⟩ : ByteArray), .string (⟨#[]⟩ : ByteArray)]) ?_ 0 _ rfl; (with_reducible repeat (first | refine kN ?_ _ | refine kD ?_ | refine kA ?_ _)); exact BK187.out) hb); have n3_ := aM (below_step (by repeat (first | (with_reducible first | exact HB.out | apply bA | apply bN | apply bD | refine bS ?_ GE179.out | refine bS ?_ GE180.out | refine bS ?_ GE187.out) | exact HB.out)) hb); clear BK179; clear BK180; clear BK187; clear HB; have BK179 := n0_; have BK180 := n1_; have BK187 := n2_; have HB := n3_; clear n0_ n1_ n2_ n3_; (try clear hb); (try clear hb2); (try clear hk); (try clear hi)) | ((with_reducible refine gate_dst (N := 11) rfl ?_); refine box_event ?hg (N := 11) ?hd (cs := #[.int .i64 0, .int .i64 0, .int .u32 0, .string (⟨#[]⟩ : ByteArray), .string (⟨#[]⟩ : ByteArray)]) (t := 24) ?hr ?_; (case hd => rfl); (case hg => rfl); (case hr => first | (go_simp; done) | (go_simp; rfl) | (go_simp; simp only [IntKind.wrap_u8, IntKind.wrap_u32]; done) | (go_simp; simp only [IntKind.wrap_u8, IntKind.wrap_u32]; rfl)); intro gb193 hg w24 hbox hb; have n0_ := aM (kB (g := gb179) (o := .cells #[.int .i64 a0_0, .int .i64 a0_1, .int .u32 a0_2, .string a0_3, .string a0_4, .bool true] 26 (0, 0)) (by (with_reducible repeat (first | refine kN ?_ _ | refine kD ?_ | refine kA ?_ _)); exact BK179.out) hb); have n1_ := aM (kB (g := gb180) (o := .cells #[.int .i64 a1_0, .int .i64 a1_1, .int .u32 a1_2, .string a1_3, .string a1_4, .bool true] 26 (0, 0)) (by (with_reducible repeat (first | refine kN ?_ _ | refine kD ?_ | refine kA ?_ _)); exact BK180.out) hb); have n2_ := aM (kB (g := gb187) (o := .cells #[.int .i64 t182, .int .i64 t183, .int .u32 t184, .string t185, .string t186] 24 (0, 0)) (by (with_reducible repeat (first | refine kN ?_ _ | refine kD ?_ | refine kA ?_ _)); exact BK187.out) hb); have n3_ := aM (below_step (by repeat (first | (with_reducible first | exact HB.out | apply bA | apply bN | apply bD | refine bS ?_ GE179.out | refine bS ?_ GE180.out | refine bS ?_ GE187.out) | exact HB.out)) hb); have n4_ := aM (hbox); have n5_ := aM ((by rw [hg]; exact (below_size (by repeat (first | (with_reducible first | exact HB.out | apply bA | apply bN | apply bD | refine bS ?_ GE179.out | refine bS ?_ GE180.out | refine bS ?_ GE187.out) | exact HB.out))) : w.heap.size ≤ gb193)); have n6_ := aM ((by rw [hg]; exact (below_size (by repeat (first | (with_reducible first | exact HB.out | apply bA | apply bN | apply bD | refine bS ?_ GE179.out | refine bS ?_ GE180.out | refine bS ?_ GE187.out) | exact HB.out))) : w.heap.size ≤ gb193)); have n7_ := aM ((by rw [hg]; exact Nat.ne_of_lt (blk_lt (g := gb179) (o := .cells #[.int .i64 a0_0, .int .i64 a0_1, .int .u32 a0_2, .string a0_3, .string a0_4, .bool true] 26 (0, 0)) (by (with_reducible repeat (first | refine kN ?_ _ | refine kD ?_ | refine kA ?_ _)); exact BK179.out)) : gb179 ≠ gb193)); have n8_ := aM ((by rw [hg]; exact Nat.ne_of_gt (blk_lt (g := gb179) (o := .cells #[.int .i64 a0_0, .int .i64 a0_1, .int .u32 a0_2, .string a0_3, .string a0_4, .bool true] 26 (0, 0)) (by (with_reducible repeat (first | refine kN ?_ _ | refine kD ?_ | refine kA ?_ _)); exact BK179.out)) : gb193 ≠ gb179)); have n9_ := aM ((by rw [hg]; exact Nat.ne_of_lt (blk_lt (g := gb180) (o := .cells #[.int .i64 a1_0, .int .i64 a1_1, .int .u32 a1_2, .string a1_3, .string a1_4, .bool true] 26 (0, 0)) (by (with_reducible repeat (first | refine kN ?_ _ | refine kD ?_ | refine kA ?_ _)); exact BK180.out)) : gb180 ≠ gb193)); have n10_ := aM ((by rw [hg]; exact Nat.ne_of_gt (blk_lt (g := gb180) (o := .cells #[.int .i64 a1_0, .int .i64 a1_1, .int .u32 a1_2, .string a1_3, .string a1_4, .bool true] 26 (0, 0)) (by (with_reducible repeat (first | refine kN ?_ _ | refine kD ?_ | refine kA ?_ _)); exact BK180.out)) : gb193 ≠ gb180)); have n11_ := aM ((by rw [hg]; exact Nat.ne_of_lt (blk_lt (g := gb187) (o := .cells #[.int .i64 t182, .int .i64 t183, .int .u32 t184, .string t185, .string t186] 24 (0, 0)) (by (with_reducible repeat (first | refine kN ?_ _ | refine kD ?_ | refine kA ?_ _)); exact BK187.out)) : gb187 ≠ gb193)); have n12_ := aM ((by rw [hg]; exact Nat.ne_of_gt (blk_lt (g := gb187) (o := .cells #[.int .i64 t182, .int .i64 t183, .int .u32 t184, .string t185, .string t186] 24 (0, 0)) (by (with_reducible repeat (first | refine kN ?_ _ | refine kD ?_ | refine kA ?_ _)); exact BK187.out)) : gb193 ≠ gb187)); clear BK179; clear BK180; clear BK187; clear HB; have BK179 := n0_; have BK180 := n1_; have BK187 := n2_; have HB := n3_; have BK193 := n4_; have GW193 := n5_; have GE193 := n6_; have NB179_193 := n7_; have NB193_179 := n8_; have NB180_193 := n9_; have NB193_180 := n10_; have NB187_193 := n11_; have NB193_187 := n12_; clear n0_ n1_ n2_ n3_ n4_ n5_ n6_ n7_ n8_ n9_ n10_ n11_ n12_; clear hb hbox hg; have hnb25 := NB193_179.out; have hnc25 := NB179_193.out; have hnb26 := NB193_180.out; have hnc26 := NB180_193.out; have hnb27 := NB193_187.out; have hnc27 := NB187_193.out; have hcz28_0 : w24.cell? ⟨gb193, 0, none⟩ = some (.int .i64 0) := (kC BK193.out 0).trans rfl; have hcz28_1 : w24.cell? ⟨gb193, 1, none⟩ = some (.int .i64 0) := (kC BK193.out 1).trans rfl; have hcz28_2 : w24.cell? ⟨gb193, 2, none⟩ = some (.int .u32 0) := (kC BK193.out 2).trans rfl; have hcz28_3 : w24.cell? ⟨gb193, 3, none⟩ = some (.string (⟨#[]⟩ : ByteArray)) := (kC BK193.out 3).trans rfl; have hcz28_4 : w24.cell? ⟨gb193, 4, none⟩ = some (.string (⟨#[]⟩ : ByteArray)) := (kC BK193.out 4).trans rfl; have hfz28_0 := kF BK193.out 0; have hfz28_1 := kF BK193.out 1; have hfz28_2 := kF BK193.out 2; have hfz28_3 := kF BK193.out 3; have hfz28_4 := kF BK193.out 4; have hcz29_0 : w24.cell? ⟨gb187, 0, none⟩ = some (.int .i64 t182) := (kC BK187.out 0).trans rfl; have hcz29_1 : w24.cell? ⟨gb187, 1, none⟩ = some (.int .i64 t183) := (kC BK187.out 1).trans rfl; have hcz29_2 : w24.cell? ⟨gb187, 2, none⟩ = some (.int .u32 t184) := (kC BK187.out 2).trans rfl; have hcz29_3 : w24.cell? ⟨gb187, 3, none⟩ = some (.string t185) := (kC BK187.out 3).trans rfl; have hcz29_4 : w24.cell? ⟨gb187, 4, none⟩ = some (.string t186) := (kC BK187.out 4).trans rfl; have hfz29_0 := kF BK187.out 0; have hfz29_1 := kF BK187.out 1; have hfz29_2 := kF BK187.out 2; have hfz29_3 := kF BK187.out 3; have hfz29_4 := kF BK187.out 4) | ((with_reducible refine gate_callee (f := 11) rfl ?_); refine goesL_ (some 31) rfl rfl Tryd.func11 (by kernel_rfl) rfl #[.agg #[.int .i64 t182, .int .i64 t183, .int .u32 t184, .string t185, .string t186]] rfl (by (try simp only [List.map_toArray, List.map_cons, List.map_nil]); first | done | rfl | (simp only [List.length_drop, List.length_take]; rfl)) ?_; (with_reducible refine (cmd_Bytes.calls k t182 t183 t184 t185 t186 t194 t195 _ A12.out).mono ?_); rintro e w30 ⟨rfl, hb⟩; refine ⟨_, rfl, ?_⟩; have n0_ := aM (kB (g := gb179) (o := .cells #[.int .i64 a0_0, .int .i64 a0_1, .int .u32 a0_2, .string a0_3, .string a0_4, .bool true] 26 (0, 0)) (by (with_reducible repeat (first | refine kN ?_ _ | refine kD ?_ | refine kA ?_ _)); refine kR ?_ NB179_193.out _; (with_reducible repeat (first | refine kN ?_ _ | refine kD ?_ | refine kA ?_ _)); refine kR ?_ NB179_193.out _; (with_reducible repeat (first | refine kN ?_ _ | refine kD ?_ | refine kA ?_ _)); refine kR ?_ NB179_193.out _; (with_reducible repeat (first | refine kN ?_ _ | refine kD ?_ | refine kA ?_ _)); refine kR ?_ NB179_193.out _; (with_reducible repeat (first | refine kN ?_ _ | refine kD ?_ | refine kA ?_ _)); refine kR ?_ NB179_193.out _; (with_reducible repeat (first | refine kN ?_ _ | refine kD ?_ | refine kA ?_ _)); exact BK179.out) hb); have n1_ := aM (kB (g := gb180) (o := .cells #[.int .i64 a1_0, .int .i64 a1_1, .int .u32 a1_2, .string a1_3, .string a1_4, .bool true] 26 (0, 0)) (by (with_reducible repeat (first | refine kN ?_ _ | refine kD ?_ | refine kA ?_ _)); refine kR ?_ NB180_193.out _; (with_reducible repeat (first | refine kN ?_ _ | refine kD ?_ | refine kA ?_ _)); refine kR ?_ NB180_193.out _; (with_reducible repeat (first | refine kN ?_ _ | refine kD ?_ | refine kA ?_ _)); refine kR ?_ NB180_193.out _; (with_reducible repeat (first | refine kN ?_ _ | refine kD ?_ | refine kA ?_ _)); refine kR ?_ NB180_193.out _; (with_reducible repeat (first | refine kN ?_ _ | refine kD ?_ | refine kA ?_ _)); refine kR ?_ NB180_193.out _; (with_reducible repeat (first | refine kN ?_ _ | refine kD ?_ | refine kA ?_ _)); exact BK180.out) hb); have n2_ := aM (kB (g := gb187) (o := .cells #[.int .i64 t182, .int .i64 t183, .int .u32 t184, .string t185, .string t186] 24 (0, 0)) (by (with_reducible repeat (first | refine kN ?_ _ | refine kD ?_ | refine kA ?_ _)); refine kR ?_ NB187_193.out _; (with_reducible repeat (first | refine kN ?_ _ | refine kD ?_ | refine kA ?_ _)); refine kR ?_ NB187_193.out _; (with_reducible repeat (first | refine kN ?_ _ | refine kD ?_ | refine kA ?_ _)); refine kR ?_ NB187_193.out _; (with_reducible repeat (first | refine kN ?_ _ | refine kD ?_ | refine kA ?_ _)); refine kR ?_ NB187_193.out _; (with_reducible repeat (first | refine kN ?_ _ | refine kD ?_ | refine kA ?_ _)); refine kR ?_ NB187_193.out _; (with_reducible repeat (first | refine kN ?_ _ | refine kD ?_ | refine kA ?_ _)); exact BK187.out) hb); have n3_ := aM (kB (g := gb193) (o := .cells #[.int .i64 t188, .int .i64 t189, .int .u32 t190, .string t191, .string t192] 24 (0, 0)) (by (with_reducible repeat (first | refine kN ?_ _ | refine kD ?_ | refine kA ?_ _)); refine blk_put (cs := #[.int .i64 t188, .int .i64 t189, .int .u32 t190, .string t191, .string (⟨#[]⟩ : ByteArray)]) ?_ 4 _ rfl; (with_reducible repeat (first | refine kN ?_ _ | refine kD ?_ | refine kA ?_ _)); refine blk_put (cs := #[.int .i64 t188, .int .i64 t189, .int .u32 t190, .string (⟨#[]⟩ : ByteArray), .string (⟨#[]⟩ : ByteArray)]) ?_ 3 _ rfl; (with_reducible repeat (first | refine kN ?_ _ | refine kD ?_ | refine kA ?_ _)); refine blk_put (cs := #[.int .i64 t188, .int .i64 t189, .int .u32 0, .string (⟨#[]⟩ : ByteArray), .string (⟨#[]⟩ : ByteArray)]) ?_ 2 _ rfl; (with_reducible repeat (first | refine kN ?_ _ | refine kD ?_ | refine kA ?_ _)); refine blk_put (cs := #[.int .i64 t188, .int .i64 0, .int .u32 0, .string (⟨#[]⟩ : ByteArray), .string (⟨#[]⟩ : ByteArray)]) ?_ 1 _ rfl; (with_reducible repeat (first | refine kN ?_ _ | refine kD ?_ | refine kA ?_ _)); refine blk_put (cs := #[.int .i64 0, .int .i64 0, .int .u32 0, .string (⟨#[]⟩ : ByteArray), .string (⟨#[]⟩ : ByteArray)]) ?_ 0 _ rfl; (with_reducible repeat (first | refine kN ?_ _ | refine kD ?_ | refine kA ?_ _)); exact BK193.out) hb); have n4_ := aM (below_step (by repeat (first | (with_reducible first | exact HB.out | apply bA | apply bN | apply bD | refine bS ?_ GE179.out | refine bS ?_ GE180.out | refine bS ?_ GE187.out | refine bS ?_ GE193.out) | exact HB.out)) hb); clear BK179; clear BK180; clear BK187; clear BK193; clear HB; have BK179 := n0_; have BK180 := n1_; have BK187 := n2_; have BK193 := n3_; have HB := n4_; clear n0_ n1_ n2_ n3_ n4_; (try clear hb); (try clear hb2); (try clear hk); (try clear hi); have hcz31_0 : w30.cell? ⟨gb193, 0, none⟩ = some (.int .i64 t188) := (kC BK193.out 0).trans rfl; have hcz31_1 : w30.cell? ⟨gb193, 1, none⟩ = some (.int .i64 t189) := (kC BK193.out 1).trans rfl; have hcz31_2 : w30.cell? ⟨gb193, 2, none⟩ = some (.int .u32 t190) := (kC BK193.out 2).trans rfl; have hcz31_3 : w30.cell? ⟨gb193, 3, none⟩ = some (.string t191) := (kC BK193.out 3).trans rfl; have hcz31_4 : w30.cell? ⟨gb193, 4, none⟩ = some (.string t192) := (kC BK193.out 4).trans rfl; have hfz31_0 := kF BK193.out 0; have hfz31_1 := kF BK193.out 1; have hfz31_2 := kF BK193.out 2; have hfz31_3 := kF BK193.out 3; have hfz31_4 := kF BK193.out 4) | ((with_reducible refine gate_callee (f := 11) rfl ?_); refine goesL_ (some 36) rfl rfl Tryd.func11 (by kernel_rfl) rfl #[.agg #[.int .i64 t188, .int .i64 t189, .int .u32 t190, .string t191, .string t192]] rfl (by (try simp only [List.map_toArray, List.map_cons, List.map_nil]); first | done | rfl | (simp only [List.length_drop, List.length_take]; rfl)) ?_; (with_reducible refine (cmd_Bytes.calls k t188 t189 t190 t191 t192 t196 t197 _ A13.out).mono ?_); rintro e w32 ⟨rfl, hb⟩; refine ⟨_, rfl, ?_⟩; have n0_ := aM (kB (g := gb179) (o := .cells #[.int .i64 a0_0, .int .i64 a0_1, .int .u32 a0_2, .string a0_3, .string a0_4, .bool true] 26 (0, 0)) (by (with_reducible repeat (first | refine kN ?_ _ | refine kD ?_ | refine kA ?_ _)); exact BK179.out) hb); have n1_ := aM (kB (g := gb180) (o := .cells #[.int .i64 a1_0, .int .i64 a1_1, .int .u32 a1_2, .string a1_3, .string a1_4, .bool true] 26 (0, 0)) (by (with_reducible repeat (first | refine kN ?_ _ | refine kD ?_ | refine kA ?_ _)); exact BK180.out) hb); have n2_ := aM (kB (g := gb187) (o := .cells #[.int .i64 t182, .int .i64 t183, .int .u32 t184, .string t185, .string t186] 24 (0, 0)) (by (with_reducible repeat (first | refine kN ?_ _ | refine kD ?_ | refine kA ?_ _)); exact BK187.out) hb); have n3_ := aM (kB (g := gb193) (o := .cells #[.int .i64 t188, .int .i64 t189, .int .u32 t190, .string t191, .string t192] 24 (0, 0)) (by (with_reducible repeat (first | refine kN ?_ _ | refine kD ?_ | refine kA ?_ _)); exact BK193.out) hb); have n4_ := aM (below_step (by repeat (first | (with_reducible first | exact HB.out | apply bA | apply bN | apply bD | refine bS ?_ GE179.out | refine bS ?_ GE180.out | refine bS ?_ GE187.out | refine bS ?_ GE193.out) | exact HB.out)) hb); clear BK179; clear BK180; clear BK187; clear BK193; clear HB; have BK179 := n0_; have BK180 := n1_; have BK187 := n2_; have BK193 := n3_; have HB := n4_; clear n0_ n1_ n2_ n3_ n4_; (try clear hb); (try clear hb2); (try clear hk); (try clear hi)))
  by_cases c33 : t194.toList = ([] : List UInt8)
  ·rw [if_pos c33] at H
   have c33b0 : (t194.toList == ([] : List UInt8)) = true := beq_iff_eq.mpr c33
   have c33b1 : (t194.toList != ([] : List UInt8)) = false := bne_eq_false_iff_eq.mpr c33
   clear c33
   (first | rw [c33b0] | (simp only [i64_w, i32_w]; rw [c33b0]) | skip)
   obtain rfl := Option.some.inj H
   go_wp2
   go_ret
   exact ⟨by first | rfl | (simp [errW_none, errW_some] <;> rfl) | (simp [*, errW_none, errW_some] <;> rfl), by repeat (first | (with_reducible first | exact HB.out | apply bA | apply bN | apply bD | refine bS ?_ GE179.out | refine bS ?_ GE180.out | refine bS ?_ GE187.out | refine bS ?_ GE193.out) | exact HB.out)⟩
  ·rw [if_neg c33] at H
   have c33b0 : (t194.toList == ([] : List UInt8)) = false := beq_eq_false_iff_ne.mpr c33
   have c33b1 : (t194.toList != ([] : List UInt8)) = true := bne_iff_ne.mpr c33
   (first | rw [c33b0] | (simp only [i64_w, i32_w]; rw [c33b0]) | skip)
   by_cases c34 : t194.size + a2.size ≤ 9223372036854775807
   ·rw [if_pos c34] at H
    have c34b0 := eq_true c34
    have c34b1 : decide (t194.size + a2.size ≤ 9223372036854775807) = true := decide_eq_true c34
    try have c34b2 : (9223372036854775807 < t194.size + a2.size) = False := eq_false (Nat.not_lt.2 c34)
    replace H := Option.bind_eq_some_iff.mp H
    obtain ⟨⟨t198, t199, t200, t201, t202, t203, t204⟩, A350, H⟩ := H
    replace H : (if (t194.size : Int) = 0 then (none) else (if 0 ≤ (Int.tmod (wrap64 (a3)) (t194.size : Int)) then (if (Int.tmod (wrap64 (a3)) (t194.size : Int)) ≤ (t194.size : Int) then ((cmd_Read.f k (t194.extract 0 ((Int.tmod (wrap64 (a3)) (t194.size : Int)) : Int).toNat) false).bind fun bt207 => (if t195 = true then (if t197 = true then (if (t198 == t182 && (t199 == t183 && (t200 == t184 && (t201.toList == t185.toList && (t202.toList == t186.toList))))) = true then (if t203.toList = a2.toList then (if t204 = true then (some false) else (if bt207.2.2.2.2.2.2 = true then (some ((t194.toList == t196.toList) == (t182 == t188 && (t183 == t189 && (t184 == t190 && (t185.toList == t191.toList && (t186.toList == t192.toList))))))) else (some false))) else (some false)) else (some false)) else (some false)) else (some false))) else (none)) else (none))) = some r := H
    have A35 := aM A350
    clear A350
    by_cases c36 : (t194.size : Int) = 0
    ·rw [if_pos c36] at H
     exact absurd H (by simp)
    ·rw [if_neg c36] at H
     have c36b0 : ((t194.size : Int) == 0) = false := beq_eq_false_iff_ne.mpr c36
     have c36b1 : ((t194.size : Int) != 0) = true := bne_iff_ne.mpr c36
     obtain ⟨ji37, hji37⟩ : ∃ j_ : Int, (Int.tmod (wrap64 (a3)) (t194.size : Int)) = j_ := ⟨_, rfl⟩
     replace H : (if 0 ≤ (ji37) then (if (ji37) ≤ (t194.size : Int) then ((cmd_Read.f k (t194.extract 0 ((ji37) : Int).toNat) false).bind fun bt207 => (if t195 = true then (if t197 = true then (if (t198 == t182 && (t199 == t183 && (t200 == t184 && (t201.toList == t185.toList && (t202.toList == t186.toList))))) = true then (if t203.toList = a2.toList then (if t204 = true then (some false) else (if bt207.2.2.2.2.2.2 = true then (some ((t194.toList == t196.toList) == (t182 == t188 && (t183 == t189 && (t184 == t190 && (t185.toList == t191.toList && (t186.toList == t192.toList))))))) else (some false))) else (some false)) else (some false)) else (some false)) else (some false))) else (none)) else (none)) = some r := by first | (rw [hji37] at H; exact H) | (simp only [hji37] at H ⊢; exact H)
     (try rw [hji37] at A35)
     by_cases c38 : 0 ≤ (ji37)
     ·rw [if_pos c38] at H
      have c38b0 := eq_true c38
      have c38b1 : decide (0 ≤ (ji37)) = true := decide_eq_true c38
      clear c38
      by_cases c39 : (ji37) ≤ (t194.size : Int)
      ·rw [if_pos c39] at H
       have c39b0 := eq_true c39
       have c39b1 : decide ((ji37) ≤ (t194.size : Int)) = true := decide_eq_true c39
       clear c39
       replace H := Option.bind_eq_some_iff.mp H
       obtain ⟨⟨t207, t208, t209, t210, t211, t212, t213⟩, A400, H⟩ := H
       replace H : (if t195 = true then (if t197 = true then (if (t198 == t182 && (t199 == t183 && (t200 == t184 && (t201.toList == t185.toList && (t202.toList == t186.toList))))) = true then (if t203.toList = a2.toList then (if t204 = true then (some false) else (if t213 = true then (some ((t194.toList == t196.toList) == (t182 == t188 && (t183 == t189 && (t184 == t190 && (t185.toList == t191.toList && (t186.toList == t192.toList))))))) else (some false))) else (some false)) else (some false)) else (some false)) else (some false)) = some r := H
       have A40 := aM A400
       clear A400
       go_upto_region 14 with (first | ((with_reducible refine gate_callee (f := 21) rfl ?_); refine goesL_ (some 46) rfl rfl Tryd.func21 (by kernel_rfl) rfl #[.agg #[.string (t194 ++ a2), .bool false]] rfl (by (try simp only [List.map_toArray, List.map_cons, List.map_nil]); first | done | rfl | (simp only [List.length_drop, List.length_take]; rfl)) ?_; (with_reducible refine (cmd_Read.calls k (t194 ++ a2) false t198 t199 t200 t201 t202 t203 t204 _ A35.out).mono ?_); rintro e w41 ⟨rfl, hb⟩; refine ⟨_, rfl, ?_⟩; have n0_ := aM (kB (g := gb179) (o := .cells #[.int .i64 a0_0, .int .i64 a0_1, .int .u32 a0_2, .string a0_3, .string a0_4, .bool true] 26 (0, 0)) (by (with_reducible repeat (first | refine kN ?_ _ | refine kD ?_ | refine kA ?_ _)); exact BK179.out) hb); have n1_ := aM (kB (g := gb180) (o := .cells #[.int .i64 a1_0, .int .i64 a1_1, .int .u32 a1_2, .string a1_3, .string a1_4, .bool true] 26 (0, 0)) (by (with_reducible repeat (first | refine kN ?_ _ | refine kD ?_ | refine kA ?_ _)); exact BK180.out) hb); have n2_ := aM (kB (g := gb187) (o := .cells #[.int .i64 t182, .int .i64 t183, .int .u32 t184, .string t185, .string t186] 24 (0, 0)) (by (with_reducible repeat (first | refine kN ?_ _ | refine kD ?_ | refine kA ?_ _)); exact BK187.out) hb); have n3_ := aM (kB (g := gb193) (o := .cells #[.int .i64 t188, .int .i64 t189, .int .u32 t190, .string t191, .string t192] 24 (0, 0)) (by (with_reducible repeat (first | refine kN ?_ _ | refine kD ?_ | refine kA ?_ _)); exact BK193.out) hb); have n4_ := aM (below_step (by repeat (first | (with_reducible first | exact HB.out | apply bA | apply bN | apply bD | refine bS ?_ GE179.out | refine bS ?_ GE180.out | refine bS ?_ GE187.out | refine bS ?_ GE193.out) | exact HB.out)) hb); clear BK179; clear BK180; clear BK187; clear BK193; clear HB; have BK179 := n0_; have BK180 := n1_; have BK187 := n2_; have BK193 := n3_; have HB := n4_; clear n0_ n1_ n2_ n3_ n4_; (try clear hb); (try clear hb2); (try clear hk); (try clear hi)) | ((with_reducible refine gate_dst (N := 16) rfl ?_); refine box_event ?hg (N := 16) ?hd (cs := #[.int .i64 0, .int .i64 0, .int .u32 0, .string (⟨#[]⟩ : ByteArray), .string (⟨#[]⟩ : ByteArray)]) (t := 24) ?hr ?_; (case hd => rfl); (case hg => rfl); (case hr => first | (go_simp; done) | (go_simp; rfl) | (go_simp; simp only [IntKind.wrap_u8, IntKind.wrap_u32]; done) | (go_simp; simp only [IntKind.wrap_u8, IntKind.wrap_u32]; rfl)); intro gb205 hg w42 hbox hb; have n0_ := aM (kB (g := gb179) (o := .cells #[.int .i64 a0_0, .int .i64 a0_1, .int .u32 a0_2, .string a0_3, .string a0_4, .bool true] 26 (0, 0)) (by (with_reducible repeat (first | refine kN ?_ _ | refine kD ?_ | refine kA ?_ _)); exact BK179.out) hb); have n1_ := aM (kB (g := gb180) (o := .cells #[.int .i64 a1_0, .int .i64 a1_1, .int .u32 a1_2, .string a1_3, .string a1_4, .bool true] 26 (0, 0)) (by (with_reducible repeat (first | refine kN ?_ _ | refine kD ?_ | refine kA ?_ _)); exact BK180.out) hb); have n2_ := aM (kB (g := gb187) (o := .cells #[.int .i64 t182, .int .i64 t183, .int .u32 t184, .string t185, .string t186] 24 (0, 0)) (by (with_reducible repeat (first | refine kN ?_ _ | refine kD ?_ | refine kA ?_ _)); exact BK187.out) hb); have n3_ := aM (kB (g := gb193) (o := .cells #[.int .i64 t188, .int .i64 t189, .int .u32 t190, .string t191, .string t192] 24 (0, 0)) (by (with_reducible repeat (first | refine kN ?_ _ | refine kD ?_ | refine kA ?_ _)); exact BK193.out) hb); have n4_ := aM (below_step (by repeat (first | (with_reducible first | exact HB.out | apply bA | apply bN | apply bD | refine bS ?_ GE179.out | refine bS ?_ GE180.out | refine bS ?_ GE187.out | refine bS ?_ GE193.out) | exact HB.out)) hb); have n5_ := aM (hbox); have n6_ := aM ((by rw [hg]; exact (below_size (by repeat (first | (with_reducible first | exact HB.out | apply bA | apply bN | apply bD | refine bS ?_ GE179.out | refine bS ?_ GE180.out | refine bS ?_ GE187.out | refine bS ?_ GE193.out) | exact HB.out))) : w.heap.size ≤ gb205)); have n7_ := aM ((by rw [hg]; exact (below_size (by repeat (first | (with_reducible first | exact HB.out | apply bA | apply bN | apply bD | refine bS ?_ GE179.out | refine bS ?_ GE180.out | refine bS ?_ GE187.out | refine bS ?_ GE193.out) | exact HB.out))) : w.heap.size ≤ gb205)); have n8_ := aM ((by rw [hg]; exact Nat.ne_of_lt (blk_lt (g := gb179) (o := .cells #[.int .i64 a0_0, .int .i64 a0_1, .int .u32 a0_2, .string a0_3, .string a0_4, .bool true] 26 (0, 0)) (by (with_reducible repeat (first | refine kN ?_ _ | refine kD ?_ | refine kA ?_ _)); exact BK179.out)) : gb179 ≠ gb205)); have n9_ := aM ((by rw [hg]; exact Nat.ne_of_gt (blk_lt (g := gb179) (o := .cells #[.int .i64 a0_0, .int .i64 a0_1, .int .u32 a0_2, .string a0_3, .string a0_4, .bool true] 26 (0, 0)) (by (with_reducible repeat (first | refine kN ?_ _ | refine kD ?_ | refine kA ?_ _)); exact BK179.out)) : gb205 ≠ gb179)); have n10_ := aM ((by rw [hg]; exact Nat.ne_of_lt (blk_lt (g := gb180) (o := .cells #[.int .i64 a1_0, .int .i64 a1_1, .int .u32 a1_2, .string a1_3, .string a1_4, .bool true] 26 (0, 0)) (by (with_reducible repeat (first | refine kN ?_ _ | refine kD ?_ | refine kA ?_ _)); exact BK180.out)) : gb180 ≠ gb205)); have n11_ := aM ((by rw [hg]; exact Nat.ne_of_gt (blk_lt (g := gb180) (o := .cells #[.int .i64 a1_0, .int .i64 a1_1, .int .u32 a1_2, .string a1_3, .string a1_4, .bool true] 26 (0, 0)) (by (with_reducible repeat (first | refine kN ?_ _ | refine kD ?_ | refine kA ?_ _)); exact BK180.out)) : gb205 ≠ gb180)); have n12_ := aM ((by rw [hg]; exact Nat.ne_of_lt (blk_lt (g := gb187) (o := .cells #[.int .i64 t182, .int .i64 t183, .int .u32 t184, .string t185, .string t186] 24 (0, 0)) (by (with_reducible repeat (first | refine kN ?_ _ | refine kD ?_ | refine kA ?_ _)); exact BK187.out)) : gb187 ≠ gb205)); have n13_ := aM ((by rw [hg]; exact Nat.ne_of_gt (blk_lt (g := gb187) (o := .cells #[.int .i64 t182, .int .i64 t183, .int .u32 t184, .string t185, .string t186] 24 (0, 0)) (by (with_reducible repeat (first | refine kN ?_ _ | refine kD ?_ | refine kA ?_ _)); exact BK187.out)) : gb205 ≠ gb187)); have n14_ := aM ((by rw [hg]; exact Nat.ne_of_lt (blk_lt (g := gb193) (o := .cells #[.int .i64 t188, .int .i64 t189, .int .u32 t190, .string t191, .string t192] 24 (0, 0)) (by (with_reducible repeat (first | refine kN ?_ _ | refine kD ?_ | refine kA ?_ _)); exact BK193.out)) : gb193 ≠ gb205)); have n15_ := aM ((by rw [hg]; exact Nat.ne_of_gt (blk_lt (g := gb193) (o := .cells #[.int .i64 t188, .int .i64 t189, .int .u32 t190, .string t191, .string t192] 24 (0, 0)) (by (with_reducible repeat (first | refine kN ?_ _ | refine kD ?_ | refine kA ?_ _)); exact BK193.out)) : gb205 ≠ gb193)); clear BK179; clear BK180; clear BK187; clear BK193; clear HB; have BK179 := n0_; have BK180 := n1_; have BK187 := n2_; have BK193 := n3_; have HB := n4_; have BK205 := n5_; have GW205 := n6_; have GE205 := n7_; have NB179_205 := n8_; have NB205_179 := n9_; have NB180_205 := n10_; have NB205_180 := n11_; have NB187_205 := n12_; have NB205_187 := n13_; have NB193_205 := n14_; have NB205_193 := n15_; clear n0_ n1_ n2_ n3_ n4_ n5_ n6_ n7_ n8_ n9_ n10_ n11_ n12_ n13_ n14_ n15_; clear hb hbox hg) | ((with_reducible refine gate_dst (N := 17) rfl ?_); refine box_event ?hg (N := 17) ?hd (cs := #[.string (⟨#[]⟩ : ByteArray), .bool false]) (t := 43) ?hr ?_; (case hd => rfl); (case hg => rfl); (case hr => first | (go_simp; done) | (go_simp; rfl) | (go_simp; simp only [IntKind.wrap_u8, IntKind.wrap_u32]; done) | (go_simp; simp only [IntKind.wrap_u8, IntKind.wrap_u32]; rfl)); intro gb206 hg w43 hbox hb; have n0_ := aM (kB (g := gb179) (o := .cells #[.int .i64 a0_0, .int .i64 a0_1, .int .u32 a0_2, .string a0_3, .string a0_4, .bool true] 26 (0, 0)) (by (with_reducible repeat (first | refine kN ?_ _ | refine kD ?_ | refine kA ?_ _)); exact BK179.out) hb); have n1_ := aM (kB (g := gb180) (o := .cells #[.int .i64 a1_0, .int .i64 a1_1, .int .u32 a1_2, .string a1_3, .string a1_4, .bool true] 26 (0, 0)) (by (with_reducible repeat (first | refine kN ?_ _ | refine kD ?_ | refine kA ?_ _)); exact BK180.out) hb); have n2_ := aM (kB (g := gb187) (o := .cells #[.int .i64 t182, .int .i64 t183, .int .u32 t184, .string t185, .string t186] 24 (0, 0)) (by (with_reducible repeat (first | refine kN ?_ _ | refine kD ?_ | refine kA ?_ _)); exact BK187.out) hb); have n3_ := aM (kB (g := gb193) (o := .cells #[.int .i64 t188, .int .i64 t189, .int .u32 t190, .string t191, .string t192] 24 (0, 0)) (by (with_reducible repeat (first | refine kN ?_ _ | refine kD ?_ | refine kA ?_ _)); exact BK193.out) hb); have n4_ := aM (kB (g := gb205) (o := .cells #[.int .i64 0, .int .i64 0, .int .u32 0, .string (⟨#[]⟩ : ByteArray), .string (⟨#[]⟩ : ByteArray)] 24 (0, 0)) (by (with_reducible repeat (first | refine kN ?_ _ | refine kD ?_ | refine kA ?_ _)); exact BK205.out) hb); have n5_ := aM (below_step (by repeat (first | (with_reducible first | exact HB.out | apply bA | apply bN | apply bD | refine bS ?_ GE179.out | refine bS ?_ GE180.out | refine bS ?_ GE187.out | refine bS ?_ GE193.out | refine bS ?_ GE205.out) | exact HB.out)) hb); have n6_ := aM (hbox); have n7_ := aM ((by rw [hg]; exact (below_size (by repeat (first | (with_reducible first | exact HB.out | apply bA | apply bN | apply bD | refine bS ?_ GE179.out | refine bS ?_ GE180.out | refine bS ?_ GE187.out | refine bS ?_ GE193.out | refine bS ?_ GE205.out) | exact HB.out))) : w.heap.size ≤ gb206)); have n8_ := aM ((by rw [hg]; exact (below_size (by repeat (first | (with_reducible first | exact HB.out | apply bA | apply bN | apply bD | refine bS ?_ GE179.out | refine bS ?_ GE180.out | refine bS ?_ GE187.out | refine bS ?_ GE193.out | refine bS ?_ GE205.out) | exact HB.out))) : w.heap.size ≤ gb206)); have n9_ := aM ((by rw [hg]; exact Nat.ne_of_lt (blk_lt (g := gb179) (o := .cells #[.int .i64 a0_0, .int .i64 a0_1, .int .u32 a0_2, .string a0_3, .string a0_4, .bool true] 26 (0, 0)) (by (with_reducible repeat (first | refine kN ?_ _ | refine kD ?_ | refine kA ?_ _)); exact BK179.out)) : gb179 ≠ gb206)); have n10_ := aM ((by rw [hg]; exact Nat.ne_of_gt (blk_lt (g := gb179) (o := .cells #[.int .i64 a0_0, .int .i64 a0_1, .int .u32 a0_2, .string a0_3, .string a0_4, .bool true] 26 (0, 0)) (by (with_reducible repeat (first | refine kN ?_ _ | refine kD ?_ | refine kA ?_ _)); exact BK179.out)) : gb206 ≠ gb179)); have n11_ := aM ((by rw [hg]; exact Nat.ne_of_lt (blk_lt (g := gb180) (o := .cells #[.int .i64 a1_0, .int .i64 a1_1, .int .u32 a1_2, .string a1_3, .string a1_4, .bool true] 26 (0, 0)) (by (with_reducible repeat (first | refine kN ?_ _ | refine kD ?_ | refine kA ?_ _)); exact BK180.out)) : gb180 ≠ gb206)); have n12_ := aM ((by rw [hg]; exact Nat.ne_of_gt (blk_lt (g := gb180) (o := .cells #[.int .i64 a1_0, .int .i64 a1_1, .int .u32 a1_2, .string a1_3, .string a1_4, .bool true] 26 (0, 0)) (by (with_reducible repeat (first | refine kN ?_ _ | refine kD ?_ | refine kA ?_ _)); exact BK180.out)) : gb206 ≠ gb180)); have n13_ := aM ((by rw [hg]; exact Nat.ne_of_lt (blk_lt (g := gb187) (o := .cells #[.int .i64 t182, .int .i64 t183, .int .u32 t184, .string t185, .string t186] 24 (0, 0)) (by (with_reducible repeat (first | refine kN ?_ _ | refine kD ?_ | refine kA ?_ _)); exact BK187.out)) : gb187 ≠ gb206)); have n14_ := aM ((by rw [hg]; exact Nat.ne_of_gt (blk_lt (g := gb187) (o := .cells #[.int .i64 t182, .int .i64 t183, .int .u32 t184, .string t185, .string t186] 24 (0, 0)) (by (with_reducible repeat (first | refine kN ?_ _ | refine kD ?_ | refine kA ?_ _)); exact BK187.out)) : gb206 ≠ gb187)); have n15_ := aM ((by rw [hg]; exact Nat.ne_of_lt (blk_lt (g := gb193) (o := .cells #[.int .i64 t188, .int .i64 t189, .int .u32 t190, .string t191, .string t192] 24 (0, 0)) (by (with_reducible repeat (first | refine kN ?_ _ | refine kD ?_ | refine kA ?_ _)); exact BK193.out)) : gb193 ≠ gb206)); have n16_ := aM ((by rw [hg]; exact Nat.ne_of_gt (blk_lt (g := gb193) (o := .cells #[.int .i64 t188, .int .i64 t189, .int .u32 t190, .string t191, .string t192] 24 (0, 0)) (by (with_reducible repeat (first | refine kN ?_ _ | refine kD ?_ | refine kA ?_ _)); exact BK193.out)) : gb206 ≠ gb193)); have n17_ := aM ((by rw [hg]; exact Nat.ne_of_lt (blk_lt (g := gb205) (o := .cells #[.int .i64 0, .int .i64 0, .int .u32 0, .string (⟨#[]⟩ : ByteArray), .string (⟨#[]⟩ : ByteArray)] 24 (0, 0)) (by (with_reducible repeat (first | refine kN ?_ _ | refine kD ?_ | refine kA ?_ _)); exact BK205.out)) : gb205 ≠ gb206)); have n18_ := aM ((by rw [hg]; exact Nat.ne_of_gt (blk_lt (g := gb205) (o := .cells #[.int .i64 0, .int .i64 0, .int .u32 0, .string (⟨#[]⟩ : ByteArray), .string (⟨#[]⟩ : ByteArray)] 24 (0, 0)) (by (with_reducible repeat (first | refine kN ?_ _ | refine kD ?_ | refine kA ?_ _)); exact BK205.out)) : gb206 ≠ gb205)); clear BK179; clear BK180; clear BK187; clear BK193; clear BK205; clear HB; have BK179 := n0_; have BK180 := n1_; have BK187 := n2_; have BK193 := n3_; have BK205 := n4_; have HB := n5_; have BK206 := n6_; have GW206 := n7_; have GE206 := n8_; have NB179_206 := n9_; have NB206_179 := n10_; have NB180_206 := n11_; have NB206_180 := n12_; have NB187_206 := n13_; have NB206_187 := n14_; have NB193_206 := n15_; have NB206_193 := n16_; have NB205_206 := n17_; have NB206_205 := n18_; clear n0_ n1_ n2_ n3_ n4_ n5_ n6_ n7_ n8_ n9_ n10_ n11_ n12_ n13_ n14_ n15_ n16_ n17_ n18_; clear hb hbox hg; have hnb44 := NB205_179.out; have hnc44 := NB179_205.out; have hnb45 := NB205_180.out; have hnc45 := NB180_205.out; have hnb46 := NB205_187.out; have hnc46 := NB187_205.out; have hnb47 := NB205_193.out; have hnc47 := NB193_205.out; have hnb48 := NB205_206.out; have hnc48 := NB206_205.out; have hcz49_0 : w43.cell? ⟨gb205, 0, none⟩ = some (.int .i64 0) := (kC BK205.out 0).trans rfl; have hcz49_1 : w43.cell? ⟨gb205, 1, none⟩ = some (.int .i64 0) := (kC BK205.out 1).trans rfl; have hcz49_2 : w43.cell? ⟨gb205, 2, none⟩ = some (.int .u32 0) := (kC BK205.out 2).trans rfl; have hcz49_3 : w43.cell? ⟨gb205, 3, none⟩ = some (.string (⟨#[]⟩ : ByteArray)) := (kC BK205.out 3).trans rfl; have hcz49_4 : w43.cell? ⟨gb205, 4, none⟩ = some (.string (⟨#[]⟩ : ByteArray)) := (kC BK205.out 4).trans rfl; have hfz49_0 := kF BK205.out 0; have hfz49_1 := kF BK205.out 1; have hfz49_2 := kF BK205.out 2; have hfz49_3 := kF BK205.out 3; have hfz49_4 := kF BK205.out 4; have hnb50 := NB206_179.out; have hnc50 := NB179_206.out; have hnb51 := NB206_180.out; have hnc51 := NB180_206.out; have hnb52 := NB206_187.out; have hnc52 := NB187_206.out; have hnb53 := NB206_193.out; have hnc53 := NB193_206.out; have hcz54_0 : w43.cell? ⟨gb206, 0, none⟩ = some (.string (⟨#[]⟩ : ByteArray)) := (kC BK206.out 0).trans rfl; have hcz54_1 : w43.cell? ⟨gb206, 1, none⟩ = some (.bool false) := (kC BK206.out 1).trans rfl; have hfz54_0 := kF BK206.out 0; have hfz54_1 := kF BK206.out 1) | ((with_reducible refine gate_callee (f := 21) rfl ?_); refine goesL_ (some 58) rfl rfl Tryd.func21 (by kernel_rfl) rfl #[.agg #[.string (t194.extract 0 ((ji37) : Int).toNat), .bool false]] rfl (by (try simp only [List.map_toArray, List.map_cons, List.map_nil]); first | done | (simp only [hji37]; rfl) | rfl | (simp only [List.length_drop, List.length_take]; rfl)) ?_; (with_reducible refine (cmd_Read.calls k (t194.extract 0 ((ji37) : Int).toNat) false t207 t208 t209 t210 t211 t212 t213 _ A40.out).mono ?_); rintro e w55 ⟨rfl, hb⟩; refine ⟨_, rfl, ?_⟩; have n0_ := aM (kB (g := gb179) (o := .cells #[.int .i64 a0_0, .int .i64 a0_1, .int .u32 a0_2, .string a0_3, .string a0_4, .bool true] 26 (0, 0)) (by (with_reducible repeat (first | refine kN ?_ _ | refine kD ?_ | refine kA ?_ _)); refine kR ?_ NB179_206.out _; (with_reducible repeat (first | refine kN ?_ _ | refine kD ?_ | refine kA ?_ _)); refine kR ?_ NB179_206.out _; (with_reducible repeat (first | refine kN ?_ _ | refine kD ?_ | refine kA ?_ _)); refine kR ?_ NB179_205.out _; (with_reducible repeat (first | refine kN ?_ _ | refine kD ?_ | refine kA ?_ _)); refine kR ?_ NB179_205.out _; (with_reducible repeat (first | refine kN ?_ _ | refine kD ?_ | refine kA ?_ _)); refine kR ?_ NB179_205.out _; (with_reducible repeat (first | refine kN ?_ _ | refine kD ?_ | refine kA ?_ _)); refine kR ?_ NB179_205.out _; (with_reducible repeat (first | refine kN ?_ _ | refine kD ?_ | refine kA ?_ _)); refine kR ?_ NB179_205.out _; (with_reducible repeat (first | refine kN ?_ _ | refine kD ?_ | refine kA ?_ _)); exact BK179.out) hb); have n1_ := aM (kB (g := gb180) (o := .cells #[.int .i64 a1_0, .int .i64 a1_1, .int .u32 a1_2, .string a1_3, .string a1_4, .bool true] 26 (0, 0)) (by (with_reducible repeat (first | refine kN ?_ _ | refine kD ?_ | refine kA ?_ _)); refine kR ?_ NB180_206.out _; (with_reducible repeat (first | refine kN ?_ _ | refine kD ?_ | refine kA ?_ _)); refine kR ?_ NB180_206.out _; (with_reducible repeat (first | refine kN ?_ _ | refine kD ?_ | refine kA ?_ _)); refine kR ?_ NB180_205.out _; (with_reducible repeat (first | refine kN ?_ _ | refine kD ?_ | refine kA ?_ _)); refine kR ?_ NB180_205.out _; (with_reducible repeat (first | refine kN ?_ _ | refine kD ?_ | refine kA ?_ _)); refine kR ?_ NB180_205.out _; (with_reducible repeat (first | refine kN ?_ _ | refine kD ?_ | refine kA ?_ _)); refine kR ?_ NB180_205.out _; (with_reducible repeat (first | refine kN ?_ _ | refine kD ?_ | refine kA ?_ _)); refine kR ?_ NB180_205.out _; (with_reducible repeat (first | refine kN ?_ _ | refine kD ?_ | refine kA ?_ _)); exact BK180.out) hb); have n2_ := aM (kB (g := gb187) (o := .cells #[.int .i64 t182, .int .i64 t183, .int .u32 t184, .string t185, .string t186] 24 (0, 0)) (by (with_reducible repeat (first | refine kN ?_ _ | refine kD ?_ | refine kA ?_ _)); refine kR ?_ NB187_206.out _; (with_reducible repeat (first | refine kN ?_ _ | refine kD ?_ | refine kA ?_ _)); refine kR ?_ NB187_206.out _; (with_reducible repeat (first | refine kN ?_ _ | refine kD ?_ | refine kA ?_ _)); refine kR ?_ NB187_205.out _; (with_reducible repeat (first | refine kN ?_ _ | refine kD ?_ | refine kA ?_ _)); refine kR ?_ NB187_205.out _; (with_reducible repeat (first | refine kN ?_ _ | refine kD ?_ | refine kA ?_ _)); refine kR ?_ NB187_205.out _; (with_reducible repeat (first | refine kN ?_ _ | refine kD ?_ | refine kA ?_ _)); refine kR ?_ NB187_205.out _; (with_reducible repeat (first | refine kN ?_ _ | refine kD ?_ | refine kA ?_ _)); refine kR ?_ NB187_205.out _; (with_reducible repeat (first | refine kN ?_ _ | refine kD ?_ | refine kA ?_ _)); exact BK187.out) hb); have n3_ := aM (kB (g := gb193) (o := .cells #[.int .i64 t188, .int .i64 t189, .int .u32 t190, .string t191, .string t192] 24 (0, 0)) (by (with_reducible repeat (first | refine kN ?_ _ | refine kD ?_ | refine kA ?_ _)); refine kR ?_ NB193_206.out _; (with_reducible repeat (first | refine kN ?_ _ | refine kD ?_ | refine kA ?_ _)); refine kR ?_ NB193_206.out _; (with_reducible repeat (first | refine kN ?_ _ | refine kD ?_ | refine kA ?_ _)); refine kR ?_ NB193_205.out _; (with_reducible repeat (first | refine kN ?_ _ | refine kD ?_ | refine kA ?_ _)); refine kR ?_ NB193_205.out _; (with_reducible repeat (first | refine kN ?_ _ | refine kD ?_ | refine kA ?_ _)); refine kR ?_ NB193_205.out _; (with_reducible repeat (first | refine kN ?_ _ | refine kD ?_ | refine kA ?_ _)); refine kR ?_ NB193_205.out _; (with_reducible repeat (first | refine kN ?_ _ | refine kD ?_ | refine kA ?_ _)); refine kR ?_ NB193_205.out _; (with_reducible repeat (first | refine kN ?_ _ | refine kD ?_ | refine kA ?_ _)); exact BK193.out) hb); have n4_ := aM (kB (g := gb205) (o := .cells #[.int .i64 t198, .int .i64 t199, .int .u32 t200, .string t201, .string t202] 24 (0, 0)) (by (with_reducible repeat (first | refine kN ?_ _ | refine kD ?_ | refine kA ?_ _)); refine kR ?_ NB205_206.out _; (with_reducible repeat (first | refine kN ?_ _ | refine kD ?_ | refine kA ?_ _)); refine kR ?_ NB205_206.out _; (with_reducible repeat (first | refine kN ?_ _ | refine kD ?_ | refine kA ?_ _)); refine blk_put (cs := #[.int .i64 t198, .int .i64 t199, .int .u32 t200, .string t201, .string (⟨#[]⟩ : ByteArray)]) ?_ 4 _ rfl; (with_reducible repeat (first | refine kN ?_ _ | refine kD ?_ | refine kA ?_ _)); refine blk_put (cs := #[.int .i64 t198, .int .i64 t199, .int .u32 t200, .string (⟨#[]⟩ : ByteArray), .string (⟨#[]⟩ : ByteArray)]) ?_ 3 _ rfl; (with_reducible repeat (first | refine kN ?_ _ | refine kD ?_ | refine kA ?_ _)); refine blk_put (cs := #[.int .i64 t198, .int .i64 t199, .int .u32 0, .string (⟨#[]⟩ : ByteArray), .string (⟨#[]⟩ : ByteArray)]) ?_ 2 _ rfl; (with_reducible repeat (first | refine kN ?_ _ | refine kD ?_ | refine kA ?_ _)); refine blk_put (cs := #[.int .i64 t198, .int .i64 0, .int .u32 0, .string (⟨#[]⟩ : ByteArray), .string (⟨#[]⟩ : ByteArray)]) ?_ 1 _ rfl; (with_reducible repeat (first | refine kN ?_ _ | refine kD ?_ | refine kA ?_ _)); refine blk_put (cs := #[.int .i64 0, .int .i64 0, .int .u32 0, .string (⟨#[]⟩ : ByteArray), .string (⟨#[]⟩ : ByteArray)]) ?_ 0 _ rfl; (with_reducible repeat (first | refine kN ?_ _ | refine kD ?_ | refine kA ?_ _)); exact BK205.out) hb); have n5_ := aM (kB (g := gb206) (o := .cells #[.string t203, .bool t204] 43 (0, 0)) (by (with_reducible repeat (first | refine kN ?_ _ | refine kD ?_ | refine kA ?_ _)); refine blk_put (cs := #[.string t203, .bool false]) ?_ 1 _ rfl; (with_reducible repeat (first | refine kN ?_ _ | refine kD ?_ | refine kA ?_ _)); refine blk_put (cs := #[.string (⟨#[]⟩ : ByteArray), .bool false]) ?_ 0 _ rfl; (with_reducible repeat (first | refine kN ?_ _ | refine kD ?_ | refine kA ?_ _)); refine kR ?_ NB206_205.out _; (with_reducible repeat (first | refine kN ?_ _ | refine kD ?_ | refine kA ?_ _)); refine kR ?_ NB206_205.out _; (with_reducible repeat (first | refine kN ?_ _ | refine kD ?_ | refine kA ?_ _)); refine kR ?_ NB206_205.out _; (with_reducible repeat (first | refine kN ?_ _ | refine kD ?_ | refine kA ?_ _)); refine kR ?_ NB206_205.out _; (with_reducible repeat (first | refine kN ?_ _ | refine kD ?_ | refine kA ?_ _)); refine kR ?_ NB206_205.out _; (with_reducible repeat (first | refine kN ?_ _ | refine kD ?_ | refine kA ?_ _)); exact BK206.out) hb); have n6_ := aM (below_step (by repeat (first | (with_reducible first | exact HB.out | apply bA | apply bN | apply bD | refine bS ?_ GE179.out | refine bS ?_ GE180.out | refine bS ?_ GE187.out | refine bS ?_ GE193.out | refine bS ?_ GE205.out | refine bS ?_ GE206.out) | exact HB.out)) hb); clear BK179; clear BK180; clear BK187; clear BK193; clear BK205; clear BK206; clear HB; have BK179 := n0_; have BK180 := n1_; have BK187 := n2_; have BK193 := n3_; have BK205 := n4_; have BK206 := n5_; have HB := n6_; clear n0_ n1_ n2_ n3_ n4_ n5_ n6_; (try clear hb); (try clear hb2); (try clear hk); (try clear hi)) | ((with_reducible refine gate_dst (N := 18) rfl ?_); refine box_event ?hg (N := 18) ?hd (cs := #[.int .i64 0, .int .i64 0, .int .u32 0, .string (⟨#[]⟩ : ByteArray), .string (⟨#[]⟩ : ByteArray)]) (t := 24) ?hr ?_; (case hd => rfl); (case hg => rfl); (case hr => first | (go_simp; done) | (go_simp; rfl) | (go_simp; simp only [IntKind.wrap_u8, IntKind.wrap_u32]; done) | (go_simp; simp only [IntKind.wrap_u8, IntKind.wrap_u32]; rfl)); intro gb214 hg w56 hbox hb; have n0_ := aM (kB (g := gb179) (o := .cells #[.int .i64 a0_0, .int .i64 a0_1, .int .u32 a0_2, .string a0_3, .string a0_4, .bool true] 26 (0, 0)) (by (with_reducible repeat (first | refine kN ?_ _ | refine kD ?_ | refine kA ?_ _)); exact BK179.out) hb); have n1_ := aM (kB (g := gb180) (o := .cells #[.int .i64 a1_0, .int .i64 a1_1, .int .u32 a1_2, .string a1_3, .string a1_4, .bool true] 26 (0, 0)) (by (with_reducible repeat (first | refine kN ?_ _ | refine kD ?_ | refine kA ?_ _)); exact BK180.out) hb); have n2_ := aM (kB (g := gb187) (o := .cells #[.int .i64 t182, .int .i64 t183, .int .u32 t184, .string t185, .string t186] 24 (0, 0)) (by (with_reducible repeat (first | refine kN ?_ _ | refine kD ?_ | refine kA ?_ _)); exact BK187.out) hb); have n3_ := aM (kB (g := gb193) (o := .cells #[.int .i64 t188, .int .i64 t189, .int .u32 t190, .string t191, .string t192] 24 (0, 0)) (by (with_reducible repeat (first | refine kN ?_ _ | refine kD ?_ | refine kA ?_ _)); exact BK193.out) hb); have n4_ := aM (kB (g := gb205) (o := .cells #[.int .i64 t198, .int .i64 t199, .int .u32 t200, .string t201, .string t202] 24 (0, 0)) (by (with_reducible repeat (first | refine kN ?_ _ | refine kD ?_ | refine kA ?_ _)); exact BK205.out) hb); have n5_ := aM (kB (g := gb206) (o := .cells #[.string t203, .bool t204] 43 (0, 0)) (by (with_reducible repeat (first | refine kN ?_ _ | refine kD ?_ | refine kA ?_ _)); exact BK206.out) hb); have n6_ := aM (below_step (by repeat (first | (with_reducible first | exact HB.out | apply bA | apply bN | apply bD | refine bS ?_ GE179.out | refine bS ?_ GE180.out | refine bS ?_ GE187.out | refine bS ?_ GE193.out | refine bS ?_ GE205.out | refine bS ?_ GE206.out) | exact HB.out)) hb); have n7_ := aM (hbox); have n8_ := aM ((by rw [hg]; exact (below_size (by repeat (first | (with_reducible first | exact HB.out | apply bA | apply bN | apply bD | refine bS ?_ GE179.out | refine bS ?_ GE180.out | refine bS ?_ GE187.out | refine bS ?_ GE193.out | refine bS ?_ GE205.out | refine bS ?_ GE206.out) | exact HB.out))) : w.heap.size ≤ gb214)); have n9_ := aM ((by rw [hg]; exact (below_size (by repeat (first | (with_reducible first | exact HB.out | apply bA | apply bN | apply bD | refine bS ?_ GE179.out | refine bS ?_ GE180.out | refine bS ?_ GE187.out | refine bS ?_ GE193.out | refine bS ?_ GE205.out | refine bS ?_ GE206.out) | exact HB.out))) : w.heap.size ≤ gb214)); have n10_ := aM ((by rw [hg]; exact Nat.ne_of_lt (blk_lt (g := gb179) (o := .cells #[.int .i64 a0_0, .int .i64 a0_1, .int .u32 a0_2, .string a0_3, .string a0_4, .bool true] 26 (0, 0)) (by (with_reducible repeat (first | refine kN ?_ _ | refine kD ?_ | refine kA ?_ _)); exact BK179.out)) : gb179 ≠ gb214)); have n11_ := aM ((by rw [hg]; exact Nat.ne_of_gt (blk_lt (g := gb179) (o := .cells #[.int .i64 a0_0, .int .i64 a0_1, .int .u32 a0_2, .string a0_3, .string a0_4, .bool true] 26 (0, 0)) (by (with_reducible repeat (first | refine kN ?_ _ | refine kD ?_ | refine kA ?_ _)); exact BK179.out)) : gb214 ≠ gb179)); have n12_ := aM ((by rw [hg]; exact Nat.ne_of_lt (blk_lt (g := gb180) (o := .cells #[.int .i64 a1_0, .int .i64 a1_1, .int .u32 a1_2, .string a1_3, .string a1_4, .bool true] 26 (0, 0)) (by (with_reducible repeat (first | refine kN ?_ _ | refine kD ?_ | refine kA ?_ _)); exact BK180.out)) : gb180 ≠ gb214)); have n13_ := aM ((by rw [hg]; exact Nat.ne_of_gt (blk_lt (g := gb180) (o := .cells #[.int .i64 a1_0, .int .i64 a1_1, .int .u32 a1_2, .string a1_3, .string a1_4, .bool true] 26 (0, 0)) (by (with_reducible repeat (first | refine kN ?_ _ | refine kD ?_ | refine kA ?_ _)); exact BK180.out)) : gb214 ≠ gb180)); have n14_ := aM ((by rw [hg]; exact Nat.ne_of_lt (blk_lt (g := gb187) (o := .cells #[.int .i64 t182, .int .i64 t183, .int .u32 t184, .string t185, .string t186] 24 (0, 0)) (by (with_reducible repeat (first | refine kN ?_ _ | refine kD ?_ | refine kA ?_ _)); exact BK187.out)) : gb187 ≠ gb214)); have n15_ := aM ((by rw [hg]; exact Nat.ne_of_gt (blk_lt (g := gb187) (o := .cells #[.int .i64 t182, .int .i64 t183, .int .u32 t184, .string t185, .string t186] 24 (0, 0)) (by (with_reducible repeat (first | refine kN ?_ _ | refine kD ?_ | refine kA ?_ _)); exact BK187.out)) : gb214 ≠ gb187)); have n16_ := aM ((by rw [hg]; exact Nat.ne_of_lt (blk_lt (g := gb193) (o := .cells #[.int .i64 t188, .int .i64 t189, .int .u32 t190, .string t191, .string t192] 24 (0, 0)) (by (with_reducible repeat (first | refine kN ?_ _ | refine kD ?_ | refine kA ?_ _)); exact BK193.out)) : gb193 ≠ gb214)); have n17_ := aM ((by rw [hg]; exact Nat.ne_of_gt (blk_lt (g := gb193) (o := .cells #[.int .i64 t188, .int .i64 t189, .int .u32 t190, .string t191, .string t192] 24 (0, 0)) (by (with_reducible repeat (first | refine kN ?_ _ | refine kD ?_ | refine kA ?_ _)); exact BK193.out)) : gb214 ≠ gb193)); have n18_ := aM ((by rw [hg]; exact Nat.ne_of_lt (blk_lt (g := gb205) (o := .cells #[.int .i64 t198, .int .i64 t199, .int .u32 t200, .string t201, .string t202] 24 (0, 0)) (by (with_reducible repeat (first | refine kN ?_ _ | refine kD ?_ | refine kA ?_ _)); exact BK205.out)) : gb205 ≠ gb214)); have n19_ := aM ((by rw [hg]; exact Nat.ne_of_gt (blk_lt (g := gb205) (o := .cells #[.int .i64 t198, .int .i64 t199, .int .u32 t200, .string t201, .string t202] 24 (0, 0)) (by (with_reducible repeat (first | refine kN ?_ _ | refine kD ?_ | refine kA ?_ _)); exact BK205.out)) : gb214 ≠ gb205)); have n20_ := aM ((by rw [hg]; exact Nat.ne_of_lt (blk_lt (g := gb206) (o := .cells #[.string t203, .bool t204] 43 (0, 0)) (by (with_reducible repeat (first | refine kN ?_ _ | refine kD ?_ | refine kA ?_ _)); exact BK206.out)) : gb206 ≠ gb214)); have n21_ := aM ((by rw [hg]; exact Nat.ne_of_gt (blk_lt (g := gb206) (o := .cells #[.string t203, .bool t204] 43 (0, 0)) (by (with_reducible repeat (first | refine kN ?_ _ | refine kD ?_ | refine kA ?_ _)); exact BK206.out)) : gb214 ≠ gb206)); clear BK179; clear BK180; clear BK187; clear BK193; clear BK205; clear BK206; clear HB; have BK179 := n0_; have BK180 := n1_; have BK187 := n2_; have BK193 := n3_; have BK205 := n4_; have BK206 := n5_; have HB := n6_; have BK214 := n7_; have GW214 := n8_; have GE214 := n9_; have NB179_214 := n10_; have NB214_179 := n11_; have NB180_214 := n12_; have NB214_180 := n13_; have NB187_214 := n14_; have NB214_187 := n15_; have NB193_214 := n16_; have NB214_193 := n17_; have NB205_214 := n18_; have NB214_205 := n19_; have NB206_214 := n20_; have NB214_206 := n21_; clear n0_ n1_ n2_ n3_ n4_ n5_ n6_ n7_ n8_ n9_ n10_ n11_ n12_ n13_ n14_ n15_ n16_ n17_ n18_ n19_ n20_ n21_; clear hb hbox hg) | ((with_reducible refine gate_dst (N := 19) rfl ?_); refine box_event ?hg (N := 19) ?hd (cs := #[.string (⟨#[]⟩ : ByteArray), .bool false]) (t := 43) ?hr ?_; (case hd => rfl); (case hg => rfl); (case hr => first | (go_simp; done) | (go_simp; rfl) | (go_simp; simp only [IntKind.wrap_u8, IntKind.wrap_u32]; done) | (go_simp; simp only [IntKind.wrap_u8, IntKind.wrap_u32]; rfl)); intro gb215 hg w57 hbox hb; have n0_ := aM (kB (g := gb179) (o := .cells #[.int .i64 a0_0, .int .i64 a0_1, .int .u32 a0_2, .string a0_3, .string a0_4, .bool true] 26 (0, 0)) (by (with_reducible repeat (first | refine kN ?_ _ | refine kD ?_ | refine kA ?_ _)); exact BK179.out) hb); have n1_ := aM (kB (g := gb180) (o := .cells #[.int .i64 a1_0, .int .i64 a1_1, .int .u32 a1_2, .string a1_3, .string a1_4, .bool true] 26 (0, 0)) (by (with_reducible repeat (first | refine kN ?_ _ | refine kD ?_ | refine kA ?_ _)); exact BK180.out) hb); have n2_ := aM (kB (g := gb187) (o := .cells #[.int .i64 t182, .int .i64 t183, .int .u32 t184, .string t185, .string t186] 24 (0, 0)) (by (with_reducible repeat (first | refine kN ?_ _ | refine kD ?_ | refine kA ?_ _)); exact BK187.out) hb); have n3_ := aM (kB (g := gb193) (o := .cells #[.int .i64 t188, .int .i64 t189, .int .u32 t190, .string t191, .string t192] 24 (0, 0)) (by (with_reducible repeat (first | refine kN ?_ _ | refine kD ?_ | refine kA ?_ _)); exact BK193.out) hb); have n4_ := aM (kB (g := gb205) (o := .cells #[.int .i64 t198, .int .i64 t199, .int .u32 t200, .string t201, .string t202] 24 (0, 0)) (by (with_reducible repeat (first | refine kN ?_ _ | refine kD ?_ | refine kA ?_ _)); exact BK205.out) hb); have n5_ := aM (kB (g := gb206) (o := .cells #[.string t203, .bool t204] 43 (0, 0)) (by (with_reducible repeat (first | refine kN ?_ _ | refine kD ?_ | refine kA ?_ _)); exact BK206.out) hb); have n6_ := aM (kB (g := gb214) (o := .cells #[.int .i64 0, .int .i64 0, .int .u32 0, .string (⟨#[]⟩ : ByteArray), .string (⟨#[]⟩ : ByteArray)] 24 (0, 0)) (by (with_reducible repeat (first | refine kN ?_ _ | refine kD ?_ | refine kA ?_ _)); exact BK214.out) hb); have n7_ := aM (below_step (by repeat (first | (with_reducible first | exact HB.out | apply bA | apply bN | apply bD | refine bS ?_ GE179.out | refine bS ?_ GE180.out | refine bS ?_ GE187.out | refine bS ?_ GE193.out | refine bS ?_ GE205.out | refine bS ?_ GE206.out | refine bS ?_ GE214.out) | exact HB.out)) hb); have n8_ := aM (hbox); have n9_ := aM ((by rw [hg]; exact (below_size (by repeat (first | (with_reducible first | exact HB.out | apply bA | apply bN | apply bD | refine bS ?_ GE179.out | refine bS ?_ GE180.out | refine bS ?_ GE187.out | refine bS ?_ GE193.out | refine bS ?_ GE205.out | refine bS ?_ GE206.out | refine bS ?_ GE214.out) | exact HB.out))) : w.heap.size ≤ gb215)); have n10_ := aM ((by rw [hg]; exact (below_size (by repeat (first | (with_reducible first | exact HB.out | apply bA | apply bN | apply bD | refine bS ?_ GE179.out | refine bS ?_ GE180.out | refine bS ?_ GE187.out | refine bS ?_ GE193.out | refine bS ?_ GE205.out | refine bS ?_ GE206.out | refine bS ?_ GE214.out) | exact HB.out))) : w.heap.size ≤ gb215)); have n11_ := aM ((by rw [hg]; exact Nat.ne_of_lt (blk_lt (g := gb179) (o := .cells #[.int .i64 a0_0, .int .i64 a0_1, .int .u32 a0_2, .string a0_3, .string a0_4, .bool true] 26 (0, 0)) (by (with_reducible repeat (first | refine kN ?_ _ | refine kD ?_ | refine kA ?_ _)); exact BK179.out)) : gb179 ≠ gb215)); have n12_ := aM ((by rw [hg]; exact Nat.ne_of_gt (blk_lt (g := gb179) (o := .cells #[.int .i64 a0_0, .int .i64 a0_1, .int .u32 a0_2, .string a0_3, .string a0_4, .bool true] 26 (0, 0)) (by (with_reducible repeat (first | refine kN ?_ _ | refine kD ?_ | refine kA ?_ _)); exact BK179.out)) : gb215 ≠ gb179)); have n13_ := aM ((by rw [hg]; exact Nat.ne_of_lt (blk_lt (g := gb180) (o := .cells #[.int .i64 a1_0, .int .i64 a1_1, .int .u32 a1_2, .string a1_3, .string a1_4, .bool true] 26 (0, 0)) (by (with_reducible repeat (first | refine kN ?_ _ | refine kD ?_ | refine kA ?_ _)); exact BK180.out)) : gb180 ≠ gb215)); have n14_ := aM ((by rw [hg]; exact Nat.ne_of_gt (blk_lt (g := gb180) (o := .cells #[.int .i64 a1_0, .int .i64 a1_1, .int .u32 a1_2, .string a1_3, .string a1_4, .bool true] 26 (0, 0)) (by (with_reducible repeat (first | refine kN ?_ _ | refine kD ?_ | refine kA ?_ _)); exact BK180.out)) : gb215 ≠ gb180)); have n15_ := aM ((by rw [hg]; exact Nat.ne_of_lt (blk_lt (g := gb187) (o := .cells #[.int .i64 t182, .int .i64 t183, .int .u32 t184, .string t185, .string t186] 24 (0, 0)) (by (with_reducible repeat (first | refine kN ?_ _ | refine kD ?_ | refine kA ?_ _)); exact BK187.out)) : gb187 ≠ gb215)); have n16_ := aM ((by rw [hg]; exact Nat.ne_of_gt (blk_lt (g := gb187) (o := .cells #[.int .i64 t182, .int .i64 t183, .int .u32 t184, .string t185, .string t186] 24 (0, 0)) (by (with_reducible repeat (first | refine kN ?_ _ | refine kD ?_ | refine kA ?_ _)); exact BK187.out)) : gb215 ≠ gb187)); have n17_ := aM ((by rw [hg]; exact Nat.ne_of_lt (blk_lt (g := gb193) (o := .cells #[.int .i64 t188, .int .i64 t189, .int .u32 t190, .string t191, .string t192] 24 (0, 0)) (by (with_reducible repeat (first | refine kN ?_ _ | refine kD ?_ | refine kA ?_ _)); exact BK193.out)) : gb193 ≠ gb215)); have n18_ := aM ((by rw [hg]; exact Nat.ne_of_gt (blk_lt (g := gb193) (o := .cells #[.int .i64 t188, .int .i64 t189, .int .u32 t190, .string t191, .string t192] 24 (0, 0)) (by (with_reducible repeat (first | refine kN ?_ _ | refine kD ?_ | refine kA ?_ _)); exact BK193.out)) : gb215 ≠ gb193)); have n19_ := aM ((by rw [hg]; exact Nat.ne_of_lt (blk_lt (g := gb205) (o := .cells #[.int .i64 t198, .int .i64 t199, .int .u32 t200, .string t201, .string t202] 24 (0, 0)) (by (with_reducible repeat (first | refine kN ?_ _ | refine kD ?_ | refine kA ?_ _)); exact BK205.out)) : gb205 ≠ gb215)); have n20_ := aM ((by rw [hg]; exact Nat.ne_of_gt (blk_lt (g := gb205) (o := .cells #[.int .i64 t198, .int .i64 t199, .int .u32 t200, .string t201, .string t202] 24 (0, 0)) (by (with_reducible repeat (first | refine kN ?_ _ | refine kD ?_ | refine kA ?_ _)); exact BK205.out)) : gb215 ≠ gb205)); have n21_ := aM ((by rw [hg]; exact Nat.ne_of_lt (blk_lt (g := gb206) (o := .cells #[.string t203, .bool t204] 43 (0, 0)) (by (with_reducible repeat (first | refine kN ?_ _ | refine kD ?_ | refine kA ?_ _)); exact BK206.out)) : gb206 ≠ gb215)); have n22_ := aM ((by rw [hg]; exact Nat.ne_of_gt (blk_lt (g := gb206) (o := .cells #[.string t203, .bool t204] 43 (0, 0)) (by (with_reducible repeat (first | refine kN ?_ _ | refine kD ?_ | refine kA ?_ _)); exact BK206.out)) : gb215 ≠ gb206)); have n23_ := aM ((by rw [hg]; exact Nat.ne_of_lt (blk_lt (g := gb214) (o := .cells #[.int .i64 0, .int .i64 0, .int .u32 0, .string (⟨#[]⟩ : ByteArray), .string (⟨#[]⟩ : ByteArray)] 24 (0, 0)) (by (with_reducible repeat (first | refine kN ?_ _ | refine kD ?_ | refine kA ?_ _)); exact BK214.out)) : gb214 ≠ gb215)); have n24_ := aM ((by rw [hg]; exact Nat.ne_of_gt (blk_lt (g := gb214) (o := .cells #[.int .i64 0, .int .i64 0, .int .u32 0, .string (⟨#[]⟩ : ByteArray), .string (⟨#[]⟩ : ByteArray)] 24 (0, 0)) (by (with_reducible repeat (first | refine kN ?_ _ | refine kD ?_ | refine kA ?_ _)); exact BK214.out)) : gb215 ≠ gb214)); clear BK179; clear BK180; clear BK187; clear BK193; clear BK205; clear BK206; clear BK214; clear HB; have BK179 := n0_; have BK180 := n1_; have BK187 := n2_; have BK193 := n3_; have BK205 := n4_; have BK206 := n5_; have BK214 := n6_; have HB := n7_; have BK215 := n8_; have GW215 := n9_; have GE215 := n10_; have NB179_215 := n11_; have NB215_179 := n12_; have NB180_215 := n13_; have NB215_180 := n14_; have NB187_215 := n15_; have NB215_187 := n16_; have NB193_215 := n17_; have NB215_193 := n18_; have NB205_215 := n19_; have NB215_205 := n20_; have NB206_215 := n21_; have NB215_206 := n22_; have NB214_215 := n23_; have NB215_214 := n24_; clear n0_ n1_ n2_ n3_ n4_ n5_ n6_ n7_ n8_ n9_ n10_ n11_ n12_ n13_ n14_ n15_ n16_ n17_ n18_ n19_ n20_ n21_ n22_ n23_ n24_; clear hb hbox hg; have hnb58 := NB214_179.out; have hnc58 := NB179_214.out; have hnb59 := NB214_180.out; have hnc59 := NB180_214.out; have hnb60 := NB214_187.out; have hnc60 := NB187_214.out; have hnb61 := NB214_193.out; have hnc61 := NB193_214.out; have hnb62 := NB214_205.out; have hnc62 := NB205_214.out; have hnb63 := NB214_206.out; have hnc63 := NB206_214.out; have hnb64 := NB214_215.out; have hnc64 := NB215_214.out; have hcz65_0 : w57.cell? ⟨gb214, 0, none⟩ = some (.int .i64 0) := (kC BK214.out 0).trans rfl; have hcz65_1 : w57.cell? ⟨gb214, 1, none⟩ = some (.int .i64 0) := (kC BK214.out 1).trans rfl; have hcz65_2 : w57.cell? ⟨gb214, 2, none⟩ = some (.int .u32 0) := (kC BK214.out 2).trans rfl; have hcz65_3 : w57.cell? ⟨gb214, 3, none⟩ = some (.string (⟨#[]⟩ : ByteArray)) := (kC BK214.out 3).trans rfl; have hcz65_4 : w57.cell? ⟨gb214, 4, none⟩ = some (.string (⟨#[]⟩ : ByteArray)) := (kC BK214.out 4).trans rfl; have hfz65_0 := kF BK214.out 0; have hfz65_1 := kF BK214.out 1; have hfz65_2 := kF BK214.out 2; have hfz65_3 := kF BK214.out 3; have hfz65_4 := kF BK214.out 4; have hnb66 := NB215_179.out; have hnc66 := NB179_215.out; have hnb67 := NB215_180.out; have hnc67 := NB180_215.out; have hnb68 := NB215_187.out; have hnc68 := NB187_215.out; have hnb69 := NB215_193.out; have hnc69 := NB193_215.out; have hnb70 := NB215_205.out; have hnc70 := NB205_215.out; have hnb71 := NB215_206.out; have hnc71 := NB206_215.out; have hcz72_0 : w57.cell? ⟨gb215, 0, none⟩ = some (.string (⟨#[]⟩ : ByteArray)) := (kC BK215.out 0).trans rfl; have hcz72_1 : w57.cell? ⟨gb215, 1, none⟩ = some (.bool false) := (kC BK215.out 1).trans rfl; have hfz72_0 := kF BK215.out 0; have hfz72_1 := kF BK215.out 1))
       by_cases c73 : t195 = true
       ·subst c73
        have H1 : (if t197 = true then (if (t198 == t182 && (t199 == t183 && (t200 == t184 && (t201.toList == t185.toList && (t202.toList == t186.toList))))) = true then (if t203.toList = a2.toList then (if t204 = true then (some false) else (if t213 = true then (some ((t194.toList == t196.toList) == (t182 == t188 && (t183 == t189 && (t184 == t190 && (t185.toList == t191.toList && (t186.toList == t192.toList))))))) else (some false))) else (some false)) else (some false)) else (some false)) = some r := by rw [if_pos rfl] at H; exact H
        clear H
        have H := H1
        clear H1
        by_cases c74 : t197 = true
        ·subst c74
         have H1 : (if (t198 == t182 && (t199 == t183 && (t200 == t184 && (t201.toList == t185.toList && (t202.toList == t186.toList))))) = true then (if t203.toList = a2.toList then (if t204 = true then (some false) else (if t213 = true then (some ((t194.toList == t196.toList) == (t182 == t188 && (t183 == t189 && (t184 == t190 && (t185.toList == t191.toList && (t186.toList == t192.toList))))))) else (some false))) else (some false)) else (some false)) = some r := by rw [if_pos rfl] at H; exact H
         clear H
         have H := H1
         clear H1
         by_cases c75 : (t198 == t182 && (t199 == t183 && (t200 == t184 && (t201.toList == t185.toList && (t202.toList == t186.toList))))) = true
         ·rw [if_pos c75] at H
          have c75b0 : (t198 == t182 && (t199 == t183 && (t200 == t184 && (t201.toList == t185.toList && (t202.toList == t186.toList))))) = true := c75
          (try (have c75b1 : decide (t198 = t182 && (t199 == t183 && (t200 == t184 && (t201.toList == t185.toList && (t202.toList == t186.toList))))) = true := by simpa using c75))
          (try (have c75b2 : (t198 == t182 && (t199 == t183 && (t200 == t184 && (t201.toList == t185.toList && (t202.toList == t186.toList))))) = true := by simpa using c75))
          clear c75
          by_cases c76 : t203.toList = a2.toList
          ·rw [if_pos c76] at H
           have c76b0 : (t203.toList == a2.toList) = true := beq_iff_eq.mpr c76
           have c76b1 : (t203.toList != a2.toList) = false := bne_eq_false_iff_eq.mpr c76
           clear c76
           by_cases c77 : t204 = true
           ·subst c77
            have H1 : (some false) = some r := by rw [if_pos rfl] at H; exact H
            clear H
            have H := H1
            clear H1
            obtain rfl := Option.some.inj H
            have hnb78 := NB205_179.out
            have hnc78 := NB179_205.out
            have hnb79 := NB205_180.out
            have hnc79 := NB180_205.out
            have hnb80 := NB205_187.out
            have hnc80 := NB187_205.out
            have hnb81 := NB205_193.out
            have hnc81 := NB193_205.out
            have hnb82 := NB205_206.out
            have hnc82 := NB206_205.out
            have hnb83 := NB205_214.out
            have hnc83 := NB214_205.out
            have hnb84 := NB205_215.out
            have hnc84 := NB215_205.out
            have hcz85_0 : w57.cell? ⟨gb205, 0, none⟩ = some (.int .i64 t198) := (kC BK205.out 0).trans rfl
            have hcz85_1 : w57.cell? ⟨gb205, 1, none⟩ = some (.int .i64 t199) := (kC BK205.out 1).trans rfl
            have hcz85_2 : w57.cell? ⟨gb205, 2, none⟩ = some (.int .u32 t200) := (kC BK205.out 2).trans rfl
            have hcz85_3 : w57.cell? ⟨gb205, 3, none⟩ = some (.string t201) := (kC BK205.out 3).trans rfl
            have hcz85_4 : w57.cell? ⟨gb205, 4, none⟩ = some (.string t202) := (kC BK205.out 4).trans rfl
            have hfz85_0 := kF BK205.out 0
            have hfz85_1 := kF BK205.out 1
            have hfz85_2 := kF BK205.out 2
            have hfz85_3 := kF BK205.out 3
            have hfz85_4 := kF BK205.out 4
            have hnb86 := NB187_179.out
            have hnc86 := NB179_187.out
            have hnb87 := NB187_180.out
            have hnc87 := NB180_187.out
            have hnb88 := NB187_193.out
            have hnc88 := NB193_187.out
            have hnb89 := NB187_206.out
            have hnc89 := NB206_187.out
            have hnb90 := NB187_214.out
            have hnc90 := NB214_187.out
            have hnb91 := NB187_215.out
            have hnc91 := NB215_187.out
            have hcz92_0 : w57.cell? ⟨gb187, 0, none⟩ = some (.int .i64 t182) := (kC BK187.out 0).trans rfl
            have hcz92_1 : w57.cell? ⟨gb187, 1, none⟩ = some (.int .i64 t183) := (kC BK187.out 1).trans rfl
            have hcz92_2 : w57.cell? ⟨gb187, 2, none⟩ = some (.int .u32 t184) := (kC BK187.out 2).trans rfl
            have hcz92_3 : w57.cell? ⟨gb187, 3, none⟩ = some (.string t185) := (kC BK187.out 3).trans rfl
            have hcz92_4 : w57.cell? ⟨gb187, 4, none⟩ = some (.string t186) := (kC BK187.out 4).trans rfl
            have hfz92_0 := kF BK187.out 0
            have hfz92_1 := kF BK187.out 1
            have hfz92_2 := kF BK187.out 2
            have hfz92_3 := kF BK187.out 3
            have hfz92_4 := kF BK187.out 4
            have hnb93 := NB206_179.out
            have hnc93 := NB179_206.out
            have hnb94 := NB206_180.out
            have hnc94 := NB180_206.out
            have hnb95 := NB206_193.out
            have hnc95 := NB193_206.out
            have hnb96 := NB206_214.out
            have hnc96 := NB214_206.out
            have hnb97 := NB206_215.out
            have hnc97 := NB215_206.out
            have hcz98_0 : w57.cell? ⟨gb206, 0, none⟩ = some (.string t203) := (kC BK206.out 0).trans rfl
            have hcz98_1 : w57.cell? ⟨gb206, 1, none⟩ = some (.bool true) := (kC BK206.out 1).trans rfl
            have hfz98_0 := kF BK206.out 0
            have hfz98_1 := kF BK206.out 1
            go_wp2
            go_ret
            exact ⟨by first | rfl | (simp [errW_none, errW_some] <;> rfl) | (simp only [← hji37]; first | rfl | (simp [errW_none, errW_some] <;> rfl)) | (simp [*, errW_none, errW_some] <;> rfl), by repeat (first | (with_reducible first | exact HB.out | apply bA | apply bN | apply bD | refine bS ?_ GE179.out | refine bS ?_ GE180.out | refine bS ?_ GE187.out | refine bS ?_ GE193.out | refine bS ?_ GE205.out | refine bS ?_ GE206.out | refine bS ?_ GE214.out | refine bS ?_ GE215.out) | exact HB.out)⟩
           ·replace c77 := Bool.eq_false_iff.mpr c77
            subst c77
            have H1 : (if t213 = true then (some ((t194.toList == t196.toList) == (t182 == t188 && (t183 == t189 && (t184 == t190 && (t185.toList == t191.toList && (t186.toList == t192.toList))))))) else (some false)) = some r := by rw [if_neg (show ¬ (false = true) by decide)] at H; exact H
            clear H
            have H := H1
            clear H1
            by_cases c99 : t213 = true
            ·subst c99
             have H1 : (some ((t194.toList == t196.toList) == (t182 == t188 && (t183 == t189 && (t184 == t190 && (t185.toList == t191.toList && (t186.toList == t192.toList))))))) = some r := by rw [if_pos rfl] at H; exact H
             clear H
             have H := H1
             clear H1
             obtain rfl := Option.some.inj H
             have hnb100 := NB205_179.out
             have hnc100 := NB179_205.out
             have hnb101 := NB205_180.out
             have hnc101 := NB180_205.out
             have hnb102 := NB205_187.out
             have hnc102 := NB187_205.out
             have hnb103 := NB205_193.out
             have hnc103 := NB193_205.out
             have hnb104 := NB205_206.out
             have hnc104 := NB206_205.out
             have hnb105 := NB205_214.out
             have hnc105 := NB214_205.out
             have hnb106 := NB205_215.out
             have hnc106 := NB215_205.out
             have hcz107_0 : w57.cell? ⟨gb205, 0, none⟩ = some (.int .i64 t198) := (kC BK205.out 0).trans rfl
             have hcz107_1 : w57.cell? ⟨gb205, 1, none⟩ = some (.int .i64 t199) := (kC BK205.out 1).trans rfl
             have hcz107_2 : w57.cell? ⟨gb205, 2, none⟩ = some (.int .u32 t200) := (kC BK205.out 2).trans rfl
             have hcz107_3 : w57.cell? ⟨gb205, 3, none⟩ = some (.string t201) := (kC BK205.out 3).trans rfl
             have hcz107_4 : w57.cell? ⟨gb205, 4, none⟩ = some (.string t202) := (kC BK205.out 4).trans rfl
             have hfz107_0 := kF BK205.out 0
             have hfz107_1 := kF BK205.out 1
             have hfz107_2 := kF BK205.out 2
             have hfz107_3 := kF BK205.out 3
             have hfz107_4 := kF BK205.out 4
             have hnb108 := NB187_179.out
             have hnc108 := NB179_187.out
             have hnb109 := NB187_180.out
             have hnc109 := NB180_187.out
             have hnb110 := NB187_193.out
             have hnc110 := NB193_187.out
             have hnb111 := NB187_206.out
             have hnc111 := NB206_187.out
             have hnb112 := NB187_214.out
             have hnc112 := NB214_187.out
             have hnb113 := NB187_215.out
             have hnc113 := NB215_187.out
             have hcz114_0 : w57.cell? ⟨gb187, 0, none⟩ = some (.int .i64 t182) := (kC BK187.out 0).trans rfl
             have hcz114_1 : w57.cell? ⟨gb187, 1, none⟩ = some (.int .i64 t183) := (kC BK187.out 1).trans rfl
             have hcz114_2 : w57.cell? ⟨gb187, 2, none⟩ = some (.int .u32 t184) := (kC BK187.out 2).trans rfl
             have hcz114_3 : w57.cell? ⟨gb187, 3, none⟩ = some (.string t185) := (kC BK187.out 3).trans rfl
             have hcz114_4 : w57.cell? ⟨gb187, 4, none⟩ = some (.string t186) := (kC BK187.out 4).trans rfl
             have hfz114_0 := kF BK187.out 0
             have hfz114_1 := kF BK187.out 1
             have hfz114_2 := kF BK187.out 2
             have hfz114_3 := kF BK187.out 3
             have hfz114_4 := kF BK187.out 4
             have hnb115 := NB206_179.out
             have hnc115 := NB179_206.out
             have hnb116 := NB206_180.out
             have hnc116 := NB180_206.out
             have hnb117 := NB206_193.out
             have hnc117 := NB193_206.out
             have hnb118 := NB206_214.out
             have hnc118 := NB214_206.out
             have hnb119 := NB206_215.out
             have hnc119 := NB215_206.out
             have hcz120_0 : w57.cell? ⟨gb206, 0, none⟩ = some (.string t203) := (kC BK206.out 0).trans rfl
             have hcz120_1 : w57.cell? ⟨gb206, 1, none⟩ = some (.bool false) := (kC BK206.out 1).trans rfl
             have hfz120_0 := kF BK206.out 0
             have hfz120_1 := kF BK206.out 1
             have hnb121 := NB215_179.out
             have hnc121 := NB179_215.out
             have hnb122 := NB215_180.out
             have hnc122 := NB180_215.out
             have hnb123 := NB215_193.out
             have hnc123 := NB193_215.out
             have hnb124 := NB215_214.out
             have hnc124 := NB214_215.out
             have hcz125_0 : w57.cell? ⟨gb215, 0, none⟩ = some (.string (⟨#[]⟩ : ByteArray)) := (kC BK215.out 0).trans rfl
             have hcz125_1 : w57.cell? ⟨gb215, 1, none⟩ = some (.bool false) := (kC BK215.out 1).trans rfl
             have hfz125_0 := kF BK215.out 0
             have hfz125_1 := kF BK215.out 1
             have hnb126 := NB193_179.out
             have hnc126 := NB179_193.out
             have hnb127 := NB193_180.out
             have hnc127 := NB180_193.out
             have hnb128 := NB193_214.out
             have hnc128 := NB214_193.out
             have hcz129_0 : w57.cell? ⟨gb193, 0, none⟩ = some (.int .i64 t188) := (kC BK193.out 0).trans rfl
             have hcz129_1 : w57.cell? ⟨gb193, 1, none⟩ = some (.int .i64 t189) := (kC BK193.out 1).trans rfl
             have hcz129_2 : w57.cell? ⟨gb193, 2, none⟩ = some (.int .u32 t190) := (kC BK193.out 2).trans rfl
             have hcz129_3 : w57.cell? ⟨gb193, 3, none⟩ = some (.string t191) := (kC BK193.out 3).trans rfl
             have hcz129_4 : w57.cell? ⟨gb193, 4, none⟩ = some (.string t192) := (kC BK193.out 4).trans rfl
             have hfz129_0 := kF BK193.out 0
             have hfz129_1 := kF BK193.out 1
             have hfz129_2 := kF BK193.out 2
             have hfz129_3 := kF BK193.out 3
             have hfz129_4 := kF BK193.out 4
             go_wp2
             go_ret
             exact ⟨by first | rfl | (simp [errW_none, errW_some] <;> rfl) | (simp only [← hji37]; first | rfl | (simp [errW_none, errW_some] <;> rfl)) | (simp [*, errW_none, errW_some] <;> rfl), by repeat (first | (with_reducible first | exact HB.out | apply bA | apply bN | apply bD | refine bS ?_ GE179.out | refine bS ?_ GE180.out | refine bS ?_ GE187.out | refine bS ?_ GE193.out | refine bS ?_ GE205.out | refine bS ?_ GE206.out | refine bS ?_ GE214.out | refine bS ?_ GE215.out) | exact HB.out)⟩
            ·replace c99 := Bool.eq_false_iff.mpr c99
             subst c99
             have H1 : (some false) = some r := by rw [if_neg (show ¬ (false = true) by decide)] at H; exact H
             clear H
             have H := H1
             clear H1
             obtain rfl := Option.some.inj H
             have hnb130 := NB205_179.out
             have hnc130 := NB179_205.out
             have hnb131 := NB205_180.out
             have hnc131 := NB180_205.out
             have hnb132 := NB205_187.out
             have hnc132 := NB187_205.out
             have hnb133 := NB205_193.out
             have hnc133 := NB193_205.out
             have hnb134 := NB205_206.out
             have hnc134 := NB206_205.out
             have hnb135 := NB205_214.out
             have hnc135 := NB214_205.out
             have hnb136 := NB205_215.out
             have hnc136 := NB215_205.out
             have hcz137_0 : w57.cell? ⟨gb205, 0, none⟩ = some (.int .i64 t198) := (kC BK205.out 0).trans rfl
             have hcz137_1 : w57.cell? ⟨gb205, 1, none⟩ = some (.int .i64 t199) := (kC BK205.out 1).trans rfl
             have hcz137_2 : w57.cell? ⟨gb205, 2, none⟩ = some (.int .u32 t200) := (kC BK205.out 2).trans rfl
             have hcz137_3 : w57.cell? ⟨gb205, 3, none⟩ = some (.string t201) := (kC BK205.out 3).trans rfl
             have hcz137_4 : w57.cell? ⟨gb205, 4, none⟩ = some (.string t202) := (kC BK205.out 4).trans rfl
             have hfz137_0 := kF BK205.out 0
             have hfz137_1 := kF BK205.out 1
             have hfz137_2 := kF BK205.out 2
             have hfz137_3 := kF BK205.out 3
             have hfz137_4 := kF BK205.out 4
             have hnb138 := NB187_179.out
             have hnc138 := NB179_187.out
             have hnb139 := NB187_180.out
             have hnc139 := NB180_187.out
             have hnb140 := NB187_193.out
             have hnc140 := NB193_187.out
             have hnb141 := NB187_206.out
             have hnc141 := NB206_187.out
             have hnb142 := NB187_214.out
             have hnc142 := NB214_187.out
             have hnb143 := NB187_215.out
             have hnc143 := NB215_187.out
             have hcz144_0 : w57.cell? ⟨gb187, 0, none⟩ = some (.int .i64 t182) := (kC BK187.out 0).trans rfl
             have hcz144_1 : w57.cell? ⟨gb187, 1, none⟩ = some (.int .i64 t183) := (kC BK187.out 1).trans rfl
             have hcz144_2 : w57.cell? ⟨gb187, 2, none⟩ = some (.int .u32 t184) := (kC BK187.out 2).trans rfl
             have hcz144_3 : w57.cell? ⟨gb187, 3, none⟩ = some (.string t185) := (kC BK187.out 3).trans rfl
             have hcz144_4 : w57.cell? ⟨gb187, 4, none⟩ = some (.string t186) := (kC BK187.out 4).trans rfl
             have hfz144_0 := kF BK187.out 0
             have hfz144_1 := kF BK187.out 1
             have hfz144_2 := kF BK187.out 2
             have hfz144_3 := kF BK187.out 3
             have hfz144_4 := kF BK187.out 4
             have hnb145 := NB206_179.out
             have hnc145 := NB179_206.out
             have hnb146 := NB206_180.out
             have hnc146 := NB180_206.out
             have hnb147 := NB206_193.out
             have hnc147 := NB193_206.out
             have hnb148 := NB206_214.out
             have hnc148 := NB214_206.out
             have hnb149 := NB206_215.out
             have hnc149 := NB215_206.out
             have hcz150_0 : w57.cell? ⟨gb206, 0, none⟩ = some (.string t203) := (kC BK206.out 0).trans rfl
             have hcz150_1 : w57.cell? ⟨gb206, 1, none⟩ = some (.bool false) := (kC BK206.out 1).trans rfl
             have hfz150_0 := kF BK206.out 0
             have hfz150_1 := kF BK206.out 1
             have hnb151 := NB215_179.out
             have hnc151 := NB179_215.out
             have hnb152 := NB215_180.out
             have hnc152 := NB180_215.out
             have hnb153 := NB215_193.out
             have hnc153 := NB193_215.out
             have hnb154 := NB215_214.out
             have hnc154 := NB214_215.out
             have hcz155_0 : w57.cell? ⟨gb215, 0, none⟩ = some (.string (⟨#[]⟩ : ByteArray)) := (kC BK215.out 0).trans rfl
             have hcz155_1 : w57.cell? ⟨gb215, 1, none⟩ = some (.bool false) := (kC BK215.out 1).trans rfl
             have hfz155_0 := kF BK215.out 0
             have hfz155_1 := kF BK215.out 1
             go_wp2
             go_ret
             exact ⟨by first | rfl | (simp [errW_none, errW_some] <;> rfl) | (simp only [← hji37]; first | rfl | (simp [errW_none, errW_some] <;> rfl)) | (simp [*, errW_none, errW_some] <;> rfl), by repeat (first | (with_reducible first | exact HB.out | apply bA | apply bN | apply bD | refine bS ?_ GE179.out | refine bS ?_ GE180.out | refine bS ?_ GE187.out | refine bS ?_ GE193.out | refine bS ?_ GE205.out | refine bS ?_ GE206.out | refine bS ?_ GE214.out | refine bS ?_ GE215.out) | exact HB.out)⟩
          ·rw [if_neg c76] at H
           have c76b0 : (t203.toList == a2.toList) = false := beq_eq_false_iff_ne.mpr c76
           have c76b1 : (t203.toList != a2.toList) = true := bne_iff_ne.mpr c76
           obtain rfl := Option.some.inj H
           have hnb156 := NB205_179.out
           have hnc156 := NB179_205.out
           have hnb157 := NB205_180.out
           have hnc157 := NB180_205.out
           have hnb158 := NB205_187.out
           have hnc158 := NB187_205.out
           have hnb159 := NB205_193.out
           have hnc159 := NB193_205.out
           have hnb160 := NB205_206.out
           have hnc160 := NB206_205.out
           have hnb161 := NB205_214.out
           have hnc161 := NB214_205.out
           have hnb162 := NB205_215.out
           have hnc162 := NB215_205.out
           have hcz163_0 : w57.cell? ⟨gb205, 0, none⟩ = some (.int .i64 t198) := (kC BK205.out 0).trans rfl
           have hcz163_1 : w57.cell? ⟨gb205, 1, none⟩ = some (.int .i64 t199) := (kC BK205.out 1).trans rfl
           have hcz163_2 : w57.cell? ⟨gb205, 2, none⟩ = some (.int .u32 t200) := (kC BK205.out 2).trans rfl
           have hcz163_3 : w57.cell? ⟨gb205, 3, none⟩ = some (.string t201) := (kC BK205.out 3).trans rfl
           have hcz163_4 : w57.cell? ⟨gb205, 4, none⟩ = some (.string t202) := (kC BK205.out 4).trans rfl
           have hfz163_0 := kF BK205.out 0
           have hfz163_1 := kF BK205.out 1
           have hfz163_2 := kF BK205.out 2
           have hfz163_3 := kF BK205.out 3
           have hfz163_4 := kF BK205.out 4
           have hnb164 := NB187_179.out
           have hnc164 := NB179_187.out
           have hnb165 := NB187_180.out
           have hnc165 := NB180_187.out
           have hnb166 := NB187_193.out
           have hnc166 := NB193_187.out
           have hnb167 := NB187_206.out
           have hnc167 := NB206_187.out
           have hnb168 := NB187_214.out
           have hnc168 := NB214_187.out
           have hnb169 := NB187_215.out
           have hnc169 := NB215_187.out
           have hcz170_0 : w57.cell? ⟨gb187, 0, none⟩ = some (.int .i64 t182) := (kC BK187.out 0).trans rfl
           have hcz170_1 : w57.cell? ⟨gb187, 1, none⟩ = some (.int .i64 t183) := (kC BK187.out 1).trans rfl
           have hcz170_2 : w57.cell? ⟨gb187, 2, none⟩ = some (.int .u32 t184) := (kC BK187.out 2).trans rfl
           have hcz170_3 : w57.cell? ⟨gb187, 3, none⟩ = some (.string t185) := (kC BK187.out 3).trans rfl
           have hcz170_4 : w57.cell? ⟨gb187, 4, none⟩ = some (.string t186) := (kC BK187.out 4).trans rfl
           have hfz170_0 := kF BK187.out 0
           have hfz170_1 := kF BK187.out 1
           have hfz170_2 := kF BK187.out 2
           have hfz170_3 := kF BK187.out 3
           have hfz170_4 := kF BK187.out 4
           have hnb171 := NB206_179.out
           have hnc171 := NB179_206.out
           have hnb172 := NB206_180.out
           have hnc172 := NB180_206.out
           have hnb173 := NB206_193.out
           have hnc173 := NB193_206.out
           have hnb174 := NB206_214.out
           have hnc174 := NB214_206.out
           have hnb175 := NB206_215.out
           have hnc175 := NB215_206.out
           have hcz176_0 : w57.cell? ⟨gb206, 0, none⟩ = some (.string t203) := (kC BK206.out 0).trans rfl
           have hcz176_1 : w57.cell? ⟨gb206, 1, none⟩ = some (.bool t204) := (kC BK206.out 1).trans rfl
           have hfz176_0 := kF BK206.out 0
           have hfz176_1 := kF BK206.out 1
           go_wp2
           go_ret
           exact ⟨by first | rfl | (simp [errW_none, errW_some] <;> rfl) | (simp only [← hji37]; first | rfl | (simp [errW_none, errW_some] <;> rfl)) | (simp [*, errW_none, errW_some] <;> rfl), by repeat (first | (with_reducible first | exact HB.out | apply bA | apply bN | apply bD | refine bS ?_ GE179.out | refine bS ?_ GE180.out | refine bS ?_ GE187.out | refine bS ?_ GE193.out | refine bS ?_ GE205.out | refine bS ?_ GE206.out | refine bS ?_ GE214.out | refine bS ?_ GE215.out) | exact HB.out)⟩
         ·rw [if_neg c75] at H
          have c75b0 : (t198 == t182 && (t199 == t183 && (t200 == t184 && (t201.toList == t185.toList && (t202.toList == t186.toList))))) = false := by simpa using c75
          (try (have c75b1 : decide (t198 = t182 && (t199 == t183 && (t200 == t184 && (t201.toList == t185.toList && (t202.toList == t186.toList))))) = false := by simpa using c75))
          (try (have c75b2 : (t198 == t182 && (t199 == t183 && (t200 == t184 && (t201.toList == t185.toList && (t202.toList == t186.toList))))) = false := by simpa using c75))
          (try (have c75b3 : ¬ (t198 = t182 && (t199 == t183 && (t200 == t184 && (t201.toList == t185.toList && (t202.toList == t186.toList))))) := by simpa using c75))
          clear c75
          obtain rfl := Option.some.inj H
          have hnb177 := NB205_179.out
          have hnc177 := NB179_205.out
          have hnb178 := NB205_180.out
          have hnc178 := NB180_205.out
          have hnb179 := NB205_187.out
          have hnc179 := NB187_205.out
          have hnb180 := NB205_193.out
          have hnc180 := NB193_205.out
          have hnb181 := NB205_206.out
          have hnc181 := NB206_205.out
          have hnb182 := NB205_214.out
          have hnc182 := NB214_205.out
          have hnb183 := NB205_215.out
          have hnc183 := NB215_205.out
          have hcz184_0 : w57.cell? ⟨gb205, 0, none⟩ = some (.int .i64 t198) := (kC BK205.out 0).trans rfl
          have hcz184_1 : w57.cell? ⟨gb205, 1, none⟩ = some (.int .i64 t199) := (kC BK205.out 1).trans rfl
          have hcz184_2 : w57.cell? ⟨gb205, 2, none⟩ = some (.int .u32 t200) := (kC BK205.out 2).trans rfl
          have hcz184_3 : w57.cell? ⟨gb205, 3, none⟩ = some (.string t201) := (kC BK205.out 3).trans rfl
          have hcz184_4 : w57.cell? ⟨gb205, 4, none⟩ = some (.string t202) := (kC BK205.out 4).trans rfl
          have hfz184_0 := kF BK205.out 0
          have hfz184_1 := kF BK205.out 1
          have hfz184_2 := kF BK205.out 2
          have hfz184_3 := kF BK205.out 3
          have hfz184_4 := kF BK205.out 4
          have hnb185 := NB187_179.out
          have hnc185 := NB179_187.out
          have hnb186 := NB187_180.out
          have hnc186 := NB180_187.out
          have hnb187 := NB187_193.out
          have hnc187 := NB193_187.out
          have hnb188 := NB187_206.out
          have hnc188 := NB206_187.out
          have hnb189 := NB187_214.out
          have hnc189 := NB214_187.out
          have hnb190 := NB187_215.out
          have hnc190 := NB215_187.out
          have hcz191_0 : w57.cell? ⟨gb187, 0, none⟩ = some (.int .i64 t182) := (kC BK187.out 0).trans rfl
          have hcz191_1 : w57.cell? ⟨gb187, 1, none⟩ = some (.int .i64 t183) := (kC BK187.out 1).trans rfl
          have hcz191_2 : w57.cell? ⟨gb187, 2, none⟩ = some (.int .u32 t184) := (kC BK187.out 2).trans rfl
          have hcz191_3 : w57.cell? ⟨gb187, 3, none⟩ = some (.string t185) := (kC BK187.out 3).trans rfl
          have hcz191_4 : w57.cell? ⟨gb187, 4, none⟩ = some (.string t186) := (kC BK187.out 4).trans rfl
          have hfz191_0 := kF BK187.out 0
          have hfz191_1 := kF BK187.out 1
          have hfz191_2 := kF BK187.out 2
          have hfz191_3 := kF BK187.out 3
          have hfz191_4 := kF BK187.out 4
          go_wp2
          go_ret
          exact ⟨by first | rfl | (simp [errW_none, errW_some] <;> rfl) | (simp only [← hji37]; first | rfl | (simp [errW_none, errW_some] <;> rfl)) | (simp [*, errW_none, errW_some] <;> rfl), by repeat (first | (with_reducible first | exact HB.out | apply bA | apply bN | apply bD | refine bS ?_ GE179.out | refine bS ?_ GE180.out | refine bS ?_ GE187.out | refine bS ?_ GE193.out | refine bS ?_ GE205.out | refine bS ?_ GE206.out | refine bS ?_ GE214.out | refine bS ?_ GE215.out) | exact HB.out)⟩
        ·replace c74 := Bool.eq_false_iff.mpr c74
         subst c74
         have H1 : (some false) = some r := by rw [if_neg (show ¬ (false = true) by decide)] at H; exact H
         clear H
         have H := H1
         clear H1
         obtain rfl := Option.some.inj H
         go_wp2
         go_ret
         exact ⟨by first | rfl | (simp [errW_none, errW_some] <;> rfl) | (simp only [← hji37]; first | rfl | (simp [errW_none, errW_some] <;> rfl)) | (simp [*, errW_none, errW_some] <;> rfl), by repeat (first | (with_reducible first | exact HB.out | apply bA | apply bN | apply bD | refine bS ?_ GE179.out | refine bS ?_ GE180.out | refine bS ?_ GE187.out | refine bS ?_ GE193.out | refine bS ?_ GE205.out | refine bS ?_ GE206.out | refine bS ?_ GE214.out | refine bS ?_ GE215.out) | exact HB.out)⟩
       ·replace c73 := Bool.eq_false_iff.mpr c73
        subst c73
        have H1 : (some false) = some r := by rw [if_neg (show ¬ (false = true) by decide)] at H; exact H
        clear H
        have H := H1
        clear H1
        obtain rfl := Option.some.inj H
        go_wp2
        go_ret
        exact ⟨by first | rfl | (simp [errW_none, errW_some] <;> rfl) | (simp only [← hji37]; first | rfl | (simp [errW_none, errW_some] <;> rfl)) | (simp [*, errW_none, errW_some] <;> rfl), by repeat (first | (with_reducible first | exact HB.out | apply bA | apply bN | apply bD | refine bS ?_ GE179.out | refine bS ?_ GE180.out | refine bS ?_ GE187.out | refine bS ?_ GE193.out | refine bS ?_ GE205.out | refine bS ?_ GE206.out | refine bS ?_ GE214.out | refine bS ?_ GE215.out) | exact HB.out)⟩
      ·rw [if_neg c39] at H
       exact absurd H (by simp)
     ·rw [if_neg c38] at H
      exact absurd H (by simp)
   ·rw [if_neg c34] at H
    exact absurd H (by simp)
 ·replace c9 := Bool.eq_false_iff.mpr c9
  subst c9
  have H1 : (some false) = some r := by rw [if_neg (show ¬ (false = true) by decide)] at H; exact H
  clear H
  have H := H1
  clear H1
  obtain rfl := Option.some.inj H
  go_wp2
  go_ret
  exact ⟨by first | rfl | (simp [errW_none, errW_some] <;> rfl) | (simp [*, errW_none, errW_some] <;> rfl), by repeat (first | (with_reducible first | exact HB.out | apply bA | apply bN | apply bD | refine bS ?_ GE179.out | refine bS ?_ GE180.out) | exact HB.out)⟩

/-- What is known of such a value that comes in. -/
def GoodS24 (x : S24) : Prop := (Lit.int .i64 x.f0).wf = true ∧ (Lit.int .i64 x.f1).wf = true ∧ (Lit.int .u32 x.f2).wf = true ∧ x.f3.size ≤ 140737488351232 ∧ x.f4.size ≤ 140737488351232
/-- What is known of such a value that comes in. -/
def GoodS26 (x : S26) : Prop := GoodS24 x.f0 ∧ True
/-- THE ONE PURE STATEMENT of comitialaw07_CmdBack. -/
def comitialaw07_CmdBack.Pure : Prop := ∀ (a0_0 : Int) (a0_1 : Int) (a0_2 : Int) (a0_3 : ByteArray) (a0_4 : ByteArray) (a0_5 : Bool) (a1_0 : Int) (a1_1 : Int) (a1_2 : Int) (a1_3 : ByteArray) (a1_4 : ByteArray) (a1_5 : Bool) (a2 : ByteArray) (a3 : Int), (Lit.int .i64 a0_0).wf = true → (Lit.int .i64 a0_1).wf = true → (Lit.int .u32 a0_2).wf = true → a0_3.size ≤ 140737488351232 → a0_4.size ≤ 140737488351232 → (Lit.int .i64 a1_0).wf = true → (Lit.int .i64 a1_1).wf = true → (Lit.int .u32 a1_2).wf = true → a1_3.size ≤ 140737488351232 → a1_4.size ≤ 140737488351232 → a2.size ≤ 140737488351232 → (Lit.int .u8 a3).wf = true → ∃ k, comitialaw07_CmdBack.f k a0_0 a0_1 a0_2 a0_3 a0_4 a0_5 a1_0 a1_1 a1_2 a1_3 a1_4 a1_5 a2 a3 = some true

end Go.Proofs.YtlljdocflfpnkaaDoor.PCmdBack
