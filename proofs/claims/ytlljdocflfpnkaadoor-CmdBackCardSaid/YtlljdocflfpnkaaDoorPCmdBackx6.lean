-- Written by a program of this session (wip/tools), over the kit's printed words: functions as plain Lean, and that the code answers so.
import Derived.Test.YtlljdocflfpnkaaDoorShort
import Derived.Test.YtlljdocflfpnkaaDoorPCmdBackx0
import Derived.Test.YtlljdocflfpnkaaDoorPCmdBackx2
import Derived.Test.YtlljdocflfpnkaaDoorPCmdBackx5
namespace Go.Proofs.YtlljdocflfpnkaaDoor.PCmdBack
open Go.Proofs.YtlljdocflfpnkaaDoor.Short Go.RowKit Go.Proofs.YtlljdocflfpnkaaDoorW.PrintWords Go.Proofs.YtlljdocflfpnkaaDoorW.PrintLast Go.Proofs.YtlljdocflfpnkaaDoorW.PrintMore
attribute [local go_sem] max2_int min2_int max_two min_two max_three min_three max_four min_four Goto.sig_u8 Goto.sig_u16 Goto.sig_u32 Goto.sig_u64 Goto.top_u8 Goto.top_u16 Goto.top_u32 Goto.top_u64   -- for this text's walks alone
set_option linter.unusedVariables false
set_option linter.unusedSimpArgs false

/-! ### cmd_Read: function 21 -/
def cmd_Read.j0 : Nat → Bool → ByteArray → Bool → Int → Int → Int → ByteArray → ByteArray → Option (Int × Int × Int × ByteArray × ByteArray × ByteArray × Bool)
  | 0, _, _, _, _, _, _, _, _ => none
  | k + 1, x49, x134000, x134001, x135000, x135001, x135002, x135003, x135004 => if x49 = true then (some (0, 0, 0, (⟨#[]⟩ : ByteArray), (⟨#[]⟩ : ByteArray), (⟨#[]⟩ : ByteArray), true)) else (some (x135000, x135001, x135002, x135003, x135004, x134000, x134001))
def cmd_Read.f (k : Nat) (a0_0 : ByteArray) (a0_1 : Bool) : Option (Int × Int × Int × ByteArray × ByteArray × ByteArray × Bool) := (pack_Reader_Number.f k a0_0 a0_1 1).bind fun bt136 => ((pack_Reader_Number.f k bt136.2.1 bt136.2.2 1).bind fun bt139 => ((pack_Reader_Number.f k bt139.2.1 bt139.2.2 4).bind fun bt142 => ((pack_Reader_Text.f k bt142.2.1 bt142.2.2).bind fun bt145 => ((pack_Reader_Text.f k bt145.2.1 bt145.2.2).bind fun bt148 => (if bt148.2.2 = true then (cmd_Read.j0 k true bt148.2.1 bt148.2.2 (wrap64 (bt136.1)) (wrap64 (bt139.1)) ((bt142.1) % 4294967296) bt145.1 bt148.1) else ((cmd_Right.f k (wrap64 (bt136.1)) (wrap64 (bt139.1)) ((bt142.1) % 4294967296) bt145.1 bt148.1).bind fun t151 => (cmd_Read.j0 k (!t151) bt148.2.1 bt148.2.2 (wrap64 (bt136.1)) (wrap64 (bt139.1)) ((bt142.1) % 4294967296) bt145.1 bt148.1)))))))
theorem cmd_Read.mono_l : ∀ k, (∀ y0 y1 y2 y3 y4 y5 y6 y7, LeO (cmd_Read.j0 k y0 y1 y2 y3 y4 y5 y6 y7) (cmd_Read.j0 (k + 1) y0 y1 y2 y3 y4 y5 y6 y7))
  | 0 => fun _ _ _ _ _ _ _ _ r h => by simp [cmd_Read.j0] at h
  | k + 1 => by
    have ih0 := cmd_Read.mono_l k
    · intro y0 y1 y2 y3 y4 y5 y6 y7
      unfold cmd_Read.j0
      repeat' first
      | (with_reducible exact ih0 _ _ _ _ _ _ _ _)
      | (with_reducible exact cmd_Right.mono _ _ _ _ _ _)
      | (with_reducible exact pack_Reader_Number.mono _ _ _ _)
      | (with_reducible exact pack_Reader_Text.mono _ _ _)
      | (with_reducible exact LeO.refl _)
      | (with_reducible exact LeO.none _)
      | (with_reducible refine LeO.ite ?_ ?_)
      | (with_reducible refine LeO.bind ?_ (fun _ => ?_))
      | exact ih0 _ _ _ _ _ _ _ _
      | exact cmd_Right.mono _ _ _ _ _ _
      | exact pack_Reader_Number.mono _ _ _ _
      | exact pack_Reader_Text.mono _ _ _
      | exact LeO.none _
      | refine LeO.ite ?_ ?_
      | refine LeO.bind ?_ (fun _ => ?_)
theorem cmd_Read.mono : ∀ a0 a1 k, LeO (cmd_Read.f k a0 a1) (cmd_Read.f (k + 1) a0 a1) := by
  intro a0 a1 k
  have ih0 := cmd_Read.mono_l k
  unfold cmd_Read.f
  repeat' first
      | (with_reducible exact ih0 _ _ _ _ _ _ _ _)
      | (with_reducible exact cmd_Right.mono _ _ _ _ _ _)
      | (with_reducible exact pack_Reader_Number.mono _ _ _ _)
      | (with_reducible exact pack_Reader_Text.mono _ _ _)
      | (with_reducible exact LeO.refl _)
      | (with_reducible exact LeO.none _)
      | (with_reducible refine LeO.ite ?_ ?_)
      | (with_reducible refine LeO.bind ?_ (fun _ => ?_))
      | exact ih0 _ _ _ _ _ _ _ _
      | exact cmd_Right.mono _ _ _ _ _ _
      | exact pack_Reader_Number.mono _ _ _ _
      | exact pack_Reader_Text.mono _ _ _
      | exact LeO.none _
      | refine LeO.ite ?_ ?_
      | refine LeO.bind ?_ (fun _ => ?_)
set_option maxHeartbeats 8000000 in
set_option maxRecDepth 100000 in
theorem cmd_Read.calls (k : Nat) (a0_0 : ByteArray) (a0_1 : Bool) (r1 : Int) (r2 : Int) (r3 : Int) (r4 : ByteArray) (r5 : ByteArray) (r6 : ByteArray) (r7 : Bool) (w : World) (h : cmd_Read.f k a0_0 a0_1 = some (r1, r2, r3, r4, r5, r6, r7)) :
    Calls Tryd.prog 21 #[.agg #[.string a0_0, .bool a0_1]] w fun e w' => e = .returned (.tuple #[.agg #[.int .i64 r1, .int .i64 r2, .int .u32 r3, .string r4, .string r5], .agg #[.string r6, .bool r7]]) ∧ Below w.heap.size w w' := by
 have hu43 := Tryd.underlying43
 have hu24 := Tryd.underlying24
 have HB := aM (Below.refl w.heap.size w)
 have H : ((pack_Reader_Number.f k a0_0 a0_1 1).bind fun bt136 => ((pack_Reader_Number.f k bt136.2.1 bt136.2.2 1).bind fun bt139 => ((pack_Reader_Number.f k bt139.2.1 bt139.2.2 4).bind fun bt142 => ((pack_Reader_Text.f k bt142.2.1 bt142.2.2).bind fun bt145 => ((pack_Reader_Text.f k bt145.2.1 bt145.2.2).bind fun bt148 => (if bt148.2.2 = true then (cmd_Read.j0 k true bt148.2.1 bt148.2.2 (wrap64 (bt136.1)) (wrap64 (bt139.1)) ((bt142.1) % 4294967296) bt145.1 bt148.1) else ((cmd_Right.f k (wrap64 (bt136.1)) (wrap64 (bt139.1)) ((bt142.1) % 4294967296) bt145.1 bt148.1).bind fun t151 => (cmd_Read.j0 k (!t151) bt148.2.1 bt148.2.2 (wrap64 (bt136.1)) (wrap64 (bt139.1)) ((bt142.1) % 4294967296) bt145.1 bt148.1)))))))) = some (r1, r2, r3, r4, r5, r6, r7) := h
 clear h
 replace H := Option.bind_eq_some_iff.mp H
 obtain ⟨⟨t136, t137, t138⟩, A20, H⟩ := H
 replace H : ((pack_Reader_Number.f k t137 t138 1).bind fun bt139 => ((pack_Reader_Number.f k bt139.2.1 bt139.2.2 4).bind fun bt142 => ((pack_Reader_Text.f k bt142.2.1 bt142.2.2).bind fun bt145 => ((pack_Reader_Text.f k bt145.2.1 bt145.2.2).bind fun bt148 => (if bt148.2.2 = true then (cmd_Read.j0 k true bt148.2.1 bt148.2.2 (wrap64 (t136)) (wrap64 (bt139.1)) ((bt142.1) % 4294967296) bt145.1 bt148.1) else ((cmd_Right.f k (wrap64 (t136)) (wrap64 (bt139.1)) ((bt142.1) % 4294967296) bt145.1 bt148.1).bind fun t151 => (cmd_Read.j0 k (!t151) bt148.2.1 bt148.2.2 (wrap64 (t136)) (wrap64 (bt139.1)) ((bt142.1) % 4294967296) bt145.1 bt148.1))))))) = some (r1, r2, r3, r4, r5, r6, r7) := H
 have A2 := aM A20
 clear A20
 replace H := Option.bind_eq_some_iff.mp H
 obtain ⟨⟨t139, t140, t141⟩, A30, H⟩ := H
 replace H : ((pack_Reader_Number.f k t140 t141 4).bind fun bt142 => ((pack_Reader_Text.f k bt142.2.1 bt142.2.2).bind fun bt145 => ((pack_Reader_Text.f k bt145.2.1 bt145.2.2).bind fun bt148 => (if bt148.2.2 = true then (cmd_Read.j0 k true bt148.2.1 bt148.2.2 (wrap64 (t136)) (wrap64 (t139)) ((bt142.1) % 4294967296) bt145.1 bt148.1) else ((cmd_Right.f k (wrap64 (t136)) (wrap64 (t139)) ((bt142.1) % 4294967296) bt145.1 bt148.1).bind fun t151 => (cmd_Read.j0 k (!t151) bt148.2.1 bt148.2.2 (wrap64 (t136)) (wrap64 (t139)) ((bt142.1) % 4294967296) bt145.1 bt148.1)))))) = some (r1, r2, r3, r4, r5, r6, r7) := H
 have A3 := aM A30
 clear A30
 replace H := Option.bind_eq_some_iff.mp H
 obtain ⟨⟨t142, t143, t144⟩, A40, H⟩ := H
 replace H : ((pack_Reader_Text.f k t143 t144).bind fun bt145 => ((pack_Reader_Text.f k bt145.2.1 bt145.2.2).bind fun bt148 => (if bt148.2.2 = true then (cmd_Read.j0 k true bt148.2.1 bt148.2.2 (wrap64 (t136)) (wrap64 (t139)) ((t142) % 4294967296) bt145.1 bt148.1) else ((cmd_Right.f k (wrap64 (t136)) (wrap64 (t139)) ((t142) % 4294967296) bt145.1 bt148.1).bind fun t151 => (cmd_Read.j0 k (!t151) bt148.2.1 bt148.2.2 (wrap64 (t136)) (wrap64 (t139)) ((t142) % 4294967296) bt145.1 bt148.1))))) = some (r1, r2, r3, r4, r5, r6, r7) := H
 have A4 := aM A40
 clear A40
 replace H := Option.bind_eq_some_iff.mp H
 obtain ⟨⟨t145, t146, t147⟩, A50, H⟩ := H
 replace H : ((pack_Reader_Text.f k t146 t147).bind fun bt148 => (if bt148.2.2 = true then (cmd_Read.j0 k true bt148.2.1 bt148.2.2 (wrap64 (t136)) (wrap64 (t139)) ((t142) % 4294967296) t145 bt148.1) else ((cmd_Right.f k (wrap64 (t136)) (wrap64 (t139)) ((t142) % 4294967296) t145 bt148.1).bind fun t151 => (cmd_Read.j0 k (!t151) bt148.2.1 bt148.2.2 (wrap64 (t136)) (wrap64 (t139)) ((t142) % 4294967296) t145 bt148.1)))) = some (r1, r2, r3, r4, r5, r6, r7) := H
 have A5 := aM A50
 clear A50
 replace H := Option.bind_eq_some_iff.mp H
 obtain ⟨⟨t148, t149, t150⟩, A60, H⟩ := H
 replace H : (if t150 = true then (cmd_Read.j0 k true t149 t150 (wrap64 (t136)) (wrap64 (t139)) ((t142) % 4294967296) t145 t148) else ((cmd_Right.f k (wrap64 (t136)) (wrap64 (t139)) ((t142) % 4294967296) t145 t148).bind fun t151 => (cmd_Read.j0 k (!t151) t149 t150 (wrap64 (t136)) (wrap64 (t139)) ((t142) % 4294967296) t145 t148))) = some (r1, r2, r3, r4, r5, r6, r7) := H
 have A6 := aM A60
 clear A60
 have HC7 := aM H
 clear H
 go_enter Tryd.func21, Tryd.ntmps21
 go_upto_region 7 with (first | ((with_reducible refine gate_dst (N := 1) rfl ?_); refine box_event ?hg (N := 1) ?hd (cs := #[.string a0_0, .bool a0_1]) (t := 43) ?hr ?_; (case hd => rfl); (case hg => rfl); (case hr => first | (go_simp; done) | (go_simp; rfl) | (go_simp; simp only [IntKind.wrap_u8, IntKind.wrap_u32]; done) | (go_simp; simp only [IntKind.wrap_u8, IntKind.wrap_u32]; rfl)); intro gb133 hg w8 hbox hb; have n0_ := aM (below_step (by repeat (first | (with_reducible first | exact HB.out | apply bA | apply bN | apply bD) | exact HB.out)) hb); have n1_ := aM (hbox); have n2_ := aM ((by rw [hg]; exact (below_size (by repeat (first | (with_reducible first | exact HB.out | apply bA | apply bN | apply bD) | exact HB.out))) : w.heap.size ≤ gb133)); have n3_ := aM ((by rw [hg]; exact (below_size (by repeat (first | (with_reducible first | exact HB.out | apply bA | apply bN | apply bD) | exact HB.out))) : w.heap.size ≤ gb133)); clear HB; have HB := n0_; have BK133 := n1_; have GW133 := n2_; have GE133 := n3_; clear n0_ n1_ n2_ n3_; clear hb hbox hg) | ((with_reducible refine gate_dst (N := 2) rfl ?_); refine box_event ?hg (N := 2) ?hd (cs := #[.int .i64 0, .int .i64 0, .int .u32 0, .string (⟨#[]⟩ : ByteArray), .string (⟨#[]⟩ : ByteArray)]) (t := 24) ?hr ?_; (case hd => rfl); (case hg => rfl); (case hr => first | (go_simp; done) | (go_simp; rfl) | (go_simp; simp only [IntKind.wrap_u8, IntKind.wrap_u32]; done) | (go_simp; simp only [IntKind.wrap_u8, IntKind.wrap_u32]; rfl)); intro gb134 hg w9 hbox hb; have n0_ := aM (kB (g := gb133) (o := .cells #[.string a0_0, .bool a0_1] 43 (0, 0)) (by (with_reducible repeat (first | refine kN ?_ _ | refine kD ?_ | refine kA ?_ _)); exact BK133.out) hb); have n1_ := aM (below_step (by repeat (first | (with_reducible first | exact HB.out | apply bA | apply bN | apply bD | refine bS ?_ GE133.out) | exact HB.out)) hb); have n2_ := aM (hbox); have n3_ := aM ((by rw [hg]; exact (below_size (by repeat (first | (with_reducible first | exact HB.out | apply bA | apply bN | apply bD | refine bS ?_ GE133.out) | exact HB.out))) : w.heap.size ≤ gb134)); have n4_ := aM ((by rw [hg]; exact (below_size (by repeat (first | (with_reducible first | exact HB.out | apply bA | apply bN | apply bD | refine bS ?_ GE133.out) | exact HB.out))) : w.heap.size ≤ gb134)); have n5_ := aM ((by rw [hg]; exact Nat.ne_of_lt (blk_lt (g := gb133) (o := .cells #[.string a0_0, .bool a0_1] 43 (0, 0)) (by (with_reducible repeat (first | refine kN ?_ _ | refine kD ?_ | refine kA ?_ _)); exact BK133.out)) : gb133 ≠ gb134)); have n6_ := aM ((by rw [hg]; exact Nat.ne_of_gt (blk_lt (g := gb133) (o := .cells #[.string a0_0, .bool a0_1] 43 (0, 0)) (by (with_reducible repeat (first | refine kN ?_ _ | refine kD ?_ | refine kA ?_ _)); exact BK133.out)) : gb134 ≠ gb133)); clear BK133; clear HB; have BK133 := n0_; have HB := n1_; have BK134 := n2_; have GW134 := n3_; have GE134 := n4_; have NB133_134 := n5_; have NB134_133 := n6_; clear n0_ n1_ n2_ n3_ n4_ n5_ n6_; clear hb hbox hg) | ((with_reducible refine gate_dst (N := 3) rfl ?_); refine box_event ?hg (N := 3) ?hd (cs := #[.string (⟨#[]⟩ : ByteArray), .bool false]) (t := 43) ?hr ?_; (case hd => rfl); (case hg => rfl); (case hr => first | (go_simp; done) | (go_simp; rfl) | (go_simp; simp only [IntKind.wrap_u8, IntKind.wrap_u32]; done) | (go_simp; simp only [IntKind.wrap_u8, IntKind.wrap_u32]; rfl)); intro gb135 hg w10 hbox hb; have n0_ := aM (kB (g := gb133) (o := .cells #[.string a0_0, .bool a0_1] 43 (0, 0)) (by (with_reducible repeat (first | refine kN ?_ _ | refine kD ?_ | refine kA ?_ _)); exact BK133.out) hb); have n1_ := aM (kB (g := gb134) (o := .cells #[.int .i64 0, .int .i64 0, .int .u32 0, .string (⟨#[]⟩ : ByteArray), .string (⟨#[]⟩ : ByteArray)] 24 (0, 0)) (by (with_reducible repeat (first | refine kN ?_ _ | refine kD ?_ | refine kA ?_ _)); exact BK134.out) hb); have n2_ := aM (below_step (by repeat (first | (with_reducible first | exact HB.out | apply bA | apply bN | apply bD | refine bS ?_ GE133.out | refine bS ?_ GE134.out) | exact HB.out)) hb); have n3_ := aM (hbox); have n4_ := aM ((by rw [hg]; exact (below_size (by repeat (first | (with_reducible first | exact HB.out | apply bA | apply bN | apply bD | refine bS ?_ GE133.out | refine bS ?_ GE134.out) | exact HB.out))) : w.heap.size ≤ gb135)); have n5_ := aM ((by rw [hg]; exact (below_size (by repeat (first | (with_reducible first | exact HB.out | apply bA | apply bN | apply bD | refine bS ?_ GE133.out | refine bS ?_ GE134.out) | exact HB.out))) : w.heap.size ≤ gb135)); have n6_ := aM ((by rw [hg]; exact Nat.ne_of_lt (blk_lt (g := gb133) (o := .cells #[.string a0_0, .bool a0_1] 43 (0, 0)) (by (with_reducible repeat (first | refine kN ?_ _ | refine kD ?_ | refine kA ?_ _)); exact BK133.out)) : gb133 ≠ gb135)); have n7_ := aM ((by rw [hg]; exact Nat.ne_of_gt (blk_lt (g := gb133) (o := .cells #[.string a0_0, .bool a0_1] 43 (0, 0)) (by (with_reducible repeat (first | refine kN ?_ _ | refine kD ?_ | refine kA ?_ _)); exact BK133.out)) : gb135 ≠ gb133)); have n8_ := aM ((by rw [hg]; exact Nat.ne_of_lt (blk_lt (g := gb134) (o := .cells #[.int .i64 0, .int .i64 0, .int .u32 0, .string (⟨#[]⟩ : ByteArray), .string (⟨#[]⟩ : ByteArray)] 24 (0, 0)) (by (with_reducible repeat (first | refine kN ?_ _ | refine kD ?_ | refine kA ?_ _)); exact BK134.out)) : gb134 ≠ gb135)); have n9_ := aM ((by rw [hg]; exact Nat.ne_of_gt (blk_lt (g := gb134) (o := .cells #[.int .i64 0, .int .i64 0, .int .u32 0, .string (⟨#[]⟩ : ByteArray), .string (⟨#[]⟩ : ByteArray)] 24 (0, 0)) (by (with_reducible repeat (first | refine kN ?_ _ | refine kD ?_ | refine kA ?_ _)); exact BK134.out)) : gb135 ≠ gb134)); clear BK133; clear BK134; clear HB; have BK133 := n0_; have BK134 := n1_; have HB := n2_; have BK135 := n3_; have GW135 := n4_; have GE135 := n5_; have NB133_135 := n6_; have NB135_133 := n7_; have NB134_135 := n8_; have NB135_134 := n9_; clear n0_ n1_ n2_ n3_ n4_ n5_ n6_ n7_ n8_ n9_; clear hb hbox hg; have hnb11 := NB133_134.out; have hnc11 := NB134_133.out; have hnb12 := NB133_135.out; have hnc12 := NB135_133.out; have hcz13_0 : w10.cell? ⟨gb133, 0, none⟩ = some (.string a0_0) := (kC BK133.out 0).trans rfl; have hcz13_1 : w10.cell? ⟨gb133, 1, none⟩ = some (.bool a0_1) := (kC BK133.out 1).trans rfl; have hfz13_0 := kF BK133.out 0; have hfz13_1 := kF BK133.out 1) | ((with_reducible refine gate_callee (f := 31) rfl ?_); refine goesL_ (some 9) rfl rfl Tryd.func31 (by kernel_rfl) rfl #[.agg #[.string a0_0, .bool a0_1], .int .i64 1] rfl (by (try simp only [List.map_toArray, List.map_cons, List.map_nil]); first | done | rfl | (simp only [List.length_drop, List.length_take]; rfl)) ?_; (with_reducible refine (pack_Reader_Number.calls k a0_0 a0_1 1 t136 t137 t138 _ A2.out).mono ?_); rintro e w14 ⟨rfl, hb⟩; refine ⟨_, rfl, ?_⟩; have n0_ := aM (kB (g := gb133) (o := .cells #[.string a0_0, .bool a0_1] 43 (0, 0)) (by (with_reducible repeat (first | refine kN ?_ _ | refine kD ?_ | refine kA ?_ _)); exact BK133.out) hb); have n1_ := aM (kB (g := gb134) (o := .cells #[.int .i64 0, .int .i64 0, .int .u32 0, .string (⟨#[]⟩ : ByteArray), .string (⟨#[]⟩ : ByteArray)] 24 (0, 0)) (by (with_reducible repeat (first | refine kN ?_ _ | refine kD ?_ | refine kA ?_ _)); exact BK134.out) hb); have n2_ := aM (kB (g := gb135) (o := .cells #[.string (⟨#[]⟩ : ByteArray), .bool false] 43 (0, 0)) (by (with_reducible repeat (first | refine kN ?_ _ | refine kD ?_ | refine kA ?_ _)); exact BK135.out) hb); have n3_ := aM (below_step (by repeat (first | (with_reducible first | exact HB.out | apply bA | apply bN | apply bD | refine bS ?_ GE133.out | refine bS ?_ GE134.out | refine bS ?_ GE135.out) | exact HB.out)) hb); clear BK133; clear BK134; clear BK135; clear HB; have BK133 := n0_; have BK134 := n1_; have BK135 := n2_; have HB := n3_; clear n0_ n1_ n2_ n3_; (try clear hb); (try clear hb2); (try clear hk); (try clear hi); have hcz15_0 : w14.cell? ⟨gb133, 0, none⟩ = some (.string a0_0) := (kC BK133.out 0).trans rfl; have hcz15_1 : w14.cell? ⟨gb133, 1, none⟩ = some (.bool a0_1) := (kC BK133.out 1).trans rfl; have hfz15_0 := kF BK133.out 0; have hfz15_1 := kF BK133.out 1) | ((with_reducible refine gate_callee (f := 31) rfl ?_); refine goesL_ (some 14) rfl rfl Tryd.func31 (by kernel_rfl) rfl #[.agg #[.string t137, .bool t138], .int .i64 1] rfl (by (try simp only [List.map_toArray, List.map_cons, List.map_nil]); first | done | rfl | (simp only [List.length_drop, List.length_take]; rfl)) ?_; (with_reducible refine (pack_Reader_Number.calls k t137 t138 1 t139 t140 t141 _ A3.out).mono ?_); rintro e w16 ⟨rfl, hb⟩; refine ⟨_, rfl, ?_⟩; have n0_ := aM (kB (g := gb133) (o := .cells #[.string t137, .bool t138] 43 (0, 0)) (by (with_reducible repeat (first | refine kN ?_ _ | refine kD ?_ | refine kA ?_ _)); refine blk_put (cs := #[.string t137, .bool a0_1]) ?_ 1 _ rfl; (with_reducible repeat (first | refine kN ?_ _ | refine kD ?_ | refine kA ?_ _)); refine blk_put (cs := #[.string a0_0, .bool a0_1]) ?_ 0 _ rfl; (with_reducible repeat (first | refine kN ?_ _ | refine kD ?_ | refine kA ?_ _)); exact BK133.out) hb); have n1_ := aM (kB (g := gb134) (o := .cells #[.int .i64 0, .int .i64 0, .int .u32 0, .string (⟨#[]⟩ : ByteArray), .string (⟨#[]⟩ : ByteArray)] 24 (0, 0)) (by (with_reducible repeat (first | refine kN ?_ _ | refine kD ?_ | refine kA ?_ _)); refine kR ?_ NB134_133.out _; (with_reducible repeat (first | refine kN ?_ _ | refine kD ?_ | refine kA ?_ _)); refine kR ?_ NB134_133.out _; (with_reducible repeat (first | refine kN ?_ _ | refine kD ?_ | refine kA ?_ _)); exact BK134.out) hb); have n2_ := aM (kB (g := gb135) (o := .cells #[.string (⟨#[]⟩ : ByteArray), .bool false] 43 (0, 0)) (by (with_reducible repeat (first | refine kN ?_ _ | refine kD ?_ | refine kA ?_ _)); refine kR ?_ NB135_133.out _; (with_reducible repeat (first | refine kN ?_ _ | refine kD ?_ | refine kA ?_ _)); refine kR ?_ NB135_133.out _; (with_reducible repeat (first | refine kN ?_ _ | refine kD ?_ | refine kA ?_ _)); exact BK135.out) hb); have n3_ := aM (below_step (by repeat (first | (with_reducible first | exact HB.out | apply bA | apply bN | apply bD | refine bS ?_ GE133.out | refine bS ?_ GE134.out | refine bS ?_ GE135.out) | exact HB.out)) hb); clear BK133; clear BK134; clear BK135; clear HB; have BK133 := n0_; have BK134 := n1_; have BK135 := n2_; have HB := n3_; clear n0_ n1_ n2_ n3_; (try clear hb); (try clear hb2); (try clear hk); (try clear hi); have hcz17_0 : w16.cell? ⟨gb133, 0, none⟩ = some (.string t137) := (kC BK133.out 0).trans rfl; have hcz17_1 : w16.cell? ⟨gb133, 1, none⟩ = some (.bool t138) := (kC BK133.out 1).trans rfl; have hfz17_0 := kF BK133.out 0; have hfz17_1 := kF BK133.out 1) | ((with_reducible refine gate_callee (f := 31) rfl ?_); refine goesL_ (some 19) rfl rfl Tryd.func31 (by kernel_rfl) rfl #[.agg #[.string t140, .bool t141], .int .i64 4] rfl (by (try simp only [List.map_toArray, List.map_cons, List.map_nil]); first | done | rfl | (simp only [List.length_drop, List.length_take]; rfl)) ?_; (with_reducible refine (pack_Reader_Number.calls k t140 t141 4 t142 t143 t144 _ A4.out).mono ?_); rintro e w18 ⟨rfl, hb⟩; refine ⟨_, rfl, ?_⟩; have n0_ := aM (kB (g := gb133) (o := .cells #[.string t140, .bool t141] 43 (0, 0)) (by (with_reducible repeat (first | refine kN ?_ _ | refine kD ?_ | refine kA ?_ _)); refine blk_put (cs := #[.string t140, .bool t138]) ?_ 1 _ rfl; (with_reducible repeat (first | refine kN ?_ _ | refine kD ?_ | refine kA ?_ _)); refine blk_put (cs := #[.string t137, .bool t138]) ?_ 0 _ rfl; (with_reducible repeat (first | refine kN ?_ _ | refine kD ?_ | refine kA ?_ _)); exact BK133.out) hb); have n1_ := aM (kB (g := gb134) (o := .cells #[.int .i64 0, .int .i64 0, .int .u32 0, .string (⟨#[]⟩ : ByteArray), .string (⟨#[]⟩ : ByteArray)] 24 (0, 0)) (by (with_reducible repeat (first | refine kN ?_ _ | refine kD ?_ | refine kA ?_ _)); refine kR ?_ NB134_133.out _; (with_reducible repeat (first | refine kN ?_ _ | refine kD ?_ | refine kA ?_ _)); refine kR ?_ NB134_133.out _; (with_reducible repeat (first | refine kN ?_ _ | refine kD ?_ | refine kA ?_ _)); exact BK134.out) hb); have n2_ := aM (kB (g := gb135) (o := .cells #[.string (⟨#[]⟩ : ByteArray), .bool false] 43 (0, 0)) (by (with_reducible repeat (first | refine kN ?_ _ | refine kD ?_ | refine kA ?_ _)); refine kR ?_ NB135_133.out _; (with_reducible repeat (first | refine kN ?_ _ | refine kD ?_ | refine kA ?_ _)); refine kR ?_ NB135_133.out _; (with_reducible repeat (first | refine kN ?_ _ | refine kD ?_ | refine kA ?_ _)); exact BK135.out) hb); have n3_ := aM (below_step (by repeat (first | (with_reducible first | exact HB.out | apply bA | apply bN | apply bD | refine bS ?_ GE133.out | refine bS ?_ GE134.out | refine bS ?_ GE135.out) | exact HB.out)) hb); clear BK133; clear BK134; clear BK135; clear HB; have BK133 := n0_; have BK134 := n1_; have BK135 := n2_; have HB := n3_; clear n0_ n1_ n2_ n3_; (try clear hb); (try clear hb2); (try clear hk); (try clear hi); have hcz19_0 : w18.cell? ⟨gb133, 0, none⟩ = some (.string t140) := (kC BK133.out 0).trans rfl; have hcz19_1 : w18.cell? ⟨gb133, 1, none⟩ = some (.bool t141) := (kC BK133.out 1).trans rfl; have hfz19_0 := kF BK133.out 0; have hfz19_1 := kF BK133.out 1) | ((with_reducible refine gate_callee (f := 32) rfl ?_); refine goesL_ (some 24) rfl rfl Tryd.func32 (by kernel_rfl) rfl #[.agg #[.string t143, .bool t144]] rfl (by (try simp only [List.map_toArray, List.map_cons, List.map_nil]); first | done | rfl | (simp only [List.length_drop, List.length_take]; rfl)) ?_; (with_reducible refine (pack_Reader_Text.calls k t143 t144 t145 t146 t147 _ A5.out).mono ?_); rintro e w20 ⟨rfl, hb⟩; refine ⟨_, rfl, ?_⟩; have n0_ := aM (kB (g := gb133) (o := .cells #[.string t143, .bool t144] 43 (0, 0)) (by (with_reducible repeat (first | refine kN ?_ _ | refine kD ?_ | refine kA ?_ _)); refine blk_put (cs := #[.string t143, .bool t141]) ?_ 1 _ rfl; (with_reducible repeat (first | refine kN ?_ _ | refine kD ?_ | refine kA ?_ _)); refine blk_put (cs := #[.string t140, .bool t141]) ?_ 0 _ rfl; (with_reducible repeat (first | refine kN ?_ _ | refine kD ?_ | refine kA ?_ _)); exact BK133.out) hb); have n1_ := aM (kB (g := gb134) (o := .cells #[.int .i64 0, .int .i64 0, .int .u32 0, .string (⟨#[]⟩ : ByteArray), .string (⟨#[]⟩ : ByteArray)] 24 (0, 0)) (by (with_reducible repeat (first | refine kN ?_ _ | refine kD ?_ | refine kA ?_ _)); refine kR ?_ NB134_133.out _; (with_reducible repeat (first | refine kN ?_ _ | refine kD ?_ | refine kA ?_ _)); refine kR ?_ NB134_133.out _; (with_reducible repeat (first | refine kN ?_ _ | refine kD ?_ | refine kA ?_ _)); exact BK134.out) hb); have n2_ := aM (kB (g := gb135) (o := .cells #[.string (⟨#[]⟩ : ByteArray), .bool false] 43 (0, 0)) (by (with_reducible repeat (first | refine kN ?_ _ | refine kD ?_ | refine kA ?_ _)); refine kR ?_ NB135_133.out _; (with_reducible repeat (first | refine kN ?_ _ | refine kD ?_ | refine kA ?_ _)); refine kR ?_ NB135_133.out _; (with_reducible repeat (first | refine kN ?_ _ | refine kD ?_ | refine kA ?_ _)); exact BK135.out) hb); have n3_ := aM (below_step (by repeat (first | (with_reducible first | exact HB.out | apply bA | apply bN | apply bD | refine bS ?_ GE133.out | refine bS ?_ GE134.out | refine bS ?_ GE135.out) | exact HB.out)) hb); clear BK133; clear BK134; clear BK135; clear HB; have BK133 := n0_; have BK134 := n1_; have BK135 := n2_; have HB := n3_; clear n0_ n1_ n2_ n3_; (try clear hb); (try clear hb2); (try clear hk); (try clear hi); have hnb21 := NB134_135.out; have hnc21 := NB135_134.out; have hcz22_0 : w20.cell? ⟨gb134, 0, none⟩ = some (.int .i64 0) := (kC BK134.out 0).trans rfl; have hcz22_1 : w20.cell? ⟨gb134, 1, none⟩ = some (.int .i64 0) := (kC BK134.out 1).trans rfl; have hcz22_2 : w20.cell? ⟨gb134, 2, none⟩ = some (.int .u32 0) := (kC BK134.out 2).trans rfl; have hcz22_3 : w20.cell? ⟨gb134, 3, none⟩ = some (.string (⟨#[]⟩ : ByteArray)) := (kC BK134.out 3).trans rfl; have hcz22_4 : w20.cell? ⟨gb134, 4, none⟩ = some (.string (⟨#[]⟩ : ByteArray)) := (kC BK134.out 4).trans rfl; have hfz22_0 := kF BK134.out 0; have hfz22_1 := kF BK134.out 1; have hfz22_2 := kF BK134.out 2; have hfz22_3 := kF BK134.out 3; have hfz22_4 := kF BK134.out 4; have hcz23_0 : w20.cell? ⟨gb133, 0, none⟩ = some (.string t143) := (kC BK133.out 0).trans rfl; have hcz23_1 : w20.cell? ⟨gb133, 1, none⟩ = some (.bool t144) := (kC BK133.out 1).trans rfl; have hfz23_0 := kF BK133.out 0; have hfz23_1 := kF BK133.out 1) | ((with_reducible refine gate_callee (f := 32) rfl ?_); refine goesL_ (some 30) rfl rfl Tryd.func32 (by kernel_rfl) rfl #[.agg #[.string t146, .bool t147]] rfl (by (try simp only [List.map_toArray, List.map_cons, List.map_nil]); first | done | rfl | (simp only [List.length_drop, List.length_take]; rfl)) ?_; (with_reducible refine (pack_Reader_Text.calls k t146 t147 t148 t149 t150 _ A6.out).mono ?_); rintro e w24 ⟨rfl, hb⟩; refine ⟨_, rfl, ?_⟩; have n0_ := aM (kB (g := gb133) (o := .cells #[.string t146, .bool t147] 43 (0, 0)) (by (with_reducible repeat (first | refine kN ?_ _ | refine kD ?_ | refine kA ?_ _)); refine blk_put (cs := #[.string t146, .bool t144]) ?_ 1 _ rfl; (with_reducible repeat (first | refine kN ?_ _ | refine kD ?_ | refine kA ?_ _)); refine blk_put (cs := #[.string t143, .bool t144]) ?_ 0 _ rfl; (with_reducible repeat (first | refine kN ?_ _ | refine kD ?_ | refine kA ?_ _)); refine kR ?_ NB133_134.out _; (with_reducible repeat (first | refine kN ?_ _ | refine kD ?_ | refine kA ?_ _)); exact BK133.out) hb); have n1_ := aM (kB (g := gb134) (o := .cells #[.int .i64 0, .int .i64 0, .int .u32 0, .string t145, .string (⟨#[]⟩ : ByteArray)] 24 (0, 0)) (by (with_reducible repeat (first | refine kN ?_ _ | refine kD ?_ | refine kA ?_ _)); refine kR ?_ NB134_133.out _; (with_reducible repeat (first | refine kN ?_ _ | refine kD ?_ | refine kA ?_ _)); refine kR ?_ NB134_133.out _; (with_reducible repeat (first | refine kN ?_ _ | refine kD ?_ | refine kA ?_ _)); refine blk_put (cs := #[.int .i64 0, .int .i64 0, .int .u32 0, .string (⟨#[]⟩ : ByteArray), .string (⟨#[]⟩ : ByteArray)]) ?_ 3 _ rfl; (with_reducible repeat (first | refine kN ?_ _ | refine kD ?_ | refine kA ?_ _)); exact BK134.out) hb); have n2_ := aM (kB (g := gb135) (o := .cells #[.string (⟨#[]⟩ : ByteArray), .bool false] 43 (0, 0)) (by (with_reducible repeat (first | refine kN ?_ _ | refine kD ?_ | refine kA ?_ _)); refine kR ?_ NB135_133.out _; (with_reducible repeat (first | refine kN ?_ _ | refine kD ?_ | refine kA ?_ _)); refine kR ?_ NB135_133.out _; (with_reducible repeat (first | refine kN ?_ _ | refine kD ?_ | refine kA ?_ _)); refine kR ?_ NB135_134.out _; (with_reducible repeat (first | refine kN ?_ _ | refine kD ?_ | refine kA ?_ _)); exact BK135.out) hb); have n3_ := aM (below_step (by repeat (first | (with_reducible first | exact HB.out | apply bA | apply bN | apply bD | refine bS ?_ GE133.out | refine bS ?_ GE134.out | refine bS ?_ GE135.out) | exact HB.out)) hb); clear BK133; clear BK134; clear BK135; clear HB; have BK133 := n0_; have BK134 := n1_; have BK135 := n2_; have HB := n3_; clear n0_ n1_ n2_ n3_; (try clear hb); (try clear hb2); (try clear hk); (try clear hi); have hcz25_0 : w24.cell? ⟨gb134, 0, none⟩ = some (.int .i64 0) := (kC BK134.out 0).trans rfl; have hcz25_1 : w24.cell? ⟨gb134, 1, none⟩ = some (.int .i64 0) := (kC BK134.out 1).trans rfl; have hcz25_2 : w24.cell? ⟨gb134, 2, none⟩ = some (.int .u32 0) := (kC BK134.out 2).trans rfl; have hcz25_3 : w24.cell? ⟨gb134, 3, none⟩ = some (.string t145) := (kC BK134.out 3).trans rfl; have hcz25_4 : w24.cell? ⟨gb134, 4, none⟩ = some (.string (⟨#[]⟩ : ByteArray)) := (kC BK134.out 4).trans rfl; have hfz25_0 := kF BK134.out 0; have hfz25_1 := kF BK134.out 1; have hfz25_2 := kF BK134.out 2; have hfz25_3 := kF BK134.out 3; have hfz25_4 := kF BK134.out 4; have hcz26_0 : w24.cell? ⟨gb133, 0, none⟩ = some (.string t146) := (kC BK133.out 0).trans rfl; have hcz26_1 : w24.cell? ⟨gb133, 1, none⟩ = some (.bool t147) := (kC BK133.out 1).trans rfl; have hfz26_0 := kF BK133.out 0; have hfz26_1 := kF BK133.out 1) | (with_reducible refine Goto.jumpK_ret ?_) | (with_reducible refine Goto.jumpA_ret ?_) | (with_reducible refine Goto.jumpK_hit ?_) | (with_reducible refine Goto.then_goto ?_) | (with_reducible refine Goto.then_ret ?_) | (with_reducible refine wp_label (l := 0) ?_) | (with_reducible refine Goto.jumpA_go (l := 0) (HL0.out _ _ ?_)) | (with_reducible refine Goto.jumpK_miss (l' := 0) (by decide) (HL0.out _ _ ?_)) | (with_reducible refine wp_goto ?_) | (with_reducible refine Goto.scope_all ?_; intro J_ hJ_; have HL0 := aM (Goto.at_label hJ_ 0 rfl); clear hJ_))
 (try simp only [Act.put, List.setIfInBounds_toArray, List.set_cons_zero, List.set_cons_succ])
 go_cut [49] (fun v49 wc => ∃ (kq : Nat) (x49_6 : Bool), v49 = .bool x49_6 ∧ Aside0 (cmd_Read.j0 kq x49_6 t149 t150 (wrap64 (t136)) (wrap64 (t139)) ((t142) % 4294967296) t145 t148 = some (r1, r2, r3, r4, r5, r6, r7)) ∧ Aside0 (kq ≤ k) ∧ Aside0 (wc.heap[gb133]? = some (.cells #[.string t149, .bool t150] 43 (0, 0))) ∧ Aside0 (wc.heap[gb134]? = some (.cells #[.int .i64 (wrap64 (t136)), .int .i64 (wrap64 (t139)), .int .u32 ((t142) % 4294967296), .string t145, .string t148] 24 (0, 0))) ∧ Aside0 (wc.heap[gb135]? = some (.cells #[.string (⟨#[]⟩ : ByteArray), .bool false] 43 (0, 0))) ∧ Aside0 (Below w.heap.size w wc))
 case first =>
  have H := HC7.out
  clear HC7
  by_cases c27 : t150 = true
  ·subst c27
   have H1 : (cmd_Read.j0 k true t149 true (wrap64 (t136)) (wrap64 (t139)) ((t142) % 4294967296) t145 t148) = some (r1, r2, r3, r4, r5, r6, r7) := by rw [if_pos rfl] at H; exact H
   clear H
   have H := H1
   clear H1
   have H' := aM H
   clear H
   have hnb28 := NB133_134.out
   have hnc28 := NB134_133.out
   have hnb29 := NB133_135.out
   have hnc29 := NB135_133.out
   have hcz30_0 : w24.cell? ⟨gb133, 0, none⟩ = some (.string t146) := (kC BK133.out 0).trans rfl
   have hcz30_1 : w24.cell? ⟨gb133, 1, none⟩ = some (.bool t147) := (kC BK133.out 1).trans rfl
   have hfz30_0 := kF BK133.out 0
   have hfz30_1 := kF BK133.out 1
   go_wp2_with (first | (with_reducible refine Goto.jumpK_ret ?_) | (with_reducible refine Goto.jumpA_ret ?_) | (with_reducible refine Goto.jumpK_hit ?_) | (with_reducible refine Goto.then_goto ?_) | (with_reducible refine Goto.then_ret ?_) | (with_reducible refine wp_label (l := 0) ?_) | (with_reducible refine Goto.jumpA_go (l := 0) (HL0.out _ _ ?_)) | (with_reducible refine Goto.jumpK_miss (l' := 0) (by decide) (HL0.out _ _ ?_)) | (with_reducible refine wp_goto ?_) | (with_reducible refine Goto.scope_all ?_; intro J_ hJ_; have HL0 := aM (Goto.at_label hJ_ 0 rfl); clear hJ_))
   go_meet
   case rel => exact ⟨_, (true), (by first | rfl | (simp; done) | (simp [*]; done)), H', ⟨by first | omega | exact Nat.le_refl _⟩, ⟨by (with_reducible repeat (first | refine kN ?_ _ | refine kD ?_ | refine kA ?_ _)); refine kR ?_ NB133_134.out _; (with_reducible repeat (first | refine kN ?_ _ | refine kD ?_ | refine kA ?_ _)); refine kR ?_ NB133_134.out _; (with_reducible repeat (first | refine kN ?_ _ | refine kD ?_ | refine kA ?_ _)); refine kR ?_ NB133_134.out _; (with_reducible repeat (first | refine kN ?_ _ | refine kD ?_ | refine kA ?_ _)); refine blk_put (cs := #[.string t149, .bool t147]) ?_ 1 _ rfl; (with_reducible repeat (first | refine kN ?_ _ | refine kD ?_ | refine kA ?_ _)); refine blk_put (cs := #[.string t146, .bool t147]) ?_ 0 _ rfl; (with_reducible repeat (first | refine kN ?_ _ | refine kD ?_ | refine kA ?_ _)); refine kR ?_ NB133_134.out _; (with_reducible repeat (first | refine kN ?_ _ | refine kD ?_ | refine kA ?_ _)); exact BK133.out⟩, ⟨by (with_reducible repeat (first | refine kN ?_ _ | refine kD ?_ | refine kA ?_ _)); refine blk_put (cs := #[.int .i64 (wrap64 (t136)), .int .i64 (wrap64 (t139)), .int .u32 0, .string t145, .string t148]) ?_ 2 _ rfl; (with_reducible repeat (first | refine kN ?_ _ | refine kD ?_ | refine kA ?_ _)); refine blk_put (cs := #[.int .i64 (wrap64 (t136)), .int .i64 0, .int .u32 0, .string t145, .string t148]) ?_ 1 _ rfl; (with_reducible repeat (first | refine kN ?_ _ | refine kD ?_ | refine kA ?_ _)); refine blk_put (cs := #[.int .i64 0, .int .i64 0, .int .u32 0, .string t145, .string t148]) ?_ 0 _ rfl; (with_reducible repeat (first | refine kN ?_ _ | refine kD ?_ | refine kA ?_ _)); refine kR ?_ NB134_133.out _; (with_reducible repeat (first | refine kN ?_ _ | refine kD ?_ | refine kA ?_ _)); refine kR ?_ NB134_133.out _; (with_reducible repeat (first | refine kN ?_ _ | refine kD ?_ | refine kA ?_ _)); refine blk_put (cs := #[.int .i64 0, .int .i64 0, .int .u32 0, .string t145, .string (⟨#[]⟩ : ByteArray)]) ?_ 4 _ rfl; (with_reducible repeat (first | refine kN ?_ _ | refine kD ?_ | refine kA ?_ _)); exact BK134.out⟩, ⟨by (with_reducible repeat (first | refine kN ?_ _ | refine kD ?_ | refine kA ?_ _)); refine kR ?_ NB135_134.out _; (with_reducible repeat (first | refine kN ?_ _ | refine kD ?_ | refine kA ?_ _)); refine kR ?_ NB135_134.out _; (with_reducible repeat (first | refine kN ?_ _ | refine kD ?_ | refine kA ?_ _)); refine kR ?_ NB135_134.out _; (with_reducible repeat (first | refine kN ?_ _ | refine kD ?_ | refine kA ?_ _)); refine kR ?_ NB135_133.out _; (with_reducible repeat (first | refine kN ?_ _ | refine kD ?_ | refine kA ?_ _)); refine kR ?_ NB135_133.out _; (with_reducible repeat (first | refine kN ?_ _ | refine kD ?_ | refine kA ?_ _)); refine kR ?_ NB135_134.out _; (with_reducible repeat (first | refine kN ?_ _ | refine kD ?_ | refine kA ?_ _)); exact BK135.out⟩, ⟨by repeat (first | (with_reducible first | exact HB.out | apply bA | apply bN | apply bD | refine bS ?_ GE133.out | refine bS ?_ GE134.out | refine bS ?_ GE135.out) | exact HB.out)⟩⟩
  ·replace c27 := Bool.eq_false_iff.mpr c27
   subst c27
   have H1 : ((cmd_Right.f k (wrap64 (t136)) (wrap64 (t139)) ((t142) % 4294967296) t145 t148).bind fun t151 => (cmd_Read.j0 k (!t151) t149 false (wrap64 (t136)) (wrap64 (t139)) ((t142) % 4294967296) t145 t148)) = some (r1, r2, r3, r4, r5, r6, r7) := by rw [if_neg (show ¬ (false = true) by decide)] at H; exact H
   clear H
   have H := H1
   clear H1
   replace H := Option.bind_eq_some_iff.mp H
   obtain ⟨t151, A310, H⟩ := H
   replace H : (cmd_Read.j0 k (!t151) t149 false (wrap64 (t136)) (wrap64 (t139)) ((t142) % 4294967296) t145 t148) = some (r1, r2, r3, r4, r5, r6, r7) := H
   have A31 := aM A310
   clear A310
   have H' := aM H
   clear H
   have hnb32 := NB133_134.out
   have hnc32 := NB134_133.out
   have hnb33 := NB133_135.out
   have hnc33 := NB135_133.out
   have hcz34_0 : w24.cell? ⟨gb133, 0, none⟩ = some (.string t146) := (kC BK133.out 0).trans rfl
   have hcz34_1 : w24.cell? ⟨gb133, 1, none⟩ = some (.bool t147) := (kC BK133.out 1).trans rfl
   have hfz34_0 := kF BK133.out 0
   have hfz34_1 := kF BK133.out 1
   have hnb35 := NB134_135.out
   have hnc35 := NB135_134.out
   have hcz36_0 : w24.cell? ⟨gb134, 0, none⟩ = some (.int .i64 0) := (kC BK134.out 0).trans rfl
   have hcz36_1 : w24.cell? ⟨gb134, 1, none⟩ = some (.int .i64 0) := (kC BK134.out 1).trans rfl
   have hcz36_2 : w24.cell? ⟨gb134, 2, none⟩ = some (.int .u32 0) := (kC BK134.out 2).trans rfl
   have hcz36_3 : w24.cell? ⟨gb134, 3, none⟩ = some (.string t145) := (kC BK134.out 3).trans rfl
   have hcz36_4 : w24.cell? ⟨gb134, 4, none⟩ = some (.string (⟨#[]⟩ : ByteArray)) := (kC BK134.out 4).trans rfl
   have hfz36_0 := kF BK134.out 0
   have hfz36_1 := kF BK134.out 1
   have hfz36_2 := kF BK134.out 2
   have hfz36_3 := kF BK134.out 3
   have hfz36_4 := kF BK134.out 4
   go_wp2_with (first | (go_at_call 14; (with_reducible refine (cmd_Right.calls k (wrap64 (t136)) (wrap64 (t139)) ((t142) % 4294967296) t145 t148 t151 _ A31.out).mono ?_); rintro e w37 ⟨rfl, hb⟩; have n0_ := aM (kB (g := gb133) (o := .cells #[.string t149, .bool false] 43 (0, 0)) (by (with_reducible repeat (first | refine kN ?_ _ | refine kD ?_ | refine kA ?_ _)); refine kR ?_ NB133_134.out _; (with_reducible repeat (first | refine kN ?_ _ | refine kD ?_ | refine kA ?_ _)); refine kR ?_ NB133_134.out _; (with_reducible repeat (first | refine kN ?_ _ | refine kD ?_ | refine kA ?_ _)); refine kR ?_ NB133_134.out _; (with_reducible repeat (first | refine kN ?_ _ | refine kD ?_ | refine kA ?_ _)); refine blk_put (cs := #[.string t149, .bool t147]) ?_ 1 _ rfl; (with_reducible repeat (first | refine kN ?_ _ | refine kD ?_ | refine kA ?_ _)); refine blk_put (cs := #[.string t146, .bool t147]) ?_ 0 _ rfl; (with_reducible repeat (first | refine kN ?_ _ | refine kD ?_ | refine kA ?_ _)); refine kR ?_ NB133_134.out _; (with_reducible repeat (first | refine kN ?_ _ | refine kD ?_ | refine kA ?_ _)); exact BK133.out) hb); have n1_ := aM (kB (g := gb134) (o := .cells #[.int .i64 (wrap64 (t136)), .int .i64 (wrap64 (t139)), .int .u32 ((t142) % 4294967296), .string t145, .string t148] 24 (0, 0)) (by (with_reducible repeat (first | refine kN ?_ _ | refine kD ?_ | refine kA ?_ _)); refine blk_put (cs := #[.int .i64 (wrap64 (t136)), .int .i64 (wrap64 (t139)), .int .u32 0, .string t145, .string t148]) ?_ 2 _ rfl; (with_reducible repeat (first | refine kN ?_ _ | refine kD ?_ | refine kA ?_ _)); refine blk_put (cs := #[.int .i64 (wrap64 (t136)), .int .i64 0, .int .u32 0, .string t145, .string t148]) ?_ 1 _ rfl; (with_reducible repeat (first | refine kN ?_ _ | refine kD ?_ | refine kA ?_ _)); refine blk_put (cs := #[.int .i64 0, .int .i64 0, .int .u32 0, .string t145, .string t148]) ?_ 0 _ rfl; (with_reducible repeat (first | refine kN ?_ _ | refine kD ?_ | refine kA ?_ _)); refine kR ?_ NB134_133.out _; (with_reducible repeat (first | refine kN ?_ _ | refine kD ?_ | refine kA ?_ _)); refine kR ?_ NB134_133.out _; (with_reducible repeat (first | refine kN ?_ _ | refine kD ?_ | refine kA ?_ _)); refine blk_put (cs := #[.int .i64 0, .int .i64 0, .int .u32 0, .string t145, .string (⟨#[]⟩ : ByteArray)]) ?_ 4 _ rfl; (with_reducible repeat (first | refine kN ?_ _ | refine kD ?_ | refine kA ?_ _)); exact BK134.out) hb); have n2_ := aM (kB (g := gb135) (o := .cells #[.string (⟨#[]⟩ : ByteArray), .bool false] 43 (0, 0)) (by (with_reducible repeat (first | refine kN ?_ _ | refine kD ?_ | refine kA ?_ _)); refine kR ?_ NB135_134.out _; (with_reducible repeat (first | refine kN ?_ _ | refine kD ?_ | refine kA ?_ _)); refine kR ?_ NB135_134.out _; (with_reducible repeat (first | refine kN ?_ _ | refine kD ?_ | refine kA ?_ _)); refine kR ?_ NB135_134.out _; (with_reducible repeat (first | refine kN ?_ _ | refine kD ?_ | refine kA ?_ _)); refine kR ?_ NB135_133.out _; (with_reducible repeat (first | refine kN ?_ _ | refine kD ?_ | refine kA ?_ _)); refine kR ?_ NB135_133.out _; (with_reducible repeat (first | refine kN ?_ _ | refine kD ?_ | refine kA ?_ _)); refine kR ?_ NB135_134.out _; (with_reducible repeat (first | refine kN ?_ _ | refine kD ?_ | refine kA ?_ _)); exact BK135.out) hb); have n3_ := aM (below_step (by repeat (first | (with_reducible first | exact HB.out | apply bA | apply bN | apply bD | refine bS ?_ GE133.out | refine bS ?_ GE134.out | refine bS ?_ GE135.out) | exact HB.out)) hb); clear BK133; clear BK134; clear BK135; clear HB; have BK133 := n0_; have BK134 := n1_; have BK135 := n2_; have HB := n3_; clear n0_ n1_ n2_ n3_; (try clear hb); (try clear hb2); (try clear hk); (try clear hi)) | (with_reducible refine Goto.jumpK_ret ?_) | (with_reducible refine Goto.jumpA_ret ?_) | (with_reducible refine Goto.jumpK_hit ?_) | (with_reducible refine Goto.then_goto ?_) | (with_reducible refine Goto.then_ret ?_) | (with_reducible refine wp_label (l := 0) ?_) | (with_reducible refine Goto.jumpA_go (l := 0) (HL0.out _ _ ?_)) | (with_reducible refine Goto.jumpK_miss (l' := 0) (by decide) (HL0.out _ _ ?_)) | (with_reducible refine wp_goto ?_) | (with_reducible refine Goto.scope_all ?_; intro J_ hJ_; have HL0 := aM (Goto.at_label hJ_ 0 rfl); clear hJ_))
   go_meet
   case rel => exact ⟨_, (!t151), (by first | rfl | (simp; done) | (simp [*]; done)), H', ⟨by first | omega | exact Nat.le_refl _⟩, ⟨by (with_reducible repeat (first | refine kN ?_ _ | refine kD ?_ | refine kA ?_ _)); exact BK133.out⟩, ⟨by (with_reducible repeat (first | refine kN ?_ _ | refine kD ?_ | refine kA ?_ _)); exact BK134.out⟩, ⟨by (with_reducible repeat (first | refine kN ?_ _ | refine kD ?_ | refine kA ?_ _)); exact BK135.out⟩, ⟨by repeat (first | (with_reducible first | exact HB.out | apply bA | apply bN | apply bD | refine bS ?_ GE133.out | refine bS ?_ GE134.out | refine bS ?_ GE135.out) | exact HB.out)⟩⟩
 case rest =>
  clear HC7
  try clear c1
  try clear c2
  try clear p2
  try clear c3
  try clear p6
  try clear c11
  try clear c12
  try clear c21
  try clear c27
  try clear c28
  try clear c29
  try clear c31
  try clear c32
  try clear c33
  try clear c35
  try clear hcz13_0
  try clear hcz13_1
  try clear hcz15_0
  try clear hcz15_1
  try clear hcz17_0
  try clear hcz17_1
  try clear hcz19_0
  try clear hcz19_1
  try clear hcz22_0
  try clear hcz22_1
  try clear hcz22_2
  try clear hcz22_3
  try clear hcz22_4
  try clear hcz23_0
  try clear hcz23_1
  try clear hcz25_0
  try clear hcz25_1
  try clear hcz25_2
  try clear hcz25_3
  try clear hcz25_4
  try clear hcz26_0
  try clear hcz26_1
  try clear hcz30_0
  try clear hcz30_1
  try clear hcz34_0
  try clear hcz34_1
  try clear hcz36_0
  try clear hcz36_1
  try clear hcz36_2
  try clear hcz36_3
  try clear hcz36_4
  try clear hfz13_0
  try clear hfz13_1
  try clear hfz15_0
  try clear hfz15_1
  try clear hfz17_0
  try clear hfz17_1
  try clear hfz19_0
  try clear hfz19_1
  try clear hfz22_0
  try clear hfz22_1
  try clear hfz22_2
  try clear hfz22_3
  try clear hfz22_4
  try clear hfz23_0
  try clear hfz23_1
  try clear hfz25_0
  try clear hfz25_1
  try clear hfz25_2
  try clear hfz25_3
  try clear hfz25_4
  try clear hfz26_0
  try clear hfz26_1
  try clear hfz30_0
  try clear hfz30_1
  try clear hfz34_0
  try clear hfz34_1
  try clear hfz36_0
  try clear hfz36_1
  try clear hfz36_2
  try clear hfz36_3
  try clear hfz36_4
  obtain ⟨kq, x49_6, rfl, HA, HJ6, BK133, BK134, BK135, HB⟩ := hcut
  cases kq with
  | zero => exact absurd HA.out (by simp [cmd_Read.j0])
  | succ kj6 =>
   have H := HA.out
   clear HA
   simp only [cmd_Read.j0] at H
   by_cases c38 : x49_6 = true
   ·subst c38
    have H1 : (some (0, 0, 0, (⟨#[]⟩ : ByteArray), (⟨#[]⟩ : ByteArray), (⟨#[]⟩ : ByteArray), true)) = some (r1, r2, r3, r4, r5, r6, r7) := by rw [if_pos rfl] at H; exact H
    clear H
    have H := H1
    clear H1
    simp only [Option.some.injEq, Prod.mk.injEq] at H
    obtain ⟨rfl, rfl, rfl, rfl, rfl, rfl, rfl⟩ := H
    have hnb39 := NB134_133.out
    have hnc39 := NB133_134.out
    have hnb40 := NB134_135.out
    have hnc40 := NB135_134.out
    have hcz41_0 : wc.cell? ⟨gb134, 0, none⟩ = some (.int .i64 (wrap64 (t136))) := (kC BK134.out 0).trans rfl
    have hcz41_1 : wc.cell? ⟨gb134, 1, none⟩ = some (.int .i64 (wrap64 (t139))) := (kC BK134.out 1).trans rfl
    have hcz41_2 : wc.cell? ⟨gb134, 2, none⟩ = some (.int .u32 ((t142) % 4294967296)) := (kC BK134.out 2).trans rfl
    have hcz41_3 : wc.cell? ⟨gb134, 3, none⟩ = some (.string t145) := (kC BK134.out 3).trans rfl
    have hcz41_4 : wc.cell? ⟨gb134, 4, none⟩ = some (.string t148) := (kC BK134.out 4).trans rfl
    have hfz41_0 := kF BK134.out 0
    have hfz41_1 := kF BK134.out 1
    have hfz41_2 := kF BK134.out 2
    have hfz41_3 := kF BK134.out 3
    have hfz41_4 := kF BK134.out 4
    have hnb42 := NB135_133.out
    have hnc42 := NB133_135.out
    have hcz43_0 : wc.cell? ⟨gb135, 0, none⟩ = some (.string (⟨#[]⟩ : ByteArray)) := (kC BK135.out 0).trans rfl
    have hcz43_1 : wc.cell? ⟨gb135, 1, none⟩ = some (.bool false) := (kC BK135.out 1).trans rfl
    have hfz43_0 := kF BK135.out 0
    have hfz43_1 := kF BK135.out 1
    go_wp2_with (first | (with_reducible refine Goto.jumpK_ret ?_) | (with_reducible refine Goto.jumpA_ret ?_) | (with_reducible refine Goto.jumpK_hit ?_) | (with_reducible refine Goto.then_goto ?_) | (with_reducible refine Goto.then_ret ?_) | (with_reducible refine wp_label (l := 0) ?_) | (with_reducible refine Goto.jumpA_go (l := 0) (HL0.out _ _ ?_)) | (with_reducible refine Goto.jumpK_miss (l' := 0) (by decide) (HL0.out _ _ ?_)) | (with_reducible refine wp_goto ?_) | (with_reducible refine Goto.scope_all ?_; intro J_ hJ_; have HL0 := aM (Goto.at_label hJ_ 0 rfl); clear hJ_))
    refine bodyPost_ret (results_cc rfl _ _ gb134 gb135 24 43 #[.int .i64 0, .int .i64 0, .int .u32 0, .string (⟨#[]⟩ : ByteArray), .string (⟨#[]⟩ : ByteArray)] #[.string (⟨#[]⟩ : ByteArray), .bool true] (0, 0) (0, 0) _ _ rfl (by (with_reducible repeat (first | refine kN ?_ _ | refine kD ?_ | refine kA ?_ _)); refine kR ?_ NB134_135.out _; (with_reducible repeat (first | refine kN ?_ _ | refine kD ?_ | refine kA ?_ _)); refine kR ?_ NB134_135.out _; (with_reducible repeat (first | refine kN ?_ _ | refine kD ?_ | refine kA ?_ _)); refine blk_put (cs := #[.int .i64 0, .int .i64 0, .int .u32 0, .string (⟨#[]⟩ : ByteArray), .string t148]) ?_ 4 _ rfl; (with_reducible repeat (first | refine kN ?_ _ | refine kD ?_ | refine kA ?_ _)); refine blk_put (cs := #[.int .i64 0, .int .i64 0, .int .u32 0, .string t145, .string t148]) ?_ 3 _ rfl; (with_reducible repeat (first | refine kN ?_ _ | refine kD ?_ | refine kA ?_ _)); refine blk_put (cs := #[.int .i64 0, .int .i64 0, .int .u32 ((t142) % 4294967296), .string t145, .string t148]) ?_ 2 _ rfl; (with_reducible repeat (first | refine kN ?_ _ | refine kD ?_ | refine kA ?_ _)); refine blk_put (cs := #[.int .i64 0, .int .i64 (wrap64 (t139)), .int .u32 ((t142) % 4294967296), .string t145, .string t148]) ?_ 1 _ rfl; (with_reducible repeat (first | refine kN ?_ _ | refine kD ?_ | refine kA ?_ _)); refine blk_put (cs := #[.int .i64 (wrap64 (t136)), .int .i64 (wrap64 (t139)), .int .u32 ((t142) % 4294967296), .string t145, .string t148]) ?_ 0 _ rfl; (with_reducible repeat (first | refine kN ?_ _ | refine kD ?_ | refine kA ?_ _)); exact BK134.out) Tryd.underlying24 rfl (by kernel_rfl) rfl (by (with_reducible repeat (first | refine kN ?_ _ | refine kD ?_ | refine kA ?_ _)); refine blk_put (cs := #[.string (⟨#[]⟩ : ByteArray), .bool false]) ?_ 1 _ rfl; (with_reducible repeat (first | refine kN ?_ _ | refine kD ?_ | refine kA ?_ _)); refine blk_put (cs := #[.string (⟨#[]⟩ : ByteArray), .bool false]) ?_ 0 _ rfl; (with_reducible repeat (first | refine kN ?_ _ | refine kD ?_ | refine kA ?_ _)); refine kR ?_ NB135_134.out _; (with_reducible repeat (first | refine kN ?_ _ | refine kD ?_ | refine kA ?_ _)); refine kR ?_ NB135_134.out _; (with_reducible repeat (first | refine kN ?_ _ | refine kD ?_ | refine kA ?_ _)); refine kR ?_ NB135_134.out _; (with_reducible repeat (first | refine kN ?_ _ | refine kD ?_ | refine kA ?_ _)); refine kR ?_ NB135_134.out _; (with_reducible repeat (first | refine kN ?_ _ | refine kD ?_ | refine kA ?_ _)); refine kR ?_ NB135_134.out _; (with_reducible repeat (first | refine kN ?_ _ | refine kD ?_ | refine kA ?_ _)); exact BK135.out) Tryd.underlying43 rfl (by kernel_rfl)) rfl ?_
    exact ⟨by first | rfl | (simp [errW_none, errW_some] <;> rfl) | (simp [*, errW_none, errW_some] <;> rfl), by repeat (first | (with_reducible first | exact HB.out | apply bA | apply bN | apply bD | refine bS ?_ GE133.out | refine bS ?_ GE134.out | refine bS ?_ GE135.out) | exact HB.out)⟩
   ·replace c38 := Bool.eq_false_iff.mpr c38
    subst c38
    have H1 : (some ((wrap64 (t136)), (wrap64 (t139)), ((t142) % 4294967296), t145, t148, t149, t150)) = some (r1, r2, r3, r4, r5, r6, r7) := by rw [if_neg (show ¬ (false = true) by decide)] at H; exact H
    clear H
    have H := H1
    clear H1
    simp only [Option.some.injEq, Prod.mk.injEq] at H
    obtain ⟨rfl, rfl, rfl, rfl, rfl, rfl, rfl⟩ := H
    try go_wp2_with (first | (with_reducible refine Goto.jumpK_ret ?_) | (with_reducible refine Goto.jumpA_ret ?_) | (with_reducible refine Goto.jumpK_hit ?_) | (with_reducible refine Goto.then_goto ?_) | (with_reducible refine Goto.then_ret ?_) | (with_reducible refine wp_label (l := 0) ?_) | (with_reducible refine Goto.jumpA_go (l := 0) (HL0.out _ _ ?_)) | (with_reducible refine Goto.jumpK_miss (l' := 0) (by decide) (HL0.out _ _ ?_)) | (with_reducible refine wp_goto ?_) | (with_reducible refine Goto.scope_all ?_; intro J_ hJ_; have HL0 := aM (Goto.at_label hJ_ 0 rfl); clear hJ_))
    have n0_ := aM (kD BK133.out)
    have n1_ := aM (kD BK134.out)
    have n2_ := aM (kD BK135.out)
    have n3_ := aM (bD HB.out)
    clear BK133
    clear BK134
    clear BK135
    clear HB
    have BK133 := n0_
    have BK134 := n1_
    have BK135 := n2_
    have HB := n3_
    clear n0_ n1_ n2_ n3_
    refine start_ (n := 4) (S := fun w' => w'.cell? ⟨gb134, 0, none⟩ = some (.int .i64 (wrap64 (t136))) ∧ w'.cell? ⟨gb134, 1, none⟩ = some (.int .i64 (wrap64 (t139))) ∧ w'.cell? ⟨gb134, 2, none⟩ = some (.int .u32 ((t142) % 4294967296)) ∧ w'.cell? ⟨gb134, 3, none⟩ = some (.string t145) ∧ w'.cell? ⟨gb134, 4, none⟩ = some (.string t148) ∧ w'.cell? ⟨gb133, 0, none⟩ = some (.string t149) ∧ w'.cell? ⟨gb133, 1, none⟩ = some (.bool t150)) (ds := []) #[false, false, false, false] (by kernel_rfl) rfl rfl ⟨(kC BK134.out 0).trans rfl, (kC BK134.out 1).trans rfl, (kC BK134.out 2).trans rfl, (kC BK134.out 3).trans rfl, (kC BK134.out 4).trans rfl, (kC BK133.out 0).trans rfl, (kC BK133.out 1).trans rfl⟩ (fun hHeld => ?_)
    generalize wc.drew = w44 at BK133 BK134 BK135 HB hHeld ⊢
    refine take_ (i := 0) (N := some 50) (v := ?_) (a' := ?_) #[true, false, false, false] rfl rfl (by kernel_rfl) (fun _ _ _ h => h) (Or.inl ⟨by rfl, ?_⟩) hHeld ?_ ?_
    rotate_left
    ·rintro w' ⟨s0, s1, s2, s3, s4, s5, s6⟩
     go_simp
     with_reducible rfl
    rotate_left
    ·simp only [Act.put, List.setIfInBounds_toArray, List.set_cons_zero, List.set_cons_succ, i64_w, i32_w, IntKind.wrap_u8, IntKind.wrap_u32]
     rfl
    refine take_ (i := 1) (N := some 51) (v := ?_) (a' := ?_) #[true, true, false, false] rfl rfl (by kernel_rfl) (fun _ _ _ h => h) (Or.inl ⟨by rfl, ?_⟩) hHeld ?_ ?_
    rotate_left
    ·rintro w' ⟨s0, s1, s2, s3, s4, s5, s6⟩
     go_simp
     with_reducible rfl
    rotate_left
    ·simp only [Act.put, List.setIfInBounds_toArray, List.set_cons_zero, List.set_cons_succ, i64_w, i32_w, IntKind.wrap_u8, IntKind.wrap_u32]
     rfl
    refine one_ (i := 2) (N := none) #[true, true, true, false] rfl rfl (by kernel_rfl) (by decide) (fun K hK => ?_)
    have hs45 : w44.cell? ⟨gb134, 0, none⟩ = some (.int .i64 (wrap64 (t136))) := (kC BK134.out 0).trans rfl
    have hfs45 := kF BK134.out 0
    have hns45_0 := NB133_134.out
    have hns45_2 := NB135_134.out
    have hms45_0 := NB134_133.out
    have hms45_2 := NB134_135.out
    have hs46 : w44.cell? ⟨gb134, 1, none⟩ = some (.int .i64 (wrap64 (t139))) := (kC BK134.out 1).trans rfl
    have hfs46 := kF BK134.out 1
    have hns46_0 := NB133_134.out
    have hns46_2 := NB135_134.out
    have hms46_0 := NB134_133.out
    have hms46_2 := NB134_135.out
    have hs47 : w44.cell? ⟨gb134, 2, none⟩ = some (.int .u32 ((t142) % 4294967296)) := (kC BK134.out 2).trans rfl
    have hfs47 := kF BK134.out 2
    have hns47_0 := NB133_134.out
    have hns47_2 := NB135_134.out
    have hms47_0 := NB134_133.out
    have hms47_2 := NB134_135.out
    have hs48 : w44.cell? ⟨gb134, 3, none⟩ = some (.string t145) := (kC BK134.out 3).trans rfl
    have hfs48 := kF BK134.out 3
    have hns48_0 := NB133_134.out
    have hns48_2 := NB135_134.out
    have hms48_0 := NB134_133.out
    have hms48_2 := NB134_135.out
    have hs49 : w44.cell? ⟨gb134, 4, none⟩ = some (.string t148) := (kC BK134.out 4).trans rfl
    have hfs49 := kF BK134.out 4
    have hns49_0 := NB133_134.out
    have hns49_2 := NB135_134.out
    have hms49_0 := NB134_133.out
    have hms49_2 := NB134_135.out
    refine skip_ (w1 := ?_) (by rfl) rfl ?_ ?_
    rotate_left
    ·go_simp
     rfl
    refine hK.out _ _ ⟨(by rw [Goto.setCell_same (hHeld.1), Goto.setCell_same (hHeld.2.1), Goto.setCell_same (hHeld.2.2.1), Goto.setCell_same (hHeld.2.2.2.1), Goto.setCell_same (hHeld.2.2.2.2.1)]; exact hHeld.1), (by rw [Goto.setCell_same (hHeld.1), Goto.setCell_same (hHeld.2.1), Goto.setCell_same (hHeld.2.2.1), Goto.setCell_same (hHeld.2.2.2.1), Goto.setCell_same (hHeld.2.2.2.2.1)]; exact hHeld.2.1), (by rw [Goto.setCell_same (hHeld.1), Goto.setCell_same (hHeld.2.1), Goto.setCell_same (hHeld.2.2.1), Goto.setCell_same (hHeld.2.2.2.1), Goto.setCell_same (hHeld.2.2.2.2.1)]; exact hHeld.2.2.1), (by rw [Goto.setCell_same (hHeld.1), Goto.setCell_same (hHeld.2.1), Goto.setCell_same (hHeld.2.2.1), Goto.setCell_same (hHeld.2.2.2.1), Goto.setCell_same (hHeld.2.2.2.2.1)]; exact hHeld.2.2.2.1), (by rw [Goto.setCell_same (hHeld.1), Goto.setCell_same (hHeld.2.1), Goto.setCell_same (hHeld.2.2.1), Goto.setCell_same (hHeld.2.2.2.1), Goto.setCell_same (hHeld.2.2.2.2.1)]; exact hHeld.2.2.2.2.1), (by rw [Goto.setCell_same (hHeld.1), Goto.setCell_same (hHeld.2.1), Goto.setCell_same (hHeld.2.2.1), Goto.setCell_same (hHeld.2.2.2.1), Goto.setCell_same (hHeld.2.2.2.2.1)]; exact hHeld.2.2.2.2.2.1), (by rw [Goto.setCell_same (hHeld.1), Goto.setCell_same (hHeld.2.1), Goto.setCell_same (hHeld.2.2.1), Goto.setCell_same (hHeld.2.2.2.1), Goto.setCell_same (hHeld.2.2.2.2.1)]; exact hHeld.2.2.2.2.2.2)⟩ (fun hHeld => ?_)
    clear hK K
    refine one_ (i := 3) (N := none) #[true, true, true, true] rfl rfl (by kernel_rfl) (by decide) (fun K hK => ?_)
    have hs50 : w44.cell? ⟨gb135, 0, none⟩ = some (.string (⟨#[]⟩ : ByteArray)) := (kC BK135.out 0).trans rfl
    have hfs50 := kF BK135.out 0
    have hns50_0 := NB133_135.out
    have hns50_1 := NB134_135.out
    have hms50_0 := NB135_133.out
    have hms50_1 := NB135_134.out
    have hs51 : w44.cell? ⟨gb135, 1, none⟩ = some (.bool false) := (kC BK135.out 1).trans rfl
    have hfs51 := kF BK135.out 1
    have hns51_0 := NB133_135.out
    have hns51_1 := NB134_135.out
    have hms51_0 := NB135_133.out
    have hms51_1 := NB135_134.out
    refine skip_ (w1 := ?_) (by rfl) rfl ?_ ?_
    rotate_left
    ·go_simp
     rfl
    refine hK.out _ _ ⟨((cell_far (p := ⟨gb135, _, none⟩) NB134_135.out _).trans (((cell_far (p := ⟨gb135, _, none⟩) NB134_135.out _).trans (hHeld.1)))), ((cell_far (p := ⟨gb135, _, none⟩) NB134_135.out _).trans (((cell_far (p := ⟨gb135, _, none⟩) NB134_135.out _).trans (hHeld.2.1)))), ((cell_far (p := ⟨gb135, _, none⟩) NB134_135.out _).trans (((cell_far (p := ⟨gb135, _, none⟩) NB134_135.out _).trans (hHeld.2.2.1)))), ((cell_far (p := ⟨gb135, _, none⟩) NB134_135.out _).trans (((cell_far (p := ⟨gb135, _, none⟩) NB134_135.out _).trans (hHeld.2.2.2.1)))), ((cell_far (p := ⟨gb135, _, none⟩) NB134_135.out _).trans (((cell_far (p := ⟨gb135, _, none⟩) NB134_135.out _).trans (hHeld.2.2.2.2.1)))), ((cell_far (p := ⟨gb135, _, none⟩) NB133_135.out _).trans (((cell_far (p := ⟨gb135, _, none⟩) NB133_135.out _).trans (hHeld.2.2.2.2.2.1)))), ((cell_far (p := ⟨gb135, _, none⟩) NB133_135.out _).trans (((cell_far (p := ⟨gb135, _, none⟩) NB133_135.out _).trans (hHeld.2.2.2.2.2.2))))⟩ (fun hHeld => ?_)
    clear hK K
    refine done_ (by kernel_rfl) ?_
    try go_wp2_with (first | (with_reducible refine Goto.jumpK_ret ?_) | (with_reducible refine Goto.jumpA_ret ?_) | (with_reducible refine Goto.jumpK_hit ?_) | (with_reducible refine Goto.then_goto ?_) | (with_reducible refine Goto.then_ret ?_) | (with_reducible refine wp_label (l := 0) ?_) | (with_reducible refine Goto.jumpA_go (l := 0) (HL0.out _ _ ?_)) | (with_reducible refine Goto.jumpK_miss (l' := 0) (by decide) (HL0.out _ _ ?_)) | (with_reducible refine wp_goto ?_) | (with_reducible refine Goto.scope_all ?_; intro J_ hJ_; have HL0 := aM (Goto.at_label hJ_ 0 rfl); clear hJ_))
    refine bodyPost_ret (results_cc rfl _ _ gb134 gb135 24 43 #[.int .i64 (wrap64 (t136)), .int .i64 (wrap64 (t139)), .int .u32 ((t142) % 4294967296), .string t145, .string t148] #[.string t149, .bool t150] (0, 0) (0, 0) _ _ rfl (by (with_reducible repeat (first | refine kN ?_ _ | refine kD ?_ | refine kA ?_ _)); refine kR ?_ NB134_135.out _; (with_reducible repeat (first | refine kN ?_ _ | refine kD ?_ | refine kA ?_ _)); refine kR ?_ NB134_135.out _; (with_reducible repeat (first | refine kN ?_ _ | refine kD ?_ | refine kA ?_ _)); refine blk_put (cs := #[.int .i64 (wrap64 (t136)), .int .i64 (wrap64 (t139)), .int .u32 ((t142) % 4294967296), .string t145, .string t148]) ?_ 4 _ rfl; (with_reducible repeat (first | refine kN ?_ _ | refine kD ?_ | refine kA ?_ _)); refine blk_put (cs := #[.int .i64 (wrap64 (t136)), .int .i64 (wrap64 (t139)), .int .u32 ((t142) % 4294967296), .string t145, .string t148]) ?_ 3 _ rfl; (with_reducible repeat (first | refine kN ?_ _ | refine kD ?_ | refine kA ?_ _)); refine blk_put (cs := #[.int .i64 (wrap64 (t136)), .int .i64 (wrap64 (t139)), .int .u32 ((t142) % 4294967296), .string t145, .string t148]) ?_ 2 _ rfl; (with_reducible repeat (first | refine kN ?_ _ | refine kD ?_ | refine kA ?_ _)); refine blk_put (cs := #[.int .i64 (wrap64 (t136)), .int .i64 (wrap64 (t139)), .int .u32 ((t142) % 4294967296), .string t145, .string t148]) ?_ 1 _ rfl; (with_reducible repeat (first | refine kN ?_ _ | refine kD ?_ | refine kA ?_ _)); refine blk_put (cs := #[.int .i64 (wrap64 (t136)), .int .i64 (wrap64 (t139)), .int .u32 ((t142) % 4294967296), .string t145, .string t148]) ?_ 0 _ rfl; (with_reducible repeat (first | refine kN ?_ _ | refine kD ?_ | refine kA ?_ _)); exact BK134.out) Tryd.underlying24 rfl (by kernel_rfl) rfl (by (with_reducible repeat (first | refine kN ?_ _ | refine kD ?_ | refine kA ?_ _)); refine blk_put (cs := #[.string t149, .bool false]) ?_ 1 _ rfl; (with_reducible repeat (first | refine kN ?_ _ | refine kD ?_ | refine kA ?_ _)); refine blk_put (cs := #[.string (⟨#[]⟩ : ByteArray), .bool false]) ?_ 0 _ rfl; (with_reducible repeat (first | refine kN ?_ _ | refine kD ?_ | refine kA ?_ _)); refine kR ?_ NB135_134.out _; (with_reducible repeat (first | refine kN ?_ _ | refine kD ?_ | refine kA ?_ _)); refine kR ?_ NB135_134.out _; (with_reducible repeat (first | refine kN ?_ _ | refine kD ?_ | refine kA ?_ _)); refine kR ?_ NB135_134.out _; (with_reducible repeat (first | refine kN ?_ _ | refine kD ?_ | refine kA ?_ _)); refine kR ?_ NB135_134.out _; (with_reducible repeat (first | refine kN ?_ _ | refine kD ?_ | refine kA ?_ _)); refine kR ?_ NB135_134.out _; (with_reducible repeat (first | refine kN ?_ _ | refine kD ?_ | refine kA ?_ _)); exact BK135.out) Tryd.underlying43 rfl (by kernel_rfl)) rfl ?_
    exact ⟨by first | rfl | (simp [errW_none, errW_some] <;> rfl) | (simp [*, errW_none, errW_some] <;> rfl), by repeat (first | (with_reducible first | exact HB.out | apply bA | apply bN | apply bD | refine bS ?_ GE133.out | refine bS ?_ GE134.out | refine bS ?_ GE135.out) | exact HB.out)⟩

end Go.Proofs.YtlljdocflfpnkaaDoor.PCmdBack
