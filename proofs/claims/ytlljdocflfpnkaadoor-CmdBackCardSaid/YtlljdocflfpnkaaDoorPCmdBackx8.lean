-- Written by a program of this session (wip/tools), over the kit's printed words: functions as plain Lean, and that the code answers so.
import Derived.Test.YtlljdocflfpnkaaDoorShort
import Derived.Test.YtlljdocflfpnkaaDoorPCmdBackx0
namespace Go.Proofs.YtlljdocflfpnkaaDoor.PCmdBack
open Go.Proofs.YtlljdocflfpnkaaDoor.Short Go.RowKit Go.Proofs.YtlljdocflfpnkaaDoorW.PrintWords Go.Proofs.YtlljdocflfpnkaaDoorW.PrintLast Go.Proofs.YtlljdocflfpnkaaDoorW.PrintMore
attribute [local go_sem] max2_int min2_int max_two min_two max_three min_three max_four min_four Goto.sig_u8 Goto.sig_u16 Goto.sig_u32 Goto.sig_u64 Goto.top_u8 Goto.top_u16 Goto.top_u32 Goto.top_u64   -- for this text's walks alone
set_option linter.unusedVariables false
set_option linter.unusedSimpArgs false

/-! ### comitialaw07_Wish_wish: function 10 -/
def comitialaw07_Wish_wish.j0 : Nat → Int → Int → Int → ByteArray → ByteArray → Option (Int × Int × Int × ByteArray × ByteArray)
  | 0, _, _, _, _, _ => none
  | k + 1, x179000, x179001, x179002, x179003, x179004 => if x179000 = 0 then (some (0, 0, 0, (⟨#[]⟩ : ByteArray), (⟨#[]⟩ : ByteArray))) else (if x179000 = 4 then (some (1, x179001, x179002, x179003, x179004)) else (some (x179000, x179001, x179002, x179003, x179004)))
def comitialaw07_Wish_wish.f (k : Nat) (a0_0 : Int) (a0_1 : Int) (a0_2 : Int) (a0_3 : ByteArray) (a0_4 : ByteArray) (a0_5 : Bool) : Option (Int × Int × Int × ByteArray × ByteArray) := if a0_5 = true then ((some (([(97 + ((Int.tmod (a0_2 / 256) 3) % 256)) % 256] : List Int) : List Int)).bind fun y175 => (if 0 ≤ (mn (a0_4.size : Int) 8) then (if (mn (a0_4.size : Int) 8) ≤ (a0_4.size : Int) then (if (wrap64 (Int.tmod (IntKind.u64.wrap (a0_0)) 5)) = 1 then (comitialaw07_Wish_wish.j0 k (wrap64 (Int.tmod (IntKind.u64.wrap (a0_0)) 5)) (wrap64 (1 + (wrap64 (Int.tmod (IntKind.u64.wrap (a0_1)) 4)))) ((1 + (Int.tmod a0_2 5)) % 4294967296) (strOfNums y175) (a0_4.extract 0 ((mn (a0_4.size : Int) 8) : Int).toNat)) else (comitialaw07_Wish_wish.j0 k (wrap64 (Int.tmod (IntKind.u64.wrap (a0_0)) 5)) (wrap64 (1 + (wrap64 (Int.tmod (IntKind.u64.wrap (a0_1)) 4)))) ((1 + (Int.tmod a0_2 5)) % 4294967296) (strOfNums y175) (⟨#[]⟩ : ByteArray))) else (none)) else (none))) else (some (a0_0, a0_1, a0_2, a0_3, a0_4))
theorem comitialaw07_Wish_wish.mono_l : ∀ k, (∀ y0 y1 y2 y3 y4, LeO (comitialaw07_Wish_wish.j0 k y0 y1 y2 y3 y4) (comitialaw07_Wish_wish.j0 (k + 1) y0 y1 y2 y3 y4))
  | 0 => fun _ _ _ _ _ r h => by simp [comitialaw07_Wish_wish.j0] at h
  | k + 1 => by
    have ih0 := comitialaw07_Wish_wish.mono_l k
    · intro y0 y1 y2 y3 y4
      unfold comitialaw07_Wish_wish.j0
      repeat' first
      | (with_reducible exact ih0 _ _ _ _ _)
      | (with_reducible exact LeO.refl _)
      | (with_reducible exact LeO.none _)
      | (with_reducible refine LeO.ite ?_ ?_)
      | (with_reducible refine LeO.bind ?_ (fun _ => ?_))
      | exact ih0 _ _ _ _ _
      | exact LeO.none _
      | refine LeO.ite ?_ ?_
      | refine LeO.bind ?_ (fun _ => ?_)
theorem comitialaw07_Wish_wish.mono : ∀ a0 a1 a2 a3 a4 a5 k, LeO (comitialaw07_Wish_wish.f k a0 a1 a2 a3 a4 a5) (comitialaw07_Wish_wish.f (k + 1) a0 a1 a2 a3 a4 a5) := by
  intro a0 a1 a2 a3 a4 a5 k
  have ih0 := comitialaw07_Wish_wish.mono_l k
  unfold comitialaw07_Wish_wish.f
  repeat' first
      | (with_reducible exact ih0 _ _ _ _ _)
      | (with_reducible exact LeO.refl _)
      | (with_reducible exact LeO.none _)
      | (with_reducible refine LeO.ite ?_ ?_)
      | (with_reducible refine LeO.bind ?_ (fun _ => ?_))
      | exact ih0 _ _ _ _ _
      | exact LeO.none _
      | refine LeO.ite ?_ ?_
      | refine LeO.bind ?_ (fun _ => ?_)
def comitialaw07_Wish_wish.T3 : Bool × List (List Nat × List Nat) := (true, [([], []), ([0], [0]), ([1], [1]), ([2], [2]), ([3], [3]), ([4], [4]), ([], []), ([6], [6]), ([7], [7]), ([8], [8]), ([9], [9]), ([10], [10]), ([11], [11]), ([], []), ([13], [13]), ([14], [14]), ([15], [15]), ([16], [16]), ([], []), ([18], [18]), ([19], [19]), ([20], [20]), ([21], [21]), ([22], [22]), ([23], [23]), ([24], [24]), ([25], [25]), ([], []), ([27], [27]), ([28], [28]), ([], []), ([30], [30]), ([31], [31]), ([32], [32]), ([33], [33]), ([29, 34], [29, 34]), ([5, 12, 17, 26, 35], [5, 12, 17, 26, 35]), ([], []), ([37, 36, 0, 1, 2, 3, 4, 5, 6, 7, 8, 9, 10, 11, 12, 13, 14, 15, 16, 17, 18, 19, 20, 21, 22, 23, 24, 25, 26, 27, 28, 29, 30, 31, 32, 33, 34, 35, 36, 37], [36, 37])])
def comitialaw07_Wish_wish.B3 : List Nat := [0, 1, 3, 7, 15, 31, 0, 64, 192, 448, 960, 1984, 4032, 0, 8192, 24576, 57344, 122880, 0, 262144, 786432, 1835008, 3932160, 8126464, 16515072, 33292288, 66846720, 0, 134217728, 402653184, 0, 1073741824, 3221225472, 7516192768, 16106127360, 34225520640, 68719476735, 0, 274877906943]
theorem comitialaw07_Wish_wish.tab3 : rtab .any (opsOf Tryd.f10 3) = comitialaw07_Wish_wish.T3 := by kernel_rfl
theorem comitialaw07_Wish_wish.bits3 : waitsOk comitialaw07_Wish_wish.T3.2 comitialaw07_Wish_wish.B3 = true := by kernel_rfl
set_option maxHeartbeats 8000000 in
set_option maxRecDepth 100000 in
theorem comitialaw07_Wish_wish.calls (k : Nat) (a0_0 : Int) (a0_1 : Int) (a0_2 : Int) (a0_3 : ByteArray) (a0_4 : ByteArray) (a0_5 : Bool) (r1 : Int) (r2 : Int) (r3 : Int) (r4 : ByteArray) (r5 : ByteArray) (w : World) (h : comitialaw07_Wish_wish.f k a0_0 a0_1 a0_2 a0_3 a0_4 a0_5 = some (r1, r2, r3, r4, r5)) :
    Calls Tryd.prog 10 #[.agg #[.int .i64 a0_0, .int .i64 a0_1, .int .u32 a0_2, .string a0_3, .string a0_4, .bool a0_5]] w fun e w' => e = .returned (.agg #[.int .i64 r1, .int .i64 r2, .int .u32 r3, .string r4, .string r5]) ∧ Below w.heap.size w w' := by
 have hu26 := Tryd.underlying26
 have hu24 := Tryd.underlying24
 have HB := aM (Below.refl w.heap.size w)
 have H : (if a0_5 = true then ((some (([(97 + ((Int.tmod (a0_2 / 256) 3) % 256)) % 256] : List Int) : List Int)).bind fun y175 => (if 0 ≤ (mn (a0_4.size : Int) 8) then (if (mn (a0_4.size : Int) 8) ≤ (a0_4.size : Int) then (if (wrap64 (Int.tmod (IntKind.u64.wrap (a0_0)) 5)) = 1 then (comitialaw07_Wish_wish.j0 k (wrap64 (Int.tmod (IntKind.u64.wrap (a0_0)) 5)) (wrap64 (1 + (wrap64 (Int.tmod (IntKind.u64.wrap (a0_1)) 4)))) ((1 + (Int.tmod a0_2 5)) % 4294967296) (strOfNums y175) (a0_4.extract 0 ((mn (a0_4.size : Int) 8) : Int).toNat)) else (comitialaw07_Wish_wish.j0 k (wrap64 (Int.tmod (IntKind.u64.wrap (a0_0)) 5)) (wrap64 (1 + (wrap64 (Int.tmod (IntKind.u64.wrap (a0_1)) 4)))) ((1 + (Int.tmod a0_2 5)) % 4294967296) (strOfNums y175) (⟨#[]⟩ : ByteArray))) else (none)) else (none))) else (some (a0_0, a0_1, a0_2, a0_3, a0_4))) = some (r1, r2, r3, r4, r5) := h
 clear h
 by_cases c2 : a0_5 = true
 ·subst c2
  have H1 : ((some (([(97 + ((Int.tmod (a0_2 / 256) 3) % 256)) % 256] : List Int) : List Int)).bind fun y175 => (if 0 ≤ (mn (a0_4.size : Int) 8) then (if (mn (a0_4.size : Int) 8) ≤ (a0_4.size : Int) then (if (wrap64 (Int.tmod (IntKind.u64.wrap (a0_0)) 5)) = 1 then (comitialaw07_Wish_wish.j0 k (wrap64 (Int.tmod (IntKind.u64.wrap (a0_0)) 5)) (wrap64 (1 + (wrap64 (Int.tmod (IntKind.u64.wrap (a0_1)) 4)))) ((1 + (Int.tmod a0_2 5)) % 4294967296) (strOfNums y175) (a0_4.extract 0 ((mn (a0_4.size : Int) 8) : Int).toNat)) else (comitialaw07_Wish_wish.j0 k (wrap64 (Int.tmod (IntKind.u64.wrap (a0_0)) 5)) (wrap64 (1 + (wrap64 (Int.tmod (IntKind.u64.wrap (a0_1)) 4)))) ((1 + (Int.tmod a0_2 5)) % 4294967296) (strOfNums y175) (⟨#[]⟩ : ByteArray))) else (none)) else (none))) = some (r1, r2, r3, r4, r5) := by rw [if_pos rfl] at H; exact H
  clear H
  have H := H1
  clear H1
  obtain ⟨y175, hy175⟩ : ∃ y_ : List Int, y_ = (([(97 + ((Int.tmod (a0_2 / 256) 3) % 256)) % 256] : List Int)) := ⟨_, rfl⟩
  replace H : (if 0 ≤ (mn (a0_4.size : Int) 8) then (if (mn (a0_4.size : Int) 8) ≤ (a0_4.size : Int) then (if (wrap64 (Int.tmod (IntKind.u64.wrap (a0_0)) 5)) = 1 then (comitialaw07_Wish_wish.j0 k (wrap64 (Int.tmod (IntKind.u64.wrap (a0_0)) 5)) (wrap64 (1 + (wrap64 (Int.tmod (IntKind.u64.wrap (a0_1)) 4)))) ((1 + (Int.tmod a0_2 5)) % 4294967296) (strOfNums y175) (a0_4.extract 0 ((mn (a0_4.size : Int) 8) : Int).toNat)) else (comitialaw07_Wish_wish.j0 k (wrap64 (Int.tmod (IntKind.u64.wrap (a0_0)) 5)) (wrap64 (1 + (wrap64 (Int.tmod (IntKind.u64.wrap (a0_1)) 4)))) ((1 + (Int.tmod a0_2 5)) % 4294967296) (strOfNums y175) (⟨#[]⟩ : ByteArray))) else (none)) else (none)) = some (r1, r2, r3, r4, r5) := by first | (rw [hy175]; with_reducible exact H) | (have H2_ := (Option.bind_some _ _).symm.trans H; rw [hy175]; with_reducible exact H2_) | (have H2_ := (Option.bind_some _ _).symm.trans H; with_reducible exact H2_) | with_reducible exact H | (rw [hy175]; exact H) | exact H
  have Ny175 := aM hy175
  clear hy175
  obtain ⟨ji3, hji3⟩ : ∃ j_ : Int, (mn (a0_4.size : Int) 8) = j_ := ⟨_, rfl⟩
  replace H : (if 0 ≤ (ji3) then (if (ji3) ≤ (a0_4.size : Int) then (if (wrap64 (Int.tmod (IntKind.u64.wrap (a0_0)) 5)) = 1 then (comitialaw07_Wish_wish.j0 k (wrap64 (Int.tmod (IntKind.u64.wrap (a0_0)) 5)) (wrap64 (1 + (wrap64 (Int.tmod (IntKind.u64.wrap (a0_1)) 4)))) ((1 + (Int.tmod a0_2 5)) % 4294967296) (strOfNums y175) (a0_4.extract 0 ((ji3) : Int).toNat)) else (comitialaw07_Wish_wish.j0 k (wrap64 (Int.tmod (IntKind.u64.wrap (a0_0)) 5)) (wrap64 (1 + (wrap64 (Int.tmod (IntKind.u64.wrap (a0_1)) 4)))) ((1 + (Int.tmod a0_2 5)) % 4294967296) (strOfNums y175) (⟨#[]⟩ : ByteArray))) else (none)) else (none)) = some (r1, r2, r3, r4, r5) := by first | (rw [hji3] at H; exact H) | (simp only [hji3] at H ⊢; exact H)
  (try (have hji3h : ji3 ≤ 8 := by (rw [← hji3]; unfold mn; (repeat' split) <;> omega)))
  (try (have hji3g : ji3 ≤ 64 := by omega))
  (try (have hji3l : 0 ≤ ji3 := by (rw [← hji3]; unfold mn; (repeat' split) <;> omega)))
  (try (have hji3m : 0 ≤ ji3 := by omega))
  have hji3_ : (if 8 < (a0_4.size : Int) then 8 else (a0_4.size : Int)) = ji3 := hji3
  by_cases c4 : 0 ≤ (ji3)
  ·rw [if_pos c4] at H
   have c4b0 := eq_true c4
   have c4b1 : decide (0 ≤ (ji3)) = true := decide_eq_true c4
   clear c4
   by_cases c5 : (ji3) ≤ (a0_4.size : Int)
   ·rw [if_pos c5] at H
    have c5b0 := eq_true c5
    have c5b1 : decide ((ji3) ≤ (a0_4.size : Int)) = true := decide_eq_true c5
    clear c5
    have HC6 := aM H
    clear H
    go_enter Tryd.func10, Tryd.ntmps10
    try go_wp2_with (first | ((with_reducible refine gate_dst (N := 1) rfl ?_); refine box_event ?hg (N := 1) ?hd (cs := #[.int .i64 a0_0, .int .i64 a0_1, .int .u32 a0_2, .string a0_3, .string a0_4, .bool true]) (t := 26) ?hr ?_; (case hd => rfl); (case hg => rfl); (case hr => first | (go_simp; done) | (go_simp; rfl) | (go_simp; simp only [IntKind.wrap_u8, IntKind.wrap_u32]; done) | (go_simp; simp only [IntKind.wrap_u8, IntKind.wrap_u32]; rfl)); intro gb173 hg w7 hbox hb; have n0_ := aM (below_step (by repeat (first | (with_reducible first | exact HB.out | apply bA | apply bN | apply bD) | exact HB.out)) hb); have n1_ := aM (hbox); have n2_ := aM ((by rw [hg]; exact (below_size (by repeat (first | (with_reducible first | exact HB.out | apply bA | apply bN | apply bD) | exact HB.out))) : w.heap.size ≤ gb173)); have n3_ := aM ((by rw [hg]; exact (below_size (by repeat (first | (with_reducible first | exact HB.out | apply bA | apply bN | apply bD) | exact HB.out))) : w.heap.size ≤ gb173)); clear HB; have HB := n0_; have BK173 := n1_; have GW173 := n2_; have GE173 := n3_; clear n0_ n1_ n2_ n3_; clear hb hbox hg) | ((with_reducible refine gate_dst (N := 2) rfl ?_); refine box_event ?hg (N := 2) ?hd (cs := #[.int .i64 0, .int .i64 0, .int .u32 0, .string (⟨#[]⟩ : ByteArray), .string (⟨#[]⟩ : ByteArray)]) (t := 24) ?hr ?_; (case hd => rfl); (case hg => rfl); (case hr => first | (go_simp; done) | (go_simp; rfl) | (go_simp; simp only [IntKind.wrap_u8, IntKind.wrap_u32]; done) | (go_simp; simp only [IntKind.wrap_u8, IntKind.wrap_u32]; rfl)); intro gb174 hg w8 hbox hb; have n0_ := aM (kB (g := gb173) (o := .cells #[.int .i64 a0_0, .int .i64 a0_1, .int .u32 a0_2, .string a0_3, .string a0_4, .bool true] 26 (0, 0)) (by (with_reducible repeat (first | refine kN ?_ _ | refine kD ?_ | refine kA ?_ _)); exact BK173.out) hb); have n1_ := aM (below_step (by repeat (first | (with_reducible first | exact HB.out | apply bA | apply bN | apply bD | refine bS ?_ GE173.out) | exact HB.out)) hb); have n2_ := aM (hbox); have n3_ := aM ((by rw [hg]; exact (below_size (by repeat (first | (with_reducible first | exact HB.out | apply bA | apply bN | apply bD | refine bS ?_ GE173.out) | exact HB.out))) : w.heap.size ≤ gb174)); have n4_ := aM ((by rw [hg]; exact (below_size (by repeat (first | (with_reducible first | exact HB.out | apply bA | apply bN | apply bD | refine bS ?_ GE173.out) | exact HB.out))) : w.heap.size ≤ gb174)); have n5_ := aM ((by rw [hg]; exact Nat.ne_of_lt (blk_lt (g := gb173) (o := .cells #[.int .i64 a0_0, .int .i64 a0_1, .int .u32 a0_2, .string a0_3, .string a0_4, .bool true] 26 (0, 0)) (by (with_reducible repeat (first | refine kN ?_ _ | refine kD ?_ | refine kA ?_ _)); exact BK173.out)) : gb173 ≠ gb174)); have n6_ := aM ((by rw [hg]; exact Nat.ne_of_gt (blk_lt (g := gb173) (o := .cells #[.int .i64 a0_0, .int .i64 a0_1, .int .u32 a0_2, .string a0_3, .string a0_4, .bool true] 26 (0, 0)) (by (with_reducible repeat (first | refine kN ?_ _ | refine kD ?_ | refine kA ?_ _)); exact BK173.out)) : gb174 ≠ gb173)); clear BK173; clear HB; have BK173 := n0_; have HB := n1_; have BK174 := n2_; have GW174 := n3_; have GE174 := n4_; have NB173_174 := n5_; have NB174_173 := n6_; clear n0_ n1_ n2_ n3_ n4_ n5_ n6_; clear hb hbox hg; have hnb9 := NB173_174.out; have hnc9 := NB174_173.out; have hcz10_0 : w8.cell? ⟨gb173, 0, none⟩ = some (.int .i64 a0_0) := (kC BK173.out 0).trans rfl; have hcz10_1 : w8.cell? ⟨gb173, 1, none⟩ = some (.int .i64 a0_1) := (kC BK173.out 1).trans rfl; have hcz10_2 : w8.cell? ⟨gb173, 2, none⟩ = some (.int .u32 a0_2) := (kC BK173.out 2).trans rfl; have hcz10_3 : w8.cell? ⟨gb173, 3, none⟩ = some (.string a0_3) := (kC BK173.out 3).trans rfl; have hcz10_4 : w8.cell? ⟨gb173, 4, none⟩ = some (.string a0_4) := (kC BK173.out 4).trans rfl; have hcz10_5 : w8.cell? ⟨gb173, 5, none⟩ = some (.bool true) := (kC BK173.out 5).trans rfl; have hfz10_0 := kF BK173.out 0; have hfz10_1 := kF BK173.out 1; have hfz10_2 := kF BK173.out 2; have hfz10_3 := kF BK173.out 3; have hfz10_4 := kF BK173.out 4; have hfz10_5 := kF BK173.out 5))
    have n0_ := aM (kD BK173.out)
    have n1_ := aM (kD BK174.out)
    have n2_ := aM (bD HB.out)
    clear BK173
    clear BK174
    clear HB
    have BK173 := n0_
    have BK174 := n1_
    have HB := n2_
    clear n0_ n1_ n2_
    refine start_ (n := 39) (S := fun w' => w'.cell? ⟨gb173, 0, none⟩ = some (.int .i64 a0_0) ∧ w'.cell? ⟨gb173, 1, none⟩ = some (.int .i64 a0_1) ∧ w'.cell? ⟨gb173, 2, none⟩ = some (.int .u32 a0_2) ∧ w'.cell? ⟨gb173, 3, none⟩ = some (.string a0_3) ∧ w'.cell? ⟨gb173, 4, none⟩ = some (.string a0_4) ∧ w'.cell? ⟨gb173, 5, none⟩ = some (.bool true)) (ds := []) #[false, false, false, false, false, false, false, false, false, false, false, false, false, false, false, false, false, false, false, false, false, false, false, false, false, false, false, false, false, false, false, false, false, false, false, false, false, false, false] (by kernel_rfl) rfl rfl ⟨(kC BK173.out 0).trans rfl, (kC BK173.out 1).trans rfl, (kC BK173.out 2).trans rfl, (kC BK173.out 3).trans rfl, (kC BK173.out 4).trans rfl, (kC BK173.out 5).trans rfl⟩ (fun hHeld => ?_); refine with_tabW comitialaw07_Wish_wish.tab3 comitialaw07_Wish_wish.bits3 (fun HT_ HW_ => ?_)
    generalize w8.drew = w11 at BK173 BK174 HB hHeld ⊢
    refine pure_ (i := 0) (N := some 9) (v := ?_) (a' := ?_) #[true, false, false, false, false, false, false, false, false, false, false, false, false, false, false, false, false, false, false, false, false, false, false, false, false, false, false, false, false, false, false, false, false, false, false, false, false, false, false] rfl rfl (any_of HT_.out (by kernel_rfl)) (fun _ _ _ h => h) (Or.inl ⟨by rfl, ?_⟩) ?_ ?_
    rotate_left
    ·intro w'
     go_simp
     with_reducible rfl
    rotate_left
    ·simp only [Act.put, List.setIfInBounds_toArray, List.set_cons_zero, List.set_cons_succ, i64_w, i32_w, IntKind.wrap_u8, IntKind.wrap_u32]
     rfl
    refine pure_ (i := 1) (N := some 10) (v := ?_) (a' := ?_) #[true, true, false, false, false, false, false, false, false, false, false, false, false, false, false, false, false, false, false, false, false, false, false, false, false, false, false, false, false, false, false, false, false, false, false, false, false, false, false] rfl rfl (any_of HT_.out (by kernel_rfl)) (fun _ _ _ h => h) (Or.inl ⟨by rfl, ?_⟩) ?_ ?_
    rotate_left
    ·intro w'
     go_simp
     with_reducible rfl
    rotate_left
    ·simp only [Act.put, List.setIfInBounds_toArray, List.set_cons_zero, List.set_cons_succ, i64_w, i32_w, IntKind.wrap_u8, IntKind.wrap_u32]
     rfl
    refine pure_ (i := 6) (N := some 15) (v := ?_) (a' := ?_) #[true, true, false, false, false, false, true, false, false, false, false, false, false, false, false, false, false, false, false, false, false, false, false, false, false, false, false, false, false, false, false, false, false, false, false, false, false, false, false] rfl rfl (any_of HT_.out (by kernel_rfl)) (fun _ _ _ h => h) (Or.inl ⟨by rfl, ?_⟩) ?_ ?_
    rotate_left
    ·intro w'
     go_simp
     with_reducible rfl
    rotate_left
    ·simp only [Act.put, List.setIfInBounds_toArray, List.set_cons_zero, List.set_cons_succ, i64_w, i32_w, IntKind.wrap_u8, IntKind.wrap_u32]
     rfl
    refine pure_ (i := 7) (N := some 16) (v := ?_) (a' := ?_) #[true, true, false, false, false, false, true, true, false, false, false, false, false, false, false, false, false, false, false, false, false, false, false, false, false, false, false, false, false, false, false, false, false, false, false, false, false, false, false] rfl rfl (any_of HT_.out (by kernel_rfl)) (fun _ _ _ h => h) (Or.inl ⟨by rfl, ?_⟩) ?_ ?_
    rotate_left
    ·intro w'
     go_simp
     with_reducible rfl
    rotate_left
    ·simp only [Act.put, List.setIfInBounds_toArray, List.set_cons_zero, List.set_cons_succ, i64_w, i32_w, IntKind.wrap_u8, IntKind.wrap_u32]
     rfl
    refine pure_ (i := 13) (N := some 22) (v := ?_) (a' := ?_) #[true, true, false, false, false, false, true, true, false, false, false, false, false, true, false, false, false, false, false, false, false, false, false, false, false, false, false, false, false, false, false, false, false, false, false, false, false, false, false] rfl rfl (any_of HT_.out (by kernel_rfl)) (fun _ _ _ h => h) (Or.inl ⟨by rfl, ?_⟩) ?_ ?_
    rotate_left
    ·intro w'
     go_simp
     with_reducible rfl
    rotate_left
    ·simp only [Act.put, List.setIfInBounds_toArray, List.set_cons_zero, List.set_cons_succ, i64_w, i32_w, IntKind.wrap_u8, IntKind.wrap_u32]
     rfl
    refine pure_ (i := 14) (N := some 23) (v := ?_) (a' := ?_) #[true, true, false, false, false, false, true, true, false, false, false, false, false, true, true, false, false, false, false, false, false, false, false, false, false, false, false, false, false, false, false, false, false, false, false, false, false, false, false] rfl rfl (any_of HT_.out (by kernel_rfl)) (fun _ _ _ h => h) (Or.inl ⟨by rfl, ?_⟩) ?_ ?_
    rotate_left
    ·intro w'
     go_simp
     with_reducible rfl
    rotate_left
    ·simp only [Act.put, List.setIfInBounds_toArray, List.set_cons_zero, List.set_cons_succ, i64_w, i32_w, IntKind.wrap_u8, IntKind.wrap_u32]
     rfl
    refine pure_ (i := 18) (N := some 27) (v := ?_) (a' := ?_) #[true, true, false, false, false, false, true, true, false, false, false, false, false, true, true, false, false, false, true, false, false, false, false, false, false, false, false, false, false, false, false, false, false, false, false, false, false, false, false] rfl rfl (any_of HT_.out (by kernel_rfl)) (fun _ _ _ h => h) (Or.inl ⟨by rfl, ?_⟩) ?_ ?_
    rotate_left
    ·intro w'
     go_simp
     with_reducible rfl
    rotate_left
    ·simp only [Act.put, List.setIfInBounds_toArray, List.set_cons_zero, List.set_cons_succ, i64_w, i32_w, IntKind.wrap_u8, IntKind.wrap_u32]
     rfl
    refine pure_ (i := 19) (N := some 28) (v := ?_) (a' := ?_) #[true, true, false, false, false, false, true, true, false, false, false, false, false, true, true, false, false, false, true, true, false, false, false, false, false, false, false, false, false, false, false, false, false, false, false, false, false, false, false] rfl rfl (any_of HT_.out (by kernel_rfl)) (fun _ _ _ h => h) (Or.inl ⟨by rfl, ?_⟩) ?_ ?_
    rotate_left
    ·intro w'
     go_simp
     with_reducible rfl
    rotate_left
    ·simp only [Act.put, List.setIfInBounds_toArray, List.set_cons_zero, List.set_cons_succ, i64_w, i32_w, IntKind.wrap_u8, IntKind.wrap_u32]
     rfl
    refine pure_ (i := 27) (N := some 36) (v := ?_) (a' := ?_) #[true, true, false, false, false, false, true, true, false, false, false, false, false, true, true, false, false, false, true, true, false, false, false, false, false, false, false, true, false, false, false, false, false, false, false, false, false, false, false] rfl rfl (any_of HT_.out (by kernel_rfl)) (fun _ _ _ h => h) (Or.inl ⟨by rfl, ?_⟩) ?_ ?_
    rotate_left
    ·intro w'
     go_simp
     with_reducible rfl
    rotate_left
    ·simp only [Act.put, List.setIfInBounds_toArray, List.set_cons_zero, List.set_cons_succ, i64_w, i32_w, IntKind.wrap_u8, IntKind.wrap_u32]
     rfl
    refine pure_ (i := 28) (N := some 37) (v := ?_) (a' := ?_) #[true, true, false, false, false, false, true, true, false, false, false, false, false, true, true, false, false, false, true, true, false, false, false, false, false, false, false, true, true, false, false, false, false, false, false, false, false, false, false] rfl rfl (any_of HT_.out (by kernel_rfl)) (fun _ _ _ h => h) (Or.inl ⟨by rfl, ?_⟩) ?_ ?_
    rotate_left
    ·intro w'
     go_simp
     with_reducible rfl
    rotate_left
    ·simp only [Act.put, List.setIfInBounds_toArray, List.set_cons_zero, List.set_cons_succ, i64_w, i32_w, IntKind.wrap_u8, IntKind.wrap_u32]
     rfl
    refine pure_ (i := 30) (N := some 39) (v := ?_) (a' := ?_) #[true, true, false, false, false, false, true, true, false, false, false, false, false, true, true, false, false, false, true, true, false, false, false, false, false, false, false, true, true, false, true, false, false, false, false, false, false, false, false] rfl rfl (any_of HT_.out (by kernel_rfl)) (fun _ _ _ h => h) (Or.inl ⟨by rfl, ?_⟩) ?_ ?_
    rotate_left
    ·intro w'
     go_simp
     with_reducible rfl
    rotate_left
    ·simp only [Act.put, List.setIfInBounds_toArray, List.set_cons_zero, List.set_cons_succ, i64_w, i32_w, IntKind.wrap_u8, IntKind.wrap_u32]
     rfl
    refine pure_ (i := 31) (N := some 40) (v := ?_) (a' := ?_) #[true, true, false, false, false, false, true, true, false, false, false, false, false, true, true, false, false, false, true, true, false, false, false, false, false, false, false, true, true, false, true, true, false, false, false, false, false, false, false] rfl rfl (any_of HT_.out (by kernel_rfl)) (fun _ _ _ h => h) (Or.inl ⟨by rfl, ?_⟩) ?_ ?_
    rotate_left
    ·intro w'
     go_simp
     with_reducible rfl
    rotate_left
    ·simp only [Act.put, List.setIfInBounds_toArray, List.set_cons_zero, List.set_cons_succ, i64_w, i32_w, IntKind.wrap_u8, IntKind.wrap_u32]
     rfl
    refine take_ (i := 2) (N := some 11) (v := ?_) (a' := ?_) #[true, true, true, false, false, false, true, true, false, false, false, false, false, true, true, false, false, false, true, true, false, false, false, false, false, false, false, true, true, false, true, true, false, false, false, false, false, false, false] rfl rfl (take_ofW HT_.out HW_.out (by kernel_rfl)) (fun _ _ _ h => h) (Or.inl ⟨by rfl, ?_⟩) hHeld ?_ ?_
    rotate_left
    ·rintro w' ⟨s0, s1, s2, s3, s4, s5⟩
     go_simp
     with_reducible rfl
    rotate_left
    ·simp only [Act.put, List.setIfInBounds_toArray, List.set_cons_zero, List.set_cons_succ, i64_w, i32_w, IntKind.wrap_u8, IntKind.wrap_u32]
     rfl
    refine pure_ (i := 3) (N := some 12) (v := ?_) (a' := ?_) #[true, true, true, true, false, false, true, true, false, false, false, false, false, true, true, false, false, false, true, true, false, false, false, false, false, false, false, true, true, false, true, true, false, false, false, false, false, false, false] rfl rfl (any_of HT_.out (by kernel_rfl)) (fun _ _ _ h => h) (Or.inl ⟨by rfl, ?_⟩) ?_ ?_
    rotate_left
    ·intro w'
     go_simp
     with_reducible rfl
    rotate_left
    ·simp only [Act.put, List.setIfInBounds_toArray, List.set_cons_zero, List.set_cons_succ, i64_w, i32_w, IntKind.wrap_u8, IntKind.wrap_u32]
     rfl
    refine pure_ (i := 4) (N := some 13) (v := ?_) (a' := ?_) #[true, true, true, true, true, false, true, true, false, false, false, false, false, true, true, false, false, false, true, true, false, false, false, false, false, false, false, true, true, false, true, true, false, false, false, false, false, false, false] rfl rfl (any_of HT_.out (by kernel_rfl)) (fun _ _ _ h => h) (Or.inl ⟨by rfl, ?_⟩) ?_ ?_
    rotate_left
    ·intro w'
     go_simp
     with_reducible rfl
    rotate_left
    ·simp only [Act.put, List.setIfInBounds_toArray, List.set_cons_zero, List.set_cons_succ, i64_w, i32_w, IntKind.wrap_u8, IntKind.wrap_u32]
     rfl
    refine pure_ (i := 5) (N := some 14) (v := ?_) (a' := ?_) #[true, true, true, true, true, true, true, true, false, false, false, false, false, true, true, false, false, false, true, true, false, false, false, false, false, false, false, true, true, false, true, true, false, false, false, false, false, false, false] rfl rfl (any_of HT_.out (by kernel_rfl)) (fun _ _ _ h => h) (Or.inl ⟨by rfl, ?_⟩) ?_ ?_
    rotate_left
    ·intro w'
     go_simp
     with_reducible rfl
    rotate_left
    ·simp only [Act.put, List.setIfInBounds_toArray, List.set_cons_zero, List.set_cons_succ, i64_w, i32_w, IntKind.wrap_u8, IntKind.wrap_u32]
     rfl
    refine take_ (i := 8) (N := some 17) (v := ?_) (a' := ?_) #[true, true, true, true, true, true, true, true, true, false, false, false, false, true, true, false, false, false, true, true, false, false, false, false, false, false, false, true, true, false, true, true, false, false, false, false, false, false, false] rfl rfl (take_ofW HT_.out HW_.out (by kernel_rfl)) (fun _ _ _ h => h) (Or.inl ⟨by rfl, ?_⟩) hHeld ?_ ?_
    rotate_left
    ·rintro w' ⟨s0, s1, s2, s3, s4, s5⟩
     go_simp
     with_reducible rfl
    rotate_left
    ·simp only [Act.put, List.setIfInBounds_toArray, List.set_cons_zero, List.set_cons_succ, i64_w, i32_w, IntKind.wrap_u8, IntKind.wrap_u32]
     rfl
    refine pure_ (i := 9) (N := some 18) (v := ?_) (a' := ?_) #[true, true, true, true, true, true, true, true, true, true, false, false, false, true, true, false, false, false, true, true, false, false, false, false, false, false, false, true, true, false, true, true, false, false, false, false, false, false, false] rfl rfl (any_of HT_.out (by kernel_rfl)) (fun _ _ _ h => h) (Or.inl ⟨by rfl, ?_⟩) ?_ ?_
    rotate_left
    ·intro w'
     go_simp
     with_reducible rfl
    rotate_left
    ·simp only [Act.put, List.setIfInBounds_toArray, List.set_cons_zero, List.set_cons_succ, i64_w, i32_w, IntKind.wrap_u8, IntKind.wrap_u32]
     rfl
    refine pure_ (i := 10) (N := some 19) (v := ?_) (a' := ?_) #[true, true, true, true, true, true, true, true, true, true, true, false, false, true, true, false, false, false, true, true, false, false, false, false, false, false, false, true, true, false, true, true, false, false, false, false, false, false, false] rfl rfl (any_of HT_.out (by kernel_rfl)) (fun _ _ _ h => h) (Or.inl ⟨by rfl, ?_⟩) ?_ ?_
    rotate_left
    ·intro w'
     go_simp
     with_reducible rfl
    rotate_left
    ·simp only [Act.put, List.setIfInBounds_toArray, List.set_cons_zero, List.set_cons_succ, i64_w, i32_w, IntKind.wrap_u8, IntKind.wrap_u32]
     rfl
    refine pure_ (i := 11) (N := some 20) (v := ?_) (a' := ?_) #[true, true, true, true, true, true, true, true, true, true, true, true, false, true, true, false, false, false, true, true, false, false, false, false, false, false, false, true, true, false, true, true, false, false, false, false, false, false, false] rfl rfl (any_of HT_.out (by kernel_rfl)) (fun _ _ _ h => h) (Or.inl ⟨by rfl, ?_⟩) ?_ ?_
    rotate_left
    ·intro w'
     go_simp
     with_reducible rfl
    rotate_left
    ·simp only [Act.put, List.setIfInBounds_toArray, List.set_cons_zero, List.set_cons_succ, i64_w, i32_w, IntKind.wrap_u8, IntKind.wrap_u32]
     rfl
    refine pure_ (i := 12) (N := some 21) (v := ?_) (a' := ?_) #[true, true, true, true, true, true, true, true, true, true, true, true, true, true, true, false, false, false, true, true, false, false, false, false, false, false, false, true, true, false, true, true, false, false, false, false, false, false, false] rfl rfl (any_of HT_.out (by kernel_rfl)) (fun _ _ _ h => h) (Or.inl ⟨by rfl, ?_⟩) ?_ ?_
    rotate_left
    ·intro w'
     go_simp
     with_reducible rfl
    rotate_left
    ·simp only [Act.put, List.setIfInBounds_toArray, List.set_cons_zero, List.set_cons_succ, i64_w, i32_w, IntKind.wrap_u8, IntKind.wrap_u32]
     rfl
    refine take_ (i := 15) (N := some 24) (v := ?_) (a' := ?_) #[true, true, true, true, true, true, true, true, true, true, true, true, true, true, true, true, false, false, true, true, false, false, false, false, false, false, false, true, true, false, true, true, false, false, false, false, false, false, false] rfl rfl (take_ofW HT_.out HW_.out (by kernel_rfl)) (fun _ _ _ h => h) (Or.inl ⟨by rfl, ?_⟩) hHeld ?_ ?_
    rotate_left
    ·rintro w' ⟨s0, s1, s2, s3, s4, s5⟩
     go_simp
     with_reducible rfl
    rotate_left
    ·simp only [Act.put, List.setIfInBounds_toArray, List.set_cons_zero, List.set_cons_succ, i64_w, i32_w, IntKind.wrap_u8, IntKind.wrap_u32]
     rfl
    refine pure_ (i := 16) (N := some 25) (v := ?_) (a' := ?_) #[true, true, true, true, true, true, true, true, true, true, true, true, true, true, true, true, true, false, true, true, false, false, false, false, false, false, false, true, true, false, true, true, false, false, false, false, false, false, false] rfl rfl (any_of HT_.out (by kernel_rfl)) (fun _ _ _ h => h) (Or.inl ⟨by rfl, ?_⟩) ?_ ?_
    rotate_left
    ·intro w'
     go_simp
     with_reducible rfl
    rotate_left
    ·simp only [Act.put, List.setIfInBounds_toArray, List.set_cons_zero, List.set_cons_succ, i64_w, i32_w, IntKind.wrap_u8, IntKind.wrap_u32]
     rfl
    refine pure_ (i := 17) (N := some 26) (v := ?_) (a' := ?_) #[true, true, true, true, true, true, true, true, true, true, true, true, true, true, true, true, true, true, true, true, false, false, false, false, false, false, false, true, true, false, true, true, false, false, false, false, false, false, false] rfl rfl (any_of HT_.out (by kernel_rfl)) (fun _ _ _ h => h) (Or.inl ⟨by rfl, ?_⟩) ?_ ?_
    rotate_left
    ·intro w'
     go_simp
     with_reducible rfl
    rotate_left
    ·simp only [Act.put, List.setIfInBounds_toArray, List.set_cons_zero, List.set_cons_succ, i64_w, i32_w, IntKind.wrap_u8, IntKind.wrap_u32]
     rfl
    refine take_ (i := 20) (N := some 29) (v := ?_) (a' := ?_) #[true, true, true, true, true, true, true, true, true, true, true, true, true, true, true, true, true, true, true, true, true, false, false, false, false, false, false, true, true, false, true, true, false, false, false, false, false, false, false] rfl rfl (take_ofW HT_.out HW_.out (by kernel_rfl)) (fun _ _ _ h => h) (Or.inl ⟨by rfl, ?_⟩) hHeld ?_ ?_
    rotate_left
    ·rintro w' ⟨s0, s1, s2, s3, s4, s5⟩
     go_simp
     with_reducible rfl
    rotate_left
    ·simp only [Act.put, List.setIfInBounds_toArray, List.set_cons_zero, List.set_cons_succ, i64_w, i32_w, IntKind.wrap_u8, IntKind.wrap_u32]
     rfl
    refine pure_ (i := 21) (N := some 30) (v := ?_) (a' := ?_) #[true, true, true, true, true, true, true, true, true, true, true, true, true, true, true, true, true, true, true, true, true, true, false, false, false, false, false, true, true, false, true, true, false, false, false, false, false, false, false] rfl rfl (any_of HT_.out (by kernel_rfl)) (fun _ _ _ h => h) (Or.inl ⟨by rfl, ?_⟩) ?_ ?_
    rotate_left
    ·intro w'
     go_simp
     with_reducible rfl
    rotate_left
    ·simp only [Act.put, List.setIfInBounds_toArray, List.set_cons_zero, List.set_cons_succ, i64_w, i32_w, IntKind.wrap_u8, IntKind.wrap_u32]
     rfl
    refine pure_ (i := 22) (N := some 31) (v := ?_) (a' := ?_) #[true, true, true, true, true, true, true, true, true, true, true, true, true, true, true, true, true, true, true, true, true, true, true, false, false, false, false, true, true, false, true, true, false, false, false, false, false, false, false] rfl rfl (any_of HT_.out (by kernel_rfl)) (fun _ _ _ h => h) (Or.inl ⟨by rfl, ?_⟩) ?_ ?_
    rotate_left
    ·intro w'
     go_simp
     with_reducible rfl
    rotate_left
    ·simp only [Act.put, List.setIfInBounds_toArray, List.set_cons_zero, List.set_cons_succ, i64_w, i32_w, IntKind.wrap_u8, IntKind.wrap_u32]
     rfl
    refine pure_ (i := 23) (N := some 32) (v := ?_) (a' := ?_) #[true, true, true, true, true, true, true, true, true, true, true, true, true, true, true, true, true, true, true, true, true, true, true, true, false, false, false, true, true, false, true, true, false, false, false, false, false, false, false] rfl rfl (any_of HT_.out (by kernel_rfl)) (fun _ _ _ h => h) (Or.inl ⟨by rfl, ?_⟩) ?_ ?_
    rotate_left
    ·intro w'
     go_simp
     with_reducible rfl
    rotate_left
    ·simp only [Act.put, List.setIfInBounds_toArray, List.set_cons_zero, List.set_cons_succ, i64_w, i32_w, IntKind.wrap_u8, IntKind.wrap_u32]
     rfl
    refine pure_ (i := 24) (N := some 33) (v := ?_) (a' := ?_) #[true, true, true, true, true, true, true, true, true, true, true, true, true, true, true, true, true, true, true, true, true, true, true, true, true, false, false, true, true, false, true, true, false, false, false, false, false, false, false] rfl rfl (any_of HT_.out (by kernel_rfl)) (fun _ _ _ h => h) (Or.inl ⟨by rfl, ?_⟩) ?_ ?_
    rotate_left
    ·intro w'
     go_simp
     with_reducible rfl
    rotate_left
    ·simp only [Act.put, List.setIfInBounds_toArray, List.set_cons_zero, List.set_cons_succ, i64_w, i32_w, IntKind.wrap_u8, IntKind.wrap_u32]
     rfl
    refine take_ (i := 29) (N := some 38) (v := ?_) (a' := ?_) #[true, true, true, true, true, true, true, true, true, true, true, true, true, true, true, true, true, true, true, true, true, true, true, true, true, false, false, true, true, true, true, true, false, false, false, false, false, false, false] rfl rfl (take_ofW HT_.out HW_.out (by kernel_rfl)) (fun _ _ _ h => h) (Or.inl ⟨by rfl, ?_⟩) hHeld ?_ ?_
    rotate_left
    ·rintro w' ⟨s0, s1, s2, s3, s4, s5⟩
     go_simp
     with_reducible rfl
    rotate_left
    ·simp only [Act.put, List.setIfInBounds_toArray, List.set_cons_zero, List.set_cons_succ, i64_w, i32_w, IntKind.wrap_u8, IntKind.wrap_u32]
     rfl
    refine take_ (i := 32) (N := some 41) (v := ?_) (a' := ?_) #[true, true, true, true, true, true, true, true, true, true, true, true, true, true, true, true, true, true, true, true, true, true, true, true, true, false, false, true, true, true, true, true, true, false, false, false, false, false, false] rfl rfl (take_ofW HT_.out HW_.out (by kernel_rfl)) (fun _ _ _ h => h) (Or.inl ⟨by rfl, ?_⟩) hHeld ?_ ?_
    rotate_left
    ·rintro w' ⟨s0, s1, s2, s3, s4, s5⟩
     go_simp
     with_reducible rfl
    rotate_left
    ·simp only [Act.put, List.setIfInBounds_toArray, List.set_cons_zero, List.set_cons_succ, i64_w, i32_w, IntKind.wrap_u8, IntKind.wrap_u32]
     rfl
    refine pure_ (i := 33) (N := some 42) (v := ?_) (a' := ?_) #[true, true, true, true, true, true, true, true, true, true, true, true, true, true, true, true, true, true, true, true, true, true, true, true, true, false, false, true, true, true, true, true, true, true, false, false, false, false, false] rfl rfl (any_of HT_.out (by kernel_rfl)) (fun _ _ _ h => h) (Or.inl ⟨by rfl, ?_⟩) ?_ ?_
    rotate_left
    ·intro w'
     go_simp
     with_reducible rfl
    rotate_left
    ·simp only [Act.put, List.setIfInBounds_toArray, List.set_cons_zero, List.set_cons_succ, i64_w, i32_w, IntKind.wrap_u8, IntKind.wrap_u32]
     rfl
    refine pure_ (i := 34) (N := some 43) (v := ?_) (a' := ?_) #[true, true, true, true, true, true, true, true, true, true, true, true, true, true, true, true, true, true, true, true, true, true, true, true, true, false, false, true, true, true, true, true, true, true, true, false, false, false, false] rfl rfl (any_of HT_.out (by kernel_rfl)) (fun _ _ _ h => h) (Or.inl ⟨by rfl, ?_⟩) ?_ ?_
    rotate_left
    ·intro w'
     go_simp
     with_reducible rfl
    rotate_left
    ·simp only [Act.put, List.setIfInBounds_toArray, List.set_cons_zero, List.set_cons_succ, i64_w, i32_w, IntKind.wrap_u8, IntKind.wrap_u32]
     rfl
    refine pure_ (i := 35) (N := some 44) (v := ?_) (a' := ?_) #[true, true, true, true, true, true, true, true, true, true, true, true, true, true, true, true, true, true, true, true, true, true, true, true, true, false, false, true, true, true, true, true, true, true, true, true, false, false, false] rfl rfl (any_of HT_.out (by kernel_rfl)) (fun _ _ _ h => h) (Or.inl ⟨by rfl, ?_⟩) ?_ ?_
    rotate_left
    ·intro w'
     go_simp
     with_reducible rfl
    rotate_left
    ·simp only [Act.put, List.setIfInBounds_toArray, List.set_cons_zero, List.set_cons_succ, i64_w, i32_w, IntKind.wrap_u8, IntKind.wrap_u32]
     rfl
    refine join_ (σ := Value × Nat) 1 #[true, true, true, true, true, true, true, true, true, true, true, true, true, true, true, true, true, true, true, true, true, true, true, true, true, true, true, true, true, true, true, true, true, true, true, true, true, true, false] (fun s_ => [(34, s_.1), (35, .string (strOfNums y175)), (3, .pointer (some ⟨s_.2, 0, none⟩)), (45, .agg #[.int .i64 (wrap64 (Int.tmod (IntKind.u64.wrap (a0_0)) 5)), .int .i64 (wrap64 (1 + (wrap64 (Int.tmod (IntKind.u64.wrap (a0_1)) 4)))), .int .u32 ((1 + (Int.tmod a0_2 5)) % 4294967296), .string (strOfNums y175), .string (a0_4.extract 0 ((ji3) : Int).toNat)])]) (fun s_ w' => (w'.cell? ⟨gb173, 0, none⟩ = some (.int .i64 a0_0) ∧ w'.cell? ⟨gb173, 1, none⟩ = some (.int .i64 a0_1) ∧ w'.cell? ⟨gb173, 2, none⟩ = some (.int .u32 a0_2) ∧ w'.cell? ⟨gb173, 3, none⟩ = some (.string a0_3) ∧ w'.cell? ⟨gb173, 4, none⟩ = some (.string a0_4) ∧ w'.cell? ⟨gb173, 5, none⟩ = some (.bool true)) ∧ (Kd.R (Kd.int .u8) 5 w' w.heap.size (fun _ => True) s_.1 y175) ∧ (w'.heap[gb173]? = some (.cells #[.int .i64 a0_0, .int .i64 a0_1, .int .u32 a0_2, .string a0_3, .string a0_4, .bool true] 26 (0, 0))) ∧ (w'.heap[gb174]? = some (.cells #[.int .i64 0, .int .i64 0, .int .u32 0, .string (⟨#[]⟩ : ByteArray), .string (⟨#[]⟩ : ByteArray)] 24 (0, 0))) ∧ (w'.heap[s_.2]? = some (.cells #[.int .i64 0, .int .i64 0, .int .u32 0, .string (⟨#[]⟩ : ByteArray), .string (⟨#[]⟩ : ByteArray)] 24 (0, 0))) ∧ (w.heap.size ≤ s_.2) ∧ (w.heap.size ≤ s_.2) ∧ (gb173 ≠ s_.2) ∧ (s_.2 ≠ gb173) ∧ (gb174 ≠ s_.2) ∧ (s_.2 ≠ gb174) ∧ (Below w.heap.size w w')) ?_ ?_
    rotate_left
    ·intro hCont
     refine two_ (i := 25) (j := 37) (Ni := some 34) (Nj := some 3) #[true, true, true, true, true, true, true, true, true, true, true, true, true, true, true, true, true, true, true, true, true, true, true, true, true, true, false, true, true, true, true, true, true, true, true, true, false, false, false] #[true, true, true, true, true, true, true, true, true, true, true, true, true, true, true, true, true, true, true, true, true, true, true, true, true, false, false, true, true, true, true, true, true, true, true, true, false, true, false] rfl rfl rfl rfl (two_of HT_.out (by kernel_rfl)) (by decide) (by decide) (fun K hK => ?_) (fun K hK => ?_)
     ·skip
      refine Kd.R_lit_step (Kd.int .u8) _ 5 ?hg (N := 34) ?hd (xs := ([(97 + ((Int.tmod (a0_2 / 256) 3) % 256)) % 256] : List Int)) (inner := [.int .u8 ((97 + ((Int.tmod (a0_2 / 256) 3) % 256)) % 256)]) (ok := fun _ => True) (okp := fun _ => True) ?hr ?hp (fun _ hk => hk) trivial (Below.refl _ _) (Nat.le_refl _) (by simp) ?_; (case hd => rfl); (case hg => rfl); (case hr => first | (go_simp; done) | (go_simp; rfl) | (go_simp; simp only [IntKind.wrap_u8, IntKind.wrap_u32]; done) | (go_simp; simp only [IntKind.wrap_u8, IntKind.wrap_u32]; rfl)); (case hp => exact (Reps.one (show Kd.M (Kd.int .u8) _ _ _ ((97 + ((Int.tmod (a0_2 / 256) 3) % 256)) % 256) [.int .u8 ((97 + ((Int.tmod (a0_2 / 256) 3) % 256)) % 256)] from rfl) (Reps.none _ _)))
      intro v176 w12 ho13 hb hg_ hnew_
      clear hg_ hnew_
      (first | rw [← Ny175.out] at ho13 | (simp only [Int.reduceToNat] at ho13; rw [← Ny175.out] at ho13))
      have n0_ := aM (Kd.R_lower ho13 (below_size (by repeat (first | (with_reducible first | exact HB.out | apply bA | apply bN | apply bD | refine bS ?_ GE173.out | refine bS ?_ GE174.out) | exact HB.out))))
      have n1_ := aM (kB (g := gb173) (o := .cells #[.int .i64 a0_0, .int .i64 a0_1, .int .u32 a0_2, .string a0_3, .string a0_4, .bool true] 26 (0, 0)) (by (with_reducible repeat (first | refine kN ?_ _ | refine kD ?_ | refine kA ?_ _)); exact BK173.out) hb)
      have n2_ := aM (kB (g := gb174) (o := .cells #[.int .i64 0, .int .i64 0, .int .u32 0, .string (⟨#[]⟩ : ByteArray), .string (⟨#[]⟩ : ByteArray)] 24 (0, 0)) (by (with_reducible repeat (first | refine kN ?_ _ | refine kD ?_ | refine kA ?_ _)); exact BK174.out) hb)
      have n3_ := aM (below_step (by repeat (first | (with_reducible first | exact HB.out | apply bA | apply bN | apply bD | refine bS ?_ GE173.out | refine bS ?_ GE174.out) | exact HB.out)) hb)
      clear BK173
      clear BK174
      clear HB
      have HO177 := n0_
      have BK173 := n1_
      have BK174 := n2_
      have HB := n3_
      clear n0_ n1_ n2_ n3_
      clear hb ho13
      refine hK.out _ _ ⟨(kC BK173.out 0).trans rfl, (kC BK173.out 1).trans rfl, (kC BK173.out 2).trans rfl, (kC BK173.out 3).trans rfl, (kC BK173.out 4).trans rfl, (kC BK173.out 5).trans rfl⟩ (fun hHeld => ?_)
      clear hK K
      refine norm_ (a' := ?_) ?_ ?_
      rotate_left
      ·show Act.put _ (some 34) _ = _
       simp only [Act.put, List.setIfInBounds_toArray, List.set_cons_zero, List.set_cons_succ, i64_w, i32_w, IntKind.wrap_u8, IntKind.wrap_u32]
       rfl
      refine two_ (i := 26) (j := 37) (Ni := some 35) (Nj := some 3) #[true, true, true, true, true, true, true, true, true, true, true, true, true, true, true, true, true, true, true, true, true, true, true, true, true, true, true, true, true, true, true, true, true, true, true, true, false, false, false] #[true, true, true, true, true, true, true, true, true, true, true, true, true, true, true, true, true, true, true, true, true, true, true, true, true, true, false, true, true, true, true, true, true, true, true, true, false, true, false] rfl rfl rfl rfl (two_of HT_.out (by kernel_rfl)) (by decide) (by decide) (fun K hK => ?_) (fun K hK => ?_)
      ·skip
       have hcv14 := own_string (P := Tryd.prog) Tryd.underlying52 Tryd.underlying5 Tryd.underlying9 (Kd.own_of_R HO177.out)
       refine value_ (w1 := ?_) (v := ?_) (by rfl) rfl ?_ ?_
       rotate_left 2
       ·go_simp
        constructor
        ·rfl
        ·rfl
       clear hcv14
       refine hK.out _ _ ⟨(kC BK173.out 0).trans rfl, (kC BK173.out 1).trans rfl, (kC BK173.out 2).trans rfl, (kC BK173.out 3).trans rfl, (kC BK173.out 4).trans rfl, (kC BK173.out 5).trans rfl⟩ (fun hHeld => ?_)
       clear hK K
       refine norm_ (a' := ?_) ?_ ?_
       rotate_left
       ·show Act.put _ (some 35) _ = _
        simp only [Act.put, List.setIfInBounds_toArray, List.set_cons_zero, List.set_cons_succ, i64_w, i32_w, IntKind.wrap_u8, IntKind.wrap_u32]
        rfl
       refine pure_ (i := 36) (N := some 45) (v := ?_) (a' := ?_) #[true, true, true, true, true, true, true, true, true, true, true, true, true, true, true, true, true, true, true, true, true, true, true, true, true, true, true, true, true, true, true, true, true, true, true, true, true, false, false] rfl rfl (any_of HT_.out (by kernel_rfl)) (fun _ _ _ h => h) (Or.inl ⟨by rfl, ?_⟩) ?_ ?_
       rotate_left
       ·intro w'
        go_simp
        with_reducible rfl
       rotate_left
       ·simp only [Act.put, List.setIfInBounds_toArray, List.set_cons_zero, List.set_cons_succ, i64_w, i32_w, IntKind.wrap_u8, IntKind.wrap_u32]
        rfl
       refine one_ (i := 37) (N := some 3) #[true, true, true, true, true, true, true, true, true, true, true, true, true, true, true, true, true, true, true, true, true, true, true, true, true, true, true, true, true, true, true, true, true, true, true, true, true, true, false] rfl rfl (one_of HT_.out (by kernel_rfl)) (by decide) (fun K hK => ?_)
       refine box_step ?hg (N := 3) ?hd (cs := #[.int .i64 0, .int .i64 0, .int .u32 0, .string (⟨#[]⟩ : ByteArray), .string (⟨#[]⟩ : ByteArray)]) (t := 24) ?hr ?_; (case hd => rfl); (case hg => rfl); (case hr => first | (go_simp; done) | (go_simp; rfl) | (go_simp; simp only [IntKind.wrap_u8, IntKind.wrap_u32]; done) | (go_simp; simp only [IntKind.wrap_u8, IntKind.wrap_u32]; rfl))
       intro gb178 hg w15 hbox hb
       have n0_ := aM (Kd.R_below (by (with_reducible repeat (first | apply Kd.R_alloc | apply Kd.R_drewN | apply Kd.R_drew)); exact HO177.out) hb)
       have n1_ := aM (kB (g := gb173) (o := .cells #[.int .i64 a0_0, .int .i64 a0_1, .int .u32 a0_2, .string a0_3, .string a0_4, .bool true] 26 (0, 0)) (by (with_reducible repeat (first | refine kN ?_ _ | refine kD ?_ | refine kA ?_ _)); exact BK173.out) hb)
       have n2_ := aM (kB (g := gb174) (o := .cells #[.int .i64 0, .int .i64 0, .int .u32 0, .string (⟨#[]⟩ : ByteArray), .string (⟨#[]⟩ : ByteArray)] 24 (0, 0)) (by (with_reducible repeat (first | refine kN ?_ _ | refine kD ?_ | refine kA ?_ _)); exact BK174.out) hb)
       have n3_ := aM (below_step (by repeat (first | (with_reducible first | exact HB.out | apply bA | apply bN | apply bD | refine bS ?_ GE173.out | refine bS ?_ GE174.out) | exact HB.out)) hb)
       have n4_ := aM (hbox)
       have n5_ := aM ((by rw [hg]; exact (below_size (by repeat (first | (with_reducible first | exact HB.out | apply bA | apply bN | apply bD | refine bS ?_ GE173.out | refine bS ?_ GE174.out) | exact HB.out))) : w.heap.size ≤ gb178))
       have n6_ := aM ((by rw [hg]; exact (below_size (by repeat (first | (with_reducible first | exact HB.out | apply bA | apply bN | apply bD | refine bS ?_ GE173.out | refine bS ?_ GE174.out) | exact HB.out))) : w.heap.size ≤ gb178))
       have n7_ := aM ((by rw [hg]; exact Nat.ne_of_lt (blk_lt (g := gb173) (o := .cells #[.int .i64 a0_0, .int .i64 a0_1, .int .u32 a0_2, .string a0_3, .string a0_4, .bool true] 26 (0, 0)) (by (with_reducible repeat (first | refine kN ?_ _ | refine kD ?_ | refine kA ?_ _)); exact BK173.out)) : gb173 ≠ gb178))
       have n8_ := aM ((by rw [hg]; exact Nat.ne_of_gt (blk_lt (g := gb173) (o := .cells #[.int .i64 a0_0, .int .i64 a0_1, .int .u32 a0_2, .string a0_3, .string a0_4, .bool true] 26 (0, 0)) (by (with_reducible repeat (first | refine kN ?_ _ | refine kD ?_ | refine kA ?_ _)); exact BK173.out)) : gb178 ≠ gb173))
       have n9_ := aM ((by rw [hg]; exact Nat.ne_of_lt (blk_lt (g := gb174) (o := .cells #[.int .i64 0, .int .i64 0, .int .u32 0, .string (⟨#[]⟩ : ByteArray), .string (⟨#[]⟩ : ByteArray)] 24 (0, 0)) (by (with_reducible repeat (first | refine kN ?_ _ | refine kD ?_ | refine kA ?_ _)); exact BK174.out)) : gb174 ≠ gb178))
       have n10_ := aM ((by rw [hg]; exact Nat.ne_of_gt (blk_lt (g := gb174) (o := .cells #[.int .i64 0, .int .i64 0, .int .u32 0, .string (⟨#[]⟩ : ByteArray), .string (⟨#[]⟩ : ByteArray)] 24 (0, 0)) (by (with_reducible repeat (first | refine kN ?_ _ | refine kD ?_ | refine kA ?_ _)); exact BK174.out)) : gb178 ≠ gb174))
       clear HO177
       clear BK173
       clear BK174
       clear HB
       have HO177 := n0_
       have BK173 := n1_
       have BK174 := n2_
       have HB := n3_
       have BK178 := n4_
       have GW178 := n5_
       have GE178 := n6_
       have NB173_178 := n7_
       have NB178_173 := n8_
       have NB174_178 := n9_
       have NB178_174 := n10_
       clear n0_ n1_ n2_ n3_ n4_ n5_ n6_ n7_ n8_ n9_ n10_
       clear hb hbox hg
       refine hK.out _ _ ⟨(kC BK173.out 0).trans rfl, (kC BK173.out 1).trans rfl, (kC BK173.out 2).trans rfl, (kC BK173.out 3).trans rfl, (kC BK173.out 4).trans rfl, (kC BK173.out 5).trans rfl⟩ (fun hHeld => ?_)
       clear hK K
       refine norm_ (a' := ?_) ?_ ?_
       rotate_left
       ·show Act.put _ (some 3) _ = _
        simp only [Act.put, List.setIfInBounds_toArray, List.set_cons_zero, List.set_cons_succ, i64_w, i32_w, IntKind.wrap_u8, IntKind.wrap_u32]
        rfl
       exact norm_ (by simp only [putAll, Act.put, List.setIfInBounds_toArray, List.set_cons_zero, List.set_cons_succ]) (hCont (v176, gb178) _ ⟨hHeld, (by (with_reducible repeat (first | apply Kd.R_alloc | apply Kd.R_drewN | apply Kd.R_drew)); exact HO177.out), (by (with_reducible repeat (first | refine kN ?_ _ | refine kD ?_ | refine kA ?_ _)); exact BK173.out), (by (with_reducible repeat (first | refine kN ?_ _ | refine kD ?_ | refine kA ?_ _)); exact BK174.out), (by (with_reducible repeat (first | refine kN ?_ _ | refine kD ?_ | refine kA ?_ _)); exact BK178.out), GW178.out, GE178.out, NB173_178.out, NB178_173.out, NB174_178.out, NB178_174.out, (by repeat (first | (with_reducible first | exact HB.out | apply bA | apply bN | apply bD | refine bS ?_ GE173.out | refine bS ?_ GE174.out | refine bS ?_ GE178.out) | exact HB.out))⟩)
      ·skip
       refine box_step ?hg (N := 3) ?hd (cs := #[.int .i64 0, .int .i64 0, .int .u32 0, .string (⟨#[]⟩ : ByteArray), .string (⟨#[]⟩ : ByteArray)]) (t := 24) ?hr ?_; (case hd => rfl); (case hg => rfl); (case hr => first | (go_simp; done) | (go_simp; rfl) | (go_simp; simp only [IntKind.wrap_u8, IntKind.wrap_u32]; done) | (go_simp; simp only [IntKind.wrap_u8, IntKind.wrap_u32]; rfl))
       intro gb178 hg w14 hbox hb
       have n0_ := aM (Kd.R_below (by (with_reducible repeat (first | apply Kd.R_alloc | apply Kd.R_drewN | apply Kd.R_drew)); exact HO177.out) hb)
       have n1_ := aM (kB (g := gb173) (o := .cells #[.int .i64 a0_0, .int .i64 a0_1, .int .u32 a0_2, .string a0_3, .string a0_4, .bool true] 26 (0, 0)) (by (with_reducible repeat (first | refine kN ?_ _ | refine kD ?_ | refine kA ?_ _)); exact BK173.out) hb)
       have n2_ := aM (kB (g := gb174) (o := .cells #[.int .i64 0, .int .i64 0, .int .u32 0, .string (⟨#[]⟩ : ByteArray), .string (⟨#[]⟩ : ByteArray)] 24 (0, 0)) (by (with_reducible repeat (first | refine kN ?_ _ | refine kD ?_ | refine kA ?_ _)); exact BK174.out) hb)
       have n3_ := aM (below_step (by repeat (first | (with_reducible first | exact HB.out | apply bA | apply bN | apply bD | refine bS ?_ GE173.out | refine bS ?_ GE174.out) | exact HB.out)) hb)
       have n4_ := aM (hbox)
       have n5_ := aM ((by rw [hg]; exact (below_size (by repeat (first | (with_reducible first | exact HB.out | apply bA | apply bN | apply bD | refine bS ?_ GE173.out | refine bS ?_ GE174.out) | exact HB.out))) : w.heap.size ≤ gb178))
       have n6_ := aM ((by rw [hg]; exact (below_size (by repeat (first | (with_reducible first | exact HB.out | apply bA | apply bN | apply bD | refine bS ?_ GE173.out | refine bS ?_ GE174.out) | exact HB.out))) : w.heap.size ≤ gb178))
       have n7_ := aM ((by rw [hg]; exact Nat.ne_of_lt (blk_lt (g := gb173) (o := .cells #[.int .i64 a0_0, .int .i64 a0_1, .int .u32 a0_2, .string a0_3, .string a0_4, .bool true] 26 (0, 0)) (by (with_reducible repeat (first | refine kN ?_ _ | refine kD ?_ | refine kA ?_ _)); exact BK173.out)) : gb173 ≠ gb178))
       have n8_ := aM ((by rw [hg]; exact Nat.ne_of_gt (blk_lt (g := gb173) (o := .cells #[.int .i64 a0_0, .int .i64 a0_1, .int .u32 a0_2, .string a0_3, .string a0_4, .bool true] 26 (0, 0)) (by (with_reducible repeat (first | refine kN ?_ _ | refine kD ?_ | refine kA ?_ _)); exact BK173.out)) : gb178 ≠ gb173))
       have n9_ := aM ((by rw [hg]; exact Nat.ne_of_lt (blk_lt (g := gb174) (o := .cells #[.int .i64 0, .int .i64 0, .int .u32 0, .string (⟨#[]⟩ : ByteArray), .string (⟨#[]⟩ : ByteArray)] 24 (0, 0)) (by (with_reducible repeat (first | refine kN ?_ _ | refine kD ?_ | refine kA ?_ _)); exact BK174.out)) : gb174 ≠ gb178))
       have n10_ := aM ((by rw [hg]; exact Nat.ne_of_gt (blk_lt (g := gb174) (o := .cells #[.int .i64 0, .int .i64 0, .int .u32 0, .string (⟨#[]⟩ : ByteArray), .string (⟨#[]⟩ : ByteArray)] 24 (0, 0)) (by (with_reducible repeat (first | refine kN ?_ _ | refine kD ?_ | refine kA ?_ _)); exact BK174.out)) : gb178 ≠ gb174))
       clear HO177
       clear BK173
       clear BK174
       clear HB
       have HO177 := n0_
       have BK173 := n1_
       have BK174 := n2_
       have HB := n3_
       have BK178 := n4_
       have GW178 := n5_
       have GE178 := n6_
       have NB173_178 := n7_
       have NB178_173 := n8_
       have NB174_178 := n9_
       have NB178_174 := n10_
       clear n0_ n1_ n2_ n3_ n4_ n5_ n6_ n7_ n8_ n9_ n10_
       clear hb hbox hg
       refine hK.out _ _ ⟨(kC BK173.out 0).trans rfl, (kC BK173.out 1).trans rfl, (kC BK173.out 2).trans rfl, (kC BK173.out 3).trans rfl, (kC BK173.out 4).trans rfl, (kC BK173.out 5).trans rfl⟩ (fun hHeld => ?_)
       clear hK K
       refine norm_ (a' := ?_) ?_ ?_
       rotate_left
       ·show Act.put _ (some 3) _ = _
        simp only [Act.put, List.setIfInBounds_toArray, List.set_cons_zero, List.set_cons_succ, i64_w, i32_w, IntKind.wrap_u8, IntKind.wrap_u32]
        rfl
       refine one_ (i := 26) (N := some 35) #[true, true, true, true, true, true, true, true, true, true, true, true, true, true, true, true, true, true, true, true, true, true, true, true, true, true, true, true, true, true, true, true, true, true, true, true, false, true, false] rfl rfl (one_of HT_.out (by kernel_rfl)) (by decide) (fun K hK => ?_)
       have hcv15 := own_string (P := Tryd.prog) Tryd.underlying52 Tryd.underlying5 Tryd.underlying9 (Kd.own_of_R HO177.out)
       refine value_ (w1 := ?_) (v := ?_) (by rfl) rfl ?_ ?_
       rotate_left 2
       ·go_simp
        constructor
        ·rfl
        ·rfl
       clear hcv15
       refine hK.out _ _ ⟨(kC BK173.out 0).trans rfl, (kC BK173.out 1).trans rfl, (kC BK173.out 2).trans rfl, (kC BK173.out 3).trans rfl, (kC BK173.out 4).trans rfl, (kC BK173.out 5).trans rfl⟩ (fun hHeld => ?_)
       clear hK K
       refine norm_ (a' := ?_) ?_ ?_
       rotate_left
       ·show Act.put _ (some 35) _ = _
        simp only [Act.put, List.setIfInBounds_toArray, List.set_cons_zero, List.set_cons_succ, i64_w, i32_w, IntKind.wrap_u8, IntKind.wrap_u32]
        rfl
       refine pure_ (i := 36) (N := some 45) (v := ?_) (a' := ?_) #[true, true, true, true, true, true, true, true, true, true, true, true, true, true, true, true, true, true, true, true, true, true, true, true, true, true, true, true, true, true, true, true, true, true, true, true, true, true, false] rfl rfl (any_of HT_.out (by kernel_rfl)) (fun _ _ _ h => h) (Or.inl ⟨by rfl, ?_⟩) ?_ ?_
       rotate_left
       ·intro w'
        go_simp
        with_reducible rfl
       rotate_left
       ·simp only [Act.put, List.setIfInBounds_toArray, List.set_cons_zero, List.set_cons_succ, i64_w, i32_w, IntKind.wrap_u8, IntKind.wrap_u32]
        rfl
       exact norm_ (by simp only [putAll, Act.put, List.setIfInBounds_toArray, List.set_cons_zero, List.set_cons_succ]) (hCont (v176, gb178) _ ⟨hHeld, (by (with_reducible repeat (first | apply Kd.R_alloc | apply Kd.R_drewN | apply Kd.R_drew)); exact HO177.out), (by (with_reducible repeat (first | refine kN ?_ _ | refine kD ?_ | refine kA ?_ _)); exact BK173.out), (by (with_reducible repeat (first | refine kN ?_ _ | refine kD ?_ | refine kA ?_ _)); exact BK174.out), (by (with_reducible repeat (first | refine kN ?_ _ | refine kD ?_ | refine kA ?_ _)); exact BK178.out), GW178.out, GE178.out, NB173_178.out, NB178_173.out, NB174_178.out, NB178_174.out, (by repeat (first | (with_reducible first | exact HB.out | apply bA | apply bN | apply bD | refine bS ?_ GE173.out | refine bS ?_ GE174.out | refine bS ?_ GE178.out) | exact HB.out))⟩)
     ·skip
      refine box_step ?hg (N := 3) ?hd (cs := #[.int .i64 0, .int .i64 0, .int .u32 0, .string (⟨#[]⟩ : ByteArray), .string (⟨#[]⟩ : ByteArray)]) (t := 24) ?hr ?_; (case hd => rfl); (case hg => rfl); (case hr => first | (go_simp; done) | (go_simp; rfl) | (go_simp; simp only [IntKind.wrap_u8, IntKind.wrap_u32]; done) | (go_simp; simp only [IntKind.wrap_u8, IntKind.wrap_u32]; rfl))
      intro gb178 hg w12 hbox hb
      have n0_ := aM (kB (g := gb173) (o := .cells #[.int .i64 a0_0, .int .i64 a0_1, .int .u32 a0_2, .string a0_3, .string a0_4, .bool true] 26 (0, 0)) (by (with_reducible repeat (first | refine kN ?_ _ | refine kD ?_ | refine kA ?_ _)); exact BK173.out) hb)
      have n1_ := aM (kB (g := gb174) (o := .cells #[.int .i64 0, .int .i64 0, .int .u32 0, .string (⟨#[]⟩ : ByteArray), .string (⟨#[]⟩ : ByteArray)] 24 (0, 0)) (by (with_reducible repeat (first | refine kN ?_ _ | refine kD ?_ | refine kA ?_ _)); exact BK174.out) hb)
      have n2_ := aM (below_step (by repeat (first | (with_reducible first | exact HB.out | apply bA | apply bN | apply bD | refine bS ?_ GE173.out | refine bS ?_ GE174.out) | exact HB.out)) hb)
      have n3_ := aM (hbox)
      have n4_ := aM ((by rw [hg]; exact (below_size (by repeat (first | (with_reducible first | exact HB.out | apply bA | apply bN | apply bD | refine bS ?_ GE173.out | refine bS ?_ GE174.out) | exact HB.out))) : w.heap.size ≤ gb178))
      have n5_ := aM ((by rw [hg]; exact (below_size (by repeat (first | (with_reducible first | exact HB.out | apply bA | apply bN | apply bD | refine bS ?_ GE173.out | refine bS ?_ GE174.out) | exact HB.out))) : w.heap.size ≤ gb178))
      have n6_ := aM ((by rw [hg]; exact Nat.ne_of_lt (blk_lt (g := gb173) (o := .cells #[.int .i64 a0_0, .int .i64 a0_1, .int .u32 a0_2, .string a0_3, .string a0_4, .bool true] 26 (0, 0)) (by (with_reducible repeat (first | refine kN ?_ _ | refine kD ?_ | refine kA ?_ _)); exact BK173.out)) : gb173 ≠ gb178))
      have n7_ := aM ((by rw [hg]; exact Nat.ne_of_gt (blk_lt (g := gb173) (o := .cells #[.int .i64 a0_0, .int .i64 a0_1, .int .u32 a0_2, .string a0_3, .string a0_4, .bool true] 26 (0, 0)) (by (with_reducible repeat (first | refine kN ?_ _ | refine kD ?_ | refine kA ?_ _)); exact BK173.out)) : gb178 ≠ gb173))
      have n8_ := aM ((by rw [hg]; exact Nat.ne_of_lt (blk_lt (g := gb174) (o := .cells #[.int .i64 0, .int .i64 0, .int .u32 0, .string (⟨#[]⟩ : ByteArray), .string (⟨#[]⟩ : ByteArray)] 24 (0, 0)) (by (with_reducible repeat (first | refine kN ?_ _ | refine kD ?_ | refine kA ?_ _)); exact BK174.out)) : gb174 ≠ gb178))
      have n9_ := aM ((by rw [hg]; exact Nat.ne_of_gt (blk_lt (g := gb174) (o := .cells #[.int .i64 0, .int .i64 0, .int .u32 0, .string (⟨#[]⟩ : ByteArray), .string (⟨#[]⟩ : ByteArray)] 24 (0, 0)) (by (with_reducible repeat (first | refine kN ?_ _ | refine kD ?_ | refine kA ?_ _)); exact BK174.out)) : gb178 ≠ gb174))
      clear BK173
      clear BK174
      clear HB
      have BK173 := n0_
      have BK174 := n1_
      have HB := n2_
      have BK178 := n3_
      have GW178 := n4_
      have GE178 := n5_
      have NB173_178 := n6_
      have NB178_173 := n7_
      have NB174_178 := n8_
      have NB178_174 := n9_
      clear n0_ n1_ n2_ n3_ n4_ n5_ n6_ n7_ n8_ n9_
      clear hb hbox hg
      refine hK.out _ _ ⟨(kC BK173.out 0).trans rfl, (kC BK173.out 1).trans rfl, (kC BK173.out 2).trans rfl, (kC BK173.out 3).trans rfl, (kC BK173.out 4).trans rfl, (kC BK173.out 5).trans rfl⟩ (fun hHeld => ?_)
      clear hK K
      refine norm_ (a' := ?_) ?_ ?_
      rotate_left
      ·show Act.put _ (some 3) _ = _
       simp only [Act.put, List.setIfInBounds_toArray, List.set_cons_zero, List.set_cons_succ, i64_w, i32_w, IntKind.wrap_u8, IntKind.wrap_u32]
       rfl
      refine one_ (i := 25) (N := some 34) #[true, true, true, true, true, true, true, true, true, true, true, true, true, true, true, true, true, true, true, true, true, true, true, true, true, true, false, true, true, true, true, true, true, true, true, true, false, true, false] rfl rfl (one_of HT_.out (by kernel_rfl)) (by decide) (fun K hK => ?_)
      refine Kd.R_lit_step (Kd.int .u8) _ 5 ?hg (N := 34) ?hd (xs := ([(97 + ((Int.tmod (a0_2 / 256) 3) % 256)) % 256] : List Int)) (inner := [.int .u8 ((97 + ((Int.tmod (a0_2 / 256) 3) % 256)) % 256)]) (ok := fun _ => True) (okp := fun _ => True) ?hr ?hp (fun _ hk => hk) trivial (Below.refl _ _) (Nat.le_refl _) (by simp) ?_; (case hd => rfl); (case hg => rfl); (case hr => first | (go_simp; done) | (go_simp; rfl) | (go_simp; simp only [IntKind.wrap_u8, IntKind.wrap_u32]; done) | (go_simp; simp only [IntKind.wrap_u8, IntKind.wrap_u32]; rfl)); (case hp => exact (Reps.one (show Kd.M (Kd.int .u8) _ _ _ ((97 + ((Int.tmod (a0_2 / 256) 3) % 256)) % 256) [.int .u8 ((97 + ((Int.tmod (a0_2 / 256) 3) % 256)) % 256)] from rfl) (Reps.none _ _)))
      intro v176 w13 ho14 hb hg_ hnew_
      clear hg_ hnew_
      (first | rw [← Ny175.out] at ho14 | (simp only [Int.reduceToNat] at ho14; rw [← Ny175.out] at ho14))
      have n0_ := aM (Kd.R_lower ho14 (below_size (by repeat (first | (with_reducible first | exact HB.out | apply bA | apply bN | apply bD | refine bS ?_ GE173.out | refine bS ?_ GE174.out | refine bS ?_ GE178.out) | exact HB.out))))
      have n1_ := aM (kB (g := gb173) (o := .cells #[.int .i64 a0_0, .int .i64 a0_1, .int .u32 a0_2, .string a0_3, .string a0_4, .bool true] 26 (0, 0)) (by (with_reducible repeat (first | refine kN ?_ _ | refine kD ?_ | refine kA ?_ _)); exact BK173.out) hb)
      have n2_ := aM (kB (g := gb174) (o := .cells #[.int .i64 0, .int .i64 0, .int .u32 0, .string (⟨#[]⟩ : ByteArray), .string (⟨#[]⟩ : ByteArray)] 24 (0, 0)) (by (with_reducible repeat (first | refine kN ?_ _ | refine kD ?_ | refine kA ?_ _)); exact BK174.out) hb)
      have n3_ := aM (kB (g := gb178) (o := .cells #[.int .i64 0, .int .i64 0, .int .u32 0, .string (⟨#[]⟩ : ByteArray), .string (⟨#[]⟩ : ByteArray)] 24 (0, 0)) (by (with_reducible repeat (first | refine kN ?_ _ | refine kD ?_ | refine kA ?_ _)); exact BK178.out) hb)
      have n4_ := aM (below_step (by repeat (first | (with_reducible first | exact HB.out | apply bA | apply bN | apply bD | refine bS ?_ GE173.out | refine bS ?_ GE174.out | refine bS ?_ GE178.out) | exact HB.out)) hb)
      clear BK173
      clear BK174
      clear BK178
      clear HB
      have HO177 := n0_
      have BK173 := n1_
      have BK174 := n2_
      have BK178 := n3_
      have HB := n4_
      clear n0_ n1_ n2_ n3_ n4_
      clear hb ho14
      refine hK.out _ _ ⟨(kC BK173.out 0).trans rfl, (kC BK173.out 1).trans rfl, (kC BK173.out 2).trans rfl, (kC BK173.out 3).trans rfl, (kC BK173.out 4).trans rfl, (kC BK173.out 5).trans rfl⟩ (fun hHeld => ?_)
      clear hK K
      refine norm_ (a' := ?_) ?_ ?_
      rotate_left
      ·show Act.put _ (some 34) _ = _
       simp only [Act.put, List.setIfInBounds_toArray, List.set_cons_zero, List.set_cons_succ, i64_w, i32_w, IntKind.wrap_u8, IntKind.wrap_u32]
       rfl
      refine one_ (i := 26) (N := some 35) #[true, true, true, true, true, true, true, true, true, true, true, true, true, true, true, true, true, true, true, true, true, true, true, true, true, true, true, true, true, true, true, true, true, true, true, true, false, true, false] rfl rfl (one_of HT_.out (by kernel_rfl)) (by decide) (fun K hK => ?_)
      have hcv15 := own_string (P := Tryd.prog) Tryd.underlying52 Tryd.underlying5 Tryd.underlying9 (Kd.own_of_R HO177.out)
      refine value_ (w1 := ?_) (v := ?_) (by rfl) rfl ?_ ?_
      rotate_left 2
      ·go_simp
       constructor
       ·rfl
       ·rfl
      clear hcv15
      refine hK.out _ _ ⟨(kC BK173.out 0).trans rfl, (kC BK173.out 1).trans rfl, (kC BK173.out 2).trans rfl, (kC BK173.out 3).trans rfl, (kC BK173.out 4).trans rfl, (kC BK173.out 5).trans rfl⟩ (fun hHeld => ?_)
      clear hK K
      refine norm_ (a' := ?_) ?_ ?_
      rotate_left
      ·show Act.put _ (some 35) _ = _
       simp only [Act.put, List.setIfInBounds_toArray, List.set_cons_zero, List.set_cons_succ, i64_w, i32_w, IntKind.wrap_u8, IntKind.wrap_u32]
       rfl
      refine pure_ (i := 36) (N := some 45) (v := ?_) (a' := ?_) #[true, true, true, true, true, true, true, true, true, true, true, true, true, true, true, true, true, true, true, true, true, true, true, true, true, true, true, true, true, true, true, true, true, true, true, true, true, true, false] rfl rfl (any_of HT_.out (by kernel_rfl)) (fun _ _ _ h => h) (Or.inl ⟨by rfl, ?_⟩) ?_ ?_
      rotate_left
      ·intro w'
       go_simp
       with_reducible rfl
      rotate_left
      ·simp only [Act.put, List.setIfInBounds_toArray, List.set_cons_zero, List.set_cons_succ, i64_w, i32_w, IntKind.wrap_u8, IntKind.wrap_u32]
       rfl
      exact norm_ (by simp only [putAll, Act.put, List.setIfInBounds_toArray, List.set_cons_zero, List.set_cons_succ]) (hCont (v176, gb178) _ ⟨hHeld, (by (with_reducible repeat (first | apply Kd.R_alloc | apply Kd.R_drewN | apply Kd.R_drew)); exact HO177.out), (by (with_reducible repeat (first | refine kN ?_ _ | refine kD ?_ | refine kA ?_ _)); exact BK173.out), (by (with_reducible repeat (first | refine kN ?_ _ | refine kD ?_ | refine kA ?_ _)); exact BK174.out), (by (with_reducible repeat (first | refine kN ?_ _ | refine kD ?_ | refine kA ?_ _)); exact BK178.out), GW178.out, GE178.out, NB173_178.out, NB178_173.out, NB174_178.out, NB178_174.out, (by repeat (first | (with_reducible first | exact HB.out | apply bA | apply bN | apply bD | refine bS ?_ GE173.out | refine bS ?_ GE174.out | refine bS ?_ GE178.out) | exact HB.out))⟩)
    rintro ⟨v176, gb178⟩ w16 ⟨hS_, h0_, h1_, h2_, h3_, h4_, h5_, h6_, h7_, h8_, h9_, h10_⟩
    have n0_ : Aside0 (Kd.R (Kd.int .u8) 5 w16 w.heap.size (fun _ => True) v176 y175) := ⟨h0_⟩
    have n1_ : Aside0 (w16.heap[gb173]? = some (.cells #[.int .i64 a0_0, .int .i64 a0_1, .int .u32 a0_2, .string a0_3, .string a0_4, .bool true] 26 (0, 0))) := ⟨h1_⟩
    have n2_ : Aside0 (w16.heap[gb174]? = some (.cells #[.int .i64 0, .int .i64 0, .int .u32 0, .string (⟨#[]⟩ : ByteArray), .string (⟨#[]⟩ : ByteArray)] 24 (0, 0))) := ⟨h2_⟩
    have n3_ : Aside0 (w16.heap[gb178]? = some (.cells #[.int .i64 0, .int .i64 0, .int .u32 0, .string (⟨#[]⟩ : ByteArray), .string (⟨#[]⟩ : ByteArray)] 24 (0, 0))) := ⟨h3_⟩
    have n4_ : Aside0 (w.heap.size ≤ gb178) := ⟨h4_⟩
    have n5_ : Aside0 (w.heap.size ≤ gb178) := ⟨h5_⟩
    have n6_ : Aside0 (gb173 ≠ gb178) := ⟨h6_⟩
    have n7_ : Aside0 (gb178 ≠ gb173) := ⟨h7_⟩
    have n8_ : Aside0 (gb174 ≠ gb178) := ⟨h8_⟩
    have n9_ : Aside0 (gb178 ≠ gb174) := ⟨h9_⟩
    have n10_ : Aside0 (Below w.heap.size w w16) := ⟨h10_⟩
    clear BK173
    clear BK174
    clear HB
    clear h0_ h1_ h2_ h3_ h4_ h5_ h6_ h7_ h8_ h9_ h10_
    have HO177 := n0_
    have BK173 := n1_
    have BK174 := n2_
    have BK178 := n3_
    have GW178 := n4_
    have GE178 := n5_
    have NB173_178 := n6_
    have NB178_173 := n7_
    have NB174_178 := n8_
    have NB178_174 := n9_
    have HB := n10_
    clear n0_ n1_ n2_ n3_ n4_ n5_ n6_ n7_ n8_ n9_ n10_
    have hHeld : w16.cell? ⟨gb173, 0, none⟩ = some (.int .i64 a0_0) ∧ w16.cell? ⟨gb173, 1, none⟩ = some (.int .i64 a0_1) ∧ w16.cell? ⟨gb173, 2, none⟩ = some (.int .u32 a0_2) ∧ w16.cell? ⟨gb173, 3, none⟩ = some (.string a0_3) ∧ w16.cell? ⟨gb173, 4, none⟩ = some (.string a0_4) ∧ w16.cell? ⟨gb173, 5, none⟩ = some (.bool true) := hS_
    refine norm_ (a' := ?_) ?_ ?_
    rotate_left
    ·simp only [putAll, Act.put, List.setIfInBounds_toArray, List.set_cons_zero, List.set_cons_succ]
     rfl
    refine one_ (i := 38) (N := none) #[true, true, true, true, true, true, true, true, true, true, true, true, true, true, true, true, true, true, true, true, true, true, true, true, true, true, true, true, true, true, true, true, true, true, true, true, true, true, true] rfl rfl (one_of HT_.out (by kernel_rfl)) (by decide) (fun K hK => ?_)
    have hs17 : w16.cell? ⟨gb178, 0, none⟩ = some (.int .i64 0) := (kC BK178.out 0).trans rfl
    have hfs17 := kF BK178.out 0
    have hns17_0 := NB173_178.out
    have hns17_1 := NB174_178.out
    have hms17_0 := NB178_173.out
    have hms17_1 := NB178_174.out
    have hs18 : w16.cell? ⟨gb178, 1, none⟩ = some (.int .i64 0) := (kC BK178.out 1).trans rfl
    have hfs18 := kF BK178.out 1
    have hns18_0 := NB173_178.out
    have hns18_1 := NB174_178.out
    have hms18_0 := NB178_173.out
    have hms18_1 := NB178_174.out
    have hs19 : w16.cell? ⟨gb178, 2, none⟩ = some (.int .u32 0) := (kC BK178.out 2).trans rfl
    have hfs19 := kF BK178.out 2
    have hns19_0 := NB173_178.out
    have hns19_1 := NB174_178.out
    have hms19_0 := NB178_173.out
    have hms19_1 := NB178_174.out
    have hs20 : w16.cell? ⟨gb178, 3, none⟩ = some (.string (⟨#[]⟩ : ByteArray)) := (kC BK178.out 3).trans rfl
    have hfs20 := kF BK178.out 3
    have hns20_0 := NB173_178.out
    have hns20_1 := NB174_178.out
    have hms20_0 := NB178_173.out
    have hms20_1 := NB178_174.out
    have hs21 : w16.cell? ⟨gb178, 4, none⟩ = some (.string (⟨#[]⟩ : ByteArray)) := (kC BK178.out 4).trans rfl
    have hfs21 := kF BK178.out 4
    have hns21_0 := NB173_178.out
    have hns21_1 := NB174_178.out
    have hms21_0 := NB178_173.out
    have hms21_1 := NB178_174.out
    refine skip_ (w1 := ?_) (by rfl) rfl ?_ ?_
    rotate_left
    ·go_simp
     rfl
    refine hK.out _ _ ⟨((cell_far (p := ⟨gb178, _, none⟩) NB173_178.out _).trans (((cell_far (p := ⟨gb178, _, none⟩) NB173_178.out _).trans (((cell_far (p := ⟨gb178, _, none⟩) NB173_178.out _).trans (((cell_far (p := ⟨gb178, _, none⟩) NB173_178.out _).trans (((cell_far (p := ⟨gb178, _, none⟩) NB173_178.out _).trans (hHeld.1)))))))))), ((cell_far (p := ⟨gb178, _, none⟩) NB173_178.out _).trans (((cell_far (p := ⟨gb178, _, none⟩) NB173_178.out _).trans (((cell_far (p := ⟨gb178, _, none⟩) NB173_178.out _).trans (((cell_far (p := ⟨gb178, _, none⟩) NB173_178.out _).trans (((cell_far (p := ⟨gb178, _, none⟩) NB173_178.out _).trans (hHeld.2.1)))))))))), ((cell_far (p := ⟨gb178, _, none⟩) NB173_178.out _).trans (((cell_far (p := ⟨gb178, _, none⟩) NB173_178.out _).trans (((cell_far (p := ⟨gb178, _, none⟩) NB173_178.out _).trans (((cell_far (p := ⟨gb178, _, none⟩) NB173_178.out _).trans (((cell_far (p := ⟨gb178, _, none⟩) NB173_178.out _).trans (hHeld.2.2.1)))))))))), ((cell_far (p := ⟨gb178, _, none⟩) NB173_178.out _).trans (((cell_far (p := ⟨gb178, _, none⟩) NB173_178.out _).trans (((cell_far (p := ⟨gb178, _, none⟩) NB173_178.out _).trans (((cell_far (p := ⟨gb178, _, none⟩) NB173_178.out _).trans (((cell_far (p := ⟨gb178, _, none⟩) NB173_178.out _).trans (hHeld.2.2.2.1)))))))))), ((cell_far (p := ⟨gb178, _, none⟩) NB173_178.out _).trans (((cell_far (p := ⟨gb178, _, none⟩) NB173_178.out _).trans (((cell_far (p := ⟨gb178, _, none⟩) NB173_178.out _).trans (((cell_far (p := ⟨gb178, _, none⟩) NB173_178.out _).trans (((cell_far (p := ⟨gb178, _, none⟩) NB173_178.out _).trans (hHeld.2.2.2.2.1)))))))))), ((cell_far (p := ⟨gb178, _, none⟩) NB173_178.out _).trans (((cell_far (p := ⟨gb178, _, none⟩) NB173_178.out _).trans (((cell_far (p := ⟨gb178, _, none⟩) NB173_178.out _).trans (((cell_far (p := ⟨gb178, _, none⟩) NB173_178.out _).trans (((cell_far (p := ⟨gb178, _, none⟩) NB173_178.out _).trans (hHeld.2.2.2.2.2))))))))))⟩ (fun hHeld => ?_)
    clear hK K
    refine done_ (done_of HT_.out (by kernel_rfl)) ?_
    have hnb22 := NB178_173.out
    have hnc22 := NB173_178.out
    have hnb23 := NB178_174.out
    have hnc23 := NB174_178.out
    have hcz24_0 : w16.cell? ⟨gb178, 0, none⟩ = some (.int .i64 0) := (kC BK178.out 0).trans rfl
    have hcz24_1 : w16.cell? ⟨gb178, 1, none⟩ = some (.int .i64 0) := (kC BK178.out 1).trans rfl
    have hcz24_2 : w16.cell? ⟨gb178, 2, none⟩ = some (.int .u32 0) := (kC BK178.out 2).trans rfl
    have hcz24_3 : w16.cell? ⟨gb178, 3, none⟩ = some (.string (⟨#[]⟩ : ByteArray)) := (kC BK178.out 3).trans rfl
    have hcz24_4 : w16.cell? ⟨gb178, 4, none⟩ = some (.string (⟨#[]⟩ : ByteArray)) := (kC BK178.out 4).trans rfl
    have hfz24_0 := kF BK178.out 0
    have hfz24_1 := kF BK178.out 1
    have hfz24_2 := kF BK178.out 2
    have hfz24_3 := kF BK178.out 3
    have hfz24_4 := kF BK178.out 4
    go_upto_if 48 with (fail)
    go_cut [] (fun wc => ∃ (kq : Nat) (x179004_5 : ByteArray), Aside0 (comitialaw07_Wish_wish.j0 kq (wrap64 (Int.tmod (IntKind.u64.wrap (a0_0)) 5)) (wrap64 (1 + (wrap64 (Int.tmod (IntKind.u64.wrap (a0_1)) 4)))) ((1 + (Int.tmod a0_2 5)) % 4294967296) (strOfNums y175) x179004_5 = some (r1, r2, r3, r4, r5)) ∧ Aside0 (kq ≤ k) ∧ Aside0 (wc.heap[gb173]? = some (.cells #[.int .i64 a0_0, .int .i64 a0_1, .int .u32 a0_2, .string a0_3, .string a0_4, .bool true] 26 (0, 0))) ∧ Aside0 (wc.heap[gb174]? = some (.cells #[.int .i64 0, .int .i64 0, .int .u32 0, .string (⟨#[]⟩ : ByteArray), .string (⟨#[]⟩ : ByteArray)] 24 (0, 0))) ∧ Aside0 (wc.heap[gb178]? = some (.cells #[.int .i64 (wrap64 (Int.tmod (IntKind.u64.wrap (a0_0)) 5)), .int .i64 (wrap64 (1 + (wrap64 (Int.tmod (IntKind.u64.wrap (a0_1)) 4)))), .int .u32 ((1 + (Int.tmod a0_2 5)) % 4294967296), .string (strOfNums y175), .string x179004_5] 24 (0, 0))) ∧ Aside0 (Below w.heap.size w wc))
    case first =>
     have H := HC6.out
     clear HC6
     by_cases c25 : (wrap64 (Int.tmod (IntKind.u64.wrap (a0_0)) 5)) = 1
     ·rw [if_pos c25] at H
      have c25b0 : ((wrap64 (Int.tmod (IntKind.u64.wrap (a0_0)) 5)) == 1) = true := beq_iff_eq.mpr c25
      have c25b1 : ((wrap64 (Int.tmod (IntKind.u64.wrap (a0_0)) 5)) != 1) = false := bne_eq_false_iff_eq.mpr c25
      clear c25
      (first | rw [c25b0] | (simp only [i64_w, i32_w]; rw [c25b0]) | skip)
      have H' := aM H
      clear H
      go_wp2
      go_meet
      case rel => exact ⟨_, (a0_4.extract 0 ((ji3) : Int).toNat), H', ⟨by first | omega | exact Nat.le_refl _⟩, ⟨by (with_reducible repeat (first | refine kN ?_ _ | refine kD ?_ | refine kA ?_ _)); refine kR ?_ NB173_178.out _; (with_reducible repeat (first | refine kN ?_ _ | refine kD ?_ | refine kA ?_ _)); refine kR ?_ NB173_178.out _; (with_reducible repeat (first | refine kN ?_ _ | refine kD ?_ | refine kA ?_ _)); refine kR ?_ NB173_178.out _; (with_reducible repeat (first | refine kN ?_ _ | refine kD ?_ | refine kA ?_ _)); refine kR ?_ NB173_178.out _; (with_reducible repeat (first | refine kN ?_ _ | refine kD ?_ | refine kA ?_ _)); refine kR ?_ NB173_178.out _; (with_reducible repeat (first | refine kN ?_ _ | refine kD ?_ | refine kA ?_ _)); exact BK173.out⟩, ⟨by (with_reducible repeat (first | refine kN ?_ _ | refine kD ?_ | refine kA ?_ _)); refine kR ?_ NB174_178.out _; (with_reducible repeat (first | refine kN ?_ _ | refine kD ?_ | refine kA ?_ _)); refine kR ?_ NB174_178.out _; (with_reducible repeat (first | refine kN ?_ _ | refine kD ?_ | refine kA ?_ _)); refine kR ?_ NB174_178.out _; (with_reducible repeat (first | refine kN ?_ _ | refine kD ?_ | refine kA ?_ _)); refine kR ?_ NB174_178.out _; (with_reducible repeat (first | refine kN ?_ _ | refine kD ?_ | refine kA ?_ _)); refine kR ?_ NB174_178.out _; (with_reducible repeat (first | refine kN ?_ _ | refine kD ?_ | refine kA ?_ _)); exact BK174.out⟩, ⟨by (with_reducible repeat (first | refine kN ?_ _ | refine kD ?_ | refine kA ?_ _)); refine blk_put (cs := #[.int .i64 (wrap64 (Int.tmod (IntKind.u64.wrap (a0_0)) 5)), .int .i64 (wrap64 (1 + (wrap64 (Int.tmod (IntKind.u64.wrap (a0_1)) 4)))), .int .u32 ((1 + (Int.tmod a0_2 5)) % 4294967296), .string (strOfNums y175), .string (⟨#[]⟩ : ByteArray)]) ?_ 4 _ rfl; (with_reducible repeat (first | refine kN ?_ _ | refine kD ?_ | refine kA ?_ _)); refine blk_put (cs := #[.int .i64 (wrap64 (Int.tmod (IntKind.u64.wrap (a0_0)) 5)), .int .i64 (wrap64 (1 + (wrap64 (Int.tmod (IntKind.u64.wrap (a0_1)) 4)))), .int .u32 ((1 + (Int.tmod a0_2 5)) % 4294967296), .string (⟨#[]⟩ : ByteArray), .string (⟨#[]⟩ : ByteArray)]) ?_ 3 _ rfl; (with_reducible repeat (first | refine kN ?_ _ | refine kD ?_ | refine kA ?_ _)); refine blk_put (cs := #[.int .i64 (wrap64 (Int.tmod (IntKind.u64.wrap (a0_0)) 5)), .int .i64 (wrap64 (1 + (wrap64 (Int.tmod (IntKind.u64.wrap (a0_1)) 4)))), .int .u32 0, .string (⟨#[]⟩ : ByteArray), .string (⟨#[]⟩ : ByteArray)]) ?_ 2 _ rfl; (with_reducible repeat (first | refine kN ?_ _ | refine kD ?_ | refine kA ?_ _)); refine blk_put (cs := #[.int .i64 (wrap64 (Int.tmod (IntKind.u64.wrap (a0_0)) 5)), .int .i64 0, .int .u32 0, .string (⟨#[]⟩ : ByteArray), .string (⟨#[]⟩ : ByteArray)]) ?_ 1 _ rfl; (with_reducible repeat (first | refine kN ?_ _ | refine kD ?_ | refine kA ?_ _)); refine blk_put (cs := #[.int .i64 0, .int .i64 0, .int .u32 0, .string (⟨#[]⟩ : ByteArray), .string (⟨#[]⟩ : ByteArray)]) ?_ 0 _ rfl; (with_reducible repeat (first | refine kN ?_ _ | refine kD ?_ | refine kA ?_ _)); exact BK178.out⟩, ⟨by repeat (first | (with_reducible first | exact HB.out | apply bA | apply bN | apply bD | refine bS ?_ GE173.out | refine bS ?_ GE174.out | refine bS ?_ GE178.out) | exact HB.out)⟩⟩
     ·rw [if_neg c25] at H
      have c25b0 : ((wrap64 (Int.tmod (IntKind.u64.wrap (a0_0)) 5)) == 1) = false := beq_eq_false_iff_ne.mpr c25
      have c25b1 : ((wrap64 (Int.tmod (IntKind.u64.wrap (a0_0)) 5)) != 1) = true := bne_iff_ne.mpr c25
      (first | rw [c25b0] | (simp only [i64_w, i32_w]; rw [c25b0]) | skip)
      have H' := aM H
      clear H
      have hnb26 := NB178_173.out
      have hnc26 := NB173_178.out
      have hnb27 := NB178_174.out
      have hnc27 := NB174_178.out
      have hcz28_0 : w16.cell? ⟨gb178, 0, none⟩ = some (.int .i64 0) := (kC BK178.out 0).trans rfl
      have hcz28_1 : w16.cell? ⟨gb178, 1, none⟩ = some (.int .i64 0) := (kC BK178.out 1).trans rfl
      have hcz28_2 : w16.cell? ⟨gb178, 2, none⟩ = some (.int .u32 0) := (kC BK178.out 2).trans rfl
      have hcz28_3 : w16.cell? ⟨gb178, 3, none⟩ = some (.string (⟨#[]⟩ : ByteArray)) := (kC BK178.out 3).trans rfl
      have hcz28_4 : w16.cell? ⟨gb178, 4, none⟩ = some (.string (⟨#[]⟩ : ByteArray)) := (kC BK178.out 4).trans rfl
      have hfz28_0 := kF BK178.out 0
      have hfz28_1 := kF BK178.out 1
      have hfz28_2 := kF BK178.out 2
      have hfz28_3 := kF BK178.out 3
      have hfz28_4 := kF BK178.out 4
      go_wp2
      go_meet
      case rel => exact ⟨_, ((⟨#[]⟩ : ByteArray)), H', ⟨by first | omega | exact Nat.le_refl _⟩, ⟨by (with_reducible repeat (first | refine kN ?_ _ | refine kD ?_ | refine kA ?_ _)); refine kR ?_ NB173_178.out _; (with_reducible repeat (first | refine kN ?_ _ | refine kD ?_ | refine kA ?_ _)); refine kR ?_ NB173_178.out _; (with_reducible repeat (first | refine kN ?_ _ | refine kD ?_ | refine kA ?_ _)); refine kR ?_ NB173_178.out _; (with_reducible repeat (first | refine kN ?_ _ | refine kD ?_ | refine kA ?_ _)); refine kR ?_ NB173_178.out _; (with_reducible repeat (first | refine kN ?_ _ | refine kD ?_ | refine kA ?_ _)); refine kR ?_ NB173_178.out _; (with_reducible repeat (first | refine kN ?_ _ | refine kD ?_ | refine kA ?_ _)); refine kR ?_ NB173_178.out _; (with_reducible repeat (first | refine kN ?_ _ | refine kD ?_ | refine kA ?_ _)); exact BK173.out⟩, ⟨by (with_reducible repeat (first | refine kN ?_ _ | refine kD ?_ | refine kA ?_ _)); refine kR ?_ NB174_178.out _; (with_reducible repeat (first | refine kN ?_ _ | refine kD ?_ | refine kA ?_ _)); refine kR ?_ NB174_178.out _; (with_reducible repeat (first | refine kN ?_ _ | refine kD ?_ | refine kA ?_ _)); refine kR ?_ NB174_178.out _; (with_reducible repeat (first | refine kN ?_ _ | refine kD ?_ | refine kA ?_ _)); refine kR ?_ NB174_178.out _; (with_reducible repeat (first | refine kN ?_ _ | refine kD ?_ | refine kA ?_ _)); refine kR ?_ NB174_178.out _; (with_reducible repeat (first | refine kN ?_ _ | refine kD ?_ | refine kA ?_ _)); refine kR ?_ NB174_178.out _; (with_reducible repeat (first | refine kN ?_ _ | refine kD ?_ | refine kA ?_ _)); exact BK174.out⟩, ⟨by (with_reducible repeat (first | refine kN ?_ _ | refine kD ?_ | refine kA ?_ _)); refine blk_put (cs := #[.int .i64 (wrap64 (Int.tmod (IntKind.u64.wrap (a0_0)) 5)), .int .i64 (wrap64 (1 + (wrap64 (Int.tmod (IntKind.u64.wrap (a0_1)) 4)))), .int .u32 ((1 + (Int.tmod a0_2 5)) % 4294967296), .string (strOfNums y175), .string (a0_4.extract 0 ((ji3) : Int).toNat)]) ?_ 4 _ rfl; (with_reducible repeat (first | refine kN ?_ _ | refine kD ?_ | refine kA ?_ _)); refine blk_put (cs := #[.int .i64 (wrap64 (Int.tmod (IntKind.u64.wrap (a0_0)) 5)), .int .i64 (wrap64 (1 + (wrap64 (Int.tmod (IntKind.u64.wrap (a0_1)) 4)))), .int .u32 ((1 + (Int.tmod a0_2 5)) % 4294967296), .string (strOfNums y175), .string (⟨#[]⟩ : ByteArray)]) ?_ 4 _ rfl; (with_reducible repeat (first | refine kN ?_ _ | refine kD ?_ | refine kA ?_ _)); refine blk_put (cs := #[.int .i64 (wrap64 (Int.tmod (IntKind.u64.wrap (a0_0)) 5)), .int .i64 (wrap64 (1 + (wrap64 (Int.tmod (IntKind.u64.wrap (a0_1)) 4)))), .int .u32 ((1 + (Int.tmod a0_2 5)) % 4294967296), .string (⟨#[]⟩ : ByteArray), .string (⟨#[]⟩ : ByteArray)]) ?_ 3 _ rfl; (with_reducible repeat (first | refine kN ?_ _ | refine kD ?_ | refine kA ?_ _)); refine blk_put (cs := #[.int .i64 (wrap64 (Int.tmod (IntKind.u64.wrap (a0_0)) 5)), .int .i64 (wrap64 (1 + (wrap64 (Int.tmod (IntKind.u64.wrap (a0_1)) 4)))), .int .u32 0, .string (⟨#[]⟩ : ByteArray), .string (⟨#[]⟩ : ByteArray)]) ?_ 2 _ rfl; (with_reducible repeat (first | refine kN ?_ _ | refine kD ?_ | refine kA ?_ _)); refine blk_put (cs := #[.int .i64 (wrap64 (Int.tmod (IntKind.u64.wrap (a0_0)) 5)), .int .i64 0, .int .u32 0, .string (⟨#[]⟩ : ByteArray), .string (⟨#[]⟩ : ByteArray)]) ?_ 1 _ rfl; (with_reducible repeat (first | refine kN ?_ _ | refine kD ?_ | refine kA ?_ _)); refine blk_put (cs := #[.int .i64 0, .int .i64 0, .int .u32 0, .string (⟨#[]⟩ : ByteArray), .string (⟨#[]⟩ : ByteArray)]) ?_ 0 _ rfl; (with_reducible repeat (first | refine kN ?_ _ | refine kD ?_ | refine kA ?_ _)); exact BK178.out⟩, ⟨by repeat (first | (with_reducible first | exact HB.out | apply bA | apply bN | apply bD | refine bS ?_ GE173.out | refine bS ?_ GE174.out | refine bS ?_ GE178.out) | exact HB.out)⟩⟩
    case rest =>
     clear HC6
     try clear hcv1
     try clear c2
     try clear p2
     try clear p6
     try clear hcv14
     try clear hcv15
     try clear c22
     try clear c23
     try clear c25
     try clear c25b0
     try clear c25b1
     try clear c26
     try clear c27
     try clear hcz24_0
     try clear hcz24_1
     try clear hcz24_2
     try clear hcz24_3
     try clear hcz24_4
     try clear hcz28_0
     try clear hcz28_1
     try clear hcz28_2
     try clear hcz28_3
     try clear hcz28_4
     try clear hfz24_0
     try clear hfz24_1
     try clear hfz24_2
     try clear hfz24_3
     try clear hfz24_4
     try clear hfz28_0
     try clear hfz28_1
     try clear hfz28_2
     try clear hfz28_3
     try clear hfz28_4
     obtain ⟨kq, x179004_5, HA, HJ5, BK173, BK174, BK178, HB⟩ := hcut
     cases kq with
     | zero => exact absurd HA.out (by simp [comitialaw07_Wish_wish.j0])
     | succ kj5 =>
      have H := HA.out
      clear HA
      simp only [comitialaw07_Wish_wish.j0] at H
      by_cases c29 : (wrap64 (Int.tmod (IntKind.u64.wrap (a0_0)) 5)) = 0
      ·rw [if_pos c29] at H
       have c29b0 : ((wrap64 (Int.tmod (IntKind.u64.wrap (a0_0)) 5)) == 0) = true := beq_iff_eq.mpr c29
       have c29b1 : ((wrap64 (Int.tmod (IntKind.u64.wrap (a0_0)) 5)) != 0) = false := bne_eq_false_iff_eq.mpr c29
       clear c29
       simp only [Option.some.injEq, Prod.mk.injEq] at H
       obtain ⟨rfl, rfl, rfl, rfl, rfl⟩ := H
       have hnb30 := NB178_173.out
       have hnc30 := NB173_178.out
       have hnb31 := NB178_174.out
       have hnc31 := NB174_178.out
       have hcz32_0 : wc.cell? ⟨gb178, 0, none⟩ = some (.int .i64 (wrap64 (Int.tmod (IntKind.u64.wrap (a0_0)) 5))) := (kC BK178.out 0).trans rfl
       have hcz32_1 : wc.cell? ⟨gb178, 1, none⟩ = some (.int .i64 (wrap64 (1 + (wrap64 (Int.tmod (IntKind.u64.wrap (a0_1)) 4))))) := (kC BK178.out 1).trans rfl
       have hcz32_2 : wc.cell? ⟨gb178, 2, none⟩ = some (.int .u32 ((1 + (Int.tmod a0_2 5)) % 4294967296)) := (kC BK178.out 2).trans rfl
       have hcz32_3 : wc.cell? ⟨gb178, 3, none⟩ = some (.string (strOfNums y175)) := (kC BK178.out 3).trans rfl
       have hcz32_4 : wc.cell? ⟨gb178, 4, none⟩ = some (.string x179004_5) := (kC BK178.out 4).trans rfl
       have hfz32_0 := kF BK178.out 0
       have hfz32_1 := kF BK178.out 1
       have hfz32_2 := kF BK178.out 2
       have hfz32_3 := kF BK178.out 3
       have hfz32_4 := kF BK178.out 4
       have hnb33 := NB174_173.out
       have hnc33 := NB173_174.out
       have hcz34_0 : wc.cell? ⟨gb174, 0, none⟩ = some (.int .i64 0) := (kC BK174.out 0).trans rfl
       have hcz34_1 : wc.cell? ⟨gb174, 1, none⟩ = some (.int .i64 0) := (kC BK174.out 1).trans rfl
       have hcz34_2 : wc.cell? ⟨gb174, 2, none⟩ = some (.int .u32 0) := (kC BK174.out 2).trans rfl
       have hcz34_3 : wc.cell? ⟨gb174, 3, none⟩ = some (.string (⟨#[]⟩ : ByteArray)) := (kC BK174.out 3).trans rfl
       have hcz34_4 : wc.cell? ⟨gb174, 4, none⟩ = some (.string (⟨#[]⟩ : ByteArray)) := (kC BK174.out 4).trans rfl
       have hfz34_0 := kF BK174.out 0
       have hfz34_1 := kF BK174.out 1
       have hfz34_2 := kF BK174.out 2
       have hfz34_3 := kF BK174.out 3
       have hfz34_4 := kF BK174.out 4
       go_wp2
       refine bodyPost_ret (results_cell_row rfl _ _ gb174 24 #[.int .i64 0, .int .i64 0, .int .u32 0, .string (⟨#[]⟩ : ByteArray), .string (⟨#[]⟩ : ByteArray)] (0, 0) _ rfl (by (with_reducible repeat (first | refine kN ?_ _ | refine kD ?_ | refine kA ?_ _)); refine blk_put (cs := #[.int .i64 0, .int .i64 0, .int .u32 0, .string (⟨#[]⟩ : ByteArray), .string (⟨#[]⟩ : ByteArray)]) ?_ 4 _ rfl; (with_reducible repeat (first | refine kN ?_ _ | refine kD ?_ | refine kA ?_ _)); refine blk_put (cs := #[.int .i64 0, .int .i64 0, .int .u32 0, .string (⟨#[]⟩ : ByteArray), .string (⟨#[]⟩ : ByteArray)]) ?_ 3 _ rfl; (with_reducible repeat (first | refine kN ?_ _ | refine kD ?_ | refine kA ?_ _)); refine blk_put (cs := #[.int .i64 0, .int .i64 0, .int .u32 0, .string (⟨#[]⟩ : ByteArray), .string (⟨#[]⟩ : ByteArray)]) ?_ 2 _ rfl; (with_reducible repeat (first | refine kN ?_ _ | refine kD ?_ | refine kA ?_ _)); refine blk_put (cs := #[.int .i64 0, .int .i64 0, .int .u32 0, .string (⟨#[]⟩ : ByteArray), .string (⟨#[]⟩ : ByteArray)]) ?_ 1 _ rfl; (with_reducible repeat (first | refine kN ?_ _ | refine kD ?_ | refine kA ?_ _)); refine blk_put (cs := #[.int .i64 0, .int .i64 0, .int .u32 0, .string (⟨#[]⟩ : ByteArray), .string (⟨#[]⟩ : ByteArray)]) ?_ 0 _ rfl; (with_reducible repeat (first | refine kN ?_ _ | refine kD ?_ | refine kA ?_ _)); exact BK174.out) Tryd.underlying24 rfl (by kernel_rfl)) rfl ?_
       exact ⟨by first | rfl | (simp [errW_none, errW_some] <;> rfl) | (simp only [← hji3]; first | rfl | (simp [errW_none, errW_some] <;> rfl)) | (simp [*, errW_none, errW_some] <;> rfl), by repeat (first | (with_reducible first | exact HB.out | apply bA | apply bN | apply bD | refine bS ?_ GE173.out | refine bS ?_ GE174.out | refine bS ?_ GE178.out) | exact HB.out)⟩
      ·rw [if_neg c29] at H
       have c29b0 : ((wrap64 (Int.tmod (IntKind.u64.wrap (a0_0)) 5)) == 0) = false := beq_eq_false_iff_ne.mpr c29
       have c29b1 : ((wrap64 (Int.tmod (IntKind.u64.wrap (a0_0)) 5)) != 0) = true := bne_iff_ne.mpr c29
       by_cases c35 : (wrap64 (Int.tmod (IntKind.u64.wrap (a0_0)) 5)) = 4
       ·rw [if_pos c35] at H
        have c35b0 : ((wrap64 (Int.tmod (IntKind.u64.wrap (a0_0)) 5)) == 4) = true := beq_iff_eq.mpr c35
        have c35b1 : ((wrap64 (Int.tmod (IntKind.u64.wrap (a0_0)) 5)) != 4) = false := bne_eq_false_iff_eq.mpr c35
        clear c35
        simp only [Option.some.injEq, Prod.mk.injEq] at H
        obtain ⟨rfl, rfl, rfl, rfl, rfl⟩ := H
        have hnb36 := NB178_173.out
        have hnc36 := NB173_178.out
        have hnb37 := NB178_174.out
        have hnc37 := NB174_178.out
        have hcz38_0 : wc.cell? ⟨gb178, 0, none⟩ = some (.int .i64 (wrap64 (Int.tmod (IntKind.u64.wrap (a0_0)) 5))) := (kC BK178.out 0).trans rfl
        have hcz38_1 : wc.cell? ⟨gb178, 1, none⟩ = some (.int .i64 (wrap64 (1 + (wrap64 (Int.tmod (IntKind.u64.wrap (a0_1)) 4))))) := (kC BK178.out 1).trans rfl
        have hcz38_2 : wc.cell? ⟨gb178, 2, none⟩ = some (.int .u32 ((1 + (Int.tmod a0_2 5)) % 4294967296)) := (kC BK178.out 2).trans rfl
        have hcz38_3 : wc.cell? ⟨gb178, 3, none⟩ = some (.string (strOfNums y175)) := (kC BK178.out 3).trans rfl
        have hcz38_4 : wc.cell? ⟨gb178, 4, none⟩ = some (.string x179004_5) := (kC BK178.out 4).trans rfl
        have hfz38_0 := kF BK178.out 0
        have hfz38_1 := kF BK178.out 1
        have hfz38_2 := kF BK178.out 2
        have hfz38_3 := kF BK178.out 3
        have hfz38_4 := kF BK178.out 4
        have hnb39 := NB174_173.out
        have hnc39 := NB173_174.out
        have hcz40_0 : wc.cell? ⟨gb174, 0, none⟩ = some (.int .i64 0) := (kC BK174.out 0).trans rfl
        have hcz40_1 : wc.cell? ⟨gb174, 1, none⟩ = some (.int .i64 0) := (kC BK174.out 1).trans rfl
        have hcz40_2 : wc.cell? ⟨gb174, 2, none⟩ = some (.int .u32 0) := (kC BK174.out 2).trans rfl
        have hcz40_3 : wc.cell? ⟨gb174, 3, none⟩ = some (.string (⟨#[]⟩ : ByteArray)) := (kC BK174.out 3).trans rfl
        have hcz40_4 : wc.cell? ⟨gb174, 4, none⟩ = some (.string (⟨#[]⟩ : ByteArray)) := (kC BK174.out 4).trans rfl
        have hfz40_0 := kF BK174.out 0
        have hfz40_1 := kF BK174.out 1
        have hfz40_2 := kF BK174.out 2
        have hfz40_3 := kF BK174.out 3
        have hfz40_4 := kF BK174.out 4
        go_wp2
        refine bodyPost_ret (results_cell_row rfl _ _ gb174 24 #[.int .i64 1, .int .i64 (wrap64 (1 + (wrap64 (Int.tmod (IntKind.u64.wrap (a0_1)) 4)))), .int .u32 ((1 + (Int.tmod a0_2 5)) % 4294967296), .string (strOfNums y175), .string x179004_5] (0, 0) _ rfl (by (with_reducible repeat (first | refine kN ?_ _ | refine kD ?_ | refine kA ?_ _)); refine blk_put (cs := #[.int .i64 1, .int .i64 (wrap64 (1 + (wrap64 (Int.tmod (IntKind.u64.wrap (a0_1)) 4)))), .int .u32 ((1 + (Int.tmod a0_2 5)) % 4294967296), .string (strOfNums y175), .string (⟨#[]⟩ : ByteArray)]) ?_ 4 _ rfl; (with_reducible repeat (first | refine kN ?_ _ | refine kD ?_ | refine kA ?_ _)); refine blk_put (cs := #[.int .i64 1, .int .i64 (wrap64 (1 + (wrap64 (Int.tmod (IntKind.u64.wrap (a0_1)) 4)))), .int .u32 ((1 + (Int.tmod a0_2 5)) % 4294967296), .string (⟨#[]⟩ : ByteArray), .string (⟨#[]⟩ : ByteArray)]) ?_ 3 _ rfl; (with_reducible repeat (first | refine kN ?_ _ | refine kD ?_ | refine kA ?_ _)); refine blk_put (cs := #[.int .i64 1, .int .i64 (wrap64 (1 + (wrap64 (Int.tmod (IntKind.u64.wrap (a0_1)) 4)))), .int .u32 0, .string (⟨#[]⟩ : ByteArray), .string (⟨#[]⟩ : ByteArray)]) ?_ 2 _ rfl; (with_reducible repeat (first | refine kN ?_ _ | refine kD ?_ | refine kA ?_ _)); refine blk_put (cs := #[.int .i64 1, .int .i64 0, .int .u32 0, .string (⟨#[]⟩ : ByteArray), .string (⟨#[]⟩ : ByteArray)]) ?_ 1 _ rfl; (with_reducible repeat (first | refine kN ?_ _ | refine kD ?_ | refine kA ?_ _)); refine blk_put (cs := #[.int .i64 0, .int .i64 0, .int .u32 0, .string (⟨#[]⟩ : ByteArray), .string (⟨#[]⟩ : ByteArray)]) ?_ 0 _ rfl; (with_reducible repeat (first | refine kN ?_ _ | refine kD ?_ | refine kA ?_ _)); refine kR ?_ NB174_178.out _; (with_reducible repeat (first | refine kN ?_ _ | refine kD ?_ | refine kA ?_ _)); exact BK174.out) Tryd.underlying24 rfl (by kernel_rfl)) rfl ?_
        exact ⟨by first | rfl | (simp [errW_none, errW_some] <;> rfl) | (simp only [← hji3]; first | rfl | (simp [errW_none, errW_some] <;> rfl)) | (simp [*, errW_none, errW_some] <;> rfl), by repeat (first | (with_reducible first | exact HB.out | apply bA | apply bN | apply bD | refine bS ?_ GE173.out | refine bS ?_ GE174.out | refine bS ?_ GE178.out) | exact HB.out)⟩
       ·rw [if_neg c35] at H
        have c35b0 : ((wrap64 (Int.tmod (IntKind.u64.wrap (a0_0)) 5)) == 4) = false := beq_eq_false_iff_ne.mpr c35
        have c35b1 : ((wrap64 (Int.tmod (IntKind.u64.wrap (a0_0)) 5)) != 4) = true := bne_iff_ne.mpr c35
        simp only [Option.some.injEq, Prod.mk.injEq] at H
        obtain ⟨rfl, rfl, rfl, rfl, rfl⟩ := H
        have hnb41 := NB178_173.out
        have hnc41 := NB173_178.out
        have hnb42 := NB178_174.out
        have hnc42 := NB174_178.out
        have hcz43_0 : wc.cell? ⟨gb178, 0, none⟩ = some (.int .i64 (wrap64 (Int.tmod (IntKind.u64.wrap (a0_0)) 5))) := (kC BK178.out 0).trans rfl
        have hcz43_1 : wc.cell? ⟨gb178, 1, none⟩ = some (.int .i64 (wrap64 (1 + (wrap64 (Int.tmod (IntKind.u64.wrap (a0_1)) 4))))) := (kC BK178.out 1).trans rfl
        have hcz43_2 : wc.cell? ⟨gb178, 2, none⟩ = some (.int .u32 ((1 + (Int.tmod a0_2 5)) % 4294967296)) := (kC BK178.out 2).trans rfl
        have hcz43_3 : wc.cell? ⟨gb178, 3, none⟩ = some (.string (strOfNums y175)) := (kC BK178.out 3).trans rfl
        have hcz43_4 : wc.cell? ⟨gb178, 4, none⟩ = some (.string x179004_5) := (kC BK178.out 4).trans rfl
        have hfz43_0 := kF BK178.out 0
        have hfz43_1 := kF BK178.out 1
        have hfz43_2 := kF BK178.out 2
        have hfz43_3 := kF BK178.out 3
        have hfz43_4 := kF BK178.out 4
        have hnb44 := NB174_173.out
        have hnc44 := NB173_174.out
        have hcz45_0 : wc.cell? ⟨gb174, 0, none⟩ = some (.int .i64 0) := (kC BK174.out 0).trans rfl
        have hcz45_1 : wc.cell? ⟨gb174, 1, none⟩ = some (.int .i64 0) := (kC BK174.out 1).trans rfl
        have hcz45_2 : wc.cell? ⟨gb174, 2, none⟩ = some (.int .u32 0) := (kC BK174.out 2).trans rfl
        have hcz45_3 : wc.cell? ⟨gb174, 3, none⟩ = some (.string (⟨#[]⟩ : ByteArray)) := (kC BK174.out 3).trans rfl
        have hcz45_4 : wc.cell? ⟨gb174, 4, none⟩ = some (.string (⟨#[]⟩ : ByteArray)) := (kC BK174.out 4).trans rfl
        have hfz45_0 := kF BK174.out 0
        have hfz45_1 := kF BK174.out 1
        have hfz45_2 := kF BK174.out 2
        have hfz45_3 := kF BK174.out 3
        have hfz45_4 := kF BK174.out 4
        go_wp2
        refine bodyPost_ret (results_cell_row rfl _ _ gb174 24 #[.int .i64 (wrap64 (Int.tmod (IntKind.u64.wrap (a0_0)) 5)), .int .i64 (wrap64 (1 + (wrap64 (Int.tmod (IntKind.u64.wrap (a0_1)) 4)))), .int .u32 ((1 + (Int.tmod a0_2 5)) % 4294967296), .string (strOfNums y175), .string x179004_5] (0, 0) _ rfl (by (with_reducible repeat (first | refine kN ?_ _ | refine kD ?_ | refine kA ?_ _)); refine blk_put (cs := #[.int .i64 (wrap64 (Int.tmod (IntKind.u64.wrap (a0_0)) 5)), .int .i64 (wrap64 (1 + (wrap64 (Int.tmod (IntKind.u64.wrap (a0_1)) 4)))), .int .u32 ((1 + (Int.tmod a0_2 5)) % 4294967296), .string (strOfNums y175), .string (⟨#[]⟩ : ByteArray)]) ?_ 4 _ rfl; (with_reducible repeat (first | refine kN ?_ _ | refine kD ?_ | refine kA ?_ _)); refine blk_put (cs := #[.int .i64 (wrap64 (Int.tmod (IntKind.u64.wrap (a0_0)) 5)), .int .i64 (wrap64 (1 + (wrap64 (Int.tmod (IntKind.u64.wrap (a0_1)) 4)))), .int .u32 ((1 + (Int.tmod a0_2 5)) % 4294967296), .string (⟨#[]⟩ : ByteArray), .string (⟨#[]⟩ : ByteArray)]) ?_ 3 _ rfl; (with_reducible repeat (first | refine kN ?_ _ | refine kD ?_ | refine kA ?_ _)); refine blk_put (cs := #[.int .i64 (wrap64 (Int.tmod (IntKind.u64.wrap (a0_0)) 5)), .int .i64 (wrap64 (1 + (wrap64 (Int.tmod (IntKind.u64.wrap (a0_1)) 4)))), .int .u32 0, .string (⟨#[]⟩ : ByteArray), .string (⟨#[]⟩ : ByteArray)]) ?_ 2 _ rfl; (with_reducible repeat (first | refine kN ?_ _ | refine kD ?_ | refine kA ?_ _)); refine blk_put (cs := #[.int .i64 (wrap64 (Int.tmod (IntKind.u64.wrap (a0_0)) 5)), .int .i64 0, .int .u32 0, .string (⟨#[]⟩ : ByteArray), .string (⟨#[]⟩ : ByteArray)]) ?_ 1 _ rfl; (with_reducible repeat (first | refine kN ?_ _ | refine kD ?_ | refine kA ?_ _)); refine blk_put (cs := #[.int .i64 0, .int .i64 0, .int .u32 0, .string (⟨#[]⟩ : ByteArray), .string (⟨#[]⟩ : ByteArray)]) ?_ 0 _ rfl; (with_reducible repeat (first | refine kN ?_ _ | refine kD ?_ | refine kA ?_ _)); exact BK174.out) Tryd.underlying24 rfl (by kernel_rfl)) rfl ?_
        exact ⟨by first | rfl | (simp [errW_none, errW_some] <;> rfl) | (simp only [← hji3]; first | rfl | (simp [errW_none, errW_some] <;> rfl)) | (simp [*, errW_none, errW_some] <;> rfl), by repeat (first | (with_reducible first | exact HB.out | apply bA | apply bN | apply bD | refine bS ?_ GE173.out | refine bS ?_ GE174.out | refine bS ?_ GE178.out) | exact HB.out)⟩
   ·rw [if_neg c5] at H
    exact absurd H (by simp)
  ·rw [if_neg c4] at H
   exact absurd H (by simp)
 ·replace c2 := Bool.eq_false_iff.mpr c2
  subst c2
  have H1 : (some (a0_0, a0_1, a0_2, a0_3, a0_4)) = some (r1, r2, r3, r4, r5) := by rw [if_neg (show ¬ (false = true) by decide)] at H; exact H
  clear H
  have H := H1
  clear H1
  simp only [Option.some.injEq, Prod.mk.injEq] at H
  obtain ⟨rfl, rfl, rfl, rfl, rfl⟩ := H
  go_enter Tryd.func10, Tryd.ntmps10
  go_wp2_with (first | ((with_reducible refine gate_dst (N := 1) rfl ?_); refine box_event ?hg (N := 1) ?hd (cs := #[.int .i64 a0_0, .int .i64 a0_1, .int .u32 a0_2, .string a0_3, .string a0_4, .bool false]) (t := 26) ?hr ?_; (case hd => rfl); (case hg => rfl); (case hr => first | (go_simp; done) | (go_simp; rfl) | (go_simp; simp only [IntKind.wrap_u8, IntKind.wrap_u32]; done) | (go_simp; simp only [IntKind.wrap_u8, IntKind.wrap_u32]; rfl)); intro gb173 hg w46 hbox hb; have n0_ := aM (below_step (by repeat (first | (with_reducible first | exact HB.out | apply bA | apply bN | apply bD) | exact HB.out)) hb); have n1_ := aM (hbox); have n2_ := aM ((by rw [hg]; exact (below_size (by repeat (first | (with_reducible first | exact HB.out | apply bA | apply bN | apply bD) | exact HB.out))) : w.heap.size ≤ gb173)); have n3_ := aM ((by rw [hg]; exact (below_size (by repeat (first | (with_reducible first | exact HB.out | apply bA | apply bN | apply bD) | exact HB.out))) : w.heap.size ≤ gb173)); clear HB; have HB := n0_; have BK173 := n1_; have GW173 := n2_; have GE173 := n3_; clear n0_ n1_ n2_ n3_; clear hb hbox hg) | ((with_reducible refine gate_dst (N := 2) rfl ?_); refine box_event ?hg (N := 2) ?hd (cs := #[.int .i64 0, .int .i64 0, .int .u32 0, .string (⟨#[]⟩ : ByteArray), .string (⟨#[]⟩ : ByteArray)]) (t := 24) ?hr ?_; (case hd => rfl); (case hg => rfl); (case hr => first | (go_simp; done) | (go_simp; rfl) | (go_simp; simp only [IntKind.wrap_u8, IntKind.wrap_u32]; done) | (go_simp; simp only [IntKind.wrap_u8, IntKind.wrap_u32]; rfl)); intro gb174 hg w47 hbox hb; have n0_ := aM (kB (g := gb173) (o := .cells #[.int .i64 a0_0, .int .i64 a0_1, .int .u32 a0_2, .string a0_3, .string a0_4, .bool false] 26 (0, 0)) (by (with_reducible repeat (first | refine kN ?_ _ | refine kD ?_ | refine kA ?_ _)); exact BK173.out) hb); have n1_ := aM (below_step (by repeat (first | (with_reducible first | exact HB.out | apply bA | apply bN | apply bD | refine bS ?_ GE173.out) | exact HB.out)) hb); have n2_ := aM (hbox); have n3_ := aM ((by rw [hg]; exact (below_size (by repeat (first | (with_reducible first | exact HB.out | apply bA | apply bN | apply bD | refine bS ?_ GE173.out) | exact HB.out))) : w.heap.size ≤ gb174)); have n4_ := aM ((by rw [hg]; exact (below_size (by repeat (first | (with_reducible first | exact HB.out | apply bA | apply bN | apply bD | refine bS ?_ GE173.out) | exact HB.out))) : w.heap.size ≤ gb174)); have n5_ := aM ((by rw [hg]; exact Nat.ne_of_lt (blk_lt (g := gb173) (o := .cells #[.int .i64 a0_0, .int .i64 a0_1, .int .u32 a0_2, .string a0_3, .string a0_4, .bool false] 26 (0, 0)) (by (with_reducible repeat (first | refine kN ?_ _ | refine kD ?_ | refine kA ?_ _)); exact BK173.out)) : gb173 ≠ gb174)); have n6_ := aM ((by rw [hg]; exact Nat.ne_of_gt (blk_lt (g := gb173) (o := .cells #[.int .i64 a0_0, .int .i64 a0_1, .int .u32 a0_2, .string a0_3, .string a0_4, .bool false] 26 (0, 0)) (by (with_reducible repeat (first | refine kN ?_ _ | refine kD ?_ | refine kA ?_ _)); exact BK173.out)) : gb174 ≠ gb173)); clear BK173; clear HB; have BK173 := n0_; have HB := n1_; have BK174 := n2_; have GW174 := n3_; have GE174 := n4_; have NB173_174 := n5_; have NB174_173 := n6_; clear n0_ n1_ n2_ n3_ n4_ n5_ n6_; clear hb hbox hg; have hnb48 := NB173_174.out; have hnc48 := NB174_173.out; have hcz49_0 : w47.cell? ⟨gb173, 0, none⟩ = some (.int .i64 a0_0) := (kC BK173.out 0).trans rfl; have hcz49_1 : w47.cell? ⟨gb173, 1, none⟩ = some (.int .i64 a0_1) := (kC BK173.out 1).trans rfl; have hcz49_2 : w47.cell? ⟨gb173, 2, none⟩ = some (.int .u32 a0_2) := (kC BK173.out 2).trans rfl; have hcz49_3 : w47.cell? ⟨gb173, 3, none⟩ = some (.string a0_3) := (kC BK173.out 3).trans rfl; have hcz49_4 : w47.cell? ⟨gb173, 4, none⟩ = some (.string a0_4) := (kC BK173.out 4).trans rfl; have hcz49_5 : w47.cell? ⟨gb173, 5, none⟩ = some (.bool false) := (kC BK173.out 5).trans rfl; have hfz49_0 := kF BK173.out 0; have hfz49_1 := kF BK173.out 1; have hfz49_2 := kF BK173.out 2; have hfz49_3 := kF BK173.out 3; have hfz49_4 := kF BK173.out 4; have hfz49_5 := kF BK173.out 5; have hcz50_0 : w47.cell? ⟨gb174, 0, none⟩ = some (.int .i64 0) := (kC BK174.out 0).trans rfl; have hcz50_1 : w47.cell? ⟨gb174, 1, none⟩ = some (.int .i64 0) := (kC BK174.out 1).trans rfl; have hcz50_2 : w47.cell? ⟨gb174, 2, none⟩ = some (.int .u32 0) := (kC BK174.out 2).trans rfl; have hcz50_3 : w47.cell? ⟨gb174, 3, none⟩ = some (.string (⟨#[]⟩ : ByteArray)) := (kC BK174.out 3).trans rfl; have hcz50_4 : w47.cell? ⟨gb174, 4, none⟩ = some (.string (⟨#[]⟩ : ByteArray)) := (kC BK174.out 4).trans rfl; have hfz50_0 := kF BK174.out 0; have hfz50_1 := kF BK174.out 1; have hfz50_2 := kF BK174.out 2; have hfz50_3 := kF BK174.out 3; have hfz50_4 := kF BK174.out 4))
  refine bodyPost_ret (results_cell_row rfl _ _ gb174 24 #[.int .i64 a0_0, .int .i64 a0_1, .int .u32 a0_2, .string a0_3, .string a0_4] (0, 0) _ rfl (by (with_reducible repeat (first | refine kN ?_ _ | refine kD ?_ | refine kA ?_ _)); refine blk_put (cs := #[.int .i64 a0_0, .int .i64 a0_1, .int .u32 a0_2, .string a0_3, .string (⟨#[]⟩ : ByteArray)]) ?_ 4 _ rfl; (with_reducible repeat (first | refine kN ?_ _ | refine kD ?_ | refine kA ?_ _)); refine blk_put (cs := #[.int .i64 a0_0, .int .i64 a0_1, .int .u32 a0_2, .string (⟨#[]⟩ : ByteArray), .string (⟨#[]⟩ : ByteArray)]) ?_ 3 _ rfl; (with_reducible repeat (first | refine kN ?_ _ | refine kD ?_ | refine kA ?_ _)); refine blk_put (cs := #[.int .i64 a0_0, .int .i64 a0_1, .int .u32 0, .string (⟨#[]⟩ : ByteArray), .string (⟨#[]⟩ : ByteArray)]) ?_ 2 _ rfl; (with_reducible repeat (first | refine kN ?_ _ | refine kD ?_ | refine kA ?_ _)); refine blk_put (cs := #[.int .i64 a0_0, .int .i64 0, .int .u32 0, .string (⟨#[]⟩ : ByteArray), .string (⟨#[]⟩ : ByteArray)]) ?_ 1 _ rfl; (with_reducible repeat (first | refine kN ?_ _ | refine kD ?_ | refine kA ?_ _)); refine blk_put (cs := #[.int .i64 0, .int .i64 0, .int .u32 0, .string (⟨#[]⟩ : ByteArray), .string (⟨#[]⟩ : ByteArray)]) ?_ 0 _ rfl; (with_reducible repeat (first | refine kN ?_ _ | refine kD ?_ | refine kA ?_ _)); exact BK174.out) Tryd.underlying24 rfl (by kernel_rfl)) rfl ?_
  exact ⟨by first | rfl | (simp [errW_none, errW_some] <;> rfl) | (simp [*, errW_none, errW_some] <;> rfl), by repeat (first | (with_reducible first | exact HB.out | apply bA | apply bN | apply bD | refine bS ?_ GE173.out | refine bS ?_ GE174.out) | exact HB.out)⟩

end Go.Proofs.YtlljdocflfpnkaaDoor.PCmdBack
