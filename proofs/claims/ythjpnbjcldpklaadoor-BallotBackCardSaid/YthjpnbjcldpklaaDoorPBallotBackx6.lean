-- Written by a program of this session (wip/tools), over the kit's printed words: functions as plain Lean, and that the code answers so.
import Derived.Test.YthjpnbjcldpklaaDoorPBallotBackx0
import Derived.Test.YthjpnbjcldpklaaDoorPBallotBackx1
import Derived.Test.YthjpnbjcldpklaaDoorPBallotBackx3
import Derived.Test.YthjpnbjcldpklaaDoorPBallotBackx4
import Derived.Test.YthjpnbjcldpklaaDoorPBallotBackx5
namespace Go.Proofs.YthjpnbjcldpklaaDoor.PBallotBack
open Go.RowKit Go.Proofs.YthjpnbjcldpklaaDoorW.PrintWords Go.Proofs.YthjpnbjcldpklaaDoorW.PrintLast Go.Proofs.YthjpnbjcldpklaaDoorW.PrintMore
attribute [local go_sem] max2_int min2_int max_two min_two max_three min_three max_four min_four Goto.sig_u8 Goto.sig_u16 Goto.sig_u32 Goto.sig_u64 Goto.top_u8 Goto.top_u16 Goto.top_u32 Goto.top_u64   -- for this text's walks alone
set_option linter.unusedVariables false
set_option linter.unusedSimpArgs false

attribute [local go_sem high] eqA24
/-! ### comitialaw06_BallotBack: function 5 -/
def comitialaw06_BallotBack.j0 : Nat → ByteArray → Int → Bool → Int → Int → Option (Bool)
  | 0, _, _, _, _, _ => none
  | k + 1, x2, x3, x9, x169000, x169001 => (ballot_Ballot_Put.f x169000 x169001).bind fun t169 => (if t169.toList = ([] : List UInt8) then (some false) else (if t169.size + x2.size ≤ 9223372036854775807 then ((ballot_Get.f k (t169 ++ x2) false).bind fun bt170 => (if (t169.size : Int) = 0 then (none) else (if 0 ≤ (Int.tmod (wrap64 (x3)) (t169.size : Int)) then (if (Int.tmod (wrap64 (x3)) (t169.size : Int)) ≤ (t169.size : Int) then ((ballot_Get.f k (t169.extract 0 ((Int.tmod (wrap64 (x3)) (t169.size : Int)) : Int).toNat) false).bind fun bt176 => (if x9 = true then (if (bt170.1 == x169000 && (bt170.2.1 == x169001)) = true then (if bt170.2.2.1.toList = x2.toList then (if bt170.2.2.2 = true then (some false) else (if bt176.2.2.2 = true then (some ((t169.size : Int) == 5)) else (some false))) else (some false)) else (some false)) else (some false))) else (none)) else (none)))) else (none)))
def comitialaw06_BallotBack.f (k : Nat) (a0 : Int) (a1 : Int) (a2 : ByteArray) (a3 : Int) : Option (Bool) := (comitialaw06_examples.f k).bind fun t167 => (if t167 = true then (if a0 = 0 then (comitialaw06_BallotBack.j0 k a2 a3 t167 a0 0) else (comitialaw06_BallotBack.j0 k a2 a3 t167 a0 (wrap64 (1 + (wrap64 (Int.tmod a1 7)))))) else (some false))
theorem comitialaw06_BallotBack.mono_l : ∀ k, (∀ y0 y1 y2 y3 y4, LeO (comitialaw06_BallotBack.j0 k y0 y1 y2 y3 y4) (comitialaw06_BallotBack.j0 (k + 1) y0 y1 y2 y3 y4))
  | 0 => fun _ _ _ _ _ r h => by simp [comitialaw06_BallotBack.j0] at h
  | k + 1 => by
    have ih0 := comitialaw06_BallotBack.mono_l k
    · intro y0 y1 y2 y3 y4
      unfold comitialaw06_BallotBack.j0
      repeat' first
      | (with_reducible exact ih0 _ _ _ _ _)
      | (with_reducible exact ballot_Get.mono _ _ _)
      | (with_reducible exact comitialaw06_examples.mono _)
      | (with_reducible exact LeO.refl _)
      | (with_reducible exact LeO.none _)
      | (with_reducible refine LeO.ite ?_ ?_)
      | (with_reducible refine LeO.bind ?_ (fun _ => ?_))
      | exact ih0 _ _ _ _ _
      | exact ballot_Get.mono _ _ _
      | exact comitialaw06_examples.mono _
      | exact LeO.none _
      | refine LeO.ite ?_ ?_
      | refine LeO.bind ?_ (fun _ => ?_)
theorem comitialaw06_BallotBack.mono : ∀ a0 a1 a2 a3 k, LeO (comitialaw06_BallotBack.f k a0 a1 a2 a3) (comitialaw06_BallotBack.f (k + 1) a0 a1 a2 a3) := by
  intro a0 a1 a2 a3 k
  have ih0 := comitialaw06_BallotBack.mono_l k
  unfold comitialaw06_BallotBack.f
  repeat' first
      | (with_reducible exact ih0 _ _ _ _ _)
      | (with_reducible exact ballot_Get.mono _ _ _)
      | (with_reducible exact comitialaw06_examples.mono _)
      | (with_reducible exact LeO.refl _)
      | (with_reducible exact LeO.none _)
      | (with_reducible refine LeO.ite ?_ ?_)
      | (with_reducible refine LeO.bind ?_ (fun _ => ?_))
      | exact ih0 _ _ _ _ _
      | exact ballot_Get.mono _ _ _
      | exact comitialaw06_examples.mono _
      | exact LeO.none _
      | refine LeO.ite ?_ ?_
      | refine LeO.bind ?_ (fun _ => ?_)
set_option maxHeartbeats 8000000 in
set_option maxRecDepth 100000 in
theorem comitialaw06_BallotBack.calls (k : Nat) (a0 : Int) (a1 : Int) (a2 : ByteArray) (a3 : Int) (r : Bool) (w : World) (hT_ : Strconv.Tab w) (h : comitialaw06_BallotBack.f k a0 a1 a2 a3 = some r) :
    Calls Tryd.prog 5 #[.int .u32 a0, .int .u8 a1, .string a2, .int .u8 a3] w fun e w' => e = .returned (.bool r) ∧ Below w.heap.size w w' := by
  have hu24 := Tryd.underlying24
  have hu26 := Tryd.underlying26
  have HSC_ := Aside0.mk hT_
  clear hT_
  have HB := Aside0.mk (Below.refl w.heap.size w)
  have H : ((comitialaw06_examples.f k).bind fun t167 => (if t167 = true then (if a0 = 0 then (comitialaw06_BallotBack.j0 k a2 a3 t167 a0 0) else (comitialaw06_BallotBack.j0 k a2 a3 t167 a0 (wrap64 (1 + (wrap64 (Int.tmod a1 7)))))) else (some false))) = some r := h
  clear h
  replace H := Option.bind_eq_some_iff.mp H
  obtain ⟨t167, A50, H⟩ := H
  replace H : (if t167 = true then (if a0 = 0 then (comitialaw06_BallotBack.j0 k a2 a3 t167 a0 0) else (comitialaw06_BallotBack.j0 k a2 a3 t167 a0 (wrap64 (1 + (wrap64 (Int.tmod a1 7)))))) else (some false)) = some r := H
  have A5 := Aside0.mk A50
  clear A50
  by_cases c6 : t167 = true
  · subst c6
    have H1 : (if a0 = 0 then (comitialaw06_BallotBack.j0 k a2 a3 true a0 0) else (comitialaw06_BallotBack.j0 k a2 a3 true a0 (wrap64 (1 + (wrap64 (Int.tmod a1 7)))))) = some r := by rw [if_pos rfl] at H; exact H
    clear H
    have H := H1
    clear H1
    have HC7 := Aside0.mk H
    clear H
    go_enter Tryd.func5, Tryd.ntmps5
    go_upto_if 26 with (first | ((with_reducible refine gate_callee (f := 9) rfl ?_); refine goesL_ (some 16) rfl rfl Tryd.func9 (by kernel_rfl) rfl #[] rfl (by (try simp only [List.map_toArray, List.map_cons, List.map_nil]); first | done | rfl | (simp only [List.length_drop, List.length_take]; rfl)) ?_; (with_reducible refine (comitialaw06_examples.calls k  true _ ?side1 A5.out).mono ?_); (case side1 => first | (with_reducible exact HSC_.out) | exact Strconv.Tab.below HSC_.out (by repeat (first | (with_reducible first | exact HB.out | apply below_alloc | apply pw_below_drewN | apply below_drew1) | exact HB.out))); rintro e w8 ⟨rfl, hb⟩; refine ⟨_, rfl, ?_⟩; have n0_ := Aside0.mk (below_step (by repeat (first | (with_reducible first | exact HB.out | apply below_alloc | apply pw_below_drewN | apply below_drew1) | exact HB.out)) hb); clear HB; have HB := n0_; clear n0_; (try clear hb); (try clear hb2); (try clear hk); (try clear hi)) | ((with_reducible refine gate_dst (N := 10) rfl ?_); (try (refine gate_guard (by rfl) ?_; dsimp only)); refine box_event ?hg (N := 10) ?hd (cs := #[.int .u32 0, .int .i64 0]) (t := 24) ?hr ?_; (case hd => rfl); (case hg => rfl); (case hr => first | (go_simp; done) | (go_simp; rfl)); intro gb168 hg w9 hbox hb; have n0_ := Aside0.mk (below_step (by repeat (first | (with_reducible first | exact HB.out | apply below_alloc | apply pw_below_drewN | apply below_drew1) | exact HB.out)) hb); have n1_ := Aside0.mk (hbox); have n2_ := Aside0.mk ((by rw [hg]; exact (below_size (by repeat (first | (with_reducible first | exact HB.out | apply below_alloc | apply pw_below_drewN | apply below_drew1) | exact HB.out))) : w.heap.size ≤ gb168)); have n3_ := Aside0.mk ((by rw [hg]; exact (below_size (by repeat (first | (with_reducible first | exact HB.out | apply below_alloc | apply pw_below_drewN | apply below_drew1) | exact HB.out))) : w.heap.size ≤ gb168)); clear HB; have HB := n0_; have BK168 := n1_; have GW168 := n2_; have GE168 := n3_; clear n0_ n1_ n2_ n3_; clear hb hbox hg; have hcz10_0 : w9.cell? ⟨gb168, 0, none⟩ = some (.int .u32 0) := (blk_cell BK168.out 0).trans rfl; have hcz10_1 : w9.cell? ⟨gb168, 1, none⟩ = some (.int .i64 0) := (blk_cell BK168.out 1).trans rfl; have hfz10_0 := blk_frozen BK168.out 0; have hfz10_1 := blk_frozen BK168.out 1))
    (try simp only [Act.put, List.setIfInBounds_toArray, List.set_cons_zero, List.set_cons_succ])
    go_cut [] (fun wc => ∃ (kq : Nat) (x169001_6 : Int), Aside0 (comitialaw06_BallotBack.j0 kq a2 a3 true a0 x169001_6 = some r) ∧ Aside0 (kq ≤ k) ∧ Aside0 (wc.heap[gb168]? = some (.cells #[.int .u32 a0, .int .i64 x169001_6] 24 (0, 0))) ∧ Aside0 (Below w.heap.size w wc))
    case first =>
      have H := HC7.out
      clear HC7
      by_cases c11 : a0 = 0
      · rw [if_pos c11] at H
        have c11b0 : (a0 == 0) = true := beq_iff_eq.mpr c11
        have c11b1 : (a0 != 0) = false := bne_eq_false_iff_eq.mpr c11
        clear c11
        (first | rw [c11b0] | (simp only [i64_w, i32_w]; rw [c11b0]) | skip)
        have H' := Aside0.mk H
        clear H
        have hcz12_0 : w9.cell? ⟨gb168, 0, none⟩ = some (.int .u32 0) := (blk_cell BK168.out 0).trans rfl
        have hcz12_1 : w9.cell? ⟨gb168, 1, none⟩ = some (.int .i64 0) := (blk_cell BK168.out 1).trans rfl
        have hfz12_0 := blk_frozen BK168.out 0
        have hfz12_1 := blk_frozen BK168.out 1
        go_wp2
        go_meet
        case rel => exact ⟨_, (0), H', ⟨by first | omega | exact Nat.le_refl _⟩, ⟨by (with_reducible repeat (first | refine blk_drewN ?_ _ | refine blk_drew ?_ | refine blk_alloc ?_ _)); refine blk_put (cs := #[.int .u32 a0, .int .i64 (wrap64 (1 + (wrap64 (Int.tmod a1 7))))]) ?_ 1 _ rfl; (with_reducible repeat (first | refine blk_drewN ?_ _ | refine blk_drew ?_ | refine blk_alloc ?_ _)); refine blk_put (cs := #[.int .u32 a0, .int .i64 0]) ?_ 1 _ rfl; (with_reducible repeat (first | refine blk_drewN ?_ _ | refine blk_drew ?_ | refine blk_alloc ?_ _)); refine blk_put (cs := #[.int .u32 0, .int .i64 0]) ?_ 0 _ rfl; (with_reducible repeat (first | refine blk_drewN ?_ _ | refine blk_drew ?_ | refine blk_alloc ?_ _)); exact BK168.out⟩, ⟨by repeat (first | (with_reducible first | exact HB.out | apply below_alloc | apply pw_below_drewN | apply below_drew1 | refine below_set ?_ GE168.out) | exact HB.out)⟩⟩
      · rw [if_neg c11] at H
        have c11b0 : (a0 == 0) = false := beq_eq_false_iff_ne.mpr c11
        have c11b1 : (a0 != 0) = true := bne_iff_ne.mpr c11
        (first | rw [c11b0] | (simp only [i64_w, i32_w]; rw [c11b0]) | skip)
        have H' := Aside0.mk H
        clear H
        go_wp2
        go_meet
        case rel => exact ⟨_, (wrap64 (1 + (wrap64 (Int.tmod a1 7)))), H', ⟨by first | omega | exact Nat.le_refl _⟩, ⟨by (with_reducible repeat (first | refine blk_drewN ?_ _ | refine blk_drew ?_ | refine blk_alloc ?_ _)); refine blk_put (cs := #[.int .u32 a0, .int .i64 0]) ?_ 1 _ rfl; (with_reducible repeat (first | refine blk_drewN ?_ _ | refine blk_drew ?_ | refine blk_alloc ?_ _)); refine blk_put (cs := #[.int .u32 0, .int .i64 0]) ?_ 0 _ rfl; (with_reducible repeat (first | refine blk_drewN ?_ _ | refine blk_drew ?_ | refine blk_alloc ?_ _)); exact BK168.out⟩, ⟨by repeat (first | (with_reducible first | exact HB.out | apply below_alloc | apply pw_below_drewN | apply below_drew1 | refine below_set ?_ GE168.out) | exact HB.out)⟩⟩
    case rest =>
      clear HC7
      try clear c1
      try clear p2
      try clear c5
      try clear c6
      try clear p6
      try clear c9
      try clear c11
      try clear c11b0
      try clear c11b1
      try clear hcz10_0
      try clear hcz10_1
      try clear hcz12_0
      try clear hcz12_1
      try clear hfz10_0
      try clear hfz10_1
      try clear hfz12_0
      try clear hfz12_1
      obtain ⟨kq, x169001_6, HA, HJ6, BK168, HB⟩ := hcut
      cases kq with
      | zero => exact absurd HA.out (by simp [comitialaw06_BallotBack.j0])
      | succ kj6 =>
        have H := HA.out
        clear HA
        simp only [comitialaw06_BallotBack.j0] at H
        replace H := Option.bind_eq_some_iff.mp H
        obtain ⟨t169, A130, H⟩ := H
        replace H : (if t169.toList = ([] : List UInt8) then (some false) else (if t169.size + a2.size ≤ 9223372036854775807 then ((ballot_Get.f kj6 (t169 ++ a2) false).bind fun bt170 => (if (t169.size : Int) = 0 then (none) else (if 0 ≤ (Int.tmod (wrap64 (a3)) (t169.size : Int)) then (if (Int.tmod (wrap64 (a3)) (t169.size : Int)) ≤ (t169.size : Int) then ((ballot_Get.f kj6 (t169.extract 0 ((Int.tmod (wrap64 (a3)) (t169.size : Int)) : Int).toNat) false).bind fun bt176 => (if true = true then (if (bt170.1 == a0 && (bt170.2.1 == x169001_6)) = true then (if bt170.2.2.1.toList = a2.toList then (if bt170.2.2.2 = true then (some false) else (if bt176.2.2.2 = true then (some ((t169.size : Int) == 5)) else (some false))) else (some false)) else (some false)) else (some false))) else (none)) else (none)))) else (none))) = some r := H
        have A13 := Aside0.mk A130
        clear A130
        by_cases c14 : t169.toList = ([] : List UInt8)
        · rw [if_pos c14] at H
          have c14b0 : (t169.toList == ([] : List UInt8)) = true := beq_iff_eq.mpr c14
          have c14b1 : (t169.toList != ([] : List UInt8)) = false := bne_eq_false_iff_eq.mpr c14
          clear c14
          obtain rfl := Option.some.inj H
          have hcz15_0 : wc.cell? ⟨gb168, 0, none⟩ = some (.int .u32 a0) := (blk_cell BK168.out 0).trans rfl
          have hcz15_1 : wc.cell? ⟨gb168, 1, none⟩ = some (.int .i64 x169001_6) := (blk_cell BK168.out 1).trans rfl
          have hfz15_0 := blk_frozen BK168.out 0
          have hfz15_1 := blk_frozen BK168.out 1
          go_wp2_with (first | ((with_reducible refine gate_callee (f := 20) rfl ?_); refine goesL_ (some 29) rfl rfl Tryd.func20 (by kernel_rfl) rfl #[.agg #[.int .u32 a0, .int .i64 x169001_6]] rfl (by (try simp only [List.map_toArray, List.map_cons, List.map_nil]); first | done | rfl | (simp only [List.length_drop, List.length_take]; rfl)) ?_; (with_reducible refine (ballot_Ballot_Put.calls a0 x169001_6 t169 _ A13.out).mono ?_); rintro e w16 ⟨rfl, hb⟩; refine ⟨_, rfl, ?_⟩; have n0_ := Aside0.mk (blk_below (g := gb168) (o := .cells #[.int .u32 a0, .int .i64 x169001_6] 24 (0, 0)) (by (with_reducible repeat (first | refine blk_drewN ?_ _ | refine blk_drew ?_ | refine blk_alloc ?_ _)); exact BK168.out) hb); have n1_ := Aside0.mk (below_step (by repeat (first | (with_reducible first | exact HB.out | apply below_alloc | apply pw_below_drewN | apply below_drew1 | refine below_set ?_ GE168.out) | exact HB.out)) hb); clear BK168; clear HB; have BK168 := n0_; have HB := n1_; clear n0_ n1_; (try clear hb); (try clear hb2); (try clear hk); (try clear hi)))
          go_ret
          exact ⟨by first | rfl | (simp [errW_none, errW_some] <;> rfl) | (simp [*, errW_none, errW_some] <;> rfl), by repeat (first | (with_reducible first | exact HB.out | apply below_alloc | apply pw_below_drewN | apply below_drew1 | refine below_set ?_ GE168.out) | exact HB.out)⟩
        · rw [if_neg c14] at H
          have c14b0 : (t169.toList == ([] : List UInt8)) = false := beq_eq_false_iff_ne.mpr c14
          have c14b1 : (t169.toList != ([] : List UInt8)) = true := bne_iff_ne.mpr c14
          by_cases c17 : t169.size + a2.size ≤ 9223372036854775807
          · rw [if_pos c17] at H
            have c17b0 := eq_true c17
            have c17b1 : decide (t169.size + a2.size ≤ 9223372036854775807) = true := decide_eq_true c17
            try have c17b2 : (9223372036854775807 < t169.size + a2.size) = False := eq_false (Nat.not_lt.2 c17)
            replace H := Option.bind_eq_some_iff.mp H
            obtain ⟨⟨t170, t171, t172, t173⟩, A180, H⟩ := H
            replace H : (if (t169.size : Int) = 0 then (none) else (if 0 ≤ (Int.tmod (wrap64 (a3)) (t169.size : Int)) then (if (Int.tmod (wrap64 (a3)) (t169.size : Int)) ≤ (t169.size : Int) then ((ballot_Get.f kj6 (t169.extract 0 ((Int.tmod (wrap64 (a3)) (t169.size : Int)) : Int).toNat) false).bind fun bt176 => (if true = true then (if (t170 == a0 && (t171 == x169001_6)) = true then (if t172.toList = a2.toList then (if t173 = true then (some false) else (if bt176.2.2.2 = true then (some ((t169.size : Int) == 5)) else (some false))) else (some false)) else (some false)) else (some false))) else (none)) else (none))) = some r := H
            have A18 := Aside0.mk A180
            clear A180
            by_cases c19 : (t169.size : Int) = 0
            · rw [if_pos c19] at H
              exact absurd H (by simp)
            · rw [if_neg c19] at H
              have c19b0 : ((t169.size : Int) == 0) = false := beq_eq_false_iff_ne.mpr c19
              have c19b1 : ((t169.size : Int) != 0) = true := bne_iff_ne.mpr c19
              obtain ⟨ji20, hji20⟩ : ∃ j_ : Int, (Int.tmod (wrap64 (a3)) (t169.size : Int)) = j_ := ⟨_, rfl⟩
              replace H : (if 0 ≤ (ji20) then (if (ji20) ≤ (t169.size : Int) then ((ballot_Get.f kj6 (t169.extract 0 ((ji20) : Int).toNat) false).bind fun bt176 => (if true = true then (if (t170 == a0 && (t171 == x169001_6)) = true then (if t172.toList = a2.toList then (if t173 = true then (some false) else (if bt176.2.2.2 = true then (some ((t169.size : Int) == 5)) else (some false))) else (some false)) else (some false)) else (some false))) else (none)) else (none)) = some r := by first | (rw [hji20] at H; exact H) | (simp only [hji20] at H ⊢; exact H)
              (try rw [hji20] at A13)
              (try rw [hji20] at A18)
              by_cases c21 : 0 ≤ (ji20)
              · rw [if_pos c21] at H
                have c21b0 := eq_true c21
                have c21b1 : decide (0 ≤ (ji20)) = true := decide_eq_true c21
                clear c21
                by_cases c22 : (ji20) ≤ (t169.size : Int)
                · rw [if_pos c22] at H
                  have c22b0 := eq_true c22
                  have c22b1 : decide ((ji20) ≤ (t169.size : Int)) = true := decide_eq_true c22
                  clear c22
                  replace H := Option.bind_eq_some_iff.mp H
                  obtain ⟨⟨t176, t177, t178, t179⟩, A230, H⟩ := H
                  replace H : (if true = true then (if (t170 == a0 && (t171 == x169001_6)) = true then (if t172.toList = a2.toList then (if t173 = true then (some false) else (if t179 = true then (some ((t169.size : Int) == 5)) else (some false))) else (some false)) else (some false)) else (some false)) = some r := H
                  have A23 := Aside0.mk A230
                  clear A230
                  have hcz24_0 : wc.cell? ⟨gb168, 0, none⟩ = some (.int .u32 a0) := (blk_cell BK168.out 0).trans rfl
                  have hcz24_1 : wc.cell? ⟨gb168, 1, none⟩ = some (.int .i64 x169001_6) := (blk_cell BK168.out 1).trans rfl
                  have hfz24_0 := blk_frozen BK168.out 0
                  have hfz24_1 := blk_frozen BK168.out 1
                  go_upto_region 12 with (first | ((with_reducible refine gate_callee (f := 20) rfl ?_); refine goesL_ (some 29) rfl rfl Tryd.func20 (by kernel_rfl) rfl #[.agg #[.int .u32 a0, .int .i64 x169001_6]] rfl (by (try simp only [List.map_toArray, List.map_cons, List.map_nil]); first | done | rfl | (simp only [List.length_drop, List.length_take]; rfl)) ?_; (with_reducible refine (ballot_Ballot_Put.calls a0 x169001_6 t169 _ A13.out).mono ?_); rintro e w25 ⟨rfl, hb⟩; refine ⟨_, rfl, ?_⟩; have n0_ := Aside0.mk (blk_below (g := gb168) (o := .cells #[.int .u32 a0, .int .i64 x169001_6] 24 (0, 0)) (by (with_reducible repeat (first | refine blk_drewN ?_ _ | refine blk_drew ?_ | refine blk_alloc ?_ _)); exact BK168.out) hb); have n1_ := Aside0.mk (below_step (by repeat (first | (with_reducible first | exact HB.out | apply below_alloc | apply pw_below_drewN | apply below_drew1 | refine below_set ?_ GE168.out) | exact HB.out)) hb); clear BK168; clear HB; have BK168 := n0_; have HB := n1_; clear n0_ n1_; (try clear hb); (try clear hb2); (try clear hk); (try clear hi)) | ((with_reducible refine gate_callee (f := 13) rfl ?_); refine goesL_ (some 37) rfl rfl Tryd.func13 (by kernel_rfl) rfl #[.agg #[.string (t169 ++ a2), .bool false]] rfl (by (try simp only [List.map_toArray, List.map_cons, List.map_nil]); first | done | rfl | (simp only [List.length_drop, List.length_take]; rfl)) ?_; (with_reducible refine (ballot_Get.calls kj6 (t169 ++ a2) false t170 t171 t172 t173 _ A18.out).mono ?_); rintro e w26 ⟨rfl, hb⟩; refine ⟨_, rfl, ?_⟩; have n0_ := Aside0.mk (blk_below (g := gb168) (o := .cells #[.int .u32 a0, .int .i64 x169001_6] 24 (0, 0)) (by (with_reducible repeat (first | refine blk_drewN ?_ _ | refine blk_drew ?_ | refine blk_alloc ?_ _)); exact BK168.out) hb); have n1_ := Aside0.mk (below_step (by repeat (first | (with_reducible first | exact HB.out | apply below_alloc | apply pw_below_drewN | apply below_drew1 | refine below_set ?_ GE168.out) | exact HB.out)) hb); clear BK168; clear HB; have BK168 := n0_; have HB := n1_; clear n0_ n1_; (try clear hb); (try clear hb2); (try clear hk); (try clear hi)) | ((with_reducible refine gate_dst (N := 12) rfl ?_); (try (refine gate_guard (by rfl) ?_; dsimp only)); refine box_event ?hg (N := 12) ?hd (cs := #[.int .u32 0, .int .i64 0]) (t := 24) ?hr ?_; (case hd => rfl); (case hg => rfl); (case hr => first | (go_simp; done) | (go_simp; rfl)); intro gb174 hg w27 hbox hb; have n0_ := Aside0.mk (blk_below (g := gb168) (o := .cells #[.int .u32 a0, .int .i64 x169001_6] 24 (0, 0)) (by (with_reducible repeat (first | refine blk_drewN ?_ _ | refine blk_drew ?_ | refine blk_alloc ?_ _)); exact BK168.out) hb); have n1_ := Aside0.mk (below_step (by repeat (first | (with_reducible first | exact HB.out | apply below_alloc | apply pw_below_drewN | apply below_drew1 | refine below_set ?_ GE168.out) | exact HB.out)) hb); have n2_ := Aside0.mk (hbox); have n3_ := Aside0.mk ((by rw [hg]; exact (below_size (by repeat (first | (with_reducible first | exact HB.out | apply below_alloc | apply pw_below_drewN | apply below_drew1 | refine below_set ?_ GE168.out) | exact HB.out))) : w.heap.size ≤ gb174)); have n4_ := Aside0.mk ((by rw [hg]; exact (below_size (by repeat (first | (with_reducible first | exact HB.out | apply below_alloc | apply pw_below_drewN | apply below_drew1 | refine below_set ?_ GE168.out) | exact HB.out))) : w.heap.size ≤ gb174)); have n5_ := Aside0.mk ((by rw [hg]; exact Nat.ne_of_lt (blk_lt (g := gb168) (o := .cells #[.int .u32 a0, .int .i64 x169001_6] 24 (0, 0)) (by (with_reducible repeat (first | refine blk_drewN ?_ _ | refine blk_drew ?_ | refine blk_alloc ?_ _)); exact BK168.out)) : gb168 ≠ gb174)); have n6_ := Aside0.mk ((by rw [hg]; exact Nat.ne_of_gt (blk_lt (g := gb168) (o := .cells #[.int .u32 a0, .int .i64 x169001_6] 24 (0, 0)) (by (with_reducible repeat (first | refine blk_drewN ?_ _ | refine blk_drew ?_ | refine blk_alloc ?_ _)); exact BK168.out)) : gb174 ≠ gb168)); clear BK168; clear HB; have BK168 := n0_; have HB := n1_; have BK174 := n2_; have GW174 := n3_; have GE174 := n4_; have NB168_174 := n5_; have NB174_168 := n6_; clear n0_ n1_ n2_ n3_ n4_ n5_ n6_; clear hb hbox hg) | ((with_reducible refine gate_dst (N := 13) rfl ?_); (try (refine gate_guard (by rfl) ?_; dsimp only)); refine box_event ?hg (N := 13) ?hd (cs := #[.string (⟨#[]⟩ : ByteArray), .bool false]) (t := 26) ?hr ?_; (case hd => rfl); (case hg => rfl); (case hr => first | (go_simp; done) | (go_simp; rfl)); intro gb175 hg w28 hbox hb; have n0_ := Aside0.mk (blk_below (g := gb168) (o := .cells #[.int .u32 a0, .int .i64 x169001_6] 24 (0, 0)) (by (with_reducible repeat (first | refine blk_drewN ?_ _ | refine blk_drew ?_ | refine blk_alloc ?_ _)); exact BK168.out) hb); have n1_ := Aside0.mk (blk_below (g := gb174) (o := .cells #[.int .u32 0, .int .i64 0] 24 (0, 0)) (by (with_reducible repeat (first | refine blk_drewN ?_ _ | refine blk_drew ?_ | refine blk_alloc ?_ _)); exact BK174.out) hb); have n2_ := Aside0.mk (below_step (by repeat (first | (with_reducible first | exact HB.out | apply below_alloc | apply pw_below_drewN | apply below_drew1 | refine below_set ?_ GE168.out | refine below_set ?_ GE174.out) | exact HB.out)) hb); have n3_ := Aside0.mk (hbox); have n4_ := Aside0.mk ((by rw [hg]; exact (below_size (by repeat (first | (with_reducible first | exact HB.out | apply below_alloc | apply pw_below_drewN | apply below_drew1 | refine below_set ?_ GE168.out | refine below_set ?_ GE174.out) | exact HB.out))) : w.heap.size ≤ gb175)); have n5_ := Aside0.mk ((by rw [hg]; exact (below_size (by repeat (first | (with_reducible first | exact HB.out | apply below_alloc | apply pw_below_drewN | apply below_drew1 | refine below_set ?_ GE168.out | refine below_set ?_ GE174.out) | exact HB.out))) : w.heap.size ≤ gb175)); have n6_ := Aside0.mk ((by rw [hg]; exact Nat.ne_of_lt (blk_lt (g := gb168) (o := .cells #[.int .u32 a0, .int .i64 x169001_6] 24 (0, 0)) (by (with_reducible repeat (first | refine blk_drewN ?_ _ | refine blk_drew ?_ | refine blk_alloc ?_ _)); exact BK168.out)) : gb168 ≠ gb175)); have n7_ := Aside0.mk ((by rw [hg]; exact Nat.ne_of_gt (blk_lt (g := gb168) (o := .cells #[.int .u32 a0, .int .i64 x169001_6] 24 (0, 0)) (by (with_reducible repeat (first | refine blk_drewN ?_ _ | refine blk_drew ?_ | refine blk_alloc ?_ _)); exact BK168.out)) : gb175 ≠ gb168)); have n8_ := Aside0.mk ((by rw [hg]; exact Nat.ne_of_lt (blk_lt (g := gb174) (o := .cells #[.int .u32 0, .int .i64 0] 24 (0, 0)) (by (with_reducible repeat (first | refine blk_drewN ?_ _ | refine blk_drew ?_ | refine blk_alloc ?_ _)); exact BK174.out)) : gb174 ≠ gb175)); have n9_ := Aside0.mk ((by rw [hg]; exact Nat.ne_of_gt (blk_lt (g := gb174) (o := .cells #[.int .u32 0, .int .i64 0] 24 (0, 0)) (by (with_reducible repeat (first | refine blk_drewN ?_ _ | refine blk_drew ?_ | refine blk_alloc ?_ _)); exact BK174.out)) : gb175 ≠ gb174)); clear BK168; clear BK174; clear HB; have BK168 := n0_; have BK174 := n1_; have HB := n2_; have BK175 := n3_; have GW175 := n4_; have GE175 := n5_; have NB168_175 := n6_; have NB175_168 := n7_; have NB174_175 := n8_; have NB175_174 := n9_; clear n0_ n1_ n2_ n3_ n4_ n5_ n6_ n7_ n8_ n9_; clear hb hbox hg; have hnb29 := NB174_168.out; have hnc29 := NB168_174.out; have hnb30 := NB174_175.out; have hnc30 := NB175_174.out; have hcz31_0 : w28.cell? ⟨gb174, 0, none⟩ = some (.int .u32 0) := (blk_cell BK174.out 0).trans rfl; have hcz31_1 : w28.cell? ⟨gb174, 1, none⟩ = some (.int .i64 0) := (blk_cell BK174.out 1).trans rfl; have hfz31_0 := blk_frozen BK174.out 0; have hfz31_1 := blk_frozen BK174.out 1; have hnb32 := NB175_168.out; have hnc32 := NB168_175.out; have hcz33_0 : w28.cell? ⟨gb175, 0, none⟩ = some (.string (⟨#[]⟩ : ByteArray)) := (blk_cell BK175.out 0).trans rfl; have hcz33_1 : w28.cell? ⟨gb175, 1, none⟩ = some (.bool false) := (blk_cell BK175.out 1).trans rfl; have hfz33_0 := blk_frozen BK175.out 0; have hfz33_1 := blk_frozen BK175.out 1) | ((with_reducible refine gate_callee (f := 13) rfl ?_); refine goesL_ (some 49) rfl rfl Tryd.func13 (by kernel_rfl) rfl #[.agg #[.string (t169.extract 0 ((ji20) : Int).toNat), .bool false]] rfl (by (try simp only [List.map_toArray, List.map_cons, List.map_nil]); first | done | (simp only [hji20]; rfl) | rfl | (simp only [List.length_drop, List.length_take]; rfl)) ?_; (with_reducible refine (ballot_Get.calls kj6 (t169.extract 0 ((ji20) : Int).toNat) false t176 t177 t178 t179 _ A23.out).mono ?_); rintro e w34 ⟨rfl, hb⟩; refine ⟨_, rfl, ?_⟩; have n0_ := Aside0.mk (blk_below (g := gb168) (o := .cells #[.int .u32 a0, .int .i64 x169001_6] 24 (0, 0)) (by (with_reducible repeat (first | refine blk_drewN ?_ _ | refine blk_drew ?_ | refine blk_alloc ?_ _)); refine blk_far ?_ NB168_175.out _; (with_reducible repeat (first | refine blk_drewN ?_ _ | refine blk_drew ?_ | refine blk_alloc ?_ _)); refine blk_far ?_ NB168_175.out _; (with_reducible repeat (first | refine blk_drewN ?_ _ | refine blk_drew ?_ | refine blk_alloc ?_ _)); refine blk_far ?_ NB168_174.out _; (with_reducible repeat (first | refine blk_drewN ?_ _ | refine blk_drew ?_ | refine blk_alloc ?_ _)); refine blk_far ?_ NB168_174.out _; (with_reducible repeat (first | refine blk_drewN ?_ _ | refine blk_drew ?_ | refine blk_alloc ?_ _)); exact BK168.out) hb); have n1_ := Aside0.mk (blk_below (g := gb174) (o := .cells #[.int .u32 t170, .int .i64 t171] 24 (0, 0)) (by (with_reducible repeat (first | refine blk_drewN ?_ _ | refine blk_drew ?_ | refine blk_alloc ?_ _)); refine blk_far ?_ NB174_175.out _; (with_reducible repeat (first | refine blk_drewN ?_ _ | refine blk_drew ?_ | refine blk_alloc ?_ _)); refine blk_far ?_ NB174_175.out _; (with_reducible repeat (first | refine blk_drewN ?_ _ | refine blk_drew ?_ | refine blk_alloc ?_ _)); refine blk_put (cs := #[.int .u32 t170, .int .i64 0]) ?_ 1 _ rfl; (with_reducible repeat (first | refine blk_drewN ?_ _ | refine blk_drew ?_ | refine blk_alloc ?_ _)); refine blk_put (cs := #[.int .u32 0, .int .i64 0]) ?_ 0 _ rfl; (with_reducible repeat (first | refine blk_drewN ?_ _ | refine blk_drew ?_ | refine blk_alloc ?_ _)); exact BK174.out) hb); have n2_ := Aside0.mk (blk_below (g := gb175) (o := .cells #[.string t172, .bool t173] 26 (0, 0)) (by (with_reducible repeat (first | refine blk_drewN ?_ _ | refine blk_drew ?_ | refine blk_alloc ?_ _)); refine blk_put (cs := #[.string t172, .bool false]) ?_ 1 _ rfl; (with_reducible repeat (first | refine blk_drewN ?_ _ | refine blk_drew ?_ | refine blk_alloc ?_ _)); refine blk_put (cs := #[.string (⟨#[]⟩ : ByteArray), .bool false]) ?_ 0 _ rfl; (with_reducible repeat (first | refine blk_drewN ?_ _ | refine blk_drew ?_ | refine blk_alloc ?_ _)); refine blk_far ?_ NB175_174.out _; (with_reducible repeat (first | refine blk_drewN ?_ _ | refine blk_drew ?_ | refine blk_alloc ?_ _)); refine blk_far ?_ NB175_174.out _; (with_reducible repeat (first | refine blk_drewN ?_ _ | refine blk_drew ?_ | refine blk_alloc ?_ _)); exact BK175.out) hb); have n3_ := Aside0.mk (below_step (by repeat (first | (with_reducible first | exact HB.out | apply below_alloc | apply pw_below_drewN | apply below_drew1 | refine below_set ?_ GE168.out | refine below_set ?_ GE174.out | refine below_set ?_ GE175.out) | exact HB.out)) hb); clear BK168; clear BK174; clear BK175; clear HB; have BK168 := n0_; have BK174 := n1_; have BK175 := n2_; have HB := n3_; clear n0_ n1_ n2_ n3_; (try clear hb); (try clear hb2); (try clear hk); (try clear hi)) | ((with_reducible refine gate_dst (N := 14) rfl ?_); (try (refine gate_guard (by rfl) ?_; dsimp only)); refine box_event ?hg (N := 14) ?hd (cs := #[.int .u32 0, .int .i64 0]) (t := 24) ?hr ?_; (case hd => rfl); (case hg => rfl); (case hr => first | (go_simp; done) | (go_simp; rfl)); intro gb180 hg w35 hbox hb; have n0_ := Aside0.mk (blk_below (g := gb168) (o := .cells #[.int .u32 a0, .int .i64 x169001_6] 24 (0, 0)) (by (with_reducible repeat (first | refine blk_drewN ?_ _ | refine blk_drew ?_ | refine blk_alloc ?_ _)); exact BK168.out) hb); have n1_ := Aside0.mk (blk_below (g := gb174) (o := .cells #[.int .u32 t170, .int .i64 t171] 24 (0, 0)) (by (with_reducible repeat (first | refine blk_drewN ?_ _ | refine blk_drew ?_ | refine blk_alloc ?_ _)); exact BK174.out) hb); have n2_ := Aside0.mk (blk_below (g := gb175) (o := .cells #[.string t172, .bool t173] 26 (0, 0)) (by (with_reducible repeat (first | refine blk_drewN ?_ _ | refine blk_drew ?_ | refine blk_alloc ?_ _)); exact BK175.out) hb); have n3_ := Aside0.mk (below_step (by repeat (first | (with_reducible first | exact HB.out | apply below_alloc | apply pw_below_drewN | apply below_drew1 | refine below_set ?_ GE168.out | refine below_set ?_ GE174.out | refine below_set ?_ GE175.out) | exact HB.out)) hb); have n4_ := Aside0.mk (hbox); have n5_ := Aside0.mk ((by rw [hg]; exact (below_size (by repeat (first | (with_reducible first | exact HB.out | apply below_alloc | apply pw_below_drewN | apply below_drew1 | refine below_set ?_ GE168.out | refine below_set ?_ GE174.out | refine below_set ?_ GE175.out) | exact HB.out))) : w.heap.size ≤ gb180)); have n6_ := Aside0.mk ((by rw [hg]; exact (below_size (by repeat (first | (with_reducible first | exact HB.out | apply below_alloc | apply pw_below_drewN | apply below_drew1 | refine below_set ?_ GE168.out | refine below_set ?_ GE174.out | refine below_set ?_ GE175.out) | exact HB.out))) : w.heap.size ≤ gb180)); have n7_ := Aside0.mk ((by rw [hg]; exact Nat.ne_of_lt (blk_lt (g := gb168) (o := .cells #[.int .u32 a0, .int .i64 x169001_6] 24 (0, 0)) (by (with_reducible repeat (first | refine blk_drewN ?_ _ | refine blk_drew ?_ | refine blk_alloc ?_ _)); exact BK168.out)) : gb168 ≠ gb180)); have n8_ := Aside0.mk ((by rw [hg]; exact Nat.ne_of_gt (blk_lt (g := gb168) (o := .cells #[.int .u32 a0, .int .i64 x169001_6] 24 (0, 0)) (by (with_reducible repeat (first | refine blk_drewN ?_ _ | refine blk_drew ?_ | refine blk_alloc ?_ _)); exact BK168.out)) : gb180 ≠ gb168)); have n9_ := Aside0.mk ((by rw [hg]; exact Nat.ne_of_lt (blk_lt (g := gb174) (o := .cells #[.int .u32 t170, .int .i64 t171] 24 (0, 0)) (by (with_reducible repeat (first | refine blk_drewN ?_ _ | refine blk_drew ?_ | refine blk_alloc ?_ _)); exact BK174.out)) : gb174 ≠ gb180)); have n10_ := Aside0.mk ((by rw [hg]; exact Nat.ne_of_gt (blk_lt (g := gb174) (o := .cells #[.int .u32 t170, .int .i64 t171] 24 (0, 0)) (by (with_reducible repeat (first | refine blk_drewN ?_ _ | refine blk_drew ?_ | refine blk_alloc ?_ _)); exact BK174.out)) : gb180 ≠ gb174)); have n11_ := Aside0.mk ((by rw [hg]; exact Nat.ne_of_lt (blk_lt (g := gb175) (o := .cells #[.string t172, .bool t173] 26 (0, 0)) (by (with_reducible repeat (first | refine blk_drewN ?_ _ | refine blk_drew ?_ | refine blk_alloc ?_ _)); exact BK175.out)) : gb175 ≠ gb180)); have n12_ := Aside0.mk ((by rw [hg]; exact Nat.ne_of_gt (blk_lt (g := gb175) (o := .cells #[.string t172, .bool t173] 26 (0, 0)) (by (with_reducible repeat (first | refine blk_drewN ?_ _ | refine blk_drew ?_ | refine blk_alloc ?_ _)); exact BK175.out)) : gb180 ≠ gb175)); clear BK168; clear BK174; clear BK175; clear HB; have BK168 := n0_; have BK174 := n1_; have BK175 := n2_; have HB := n3_; have BK180 := n4_; have GW180 := n5_; have GE180 := n6_; have NB168_180 := n7_; have NB180_168 := n8_; have NB174_180 := n9_; have NB180_174 := n10_; have NB175_180 := n11_; have NB180_175 := n12_; clear n0_ n1_ n2_ n3_ n4_ n5_ n6_ n7_ n8_ n9_ n10_ n11_ n12_; clear hb hbox hg) | ((with_reducible refine gate_dst (N := 15) rfl ?_); (try (refine gate_guard (by rfl) ?_; dsimp only)); refine box_event ?hg (N := 15) ?hd (cs := #[.string (⟨#[]⟩ : ByteArray), .bool false]) (t := 26) ?hr ?_; (case hd => rfl); (case hg => rfl); (case hr => first | (go_simp; done) | (go_simp; rfl)); intro gb181 hg w36 hbox hb; have n0_ := Aside0.mk (blk_below (g := gb168) (o := .cells #[.int .u32 a0, .int .i64 x169001_6] 24 (0, 0)) (by (with_reducible repeat (first | refine blk_drewN ?_ _ | refine blk_drew ?_ | refine blk_alloc ?_ _)); exact BK168.out) hb); have n1_ := Aside0.mk (blk_below (g := gb174) (o := .cells #[.int .u32 t170, .int .i64 t171] 24 (0, 0)) (by (with_reducible repeat (first | refine blk_drewN ?_ _ | refine blk_drew ?_ | refine blk_alloc ?_ _)); exact BK174.out) hb); have n2_ := Aside0.mk (blk_below (g := gb175) (o := .cells #[.string t172, .bool t173] 26 (0, 0)) (by (with_reducible repeat (first | refine blk_drewN ?_ _ | refine blk_drew ?_ | refine blk_alloc ?_ _)); exact BK175.out) hb); have n3_ := Aside0.mk (blk_below (g := gb180) (o := .cells #[.int .u32 0, .int .i64 0] 24 (0, 0)) (by (with_reducible repeat (first | refine blk_drewN ?_ _ | refine blk_drew ?_ | refine blk_alloc ?_ _)); exact BK180.out) hb); have n4_ := Aside0.mk (below_step (by repeat (first | (with_reducible first | exact HB.out | apply below_alloc | apply pw_below_drewN | apply below_drew1 | refine below_set ?_ GE168.out | refine below_set ?_ GE174.out | refine below_set ?_ GE175.out | refine below_set ?_ GE180.out) | exact HB.out)) hb); have n5_ := Aside0.mk (hbox); have n6_ := Aside0.mk ((by rw [hg]; exact (below_size (by repeat (first | (with_reducible first | exact HB.out | apply below_alloc | apply pw_below_drewN | apply below_drew1 | refine below_set ?_ GE168.out | refine below_set ?_ GE174.out | refine below_set ?_ GE175.out | refine below_set ?_ GE180.out) | exact HB.out))) : w.heap.size ≤ gb181)); have n7_ := Aside0.mk ((by rw [hg]; exact (below_size (by repeat (first | (with_reducible first | exact HB.out | apply below_alloc | apply pw_below_drewN | apply below_drew1 | refine below_set ?_ GE168.out | refine below_set ?_ GE174.out | refine below_set ?_ GE175.out | refine below_set ?_ GE180.out) | exact HB.out))) : w.heap.size ≤ gb181)); have n8_ := Aside0.mk ((by rw [hg]; exact Nat.ne_of_lt (blk_lt (g := gb168) (o := .cells #[.int .u32 a0, .int .i64 x169001_6] 24 (0, 0)) (by (with_reducible repeat (first | refine blk_drewN ?_ _ | refine blk_drew ?_ | refine blk_alloc ?_ _)); exact BK168.out)) : gb168 ≠ gb181)); have n9_ := Aside0.mk ((by rw [hg]; exact Nat.ne_of_gt (blk_lt (g := gb168) (o := .cells #[.int .u32 a0, .int .i64 x169001_6] 24 (0, 0)) (by (with_reducible repeat (first | refine blk_drewN ?_ _ | refine blk_drew ?_ | refine blk_alloc ?_ _)); exact BK168.out)) : gb181 ≠ gb168)); have n10_ := Aside0.mk ((by rw [hg]; exact Nat.ne_of_lt (blk_lt (g := gb174) (o := .cells #[.int .u32 t170, .int .i64 t171] 24 (0, 0)) (by (with_reducible repeat (first | refine blk_drewN ?_ _ | refine blk_drew ?_ | refine blk_alloc ?_ _)); exact BK174.out)) : gb174 ≠ gb181)); have n11_ := Aside0.mk ((by rw [hg]; exact Nat.ne_of_gt (blk_lt (g := gb174) (o := .cells #[.int .u32 t170, .int .i64 t171] 24 (0, 0)) (by (with_reducible repeat (first | refine blk_drewN ?_ _ | refine blk_drew ?_ | refine blk_alloc ?_ _)); exact BK174.out)) : gb181 ≠ gb174)); have n12_ := Aside0.mk ((by rw [hg]; exact Nat.ne_of_lt (blk_lt (g := gb175) (o := .cells #[.string t172, .bool t173] 26 (0, 0)) (by (with_reducible repeat (first | refine blk_drewN ?_ _ | refine blk_drew ?_ | refine blk_alloc ?_ _)); exact BK175.out)) : gb175 ≠ gb181)); have n13_ := Aside0.mk ((by rw [hg]; exact Nat.ne_of_gt (blk_lt (g := gb175) (o := .cells #[.string t172, .bool t173] 26 (0, 0)) (by (with_reducible repeat (first | refine blk_drewN ?_ _ | refine blk_drew ?_ | refine blk_alloc ?_ _)); exact BK175.out)) : gb181 ≠ gb175)); have n14_ := Aside0.mk ((by rw [hg]; exact Nat.ne_of_lt (blk_lt (g := gb180) (o := .cells #[.int .u32 0, .int .i64 0] 24 (0, 0)) (by (with_reducible repeat (first | refine blk_drewN ?_ _ | refine blk_drew ?_ | refine blk_alloc ?_ _)); exact BK180.out)) : gb180 ≠ gb181)); have n15_ := Aside0.mk ((by rw [hg]; exact Nat.ne_of_gt (blk_lt (g := gb180) (o := .cells #[.int .u32 0, .int .i64 0] 24 (0, 0)) (by (with_reducible repeat (first | refine blk_drewN ?_ _ | refine blk_drew ?_ | refine blk_alloc ?_ _)); exact BK180.out)) : gb181 ≠ gb180)); clear BK168; clear BK174; clear BK175; clear BK180; clear HB; have BK168 := n0_; have BK174 := n1_; have BK175 := n2_; have BK180 := n3_; have HB := n4_; have BK181 := n5_; have GW181 := n6_; have GE181 := n7_; have NB168_181 := n8_; have NB181_168 := n9_; have NB174_181 := n10_; have NB181_174 := n11_; have NB175_181 := n12_; have NB181_175 := n13_; have NB180_181 := n14_; have NB181_180 := n15_; clear n0_ n1_ n2_ n3_ n4_ n5_ n6_ n7_ n8_ n9_ n10_ n11_ n12_ n13_ n14_ n15_; clear hb hbox hg; have hnb37 := NB180_168.out; have hnc37 := NB168_180.out; have hnb38 := NB180_174.out; have hnc38 := NB174_180.out; have hnb39 := NB180_175.out; have hnc39 := NB175_180.out; have hnb40 := NB180_181.out; have hnc40 := NB181_180.out; have hcz41_0 : w36.cell? ⟨gb180, 0, none⟩ = some (.int .u32 0) := (blk_cell BK180.out 0).trans rfl; have hcz41_1 : w36.cell? ⟨gb180, 1, none⟩ = some (.int .i64 0) := (blk_cell BK180.out 1).trans rfl; have hfz41_0 := blk_frozen BK180.out 0; have hfz41_1 := blk_frozen BK180.out 1; have hnb42 := NB181_168.out; have hnc42 := NB168_181.out; have hnb43 := NB181_174.out; have hnc43 := NB174_181.out; have hnb44 := NB181_175.out; have hnc44 := NB175_181.out; have hcz45_0 : w36.cell? ⟨gb181, 0, none⟩ = some (.string (⟨#[]⟩ : ByteArray)) := (blk_cell BK181.out 0).trans rfl; have hcz45_1 : w36.cell? ⟨gb181, 1, none⟩ = some (.bool false) := (blk_cell BK181.out 1).trans rfl; have hfz45_0 := blk_frozen BK181.out 0; have hfz45_1 := blk_frozen BK181.out 1))
                  have H1 : (if (t170 == a0 && (t171 == x169001_6)) = true then (if t172.toList = a2.toList then (if t173 = true then (some false) else (if t179 = true then (some ((t169.size : Int) == 5)) else (some false))) else (some false)) else (some false)) = some r := by first | (with_reducible exact H) | (rw [if_pos rfl] at H; exact H) | (rw [if_pos trivial] at H; exact H) | (rw [if_neg not_false] at H; exact H)
                  clear H
                  have H := H1
                  clear H1
                  by_cases c46 : (t170 == a0 && (t171 == x169001_6)) = true
                  · rw [if_pos c46] at H
                    have c46b0 : (t170 == a0 && (t171 == x169001_6)) = true := c46
                    (try (have c46b1 : decide (t170 = a0 && (t171 == x169001_6)) = true := by simpa using c46))
                    (try (have c46b2 : (t170 == a0 && (t171 == x169001_6)) = true := by simpa using c46))
                    clear c46
                    by_cases c47 : t172.toList = a2.toList
                    · rw [if_pos c47] at H
                      have c47b0 : (t172.toList == a2.toList) = true := beq_iff_eq.mpr c47
                      have c47b1 : (t172.toList != a2.toList) = false := bne_eq_false_iff_eq.mpr c47
                      clear c47
                      by_cases c48 : t173 = true
                      · subst c48
                        have H1 : (some false) = some r := by rw [if_pos rfl] at H; exact H
                        clear H
                        have H := H1
                        clear H1
                        obtain rfl := Option.some.inj H
                        have hnb49 := NB174_168.out
                        have hnc49 := NB168_174.out
                        have hnb50 := NB174_175.out
                        have hnc50 := NB175_174.out
                        have hnb51 := NB174_180.out
                        have hnc51 := NB180_174.out
                        have hnb52 := NB174_181.out
                        have hnc52 := NB181_174.out
                        have hcz53_0 : w36.cell? ⟨gb174, 0, none⟩ = some (.int .u32 t170) := (blk_cell BK174.out 0).trans rfl
                        have hcz53_1 : w36.cell? ⟨gb174, 1, none⟩ = some (.int .i64 t171) := (blk_cell BK174.out 1).trans rfl
                        have hfz53_0 := blk_frozen BK174.out 0
                        have hfz53_1 := blk_frozen BK174.out 1
                        have hnb54 := NB168_175.out
                        have hnc54 := NB175_168.out
                        have hnb55 := NB168_180.out
                        have hnc55 := NB180_168.out
                        have hnb56 := NB168_181.out
                        have hnc56 := NB181_168.out
                        have hcz57_0 : w36.cell? ⟨gb168, 0, none⟩ = some (.int .u32 a0) := (blk_cell BK168.out 0).trans rfl
                        have hcz57_1 : w36.cell? ⟨gb168, 1, none⟩ = some (.int .i64 x169001_6) := (blk_cell BK168.out 1).trans rfl
                        have hfz57_0 := blk_frozen BK168.out 0
                        have hfz57_1 := blk_frozen BK168.out 1
                        have hnb58 := NB175_180.out
                        have hnc58 := NB180_175.out
                        have hnb59 := NB175_181.out
                        have hnc59 := NB181_175.out
                        have hcz60_0 : w36.cell? ⟨gb175, 0, none⟩ = some (.string t172) := (blk_cell BK175.out 0).trans rfl
                        have hcz60_1 : w36.cell? ⟨gb175, 1, none⟩ = some (.bool true) := (blk_cell BK175.out 1).trans rfl
                        have hfz60_0 := blk_frozen BK175.out 0
                        have hfz60_1 := blk_frozen BK175.out 1
                        go_wp2
                        go_ret
                        exact ⟨by first | rfl | (simp [errW_none, errW_some] <;> rfl) | (simp only [← hji20]; first | rfl | (simp [errW_none, errW_some] <;> rfl)) | (simp [*, errW_none, errW_some] <;> rfl), by repeat (first | (with_reducible first | exact HB.out | apply below_alloc | apply pw_below_drewN | apply below_drew1 | refine below_set ?_ GE168.out | refine below_set ?_ GE174.out | refine below_set ?_ GE175.out | refine below_set ?_ GE180.out | refine below_set ?_ GE181.out) | exact HB.out)⟩
                      · replace c48 := Bool.eq_false_iff.mpr c48
                        subst c48
                        have H1 : (if t179 = true then (some ((t169.size : Int) == 5)) else (some false)) = some r := by rw [if_neg (show ¬ (false = true) by decide)] at H; exact H
                        clear H
                        have H := H1
                        clear H1
                        by_cases c61 : t179 = true
                        · subst c61
                          have H1 : (some ((t169.size : Int) == 5)) = some r := by rw [if_pos rfl] at H; exact H
                          clear H
                          have H := H1
                          clear H1
                          obtain rfl := Option.some.inj H
                          have hnb62 := NB174_168.out
                          have hnc62 := NB168_174.out
                          have hnb63 := NB174_175.out
                          have hnc63 := NB175_174.out
                          have hnb64 := NB174_180.out
                          have hnc64 := NB180_174.out
                          have hnb65 := NB174_181.out
                          have hnc65 := NB181_174.out
                          have hcz66_0 : w36.cell? ⟨gb174, 0, none⟩ = some (.int .u32 t170) := (blk_cell BK174.out 0).trans rfl
                          have hcz66_1 : w36.cell? ⟨gb174, 1, none⟩ = some (.int .i64 t171) := (blk_cell BK174.out 1).trans rfl
                          have hfz66_0 := blk_frozen BK174.out 0
                          have hfz66_1 := blk_frozen BK174.out 1
                          have hnb67 := NB168_175.out
                          have hnc67 := NB175_168.out
                          have hnb68 := NB168_180.out
                          have hnc68 := NB180_168.out
                          have hnb69 := NB168_181.out
                          have hnc69 := NB181_168.out
                          have hcz70_0 : w36.cell? ⟨gb168, 0, none⟩ = some (.int .u32 a0) := (blk_cell BK168.out 0).trans rfl
                          have hcz70_1 : w36.cell? ⟨gb168, 1, none⟩ = some (.int .i64 x169001_6) := (blk_cell BK168.out 1).trans rfl
                          have hfz70_0 := blk_frozen BK168.out 0
                          have hfz70_1 := blk_frozen BK168.out 1
                          have hnb71 := NB175_180.out
                          have hnc71 := NB180_175.out
                          have hnb72 := NB175_181.out
                          have hnc72 := NB181_175.out
                          have hcz73_0 : w36.cell? ⟨gb175, 0, none⟩ = some (.string t172) := (blk_cell BK175.out 0).trans rfl
                          have hcz73_1 : w36.cell? ⟨gb175, 1, none⟩ = some (.bool false) := (blk_cell BK175.out 1).trans rfl
                          have hfz73_0 := blk_frozen BK175.out 0
                          have hfz73_1 := blk_frozen BK175.out 1
                          have hnb74 := NB181_180.out
                          have hnc74 := NB180_181.out
                          have hcz75_0 : w36.cell? ⟨gb181, 0, none⟩ = some (.string (⟨#[]⟩ : ByteArray)) := (blk_cell BK181.out 0).trans rfl
                          have hcz75_1 : w36.cell? ⟨gb181, 1, none⟩ = some (.bool false) := (blk_cell BK181.out 1).trans rfl
                          have hfz75_0 := blk_frozen BK181.out 0
                          have hfz75_1 := blk_frozen BK181.out 1
                          go_wp2
                          go_ret
                          exact ⟨by first | rfl | (simp [errW_none, errW_some] <;> rfl) | (simp only [← hji20]; first | rfl | (simp [errW_none, errW_some] <;> rfl)) | (simp [*, errW_none, errW_some] <;> rfl), by repeat (first | (with_reducible first | exact HB.out | apply below_alloc | apply pw_below_drewN | apply below_drew1 | refine below_set ?_ GE168.out | refine below_set ?_ GE174.out | refine below_set ?_ GE175.out | refine below_set ?_ GE180.out | refine below_set ?_ GE181.out) | exact HB.out)⟩
                        · replace c61 := Bool.eq_false_iff.mpr c61
                          subst c61
                          have H1 : (some false) = some r := by rw [if_neg (show ¬ (false = true) by decide)] at H; exact H
                          clear H
                          have H := H1
                          clear H1
                          obtain rfl := Option.some.inj H
                          have hnb76 := NB174_168.out
                          have hnc76 := NB168_174.out
                          have hnb77 := NB174_175.out
                          have hnc77 := NB175_174.out
                          have hnb78 := NB174_180.out
                          have hnc78 := NB180_174.out
                          have hnb79 := NB174_181.out
                          have hnc79 := NB181_174.out
                          have hcz80_0 : w36.cell? ⟨gb174, 0, none⟩ = some (.int .u32 t170) := (blk_cell BK174.out 0).trans rfl
                          have hcz80_1 : w36.cell? ⟨gb174, 1, none⟩ = some (.int .i64 t171) := (blk_cell BK174.out 1).trans rfl
                          have hfz80_0 := blk_frozen BK174.out 0
                          have hfz80_1 := blk_frozen BK174.out 1
                          have hnb81 := NB168_175.out
                          have hnc81 := NB175_168.out
                          have hnb82 := NB168_180.out
                          have hnc82 := NB180_168.out
                          have hnb83 := NB168_181.out
                          have hnc83 := NB181_168.out
                          have hcz84_0 : w36.cell? ⟨gb168, 0, none⟩ = some (.int .u32 a0) := (blk_cell BK168.out 0).trans rfl
                          have hcz84_1 : w36.cell? ⟨gb168, 1, none⟩ = some (.int .i64 x169001_6) := (blk_cell BK168.out 1).trans rfl
                          have hfz84_0 := blk_frozen BK168.out 0
                          have hfz84_1 := blk_frozen BK168.out 1
                          have hnb85 := NB175_180.out
                          have hnc85 := NB180_175.out
                          have hnb86 := NB175_181.out
                          have hnc86 := NB181_175.out
                          have hcz87_0 : w36.cell? ⟨gb175, 0, none⟩ = some (.string t172) := (blk_cell BK175.out 0).trans rfl
                          have hcz87_1 : w36.cell? ⟨gb175, 1, none⟩ = some (.bool false) := (blk_cell BK175.out 1).trans rfl
                          have hfz87_0 := blk_frozen BK175.out 0
                          have hfz87_1 := blk_frozen BK175.out 1
                          have hnb88 := NB181_180.out
                          have hnc88 := NB180_181.out
                          have hcz89_0 : w36.cell? ⟨gb181, 0, none⟩ = some (.string (⟨#[]⟩ : ByteArray)) := (blk_cell BK181.out 0).trans rfl
                          have hcz89_1 : w36.cell? ⟨gb181, 1, none⟩ = some (.bool false) := (blk_cell BK181.out 1).trans rfl
                          have hfz89_0 := blk_frozen BK181.out 0
                          have hfz89_1 := blk_frozen BK181.out 1
                          go_wp2
                          go_ret
                          exact ⟨by first | rfl | (simp [errW_none, errW_some] <;> rfl) | (simp only [← hji20]; first | rfl | (simp [errW_none, errW_some] <;> rfl)) | (simp [*, errW_none, errW_some] <;> rfl), by repeat (first | (with_reducible first | exact HB.out | apply below_alloc | apply pw_below_drewN | apply below_drew1 | refine below_set ?_ GE168.out | refine below_set ?_ GE174.out | refine below_set ?_ GE175.out | refine below_set ?_ GE180.out | refine below_set ?_ GE181.out) | exact HB.out)⟩
                    · rw [if_neg c47] at H
                      have c47b0 : (t172.toList == a2.toList) = false := beq_eq_false_iff_ne.mpr c47
                      have c47b1 : (t172.toList != a2.toList) = true := bne_iff_ne.mpr c47
                      obtain rfl := Option.some.inj H
                      have hnb90 := NB174_168.out
                      have hnc90 := NB168_174.out
                      have hnb91 := NB174_175.out
                      have hnc91 := NB175_174.out
                      have hnb92 := NB174_180.out
                      have hnc92 := NB180_174.out
                      have hnb93 := NB174_181.out
                      have hnc93 := NB181_174.out
                      have hcz94_0 : w36.cell? ⟨gb174, 0, none⟩ = some (.int .u32 t170) := (blk_cell BK174.out 0).trans rfl
                      have hcz94_1 : w36.cell? ⟨gb174, 1, none⟩ = some (.int .i64 t171) := (blk_cell BK174.out 1).trans rfl
                      have hfz94_0 := blk_frozen BK174.out 0
                      have hfz94_1 := blk_frozen BK174.out 1
                      have hnb95 := NB168_175.out
                      have hnc95 := NB175_168.out
                      have hnb96 := NB168_180.out
                      have hnc96 := NB180_168.out
                      have hnb97 := NB168_181.out
                      have hnc97 := NB181_168.out
                      have hcz98_0 : w36.cell? ⟨gb168, 0, none⟩ = some (.int .u32 a0) := (blk_cell BK168.out 0).trans rfl
                      have hcz98_1 : w36.cell? ⟨gb168, 1, none⟩ = some (.int .i64 x169001_6) := (blk_cell BK168.out 1).trans rfl
                      have hfz98_0 := blk_frozen BK168.out 0
                      have hfz98_1 := blk_frozen BK168.out 1
                      have hnb99 := NB175_180.out
                      have hnc99 := NB180_175.out
                      have hnb100 := NB175_181.out
                      have hnc100 := NB181_175.out
                      have hcz101_0 : w36.cell? ⟨gb175, 0, none⟩ = some (.string t172) := (blk_cell BK175.out 0).trans rfl
                      have hcz101_1 : w36.cell? ⟨gb175, 1, none⟩ = some (.bool t173) := (blk_cell BK175.out 1).trans rfl
                      have hfz101_0 := blk_frozen BK175.out 0
                      have hfz101_1 := blk_frozen BK175.out 1
                      go_wp2
                      go_ret
                      exact ⟨by first | rfl | (simp [errW_none, errW_some] <;> rfl) | (simp only [← hji20]; first | rfl | (simp [errW_none, errW_some] <;> rfl)) | (simp [*, errW_none, errW_some] <;> rfl), by repeat (first | (with_reducible first | exact HB.out | apply below_alloc | apply pw_below_drewN | apply below_drew1 | refine below_set ?_ GE168.out | refine below_set ?_ GE174.out | refine below_set ?_ GE175.out | refine below_set ?_ GE180.out | refine below_set ?_ GE181.out) | exact HB.out)⟩
                  · rw [if_neg c46] at H
                    have c46b0 : (t170 == a0 && (t171 == x169001_6)) = false := by simpa using c46
                    (try (have c46b1 : decide (t170 = a0 && (t171 == x169001_6)) = false := by simpa using c46))
                    (try (have c46b2 : (t170 == a0 && (t171 == x169001_6)) = false := by simpa using c46))
                    (try (have c46b3 : ¬ (t170 = a0 && (t171 == x169001_6)) := by simpa using c46))
                    clear c46
                    obtain rfl := Option.some.inj H
                    have hnb102 := NB174_168.out
                    have hnc102 := NB168_174.out
                    have hnb103 := NB174_175.out
                    have hnc103 := NB175_174.out
                    have hnb104 := NB174_180.out
                    have hnc104 := NB180_174.out
                    have hnb105 := NB174_181.out
                    have hnc105 := NB181_174.out
                    have hcz106_0 : w36.cell? ⟨gb174, 0, none⟩ = some (.int .u32 t170) := (blk_cell BK174.out 0).trans rfl
                    have hcz106_1 : w36.cell? ⟨gb174, 1, none⟩ = some (.int .i64 t171) := (blk_cell BK174.out 1).trans rfl
                    have hfz106_0 := blk_frozen BK174.out 0
                    have hfz106_1 := blk_frozen BK174.out 1
                    have hnb107 := NB168_175.out
                    have hnc107 := NB175_168.out
                    have hnb108 := NB168_180.out
                    have hnc108 := NB180_168.out
                    have hnb109 := NB168_181.out
                    have hnc109 := NB181_168.out
                    have hcz110_0 : w36.cell? ⟨gb168, 0, none⟩ = some (.int .u32 a0) := (blk_cell BK168.out 0).trans rfl
                    have hcz110_1 : w36.cell? ⟨gb168, 1, none⟩ = some (.int .i64 x169001_6) := (blk_cell BK168.out 1).trans rfl
                    have hfz110_0 := blk_frozen BK168.out 0
                    have hfz110_1 := blk_frozen BK168.out 1
                    go_wp2
                    go_ret
                    exact ⟨by first | rfl | (simp [errW_none, errW_some] <;> rfl) | (simp only [← hji20]; first | rfl | (simp [errW_none, errW_some] <;> rfl)) | (simp [*, errW_none, errW_some] <;> rfl), by repeat (first | (with_reducible first | exact HB.out | apply below_alloc | apply pw_below_drewN | apply below_drew1 | refine below_set ?_ GE168.out | refine below_set ?_ GE174.out | refine below_set ?_ GE175.out | refine below_set ?_ GE180.out | refine below_set ?_ GE181.out) | exact HB.out)⟩
                · rw [if_neg c22] at H
                  exact absurd H (by simp)
              · rw [if_neg c21] at H
                exact absurd H (by simp)
          · rw [if_neg c17] at H
            exact absurd H (by simp)
  · replace c6 := Bool.eq_false_iff.mpr c6
    subst c6
    have H1 : (some false) = some r := by rw [if_neg (show ¬ (false = true) by decide)] at H; exact H
    clear H
    have H := H1
    clear H1
    obtain rfl := Option.some.inj H
    go_enter Tryd.func5, Tryd.ntmps5
    go_wp2_with (first | ((with_reducible refine gate_callee (f := 9) rfl ?_); refine goesL_ (some 16) rfl rfl Tryd.func9 (by kernel_rfl) rfl #[] rfl (by (try simp only [List.map_toArray, List.map_cons, List.map_nil]); first | done | rfl | (simp only [List.length_drop, List.length_take]; rfl)) ?_; (with_reducible refine (comitialaw06_examples.calls k  false _ ?side1 A5.out).mono ?_); (case side1 => first | (with_reducible exact HSC_.out) | exact Strconv.Tab.below HSC_.out (by repeat (first | (with_reducible first | exact HB.out | apply below_alloc | apply pw_below_drewN | apply below_drew1) | exact HB.out))); rintro e w111 ⟨rfl, hb⟩; refine ⟨_, rfl, ?_⟩; have n0_ := Aside0.mk (below_step (by repeat (first | (with_reducible first | exact HB.out | apply below_alloc | apply pw_below_drewN | apply below_drew1) | exact HB.out)) hb); clear HB; have HB := n0_; clear n0_; (try clear hb); (try clear hb2); (try clear hk); (try clear hi)))
    go_ret
    exact ⟨by first | rfl | (simp [errW_none, errW_some] <;> rfl) | (simp [*, errW_none, errW_some] <;> rfl), by repeat (first | (with_reducible first | exact HB.out | apply below_alloc | apply pw_below_drewN | apply below_drew1) | exact HB.out)⟩

/-- THE ONE PURE STATEMENT of comitialaw06_BallotBack. -/
def comitialaw06_BallotBack.Pure : Prop := ∀ (a0 : Int) (a1 : Int) (a2 : ByteArray) (a3 : Int), (Lit.int .u32 a0).wf = true → (Lit.int .u8 a1).wf = true → a2.size ≤ 140737488351232 → (Lit.int .u8 a3).wf = true → ∃ k, comitialaw06_BallotBack.f k a0 a1 a2 a3 = some true

end Go.Proofs.YthjpnbjcldpklaaDoor.PBallotBack
