-- Written by a program of this session (wip/tools), over the kit's printed words: functions as plain Lean, and that the code answers so.
import Derived.Test.YthjpnbjcldpklaaDoorPBallotBoundsx0
import Derived.Test.YthjpnbjcldpklaaDoorPBallotBoundsx2
import Derived.Test.YthjpnbjcldpklaaDoorPBallotBoundsx3
import Derived.Test.YthjpnbjcldpklaaDoorPBallotBoundsx4
import Derived.Test.YthjpnbjcldpklaaDoorPBallotBoundsx5
namespace Go.Proofs.YthjpnbjcldpklaaDoor.PBallotBounds
open Go.RowKit Go.Proofs.YthjpnbjcldpklaaDoorW.PrintWords Go.Proofs.YthjpnbjcldpklaaDoorW.PrintLast Go.Proofs.YthjpnbjcldpklaaDoorW.PrintMore
attribute [local go_sem] max2_int min2_int max_two min_two max_three min_three max_four min_four Goto.sig_u8 Goto.sig_u16 Goto.sig_u32 Goto.sig_u64 Goto.top_u8 Goto.top_u16 Goto.top_u32 Goto.top_u64   -- for this text's walks alone
set_option linter.unusedVariables false
set_option linter.unusedSimpArgs false

/-! ### comitialaw06_BallotBounds: function 8 -/
mutual
def comitialaw06_BallotBounds.j0 : Nat → Bool → Bool → Int → Int → Option (Bool)
  | 0, _, _, _, _ => none
  | k + 1, x5, x7, x169000, x169001 => (ballot_Ballot_Put.f x169000 x169001).bind fun t169 => ((ballot_Get.f k t169 false).bind fun bt170 => (if x169000 = 0 then (if (Go.bits .and .i64 x169001 255) = 0 then (comitialaw06_BallotBounds.j1 k x5 x7 (Go.bits .and .i64 x169001 255) true x169000 x169001 bt170.1 bt170.2.1 bt170.2.2.1 bt170.2.2.2) else (if x169000 > 0 then (if (Go.bits .and .i64 x169001 255) ≥ 1 then (comitialaw06_BallotBounds.j1 k x5 x7 (Go.bits .and .i64 x169001 255) (decide ((Go.bits .and .i64 x169001 255) ≤ 7)) x169000 x169001 bt170.1 bt170.2.1 bt170.2.2.1 bt170.2.2.2) else (comitialaw06_BallotBounds.j1 k x5 x7 (Go.bits .and .i64 x169001 255) false x169000 x169001 bt170.1 bt170.2.1 bt170.2.2.1 bt170.2.2.2)) else (comitialaw06_BallotBounds.j1 k x5 x7 (Go.bits .and .i64 x169001 255) false x169000 x169001 bt170.1 bt170.2.1 bt170.2.2.1 bt170.2.2.2))) else (if x169000 > 0 then (if (Go.bits .and .i64 x169001 255) ≥ 1 then (comitialaw06_BallotBounds.j1 k x5 x7 (Go.bits .and .i64 x169001 255) (decide ((Go.bits .and .i64 x169001 255) ≤ 7)) x169000 x169001 bt170.1 bt170.2.1 bt170.2.2.1 bt170.2.2.2) else (comitialaw06_BallotBounds.j1 k x5 x7 (Go.bits .and .i64 x169001 255) false x169000 x169001 bt170.1 bt170.2.1 bt170.2.2.1 bt170.2.2.2)) else (comitialaw06_BallotBounds.j1 k x5 x7 (Go.bits .and .i64 x169001 255) false x169000 x169001 bt170.1 bt170.2.1 bt170.2.2.1 bt170.2.2.2))))
def comitialaw06_BallotBounds.j1 : Nat → Bool → Bool → Int → Bool → Int → Int → Int → Int → ByteArray → Bool → Option (Bool)
  | 0, _, _, _, _, _, _, _, _, _, _ => none
  | k + 1, x5, x7, x10, x11, x169000, x169001, x175000, x175001, x176000, x176001 => if x5 = true then ((ballot_Right.f x169000 x169001).bind fun t176 => (if (t176 == x7) = true then (if (x176001 == (!x11)) = true then (if x176001 = true then (some true) else (if x175000 = x169000 then (some (x175001 == x10)) else (some false))) else (some false)) else (some false))) else (some false)
end
def comitialaw06_BallotBounds.f (k : Nat) (a0 : Int) (a1 : Int) : Option (Bool) := (comitialaw06_examples.f k).bind fun t167 => (if t167 = true then (if ((Int.tmod a0 3) % 4294967296) = 0 then (if (wrap64 (a1)) = 0 then (comitialaw06_BallotBounds.j0 k t167 true ((Int.tmod a0 3) % 4294967296) (wrap64 (a1))) else (if ((Int.tmod a0 3) % 4294967296) > 0 then (if (wrap64 (a1)) ≥ 1 then (comitialaw06_BallotBounds.j0 k t167 (decide ((wrap64 (a1)) ≤ 7)) ((Int.tmod a0 3) % 4294967296) (wrap64 (a1))) else (comitialaw06_BallotBounds.j0 k t167 false ((Int.tmod a0 3) % 4294967296) (wrap64 (a1)))) else (comitialaw06_BallotBounds.j0 k t167 false ((Int.tmod a0 3) % 4294967296) (wrap64 (a1))))) else (if ((Int.tmod a0 3) % 4294967296) > 0 then (if (wrap64 (a1)) ≥ 1 then (comitialaw06_BallotBounds.j0 k t167 (decide ((wrap64 (a1)) ≤ 7)) ((Int.tmod a0 3) % 4294967296) (wrap64 (a1))) else (comitialaw06_BallotBounds.j0 k t167 false ((Int.tmod a0 3) % 4294967296) (wrap64 (a1)))) else (comitialaw06_BallotBounds.j0 k t167 false ((Int.tmod a0 3) % 4294967296) (wrap64 (a1))))) else (some false))
theorem comitialaw06_BallotBounds.mono_l : ∀ k, (∀ y0 y1 y2 y3, LeO (comitialaw06_BallotBounds.j0 k y0 y1 y2 y3) (comitialaw06_BallotBounds.j0 (k + 1) y0 y1 y2 y3)) ∧ (∀ y0 y1 y2 y3 y4 y5 y6 y7 y8 y9, LeO (comitialaw06_BallotBounds.j1 k y0 y1 y2 y3 y4 y5 y6 y7 y8 y9) (comitialaw06_BallotBounds.j1 (k + 1) y0 y1 y2 y3 y4 y5 y6 y7 y8 y9))
  | 0 => ⟨fun _ _ _ _ r h => by simp [comitialaw06_BallotBounds.j0] at h, fun _ _ _ _ _ _ _ _ _ _ r h => by simp [comitialaw06_BallotBounds.j1] at h⟩
  | k + 1 => by
    obtain ⟨ih0, ih1⟩ := comitialaw06_BallotBounds.mono_l k
    refine ⟨?_, ?_⟩
    · intro y0 y1 y2 y3
      unfold comitialaw06_BallotBounds.j0
      repeat' first
      | (with_reducible exact ih0 _ _ _ _)
      | (with_reducible exact ih1 _ _ _ _ _ _ _ _ _ _)
      | (with_reducible exact ballot_Get.mono _ _ _)
      | (with_reducible exact comitialaw06_examples.mono _)
      | (with_reducible exact LeO.refl _)
      | (with_reducible exact LeO.none _)
      | (with_reducible refine LeO.ite ?_ ?_)
      | (with_reducible refine LeO.bind ?_ (fun _ => ?_))
      | exact ih0 _ _ _ _
      | exact ih1 _ _ _ _ _ _ _ _ _ _
      | exact ballot_Get.mono _ _ _
      | exact comitialaw06_examples.mono _
      | exact LeO.none _
      | refine LeO.ite ?_ ?_
      | refine LeO.bind ?_ (fun _ => ?_)
    · intro y0 y1 y2 y3 y4 y5 y6 y7 y8 y9
      unfold comitialaw06_BallotBounds.j1
      repeat' first
      | (with_reducible exact ih0 _ _ _ _)
      | (with_reducible exact ih1 _ _ _ _ _ _ _ _ _ _)
      | (with_reducible exact ballot_Get.mono _ _ _)
      | (with_reducible exact comitialaw06_examples.mono _)
      | (with_reducible exact LeO.refl _)
      | (with_reducible exact LeO.none _)
      | (with_reducible refine LeO.ite ?_ ?_)
      | (with_reducible refine LeO.bind ?_ (fun _ => ?_))
      | exact ih0 _ _ _ _
      | exact ih1 _ _ _ _ _ _ _ _ _ _
      | exact ballot_Get.mono _ _ _
      | exact comitialaw06_examples.mono _
      | exact LeO.none _
      | refine LeO.ite ?_ ?_
      | refine LeO.bind ?_ (fun _ => ?_)
theorem comitialaw06_BallotBounds.mono : ∀ a0 a1 k, LeO (comitialaw06_BallotBounds.f k a0 a1) (comitialaw06_BallotBounds.f (k + 1) a0 a1) := by
  intro a0 a1 k
  obtain ⟨ih0, ih1⟩ := comitialaw06_BallotBounds.mono_l k
  unfold comitialaw06_BallotBounds.f
  repeat' first
      | (with_reducible exact ih0 _ _ _ _)
      | (with_reducible exact ih1 _ _ _ _ _ _ _ _ _ _)
      | (with_reducible exact ballot_Get.mono _ _ _)
      | (with_reducible exact comitialaw06_examples.mono _)
      | (with_reducible exact LeO.refl _)
      | (with_reducible exact LeO.none _)
      | (with_reducible refine LeO.ite ?_ ?_)
      | (with_reducible refine LeO.bind ?_ (fun _ => ?_))
      | exact ih0 _ _ _ _
      | exact ih1 _ _ _ _ _ _ _ _ _ _
      | exact ballot_Get.mono _ _ _
      | exact comitialaw06_examples.mono _
      | exact LeO.none _
      | refine LeO.ite ?_ ?_
      | refine LeO.bind ?_ (fun _ => ?_)
set_option maxHeartbeats 8000000 in
set_option maxRecDepth 100000 in
theorem comitialaw06_BallotBounds.calls (k : Nat) (a0 : Int) (a1 : Int) (r : Bool) (w : World) (hT_ : Strconv.Tab w) (h : comitialaw06_BallotBounds.f k a0 a1 = some r) :
    Calls Tryd.prog 8 #[.int .u8 a0, .int .i8 a1] w fun e w' => e = .returned (.bool r) ∧ Below w.heap.size w w' := by
  have hu24 := Tryd.underlying24
  have hu26 := Tryd.underlying26
  have HSC_ := Aside0.mk hT_
  clear hT_
  have HB := Aside0.mk (Below.refl w.heap.size w)
  have H : ((comitialaw06_examples.f k).bind fun t167 => (if t167 = true then (if ((Int.tmod a0 3) % 4294967296) = 0 then (if (wrap64 (a1)) = 0 then (comitialaw06_BallotBounds.j0 k t167 true ((Int.tmod a0 3) % 4294967296) (wrap64 (a1))) else (if ((Int.tmod a0 3) % 4294967296) > 0 then (if (wrap64 (a1)) ≥ 1 then (comitialaw06_BallotBounds.j0 k t167 (decide ((wrap64 (a1)) ≤ 7)) ((Int.tmod a0 3) % 4294967296) (wrap64 (a1))) else (comitialaw06_BallotBounds.j0 k t167 false ((Int.tmod a0 3) % 4294967296) (wrap64 (a1)))) else (comitialaw06_BallotBounds.j0 k t167 false ((Int.tmod a0 3) % 4294967296) (wrap64 (a1))))) else (if ((Int.tmod a0 3) % 4294967296) > 0 then (if (wrap64 (a1)) ≥ 1 then (comitialaw06_BallotBounds.j0 k t167 (decide ((wrap64 (a1)) ≤ 7)) ((Int.tmod a0 3) % 4294967296) (wrap64 (a1))) else (comitialaw06_BallotBounds.j0 k t167 false ((Int.tmod a0 3) % 4294967296) (wrap64 (a1)))) else (comitialaw06_BallotBounds.j0 k t167 false ((Int.tmod a0 3) % 4294967296) (wrap64 (a1))))) else (some false))) = some r := h
  clear h
  replace H := Option.bind_eq_some_iff.mp H
  obtain ⟨t167, A30, H⟩ := H
  replace H : (if t167 = true then (if ((Int.tmod a0 3) % 4294967296) = 0 then (if (wrap64 (a1)) = 0 then (comitialaw06_BallotBounds.j0 k t167 true ((Int.tmod a0 3) % 4294967296) (wrap64 (a1))) else (if ((Int.tmod a0 3) % 4294967296) > 0 then (if (wrap64 (a1)) ≥ 1 then (comitialaw06_BallotBounds.j0 k t167 (decide ((wrap64 (a1)) ≤ 7)) ((Int.tmod a0 3) % 4294967296) (wrap64 (a1))) else (comitialaw06_BallotBounds.j0 k t167 false ((Int.tmod a0 3) % 4294967296) (wrap64 (a1)))) else (comitialaw06_BallotBounds.j0 k t167 false ((Int.tmod a0 3) % 4294967296) (wrap64 (a1))))) else (if ((Int.tmod a0 3) % 4294967296) > 0 then (if (wrap64 (a1)) ≥ 1 then (comitialaw06_BallotBounds.j0 k t167 (decide ((wrap64 (a1)) ≤ 7)) ((Int.tmod a0 3) % 4294967296) (wrap64 (a1))) else (comitialaw06_BallotBounds.j0 k t167 false ((Int.tmod a0 3) % 4294967296) (wrap64 (a1)))) else (comitialaw06_BallotBounds.j0 k t167 false ((Int.tmod a0 3) % 4294967296) (wrap64 (a1))))) else (some false)) = some r := H
  have A3 := Aside0.mk A30
  clear A30
  by_cases c4 : t167 = true
  · subst c4
    have H1 : (if ((Int.tmod a0 3) % 4294967296) = 0 then (if (wrap64 (a1)) = 0 then (comitialaw06_BallotBounds.j0 k true true ((Int.tmod a0 3) % 4294967296) (wrap64 (a1))) else (if ((Int.tmod a0 3) % 4294967296) > 0 then (if (wrap64 (a1)) ≥ 1 then (comitialaw06_BallotBounds.j0 k true (decide ((wrap64 (a1)) ≤ 7)) ((Int.tmod a0 3) % 4294967296) (wrap64 (a1))) else (comitialaw06_BallotBounds.j0 k true false ((Int.tmod a0 3) % 4294967296) (wrap64 (a1)))) else (comitialaw06_BallotBounds.j0 k true false ((Int.tmod a0 3) % 4294967296) (wrap64 (a1))))) else (if ((Int.tmod a0 3) % 4294967296) > 0 then (if (wrap64 (a1)) ≥ 1 then (comitialaw06_BallotBounds.j0 k true (decide ((wrap64 (a1)) ≤ 7)) ((Int.tmod a0 3) % 4294967296) (wrap64 (a1))) else (comitialaw06_BallotBounds.j0 k true false ((Int.tmod a0 3) % 4294967296) (wrap64 (a1)))) else (comitialaw06_BallotBounds.j0 k true false ((Int.tmod a0 3) % 4294967296) (wrap64 (a1))))) = some r := by rw [if_pos rfl] at H; exact H
    clear H
    have H := H1
    clear H1
    have HC5 := Aside0.mk H
    clear H
    go_enter Tryd.func8, Tryd.ntmps8
    go_upto_region 5 with (first | ((with_reducible refine gate_callee (f := 9) rfl ?_); refine goesL_ (some 12) rfl rfl Tryd.func9 (by kernel_rfl) rfl #[] rfl (by (try simp only [List.map_toArray, List.map_cons, List.map_nil]); first | done | rfl | (simp only [List.length_drop, List.length_take]; rfl)) ?_; (with_reducible refine (comitialaw06_examples.calls k  true _ ?side1 A3.out).mono ?_); (case side1 => first | (with_reducible exact HSC_.out) | exact Strconv.Tab.below HSC_.out (by repeat (first | (with_reducible first | exact HB.out | apply below_alloc | apply pw_below_drewN | apply below_drew1) | exact HB.out))); rintro e w6 ⟨rfl, hb⟩; refine ⟨_, rfl, ?_⟩; have n0_ := Aside0.mk (below_step (by repeat (first | (with_reducible first | exact HB.out | apply below_alloc | apply pw_below_drewN | apply below_drew1) | exact HB.out)) hb); clear HB; have HB := n0_; clear n0_; (try clear hb); (try clear hb2); (try clear hk); (try clear hi)) | ((with_reducible refine gate_dst (N := 6) rfl ?_); refine box_event ?hg (N := 6) ?hd (cs := #[.int .u32 0, .int .i64 0]) (t := 24) ?hr ?_; (case hd => rfl); (case hg => rfl); (case hr => first | (go_simp; done) | (go_simp; rfl)); intro gb168 hg w7 hbox hb; have n0_ := Aside0.mk (below_step (by repeat (first | (with_reducible first | exact HB.out | apply below_alloc | apply pw_below_drewN | apply below_drew1) | exact HB.out)) hb); have n1_ := Aside0.mk (hbox); have n2_ := Aside0.mk ((by rw [hg]; exact (below_size (by repeat (first | (with_reducible first | exact HB.out | apply below_alloc | apply pw_below_drewN | apply below_drew1) | exact HB.out))) : w.heap.size ≤ gb168)); have n3_ := Aside0.mk ((by rw [hg]; exact (below_size (by repeat (first | (with_reducible first | exact HB.out | apply below_alloc | apply pw_below_drewN | apply below_drew1) | exact HB.out))) : w.heap.size ≤ gb168)); clear HB; have HB := n0_; have BK168 := n1_; have GW168 := n2_; have GE168 := n3_; clear n0_ n1_ n2_ n3_; clear hb hbox hg; have hcz8_0 : w7.cell? ⟨gb168, 0, none⟩ = some (.int .u32 0) := (blk_cell BK168.out 0).trans rfl; have hcz8_1 : w7.cell? ⟨gb168, 1, none⟩ = some (.int .i64 0) := (blk_cell BK168.out 1).trans rfl; have hfz8_0 := blk_frozen BK168.out 0; have hfz8_1 := blk_frozen BK168.out 1))
    (try simp only [Act.put, List.setIfInBounds_toArray, List.set_cons_zero, List.set_cons_succ])
    go_cut [7] (fun v7 wc => ∃ (kq : Nat) (x7_4 : Bool), v7 = .bool x7_4 ∧ Aside0 (comitialaw06_BallotBounds.j0 kq true x7_4 ((Int.tmod a0 3) % 4294967296) (wrap64 (a1)) = some r) ∧ Aside0 (kq ≤ k) ∧ Aside0 (wc.heap[gb168]? = some (.cells #[.int .u32 ((Int.tmod a0 3) % 4294967296), .int .i64 (wrap64 (a1))] 24 (0, 0))) ∧ Aside0 (Below w.heap.size w wc))
    case first =>
      have H := HC5.out
      clear HC5
      by_cases c9 : ((Int.tmod a0 3) % 4294967296) = 0
      · rw [if_pos c9] at H
        have c9b0 : (((Int.tmod a0 3) % 4294967296) == 0) = true := beq_iff_eq.mpr c9
        have c9b1 : (((Int.tmod a0 3) % 4294967296) != 0) = false := bne_eq_false_iff_eq.mpr c9
        clear c9
        (first | rw [c9b0] | (simp only [i64_w, i32_w]; rw [c9b0]) | skip)
        by_cases c10 : (wrap64 (a1)) = 0
        · rw [if_pos c10] at H
          have c10b0 : ((wrap64 (a1)) == 0) = true := beq_iff_eq.mpr c10
          have c10b1 : ((wrap64 (a1)) != 0) = false := bne_eq_false_iff_eq.mpr c10
          clear c10
          have H' := Aside0.mk H
          clear H
          have hcz11_0 : w7.cell? ⟨gb168, 0, none⟩ = some (.int .u32 0) := (blk_cell BK168.out 0).trans rfl
          have hcz11_1 : w7.cell? ⟨gb168, 1, none⟩ = some (.int .i64 0) := (blk_cell BK168.out 1).trans rfl
          have hfz11_0 := blk_frozen BK168.out 0
          have hfz11_1 := blk_frozen BK168.out 1
          go_wp2
          go_meet
          case rel => exact ⟨_, (true), (by first | rfl | (simp; done) | (simp [*]; done)), H', ⟨by first | omega | exact Nat.le_refl _⟩, ⟨by (with_reducible repeat (first | refine blk_drewN ?_ _ | refine blk_drew ?_ | refine blk_alloc ?_ _)); refine blk_put (cs := #[.int .u32 ((Int.tmod a0 3) % 4294967296), .int .i64 0]) ?_ 1 _ rfl; (with_reducible repeat (first | refine blk_drewN ?_ _ | refine blk_drew ?_ | refine blk_alloc ?_ _)); refine blk_put (cs := #[.int .u32 0, .int .i64 0]) ?_ 0 _ rfl; (with_reducible repeat (first | refine blk_drewN ?_ _ | refine blk_drew ?_ | refine blk_alloc ?_ _)); exact BK168.out⟩, ⟨by repeat (first | (with_reducible first | exact HB.out | apply below_alloc | apply pw_below_drewN | apply below_drew1 | refine below_set ?_ GE168.out) | exact HB.out)⟩⟩
        · rw [if_neg c10] at H
          have c10b0 : ((wrap64 (a1)) == 0) = false := beq_eq_false_iff_ne.mpr c10
          have c10b1 : ((wrap64 (a1)) != 0) = true := bne_iff_ne.mpr c10
          by_cases c12 : ((Int.tmod a0 3) % 4294967296) > 0
          · rw [if_pos c12] at H
            have c12b0 : decide (0 < ((Int.tmod a0 3) % 4294967296)) = true := decide_eq_true c12
            clear c12
            by_cases c13 : (wrap64 (a1)) ≥ 1
            · rw [if_pos c13] at H
              have c13b0 : decide (1 ≤ (wrap64 (a1))) = true := decide_eq_true c13
              clear c13
              have H' := Aside0.mk H
              clear H
              have hcz14_0 : w7.cell? ⟨gb168, 0, none⟩ = some (.int .u32 0) := (blk_cell BK168.out 0).trans rfl
              have hcz14_1 : w7.cell? ⟨gb168, 1, none⟩ = some (.int .i64 0) := (blk_cell BK168.out 1).trans rfl
              have hfz14_0 := blk_frozen BK168.out 0
              have hfz14_1 := blk_frozen BK168.out 1
              go_wp2
              go_meet
              case rel => exact ⟨_, (decide ((wrap64 (a1)) ≤ 7)), (by first | rfl | (simp; done) | (simp [*]; done)), H', ⟨by first | omega | exact Nat.le_refl _⟩, ⟨by (with_reducible repeat (first | refine blk_drewN ?_ _ | refine blk_drew ?_ | refine blk_alloc ?_ _)); refine blk_put (cs := #[.int .u32 ((Int.tmod a0 3) % 4294967296), .int .i64 0]) ?_ 1 _ rfl; (with_reducible repeat (first | refine blk_drewN ?_ _ | refine blk_drew ?_ | refine blk_alloc ?_ _)); refine blk_put (cs := #[.int .u32 0, .int .i64 0]) ?_ 0 _ rfl; (with_reducible repeat (first | refine blk_drewN ?_ _ | refine blk_drew ?_ | refine blk_alloc ?_ _)); exact BK168.out⟩, ⟨by repeat (first | (with_reducible first | exact HB.out | apply below_alloc | apply pw_below_drewN | apply below_drew1 | refine below_set ?_ GE168.out) | exact HB.out)⟩⟩
            · rw [if_neg c13] at H
              have c13b0 : decide (1 ≤ (wrap64 (a1))) = false := decide_eq_false c13
              clear c13
              have H' := Aside0.mk H
              clear H
              have hcz15_0 : w7.cell? ⟨gb168, 0, none⟩ = some (.int .u32 0) := (blk_cell BK168.out 0).trans rfl
              have hcz15_1 : w7.cell? ⟨gb168, 1, none⟩ = some (.int .i64 0) := (blk_cell BK168.out 1).trans rfl
              have hfz15_0 := blk_frozen BK168.out 0
              have hfz15_1 := blk_frozen BK168.out 1
              go_wp2
              go_meet
              case rel => exact ⟨_, (false), (by first | rfl | (simp; done) | (simp [*]; done)), H', ⟨by first | omega | exact Nat.le_refl _⟩, ⟨by (with_reducible repeat (first | refine blk_drewN ?_ _ | refine blk_drew ?_ | refine blk_alloc ?_ _)); refine blk_put (cs := #[.int .u32 ((Int.tmod a0 3) % 4294967296), .int .i64 0]) ?_ 1 _ rfl; (with_reducible repeat (first | refine blk_drewN ?_ _ | refine blk_drew ?_ | refine blk_alloc ?_ _)); refine blk_put (cs := #[.int .u32 0, .int .i64 0]) ?_ 0 _ rfl; (with_reducible repeat (first | refine blk_drewN ?_ _ | refine blk_drew ?_ | refine blk_alloc ?_ _)); exact BK168.out⟩, ⟨by repeat (first | (with_reducible first | exact HB.out | apply below_alloc | apply pw_below_drewN | apply below_drew1 | refine below_set ?_ GE168.out) | exact HB.out)⟩⟩
          · rw [if_neg c12] at H
            have c12b0 : decide (0 < ((Int.tmod a0 3) % 4294967296)) = false := decide_eq_false c12
            clear c12
            have H' := Aside0.mk H
            clear H
            have hcz16_0 : w7.cell? ⟨gb168, 0, none⟩ = some (.int .u32 0) := (blk_cell BK168.out 0).trans rfl
            have hcz16_1 : w7.cell? ⟨gb168, 1, none⟩ = some (.int .i64 0) := (blk_cell BK168.out 1).trans rfl
            have hfz16_0 := blk_frozen BK168.out 0
            have hfz16_1 := blk_frozen BK168.out 1
            go_wp2
            go_meet
            case rel => exact ⟨_, (false), (by first | rfl | (simp; done) | (simp [*]; done)), H', ⟨by first | omega | exact Nat.le_refl _⟩, ⟨by (with_reducible repeat (first | refine blk_drewN ?_ _ | refine blk_drew ?_ | refine blk_alloc ?_ _)); refine blk_put (cs := #[.int .u32 ((Int.tmod a0 3) % 4294967296), .int .i64 0]) ?_ 1 _ rfl; (with_reducible repeat (first | refine blk_drewN ?_ _ | refine blk_drew ?_ | refine blk_alloc ?_ _)); refine blk_put (cs := #[.int .u32 0, .int .i64 0]) ?_ 0 _ rfl; (with_reducible repeat (first | refine blk_drewN ?_ _ | refine blk_drew ?_ | refine blk_alloc ?_ _)); exact BK168.out⟩, ⟨by repeat (first | (with_reducible first | exact HB.out | apply below_alloc | apply pw_below_drewN | apply below_drew1 | refine below_set ?_ GE168.out) | exact HB.out)⟩⟩
      · rw [if_neg c9] at H
        have c9b0 : (((Int.tmod a0 3) % 4294967296) == 0) = false := beq_eq_false_iff_ne.mpr c9
        have c9b1 : (((Int.tmod a0 3) % 4294967296) != 0) = true := bne_iff_ne.mpr c9
        (first | rw [c9b0] | (simp only [i64_w, i32_w]; rw [c9b0]) | skip)
        by_cases c17 : ((Int.tmod a0 3) % 4294967296) > 0
        · rw [if_pos c17] at H
          have c17b0 : decide (0 < ((Int.tmod a0 3) % 4294967296)) = true := decide_eq_true c17
          clear c17
          by_cases c18 : (wrap64 (a1)) ≥ 1
          · rw [if_pos c18] at H
            have c18b0 : decide (1 ≤ (wrap64 (a1))) = true := decide_eq_true c18
            clear c18
            have H' := Aside0.mk H
            clear H
            have hcz19_0 : w7.cell? ⟨gb168, 0, none⟩ = some (.int .u32 0) := (blk_cell BK168.out 0).trans rfl
            have hcz19_1 : w7.cell? ⟨gb168, 1, none⟩ = some (.int .i64 0) := (blk_cell BK168.out 1).trans rfl
            have hfz19_0 := blk_frozen BK168.out 0
            have hfz19_1 := blk_frozen BK168.out 1
            go_wp2
            go_meet
            case rel => exact ⟨_, (decide ((wrap64 (a1)) ≤ 7)), (by first | rfl | (simp; done) | (simp [*]; done)), H', ⟨by first | omega | exact Nat.le_refl _⟩, ⟨by (with_reducible repeat (first | refine blk_drewN ?_ _ | refine blk_drew ?_ | refine blk_alloc ?_ _)); refine blk_put (cs := #[.int .u32 ((Int.tmod a0 3) % 4294967296), .int .i64 0]) ?_ 1 _ rfl; (with_reducible repeat (first | refine blk_drewN ?_ _ | refine blk_drew ?_ | refine blk_alloc ?_ _)); refine blk_put (cs := #[.int .u32 0, .int .i64 0]) ?_ 0 _ rfl; (with_reducible repeat (first | refine blk_drewN ?_ _ | refine blk_drew ?_ | refine blk_alloc ?_ _)); exact BK168.out⟩, ⟨by repeat (first | (with_reducible first | exact HB.out | apply below_alloc | apply pw_below_drewN | apply below_drew1 | refine below_set ?_ GE168.out) | exact HB.out)⟩⟩
          · rw [if_neg c18] at H
            have c18b0 : decide (1 ≤ (wrap64 (a1))) = false := decide_eq_false c18
            clear c18
            have H' := Aside0.mk H
            clear H
            have hcz20_0 : w7.cell? ⟨gb168, 0, none⟩ = some (.int .u32 0) := (blk_cell BK168.out 0).trans rfl
            have hcz20_1 : w7.cell? ⟨gb168, 1, none⟩ = some (.int .i64 0) := (blk_cell BK168.out 1).trans rfl
            have hfz20_0 := blk_frozen BK168.out 0
            have hfz20_1 := blk_frozen BK168.out 1
            go_wp2
            go_meet
            case rel => exact ⟨_, (false), (by first | rfl | (simp; done) | (simp [*]; done)), H', ⟨by first | omega | exact Nat.le_refl _⟩, ⟨by (with_reducible repeat (first | refine blk_drewN ?_ _ | refine blk_drew ?_ | refine blk_alloc ?_ _)); refine blk_put (cs := #[.int .u32 ((Int.tmod a0 3) % 4294967296), .int .i64 0]) ?_ 1 _ rfl; (with_reducible repeat (first | refine blk_drewN ?_ _ | refine blk_drew ?_ | refine blk_alloc ?_ _)); refine blk_put (cs := #[.int .u32 0, .int .i64 0]) ?_ 0 _ rfl; (with_reducible repeat (first | refine blk_drewN ?_ _ | refine blk_drew ?_ | refine blk_alloc ?_ _)); exact BK168.out⟩, ⟨by repeat (first | (with_reducible first | exact HB.out | apply below_alloc | apply pw_below_drewN | apply below_drew1 | refine below_set ?_ GE168.out) | exact HB.out)⟩⟩
        · rw [if_neg c17] at H
          have c17b0 : decide (0 < ((Int.tmod a0 3) % 4294967296)) = false := decide_eq_false c17
          clear c17
          have H' := Aside0.mk H
          clear H
          have hcz21_0 : w7.cell? ⟨gb168, 0, none⟩ = some (.int .u32 0) := (blk_cell BK168.out 0).trans rfl
          have hcz21_1 : w7.cell? ⟨gb168, 1, none⟩ = some (.int .i64 0) := (blk_cell BK168.out 1).trans rfl
          have hfz21_0 := blk_frozen BK168.out 0
          have hfz21_1 := blk_frozen BK168.out 1
          go_wp2
          go_meet
          case rel => exact ⟨_, (false), (by first | rfl | (simp; done) | (simp [*]; done)), H', ⟨by first | omega | exact Nat.le_refl _⟩, ⟨by (with_reducible repeat (first | refine blk_drewN ?_ _ | refine blk_drew ?_ | refine blk_alloc ?_ _)); refine blk_put (cs := #[.int .u32 ((Int.tmod a0 3) % 4294967296), .int .i64 0]) ?_ 1 _ rfl; (with_reducible repeat (first | refine blk_drewN ?_ _ | refine blk_drew ?_ | refine blk_alloc ?_ _)); refine blk_put (cs := #[.int .u32 0, .int .i64 0]) ?_ 0 _ rfl; (with_reducible repeat (first | refine blk_drewN ?_ _ | refine blk_drew ?_ | refine blk_alloc ?_ _)); exact BK168.out⟩, ⟨by repeat (first | (with_reducible first | exact HB.out | apply below_alloc | apply pw_below_drewN | apply below_drew1 | refine below_set ?_ GE168.out) | exact HB.out)⟩⟩
    case rest =>
      clear HC5
      try clear c1
      try clear p2
      try clear c4
      try clear p6
      try clear c8
      try clear c9
      try clear c9b0
      try clear c9b1
      try clear c10
      try clear c10b0
      try clear c10b1
      try clear c12
      try clear c12b0
      try clear c13
      try clear c13b0
      try clear c17
      try clear c17b0
      try clear c18
      try clear c18b0
      try clear hcz11_0
      try clear hcz11_1
      try clear hcz14_0
      try clear hcz14_1
      try clear hcz15_0
      try clear hcz15_1
      try clear hcz16_0
      try clear hcz16_1
      try clear hcz19_0
      try clear hcz19_1
      try clear hcz20_0
      try clear hcz20_1
      try clear hcz21_0
      try clear hcz21_1
      try clear hcz8_0
      try clear hcz8_1
      try clear hfz11_0
      try clear hfz11_1
      try clear hfz14_0
      try clear hfz14_1
      try clear hfz15_0
      try clear hfz15_1
      try clear hfz16_0
      try clear hfz16_1
      try clear hfz19_0
      try clear hfz19_1
      try clear hfz20_0
      try clear hfz20_1
      try clear hfz21_0
      try clear hfz21_1
      try clear hfz8_0
      try clear hfz8_1
      obtain ⟨kq, x7_4, rfl, HA, HJ4, BK168, HB⟩ := hcut
      cases kq with
      | zero => exact absurd HA.out (by simp [comitialaw06_BallotBounds.j0])
      | succ kj4 =>
        have H := HA.out
        clear HA
        simp only [comitialaw06_BallotBounds.j0] at H
        replace H := Option.bind_eq_some_iff.mp H
        obtain ⟨t169, A220, H⟩ := H
        replace H : ((ballot_Get.f kj4 t169 false).bind fun bt170 => (if ((Int.tmod a0 3) % 4294967296) = 0 then (if (Go.bits .and .i64 (wrap64 (a1)) 255) = 0 then (comitialaw06_BallotBounds.j1 kj4 true x7_4 (Go.bits .and .i64 (wrap64 (a1)) 255) true ((Int.tmod a0 3) % 4294967296) (wrap64 (a1)) bt170.1 bt170.2.1 bt170.2.2.1 bt170.2.2.2) else (if ((Int.tmod a0 3) % 4294967296) > 0 then (if (Go.bits .and .i64 (wrap64 (a1)) 255) ≥ 1 then (comitialaw06_BallotBounds.j1 kj4 true x7_4 (Go.bits .and .i64 (wrap64 (a1)) 255) (decide ((Go.bits .and .i64 (wrap64 (a1)) 255) ≤ 7)) ((Int.tmod a0 3) % 4294967296) (wrap64 (a1)) bt170.1 bt170.2.1 bt170.2.2.1 bt170.2.2.2) else (comitialaw06_BallotBounds.j1 kj4 true x7_4 (Go.bits .and .i64 (wrap64 (a1)) 255) false ((Int.tmod a0 3) % 4294967296) (wrap64 (a1)) bt170.1 bt170.2.1 bt170.2.2.1 bt170.2.2.2)) else (comitialaw06_BallotBounds.j1 kj4 true x7_4 (Go.bits .and .i64 (wrap64 (a1)) 255) false ((Int.tmod a0 3) % 4294967296) (wrap64 (a1)) bt170.1 bt170.2.1 bt170.2.2.1 bt170.2.2.2))) else (if ((Int.tmod a0 3) % 4294967296) > 0 then (if (Go.bits .and .i64 (wrap64 (a1)) 255) ≥ 1 then (comitialaw06_BallotBounds.j1 kj4 true x7_4 (Go.bits .and .i64 (wrap64 (a1)) 255) (decide ((Go.bits .and .i64 (wrap64 (a1)) 255) ≤ 7)) ((Int.tmod a0 3) % 4294967296) (wrap64 (a1)) bt170.1 bt170.2.1 bt170.2.2.1 bt170.2.2.2) else (comitialaw06_BallotBounds.j1 kj4 true x7_4 (Go.bits .and .i64 (wrap64 (a1)) 255) false ((Int.tmod a0 3) % 4294967296) (wrap64 (a1)) bt170.1 bt170.2.1 bt170.2.2.1 bt170.2.2.2)) else (comitialaw06_BallotBounds.j1 kj4 true x7_4 (Go.bits .and .i64 (wrap64 (a1)) 255) false ((Int.tmod a0 3) % 4294967296) (wrap64 (a1)) bt170.1 bt170.2.1 bt170.2.2.1 bt170.2.2.2)))) = some r := H
        have A22 := Aside0.mk A220
        clear A220
        replace H := Option.bind_eq_some_iff.mp H
        obtain ⟨⟨t170, t171, t172, t173⟩, A230, H⟩ := H
        replace H : (if ((Int.tmod a0 3) % 4294967296) = 0 then (if (Go.bits .and .i64 (wrap64 (a1)) 255) = 0 then (comitialaw06_BallotBounds.j1 kj4 true x7_4 (Go.bits .and .i64 (wrap64 (a1)) 255) true ((Int.tmod a0 3) % 4294967296) (wrap64 (a1)) t170 t171 t172 t173) else (if ((Int.tmod a0 3) % 4294967296) > 0 then (if (Go.bits .and .i64 (wrap64 (a1)) 255) ≥ 1 then (comitialaw06_BallotBounds.j1 kj4 true x7_4 (Go.bits .and .i64 (wrap64 (a1)) 255) (decide ((Go.bits .and .i64 (wrap64 (a1)) 255) ≤ 7)) ((Int.tmod a0 3) % 4294967296) (wrap64 (a1)) t170 t171 t172 t173) else (comitialaw06_BallotBounds.j1 kj4 true x7_4 (Go.bits .and .i64 (wrap64 (a1)) 255) false ((Int.tmod a0 3) % 4294967296) (wrap64 (a1)) t170 t171 t172 t173)) else (comitialaw06_BallotBounds.j1 kj4 true x7_4 (Go.bits .and .i64 (wrap64 (a1)) 255) false ((Int.tmod a0 3) % 4294967296) (wrap64 (a1)) t170 t171 t172 t173))) else (if ((Int.tmod a0 3) % 4294967296) > 0 then (if (Go.bits .and .i64 (wrap64 (a1)) 255) ≥ 1 then (comitialaw06_BallotBounds.j1 kj4 true x7_4 (Go.bits .and .i64 (wrap64 (a1)) 255) (decide ((Go.bits .and .i64 (wrap64 (a1)) 255) ≤ 7)) ((Int.tmod a0 3) % 4294967296) (wrap64 (a1)) t170 t171 t172 t173) else (comitialaw06_BallotBounds.j1 kj4 true x7_4 (Go.bits .and .i64 (wrap64 (a1)) 255) false ((Int.tmod a0 3) % 4294967296) (wrap64 (a1)) t170 t171 t172 t173)) else (comitialaw06_BallotBounds.j1 kj4 true x7_4 (Go.bits .and .i64 (wrap64 (a1)) 255) false ((Int.tmod a0 3) % 4294967296) (wrap64 (a1)) t170 t171 t172 t173))) = some r := H
        have A23 := Aside0.mk A230
        clear A230
        have HC24 := Aside0.mk H
        clear H
        have hcz25_0 : wc.cell? ⟨gb168, 0, none⟩ = some (.int .u32 ((Int.tmod a0 3) % 4294967296)) := (blk_cell BK168.out 0).trans rfl
        have hcz25_1 : wc.cell? ⟨gb168, 1, none⟩ = some (.int .i64 (wrap64 (a1))) := (blk_cell BK168.out 1).trans rfl
        have hfz25_0 := blk_frozen BK168.out 0
        have hfz25_1 := blk_frozen BK168.out 1
        go_upto_region 8 with (first | ((with_reducible refine gate_callee (f := 20) rfl ?_); refine goesL_ (some 46) rfl rfl Tryd.func20 (by kernel_rfl) rfl #[.agg #[.int .u32 ((Int.tmod a0 3) % 4294967296), .int .i64 (wrap64 (a1))]] rfl (by (try simp only [List.map_toArray, List.map_cons, List.map_nil]); first | done | rfl | (simp only [List.length_drop, List.length_take]; rfl)) ?_; (with_reducible refine (ballot_Ballot_Put.calls ((Int.tmod a0 3) % 4294967296) (wrap64 (a1)) t169 _ A22.out).mono ?_); rintro e w26 ⟨rfl, hb⟩; refine ⟨_, rfl, ?_⟩; have n0_ := Aside0.mk (blk_below (g := gb168) (o := .cells #[.int .u32 ((Int.tmod a0 3) % 4294967296), .int .i64 (wrap64 (a1))] 24 (0, 0)) (by (with_reducible repeat (first | refine blk_drewN ?_ _ | refine blk_drew ?_ | refine blk_alloc ?_ _)); exact BK168.out) hb); have n1_ := Aside0.mk (below_step (by repeat (first | (with_reducible first | exact HB.out | apply below_alloc | apply pw_below_drewN | apply below_drew1 | refine below_set ?_ GE168.out) | exact HB.out)) hb); clear BK168; clear HB; have BK168 := n0_; have HB := n1_; clear n0_ n1_; (try clear hb); (try clear hb2); (try clear hk); (try clear hi)) | ((with_reducible refine gate_callee (f := 13) rfl ?_); refine goesL_ (some 48) rfl rfl Tryd.func13 (by kernel_rfl) rfl #[.agg #[.string t169, .bool false]] rfl (by (try simp only [List.map_toArray, List.map_cons, List.map_nil]); first | done | rfl | (simp only [List.length_drop, List.length_take]; rfl)) ?_; (with_reducible refine (ballot_Get.calls kj4 t169 false t170 t171 t172 t173 _ A23.out).mono ?_); rintro e w27 ⟨rfl, hb⟩; refine ⟨_, rfl, ?_⟩; have n0_ := Aside0.mk (blk_below (g := gb168) (o := .cells #[.int .u32 ((Int.tmod a0 3) % 4294967296), .int .i64 (wrap64 (a1))] 24 (0, 0)) (by (with_reducible repeat (first | refine blk_drewN ?_ _ | refine blk_drew ?_ | refine blk_alloc ?_ _)); exact BK168.out) hb); have n1_ := Aside0.mk (below_step (by repeat (first | (with_reducible first | exact HB.out | apply below_alloc | apply pw_below_drewN | apply below_drew1 | refine below_set ?_ GE168.out) | exact HB.out)) hb); clear BK168; clear HB; have BK168 := n0_; have HB := n1_; clear n0_ n1_; (try clear hb); (try clear hb2); (try clear hk); (try clear hi)) | ((with_reducible refine gate_dst (N := 8) rfl ?_); refine box_event ?hg (N := 8) ?hd (cs := #[.int .u32 0, .int .i64 0]) (t := 24) ?hr ?_; (case hd => rfl); (case hg => rfl); (case hr => first | (go_simp; done) | (go_simp; rfl)); intro gb174 hg w28 hbox hb; have n0_ := Aside0.mk (blk_below (g := gb168) (o := .cells #[.int .u32 ((Int.tmod a0 3) % 4294967296), .int .i64 (wrap64 (a1))] 24 (0, 0)) (by (with_reducible repeat (first | refine blk_drewN ?_ _ | refine blk_drew ?_ | refine blk_alloc ?_ _)); exact BK168.out) hb); have n1_ := Aside0.mk (below_step (by repeat (first | (with_reducible first | exact HB.out | apply below_alloc | apply pw_below_drewN | apply below_drew1 | refine below_set ?_ GE168.out) | exact HB.out)) hb); have n2_ := Aside0.mk (hbox); have n3_ := Aside0.mk ((by rw [hg]; exact (below_size (by repeat (first | (with_reducible first | exact HB.out | apply below_alloc | apply pw_below_drewN | apply below_drew1 | refine below_set ?_ GE168.out) | exact HB.out))) : w.heap.size ≤ gb174)); have n4_ := Aside0.mk ((by rw [hg]; exact (below_size (by repeat (first | (with_reducible first | exact HB.out | apply below_alloc | apply pw_below_drewN | apply below_drew1 | refine below_set ?_ GE168.out) | exact HB.out))) : w.heap.size ≤ gb174)); have n5_ := Aside0.mk ((by rw [hg]; exact Nat.ne_of_lt (blk_lt (g := gb168) (o := .cells #[.int .u32 ((Int.tmod a0 3) % 4294967296), .int .i64 (wrap64 (a1))] 24 (0, 0)) (by (with_reducible repeat (first | refine blk_drewN ?_ _ | refine blk_drew ?_ | refine blk_alloc ?_ _)); exact BK168.out)) : gb168 ≠ gb174)); have n6_ := Aside0.mk ((by rw [hg]; exact Nat.ne_of_gt (blk_lt (g := gb168) (o := .cells #[.int .u32 ((Int.tmod a0 3) % 4294967296), .int .i64 (wrap64 (a1))] 24 (0, 0)) (by (with_reducible repeat (first | refine blk_drewN ?_ _ | refine blk_drew ?_ | refine blk_alloc ?_ _)); exact BK168.out)) : gb174 ≠ gb168)); clear BK168; clear HB; have BK168 := n0_; have HB := n1_; have BK174 := n2_; have GW174 := n3_; have GE174 := n4_; have NB168_174 := n5_; have NB174_168 := n6_; clear n0_ n1_ n2_ n3_ n4_ n5_ n6_; clear hb hbox hg) | ((with_reducible refine gate_dst (N := 9) rfl ?_); refine box_event ?hg (N := 9) ?hd (cs := #[.string (⟨#[]⟩ : ByteArray), .bool false]) (t := 26) ?hr ?_; (case hd => rfl); (case hg => rfl); (case hr => first | (go_simp; done) | (go_simp; rfl)); intro gb175 hg w29 hbox hb; have n0_ := Aside0.mk (blk_below (g := gb168) (o := .cells #[.int .u32 ((Int.tmod a0 3) % 4294967296), .int .i64 (wrap64 (a1))] 24 (0, 0)) (by (with_reducible repeat (first | refine blk_drewN ?_ _ | refine blk_drew ?_ | refine blk_alloc ?_ _)); exact BK168.out) hb); have n1_ := Aside0.mk (blk_below (g := gb174) (o := .cells #[.int .u32 0, .int .i64 0] 24 (0, 0)) (by (with_reducible repeat (first | refine blk_drewN ?_ _ | refine blk_drew ?_ | refine blk_alloc ?_ _)); exact BK174.out) hb); have n2_ := Aside0.mk (below_step (by repeat (first | (with_reducible first | exact HB.out | apply below_alloc | apply pw_below_drewN | apply below_drew1 | refine below_set ?_ GE168.out | refine below_set ?_ GE174.out) | exact HB.out)) hb); have n3_ := Aside0.mk (hbox); have n4_ := Aside0.mk ((by rw [hg]; exact (below_size (by repeat (first | (with_reducible first | exact HB.out | apply below_alloc | apply pw_below_drewN | apply below_drew1 | refine below_set ?_ GE168.out | refine below_set ?_ GE174.out) | exact HB.out))) : w.heap.size ≤ gb175)); have n5_ := Aside0.mk ((by rw [hg]; exact (below_size (by repeat (first | (with_reducible first | exact HB.out | apply below_alloc | apply pw_below_drewN | apply below_drew1 | refine below_set ?_ GE168.out | refine below_set ?_ GE174.out) | exact HB.out))) : w.heap.size ≤ gb175)); have n6_ := Aside0.mk ((by rw [hg]; exact Nat.ne_of_lt (blk_lt (g := gb168) (o := .cells #[.int .u32 ((Int.tmod a0 3) % 4294967296), .int .i64 (wrap64 (a1))] 24 (0, 0)) (by (with_reducible repeat (first | refine blk_drewN ?_ _ | refine blk_drew ?_ | refine blk_alloc ?_ _)); exact BK168.out)) : gb168 ≠ gb175)); have n7_ := Aside0.mk ((by rw [hg]; exact Nat.ne_of_gt (blk_lt (g := gb168) (o := .cells #[.int .u32 ((Int.tmod a0 3) % 4294967296), .int .i64 (wrap64 (a1))] 24 (0, 0)) (by (with_reducible repeat (first | refine blk_drewN ?_ _ | refine blk_drew ?_ | refine blk_alloc ?_ _)); exact BK168.out)) : gb175 ≠ gb168)); have n8_ := Aside0.mk ((by rw [hg]; exact Nat.ne_of_lt (blk_lt (g := gb174) (o := .cells #[.int .u32 0, .int .i64 0] 24 (0, 0)) (by (with_reducible repeat (first | refine blk_drewN ?_ _ | refine blk_drew ?_ | refine blk_alloc ?_ _)); exact BK174.out)) : gb174 ≠ gb175)); have n9_ := Aside0.mk ((by rw [hg]; exact Nat.ne_of_gt (blk_lt (g := gb174) (o := .cells #[.int .u32 0, .int .i64 0] 24 (0, 0)) (by (with_reducible repeat (first | refine blk_drewN ?_ _ | refine blk_drew ?_ | refine blk_alloc ?_ _)); exact BK174.out)) : gb175 ≠ gb174)); clear BK168; clear BK174; clear HB; have BK168 := n0_; have BK174 := n1_; have HB := n2_; have BK175 := n3_; have GW175 := n4_; have GE175 := n5_; have NB168_175 := n6_; have NB175_168 := n7_; have NB174_175 := n8_; have NB175_174 := n9_; clear n0_ n1_ n2_ n3_ n4_ n5_ n6_ n7_ n8_ n9_; clear hb hbox hg; have hnb30 := NB174_168.out; have hnc30 := NB168_174.out; have hnb31 := NB174_175.out; have hnc31 := NB175_174.out; have hcz32_0 : w29.cell? ⟨gb174, 0, none⟩ = some (.int .u32 0) := (blk_cell BK174.out 0).trans rfl; have hcz32_1 : w29.cell? ⟨gb174, 1, none⟩ = some (.int .i64 0) := (blk_cell BK174.out 1).trans rfl; have hfz32_0 := blk_frozen BK174.out 0; have hfz32_1 := blk_frozen BK174.out 1; have hnb33 := NB175_168.out; have hnc33 := NB168_175.out; have hcz34_0 : w29.cell? ⟨gb175, 0, none⟩ = some (.string (⟨#[]⟩ : ByteArray)) := (blk_cell BK175.out 0).trans rfl; have hcz34_1 : w29.cell? ⟨gb175, 1, none⟩ = some (.bool false) := (blk_cell BK175.out 1).trans rfl; have hfz34_0 := blk_frozen BK175.out 0; have hfz34_1 := blk_frozen BK175.out 1; have hcz35_0 : w29.cell? ⟨gb168, 0, none⟩ = some (.int .u32 ((Int.tmod a0 3) % 4294967296)) := (blk_cell BK168.out 0).trans rfl; have hcz35_1 : w29.cell? ⟨gb168, 1, none⟩ = some (.int .i64 (wrap64 (a1))) := (blk_cell BK168.out 1).trans rfl; have hfz35_0 := blk_frozen BK168.out 0; have hfz35_1 := blk_frozen BK168.out 1))
        (try simp only [Act.put, List.setIfInBounds_toArray, List.set_cons_zero, List.set_cons_succ])
        go_cut [11] (fun v11 wc => ∃ (kq : Nat) (x11_23 : Bool), v11 = .bool x11_23 ∧ Aside0 (comitialaw06_BallotBounds.j1 kq true x7_4 (Go.bits .and .i64 (wrap64 (a1)) 255) x11_23 ((Int.tmod a0 3) % 4294967296) (wrap64 (a1)) t170 t171 t172 t173 = some r) ∧ Aside0 (kq ≤ kj4) ∧ Aside0 (wc.heap[gb168]? = some (.cells #[.int .u32 ((Int.tmod a0 3) % 4294967296), .int .i64 (wrap64 (a1))] 24 (0, 0))) ∧ Aside0 (wc.heap[gb174]? = some (.cells #[.int .u32 t170, .int .i64 t171] 24 (0, 0))) ∧ Aside0 (wc.heap[gb175]? = some (.cells #[.string t172, .bool t173] 26 (0, 0))) ∧ Aside0 (Below w.heap.size w wc))
        case first =>
          have H := HC24.out
          clear HC24
          by_cases c36 : ((Int.tmod a0 3) % 4294967296) = 0
          · rw [if_pos c36] at H
            have c36b0 : (((Int.tmod a0 3) % 4294967296) == 0) = true := beq_iff_eq.mpr c36
            have c36b1 : (((Int.tmod a0 3) % 4294967296) != 0) = false := bne_eq_false_iff_eq.mpr c36
            clear c36
            (first | rw [c36b0] | (simp only [i64_w, i32_w]; rw [c36b0]) | skip)
            by_cases c37 : (Go.bits .and .i64 (wrap64 (a1)) 255) = 0
            · rw [if_pos c37] at H
              have c37b0 : ((Go.bits .and .i64 (wrap64 (a1)) 255) == 0) = true := beq_iff_eq.mpr c37
              have c37b1 : ((Go.bits .and .i64 (wrap64 (a1)) 255) != 0) = false := bne_eq_false_iff_eq.mpr c37
              clear c37
              have H' := Aside0.mk H
              clear H
              have hnb38 := NB168_174.out
              have hnc38 := NB174_168.out
              have hnb39 := NB168_175.out
              have hnc39 := NB175_168.out
              have hcz40_0 : w29.cell? ⟨gb168, 0, none⟩ = some (.int .u32 ((Int.tmod a0 3) % 4294967296)) := (blk_cell BK168.out 0).trans rfl
              have hcz40_1 : w29.cell? ⟨gb168, 1, none⟩ = some (.int .i64 (wrap64 (a1))) := (blk_cell BK168.out 1).trans rfl
              have hfz40_0 := blk_frozen BK168.out 0
              have hfz40_1 := blk_frozen BK168.out 1
              go_wp2
              go_meet
              case rel => exact ⟨_, (true), (by first | rfl | (simp; done) | (simp [*]; done)), H', ⟨by have := HJ4.out; first | omega | exact Nat.le_refl _⟩, ⟨by (with_reducible repeat (first | refine blk_drewN ?_ _ | refine blk_drew ?_ | refine blk_alloc ?_ _)); refine blk_far ?_ NB168_175.out _; (with_reducible repeat (first | refine blk_drewN ?_ _ | refine blk_drew ?_ | refine blk_alloc ?_ _)); refine blk_far ?_ NB168_175.out _; (with_reducible repeat (first | refine blk_drewN ?_ _ | refine blk_drew ?_ | refine blk_alloc ?_ _)); refine blk_far ?_ NB168_174.out _; (with_reducible repeat (first | refine blk_drewN ?_ _ | refine blk_drew ?_ | refine blk_alloc ?_ _)); refine blk_far ?_ NB168_174.out _; (with_reducible repeat (first | refine blk_drewN ?_ _ | refine blk_drew ?_ | refine blk_alloc ?_ _)); exact BK168.out⟩, ⟨by (with_reducible repeat (first | refine blk_drewN ?_ _ | refine blk_drew ?_ | refine blk_alloc ?_ _)); refine blk_far ?_ NB174_175.out _; (with_reducible repeat (first | refine blk_drewN ?_ _ | refine blk_drew ?_ | refine blk_alloc ?_ _)); refine blk_far ?_ NB174_175.out _; (with_reducible repeat (first | refine blk_drewN ?_ _ | refine blk_drew ?_ | refine blk_alloc ?_ _)); refine blk_put (cs := #[.int .u32 t170, .int .i64 0]) ?_ 1 _ rfl; (with_reducible repeat (first | refine blk_drewN ?_ _ | refine blk_drew ?_ | refine blk_alloc ?_ _)); refine blk_put (cs := #[.int .u32 0, .int .i64 0]) ?_ 0 _ rfl; (with_reducible repeat (first | refine blk_drewN ?_ _ | refine blk_drew ?_ | refine blk_alloc ?_ _)); exact BK174.out⟩, ⟨by (with_reducible repeat (first | refine blk_drewN ?_ _ | refine blk_drew ?_ | refine blk_alloc ?_ _)); refine blk_put (cs := #[.string t172, .bool false]) ?_ 1 _ rfl; (with_reducible repeat (first | refine blk_drewN ?_ _ | refine blk_drew ?_ | refine blk_alloc ?_ _)); refine blk_put (cs := #[.string (⟨#[]⟩ : ByteArray), .bool false]) ?_ 0 _ rfl; (with_reducible repeat (first | refine blk_drewN ?_ _ | refine blk_drew ?_ | refine blk_alloc ?_ _)); refine blk_far ?_ NB175_174.out _; (with_reducible repeat (first | refine blk_drewN ?_ _ | refine blk_drew ?_ | refine blk_alloc ?_ _)); refine blk_far ?_ NB175_174.out _; (with_reducible repeat (first | refine blk_drewN ?_ _ | refine blk_drew ?_ | refine blk_alloc ?_ _)); exact BK175.out⟩, ⟨by repeat (first | (with_reducible first | exact HB.out | apply below_alloc | apply pw_below_drewN | apply below_drew1 | refine below_set ?_ GE168.out | refine below_set ?_ GE174.out | refine below_set ?_ GE175.out) | exact HB.out)⟩⟩
            · rw [if_neg c37] at H
              have c37b0 : ((Go.bits .and .i64 (wrap64 (a1)) 255) == 0) = false := beq_eq_false_iff_ne.mpr c37
              have c37b1 : ((Go.bits .and .i64 (wrap64 (a1)) 255) != 0) = true := bne_iff_ne.mpr c37
              by_cases c41 : ((Int.tmod a0 3) % 4294967296) > 0
              · rw [if_pos c41] at H
                have c41b0 : decide (0 < ((Int.tmod a0 3) % 4294967296)) = true := decide_eq_true c41
                clear c41
                by_cases c42 : (Go.bits .and .i64 (wrap64 (a1)) 255) ≥ 1
                · rw [if_pos c42] at H
                  have c42b0 : decide (1 ≤ (Go.bits .and .i64 (wrap64 (a1)) 255)) = true := decide_eq_true c42
                  clear c42
                  have H' := Aside0.mk H
                  clear H
                  have hnb43 := NB168_174.out
                  have hnc43 := NB174_168.out
                  have hnb44 := NB168_175.out
                  have hnc44 := NB175_168.out
                  have hcz45_0 : w29.cell? ⟨gb168, 0, none⟩ = some (.int .u32 ((Int.tmod a0 3) % 4294967296)) := (blk_cell BK168.out 0).trans rfl
                  have hcz45_1 : w29.cell? ⟨gb168, 1, none⟩ = some (.int .i64 (wrap64 (a1))) := (blk_cell BK168.out 1).trans rfl
                  have hfz45_0 := blk_frozen BK168.out 0
                  have hfz45_1 := blk_frozen BK168.out 1
                  go_wp2
                  go_meet
                  case rel => exact ⟨_, (decide ((Go.bits .and .i64 (wrap64 (a1)) 255) ≤ 7)), (by first | rfl | (simp; done) | (simp [*]; done)), H', ⟨by have := HJ4.out; first | omega | exact Nat.le_refl _⟩, ⟨by (with_reducible repeat (first | refine blk_drewN ?_ _ | refine blk_drew ?_ | refine blk_alloc ?_ _)); refine blk_far ?_ NB168_175.out _; (with_reducible repeat (first | refine blk_drewN ?_ _ | refine blk_drew ?_ | refine blk_alloc ?_ _)); refine blk_far ?_ NB168_175.out _; (with_reducible repeat (first | refine blk_drewN ?_ _ | refine blk_drew ?_ | refine blk_alloc ?_ _)); refine blk_far ?_ NB168_174.out _; (with_reducible repeat (first | refine blk_drewN ?_ _ | refine blk_drew ?_ | refine blk_alloc ?_ _)); refine blk_far ?_ NB168_174.out _; (with_reducible repeat (first | refine blk_drewN ?_ _ | refine blk_drew ?_ | refine blk_alloc ?_ _)); exact BK168.out⟩, ⟨by (with_reducible repeat (first | refine blk_drewN ?_ _ | refine blk_drew ?_ | refine blk_alloc ?_ _)); refine blk_far ?_ NB174_175.out _; (with_reducible repeat (first | refine blk_drewN ?_ _ | refine blk_drew ?_ | refine blk_alloc ?_ _)); refine blk_far ?_ NB174_175.out _; (with_reducible repeat (first | refine blk_drewN ?_ _ | refine blk_drew ?_ | refine blk_alloc ?_ _)); refine blk_put (cs := #[.int .u32 t170, .int .i64 0]) ?_ 1 _ rfl; (with_reducible repeat (first | refine blk_drewN ?_ _ | refine blk_drew ?_ | refine blk_alloc ?_ _)); refine blk_put (cs := #[.int .u32 0, .int .i64 0]) ?_ 0 _ rfl; (with_reducible repeat (first | refine blk_drewN ?_ _ | refine blk_drew ?_ | refine blk_alloc ?_ _)); exact BK174.out⟩, ⟨by (with_reducible repeat (first | refine blk_drewN ?_ _ | refine blk_drew ?_ | refine blk_alloc ?_ _)); refine blk_put (cs := #[.string t172, .bool false]) ?_ 1 _ rfl; (with_reducible repeat (first | refine blk_drewN ?_ _ | refine blk_drew ?_ | refine blk_alloc ?_ _)); refine blk_put (cs := #[.string (⟨#[]⟩ : ByteArray), .bool false]) ?_ 0 _ rfl; (with_reducible repeat (first | refine blk_drewN ?_ _ | refine blk_drew ?_ | refine blk_alloc ?_ _)); refine blk_far ?_ NB175_174.out _; (with_reducible repeat (first | refine blk_drewN ?_ _ | refine blk_drew ?_ | refine blk_alloc ?_ _)); refine blk_far ?_ NB175_174.out _; (with_reducible repeat (first | refine blk_drewN ?_ _ | refine blk_drew ?_ | refine blk_alloc ?_ _)); exact BK175.out⟩, ⟨by repeat (first | (with_reducible first | exact HB.out | apply below_alloc | apply pw_below_drewN | apply below_drew1 | refine below_set ?_ GE168.out | refine below_set ?_ GE174.out | refine below_set ?_ GE175.out) | exact HB.out)⟩⟩
                · rw [if_neg c42] at H
                  have c42b0 : decide (1 ≤ (Go.bits .and .i64 (wrap64 (a1)) 255)) = false := decide_eq_false c42
                  clear c42
                  have H' := Aside0.mk H
                  clear H
                  have hnb46 := NB168_174.out
                  have hnc46 := NB174_168.out
                  have hnb47 := NB168_175.out
                  have hnc47 := NB175_168.out
                  have hcz48_0 : w29.cell? ⟨gb168, 0, none⟩ = some (.int .u32 ((Int.tmod a0 3) % 4294967296)) := (blk_cell BK168.out 0).trans rfl
                  have hcz48_1 : w29.cell? ⟨gb168, 1, none⟩ = some (.int .i64 (wrap64 (a1))) := (blk_cell BK168.out 1).trans rfl
                  have hfz48_0 := blk_frozen BK168.out 0
                  have hfz48_1 := blk_frozen BK168.out 1
                  go_wp2
                  go_meet
                  case rel => exact ⟨_, (false), (by first | rfl | (simp; done) | (simp [*]; done)), H', ⟨by have := HJ4.out; first | omega | exact Nat.le_refl _⟩, ⟨by (with_reducible repeat (first | refine blk_drewN ?_ _ | refine blk_drew ?_ | refine blk_alloc ?_ _)); refine blk_far ?_ NB168_175.out _; (with_reducible repeat (first | refine blk_drewN ?_ _ | refine blk_drew ?_ | refine blk_alloc ?_ _)); refine blk_far ?_ NB168_175.out _; (with_reducible repeat (first | refine blk_drewN ?_ _ | refine blk_drew ?_ | refine blk_alloc ?_ _)); refine blk_far ?_ NB168_174.out _; (with_reducible repeat (first | refine blk_drewN ?_ _ | refine blk_drew ?_ | refine blk_alloc ?_ _)); refine blk_far ?_ NB168_174.out _; (with_reducible repeat (first | refine blk_drewN ?_ _ | refine blk_drew ?_ | refine blk_alloc ?_ _)); exact BK168.out⟩, ⟨by (with_reducible repeat (first | refine blk_drewN ?_ _ | refine blk_drew ?_ | refine blk_alloc ?_ _)); refine blk_far ?_ NB174_175.out _; (with_reducible repeat (first | refine blk_drewN ?_ _ | refine blk_drew ?_ | refine blk_alloc ?_ _)); refine blk_far ?_ NB174_175.out _; (with_reducible repeat (first | refine blk_drewN ?_ _ | refine blk_drew ?_ | refine blk_alloc ?_ _)); refine blk_put (cs := #[.int .u32 t170, .int .i64 0]) ?_ 1 _ rfl; (with_reducible repeat (first | refine blk_drewN ?_ _ | refine blk_drew ?_ | refine blk_alloc ?_ _)); refine blk_put (cs := #[.int .u32 0, .int .i64 0]) ?_ 0 _ rfl; (with_reducible repeat (first | refine blk_drewN ?_ _ | refine blk_drew ?_ | refine blk_alloc ?_ _)); exact BK174.out⟩, ⟨by (with_reducible repeat (first | refine blk_drewN ?_ _ | refine blk_drew ?_ | refine blk_alloc ?_ _)); refine blk_put (cs := #[.string t172, .bool false]) ?_ 1 _ rfl; (with_reducible repeat (first | refine blk_drewN ?_ _ | refine blk_drew ?_ | refine blk_alloc ?_ _)); refine blk_put (cs := #[.string (⟨#[]⟩ : ByteArray), .bool false]) ?_ 0 _ rfl; (with_reducible repeat (first | refine blk_drewN ?_ _ | refine blk_drew ?_ | refine blk_alloc ?_ _)); refine blk_far ?_ NB175_174.out _; (with_reducible repeat (first | refine blk_drewN ?_ _ | refine blk_drew ?_ | refine blk_alloc ?_ _)); refine blk_far ?_ NB175_174.out _; (with_reducible repeat (first | refine blk_drewN ?_ _ | refine blk_drew ?_ | refine blk_alloc ?_ _)); exact BK175.out⟩, ⟨by repeat (first | (with_reducible first | exact HB.out | apply below_alloc | apply pw_below_drewN | apply below_drew1 | refine below_set ?_ GE168.out | refine below_set ?_ GE174.out | refine below_set ?_ GE175.out) | exact HB.out)⟩⟩
              · rw [if_neg c41] at H
                have c41b0 : decide (0 < ((Int.tmod a0 3) % 4294967296)) = false := decide_eq_false c41
                clear c41
                have H' := Aside0.mk H
                clear H
                have hnb49 := NB168_174.out
                have hnc49 := NB174_168.out
                have hnb50 := NB168_175.out
                have hnc50 := NB175_168.out
                have hcz51_0 : w29.cell? ⟨gb168, 0, none⟩ = some (.int .u32 ((Int.tmod a0 3) % 4294967296)) := (blk_cell BK168.out 0).trans rfl
                have hcz51_1 : w29.cell? ⟨gb168, 1, none⟩ = some (.int .i64 (wrap64 (a1))) := (blk_cell BK168.out 1).trans rfl
                have hfz51_0 := blk_frozen BK168.out 0
                have hfz51_1 := blk_frozen BK168.out 1
                go_wp2
                go_meet
                case rel => exact ⟨_, (false), (by first | rfl | (simp; done) | (simp [*]; done)), H', ⟨by have := HJ4.out; first | omega | exact Nat.le_refl _⟩, ⟨by (with_reducible repeat (first | refine blk_drewN ?_ _ | refine blk_drew ?_ | refine blk_alloc ?_ _)); refine blk_far ?_ NB168_175.out _; (with_reducible repeat (first | refine blk_drewN ?_ _ | refine blk_drew ?_ | refine blk_alloc ?_ _)); refine blk_far ?_ NB168_175.out _; (with_reducible repeat (first | refine blk_drewN ?_ _ | refine blk_drew ?_ | refine blk_alloc ?_ _)); refine blk_far ?_ NB168_174.out _; (with_reducible repeat (first | refine blk_drewN ?_ _ | refine blk_drew ?_ | refine blk_alloc ?_ _)); refine blk_far ?_ NB168_174.out _; (with_reducible repeat (first | refine blk_drewN ?_ _ | refine blk_drew ?_ | refine blk_alloc ?_ _)); exact BK168.out⟩, ⟨by (with_reducible repeat (first | refine blk_drewN ?_ _ | refine blk_drew ?_ | refine blk_alloc ?_ _)); refine blk_far ?_ NB174_175.out _; (with_reducible repeat (first | refine blk_drewN ?_ _ | refine blk_drew ?_ | refine blk_alloc ?_ _)); refine blk_far ?_ NB174_175.out _; (with_reducible repeat (first | refine blk_drewN ?_ _ | refine blk_drew ?_ | refine blk_alloc ?_ _)); refine blk_put (cs := #[.int .u32 t170, .int .i64 0]) ?_ 1 _ rfl; (with_reducible repeat (first | refine blk_drewN ?_ _ | refine blk_drew ?_ | refine blk_alloc ?_ _)); refine blk_put (cs := #[.int .u32 0, .int .i64 0]) ?_ 0 _ rfl; (with_reducible repeat (first | refine blk_drewN ?_ _ | refine blk_drew ?_ | refine blk_alloc ?_ _)); exact BK174.out⟩, ⟨by (with_reducible repeat (first | refine blk_drewN ?_ _ | refine blk_drew ?_ | refine blk_alloc ?_ _)); refine blk_put (cs := #[.string t172, .bool false]) ?_ 1 _ rfl; (with_reducible repeat (first | refine blk_drewN ?_ _ | refine blk_drew ?_ | refine blk_alloc ?_ _)); refine blk_put (cs := #[.string (⟨#[]⟩ : ByteArray), .bool false]) ?_ 0 _ rfl; (with_reducible repeat (first | refine blk_drewN ?_ _ | refine blk_drew ?_ | refine blk_alloc ?_ _)); refine blk_far ?_ NB175_174.out _; (with_reducible repeat (first | refine blk_drewN ?_ _ | refine blk_drew ?_ | refine blk_alloc ?_ _)); refine blk_far ?_ NB175_174.out _; (with_reducible repeat (first | refine blk_drewN ?_ _ | refine blk_drew ?_ | refine blk_alloc ?_ _)); exact BK175.out⟩, ⟨by repeat (first | (with_reducible first | exact HB.out | apply below_alloc | apply pw_below_drewN | apply below_drew1 | refine below_set ?_ GE168.out | refine below_set ?_ GE174.out | refine below_set ?_ GE175.out) | exact HB.out)⟩⟩
          · rw [if_neg c36] at H
            have c36b0 : (((Int.tmod a0 3) % 4294967296) == 0) = false := beq_eq_false_iff_ne.mpr c36
            have c36b1 : (((Int.tmod a0 3) % 4294967296) != 0) = true := bne_iff_ne.mpr c36
            (first | rw [c36b0] | (simp only [i64_w, i32_w]; rw [c36b0]) | skip)
            by_cases c52 : ((Int.tmod a0 3) % 4294967296) > 0
            · rw [if_pos c52] at H
              have c52b0 : decide (0 < ((Int.tmod a0 3) % 4294967296)) = true := decide_eq_true c52
              clear c52
              by_cases c53 : (Go.bits .and .i64 (wrap64 (a1)) 255) ≥ 1
              · rw [if_pos c53] at H
                have c53b0 : decide (1 ≤ (Go.bits .and .i64 (wrap64 (a1)) 255)) = true := decide_eq_true c53
                clear c53
                have H' := Aside0.mk H
                clear H
                have hnb54 := NB168_174.out
                have hnc54 := NB174_168.out
                have hnb55 := NB168_175.out
                have hnc55 := NB175_168.out
                have hcz56_0 : w29.cell? ⟨gb168, 0, none⟩ = some (.int .u32 ((Int.tmod a0 3) % 4294967296)) := (blk_cell BK168.out 0).trans rfl
                have hcz56_1 : w29.cell? ⟨gb168, 1, none⟩ = some (.int .i64 (wrap64 (a1))) := (blk_cell BK168.out 1).trans rfl
                have hfz56_0 := blk_frozen BK168.out 0
                have hfz56_1 := blk_frozen BK168.out 1
                go_wp2
                go_meet
                case rel => exact ⟨_, (decide ((Go.bits .and .i64 (wrap64 (a1)) 255) ≤ 7)), (by first | rfl | (simp; done) | (simp [*]; done)), H', ⟨by have := HJ4.out; first | omega | exact Nat.le_refl _⟩, ⟨by (with_reducible repeat (first | refine blk_drewN ?_ _ | refine blk_drew ?_ | refine blk_alloc ?_ _)); refine blk_far ?_ NB168_175.out _; (with_reducible repeat (first | refine blk_drewN ?_ _ | refine blk_drew ?_ | refine blk_alloc ?_ _)); refine blk_far ?_ NB168_175.out _; (with_reducible repeat (first | refine blk_drewN ?_ _ | refine blk_drew ?_ | refine blk_alloc ?_ _)); refine blk_far ?_ NB168_174.out _; (with_reducible repeat (first | refine blk_drewN ?_ _ | refine blk_drew ?_ | refine blk_alloc ?_ _)); refine blk_far ?_ NB168_174.out _; (with_reducible repeat (first | refine blk_drewN ?_ _ | refine blk_drew ?_ | refine blk_alloc ?_ _)); exact BK168.out⟩, ⟨by (with_reducible repeat (first | refine blk_drewN ?_ _ | refine blk_drew ?_ | refine blk_alloc ?_ _)); refine blk_far ?_ NB174_175.out _; (with_reducible repeat (first | refine blk_drewN ?_ _ | refine blk_drew ?_ | refine blk_alloc ?_ _)); refine blk_far ?_ NB174_175.out _; (with_reducible repeat (first | refine blk_drewN ?_ _ | refine blk_drew ?_ | refine blk_alloc ?_ _)); refine blk_put (cs := #[.int .u32 t170, .int .i64 0]) ?_ 1 _ rfl; (with_reducible repeat (first | refine blk_drewN ?_ _ | refine blk_drew ?_ | refine blk_alloc ?_ _)); refine blk_put (cs := #[.int .u32 0, .int .i64 0]) ?_ 0 _ rfl; (with_reducible repeat (first | refine blk_drewN ?_ _ | refine blk_drew ?_ | refine blk_alloc ?_ _)); exact BK174.out⟩, ⟨by (with_reducible repeat (first | refine blk_drewN ?_ _ | refine blk_drew ?_ | refine blk_alloc ?_ _)); refine blk_put (cs := #[.string t172, .bool false]) ?_ 1 _ rfl; (with_reducible repeat (first | refine blk_drewN ?_ _ | refine blk_drew ?_ | refine blk_alloc ?_ _)); refine blk_put (cs := #[.string (⟨#[]⟩ : ByteArray), .bool false]) ?_ 0 _ rfl; (with_reducible repeat (first | refine blk_drewN ?_ _ | refine blk_drew ?_ | refine blk_alloc ?_ _)); refine blk_far ?_ NB175_174.out _; (with_reducible repeat (first | refine blk_drewN ?_ _ | refine blk_drew ?_ | refine blk_alloc ?_ _)); refine blk_far ?_ NB175_174.out _; (with_reducible repeat (first | refine blk_drewN ?_ _ | refine blk_drew ?_ | refine blk_alloc ?_ _)); exact BK175.out⟩, ⟨by repeat (first | (with_reducible first | exact HB.out | apply below_alloc | apply pw_below_drewN | apply below_drew1 | refine below_set ?_ GE168.out | refine below_set ?_ GE174.out | refine below_set ?_ GE175.out) | exact HB.out)⟩⟩
              · rw [if_neg c53] at H
                have c53b0 : decide (1 ≤ (Go.bits .and .i64 (wrap64 (a1)) 255)) = false := decide_eq_false c53
                clear c53
                have H' := Aside0.mk H
                clear H
                have hnb57 := NB168_174.out
                have hnc57 := NB174_168.out
                have hnb58 := NB168_175.out
                have hnc58 := NB175_168.out
                have hcz59_0 : w29.cell? ⟨gb168, 0, none⟩ = some (.int .u32 ((Int.tmod a0 3) % 4294967296)) := (blk_cell BK168.out 0).trans rfl
                have hcz59_1 : w29.cell? ⟨gb168, 1, none⟩ = some (.int .i64 (wrap64 (a1))) := (blk_cell BK168.out 1).trans rfl
                have hfz59_0 := blk_frozen BK168.out 0
                have hfz59_1 := blk_frozen BK168.out 1
                go_wp2
                go_meet
                case rel => exact ⟨_, (false), (by first | rfl | (simp; done) | (simp [*]; done)), H', ⟨by have := HJ4.out; first | omega | exact Nat.le_refl _⟩, ⟨by (with_reducible repeat (first | refine blk_drewN ?_ _ | refine blk_drew ?_ | refine blk_alloc ?_ _)); refine blk_far ?_ NB168_175.out _; (with_reducible repeat (first | refine blk_drewN ?_ _ | refine blk_drew ?_ | refine blk_alloc ?_ _)); refine blk_far ?_ NB168_175.out _; (with_reducible repeat (first | refine blk_drewN ?_ _ | refine blk_drew ?_ | refine blk_alloc ?_ _)); refine blk_far ?_ NB168_174.out _; (with_reducible repeat (first | refine blk_drewN ?_ _ | refine blk_drew ?_ | refine blk_alloc ?_ _)); refine blk_far ?_ NB168_174.out _; (with_reducible repeat (first | refine blk_drewN ?_ _ | refine blk_drew ?_ | refine blk_alloc ?_ _)); exact BK168.out⟩, ⟨by (with_reducible repeat (first | refine blk_drewN ?_ _ | refine blk_drew ?_ | refine blk_alloc ?_ _)); refine blk_far ?_ NB174_175.out _; (with_reducible repeat (first | refine blk_drewN ?_ _ | refine blk_drew ?_ | refine blk_alloc ?_ _)); refine blk_far ?_ NB174_175.out _; (with_reducible repeat (first | refine blk_drewN ?_ _ | refine blk_drew ?_ | refine blk_alloc ?_ _)); refine blk_put (cs := #[.int .u32 t170, .int .i64 0]) ?_ 1 _ rfl; (with_reducible repeat (first | refine blk_drewN ?_ _ | refine blk_drew ?_ | refine blk_alloc ?_ _)); refine blk_put (cs := #[.int .u32 0, .int .i64 0]) ?_ 0 _ rfl; (with_reducible repeat (first | refine blk_drewN ?_ _ | refine blk_drew ?_ | refine blk_alloc ?_ _)); exact BK174.out⟩, ⟨by (with_reducible repeat (first | refine blk_drewN ?_ _ | refine blk_drew ?_ | refine blk_alloc ?_ _)); refine blk_put (cs := #[.string t172, .bool false]) ?_ 1 _ rfl; (with_reducible repeat (first | refine blk_drewN ?_ _ | refine blk_drew ?_ | refine blk_alloc ?_ _)); refine blk_put (cs := #[.string (⟨#[]⟩ : ByteArray), .bool false]) ?_ 0 _ rfl; (with_reducible repeat (first | refine blk_drewN ?_ _ | refine blk_drew ?_ | refine blk_alloc ?_ _)); refine blk_far ?_ NB175_174.out _; (with_reducible repeat (first | refine blk_drewN ?_ _ | refine blk_drew ?_ | refine blk_alloc ?_ _)); refine blk_far ?_ NB175_174.out _; (with_reducible repeat (first | refine blk_drewN ?_ _ | refine blk_drew ?_ | refine blk_alloc ?_ _)); exact BK175.out⟩, ⟨by repeat (first | (with_reducible first | exact HB.out | apply below_alloc | apply pw_below_drewN | apply below_drew1 | refine below_set ?_ GE168.out | refine below_set ?_ GE174.out | refine below_set ?_ GE175.out) | exact HB.out)⟩⟩
            · rw [if_neg c52] at H
              have c52b0 : decide (0 < ((Int.tmod a0 3) % 4294967296)) = false := decide_eq_false c52
              clear c52
              have H' := Aside0.mk H
              clear H
              have hnb60 := NB168_174.out
              have hnc60 := NB174_168.out
              have hnb61 := NB168_175.out
              have hnc61 := NB175_168.out
              have hcz62_0 : w29.cell? ⟨gb168, 0, none⟩ = some (.int .u32 ((Int.tmod a0 3) % 4294967296)) := (blk_cell BK168.out 0).trans rfl
              have hcz62_1 : w29.cell? ⟨gb168, 1, none⟩ = some (.int .i64 (wrap64 (a1))) := (blk_cell BK168.out 1).trans rfl
              have hfz62_0 := blk_frozen BK168.out 0
              have hfz62_1 := blk_frozen BK168.out 1
              go_wp2
              go_meet
              case rel => exact ⟨_, (false), (by first | rfl | (simp; done) | (simp [*]; done)), H', ⟨by have := HJ4.out; first | omega | exact Nat.le_refl _⟩, ⟨by (with_reducible repeat (first | refine blk_drewN ?_ _ | refine blk_drew ?_ | refine blk_alloc ?_ _)); refine blk_far ?_ NB168_175.out _; (with_reducible repeat (first | refine blk_drewN ?_ _ | refine blk_drew ?_ | refine blk_alloc ?_ _)); refine blk_far ?_ NB168_175.out _; (with_reducible repeat (first | refine blk_drewN ?_ _ | refine blk_drew ?_ | refine blk_alloc ?_ _)); refine blk_far ?_ NB168_174.out _; (with_reducible repeat (first | refine blk_drewN ?_ _ | refine blk_drew ?_ | refine blk_alloc ?_ _)); refine blk_far ?_ NB168_174.out _; (with_reducible repeat (first | refine blk_drewN ?_ _ | refine blk_drew ?_ | refine blk_alloc ?_ _)); exact BK168.out⟩, ⟨by (with_reducible repeat (first | refine blk_drewN ?_ _ | refine blk_drew ?_ | refine blk_alloc ?_ _)); refine blk_far ?_ NB174_175.out _; (with_reducible repeat (first | refine blk_drewN ?_ _ | refine blk_drew ?_ | refine blk_alloc ?_ _)); refine blk_far ?_ NB174_175.out _; (with_reducible repeat (first | refine blk_drewN ?_ _ | refine blk_drew ?_ | refine blk_alloc ?_ _)); refine blk_put (cs := #[.int .u32 t170, .int .i64 0]) ?_ 1 _ rfl; (with_reducible repeat (first | refine blk_drewN ?_ _ | refine blk_drew ?_ | refine blk_alloc ?_ _)); refine blk_put (cs := #[.int .u32 0, .int .i64 0]) ?_ 0 _ rfl; (with_reducible repeat (first | refine blk_drewN ?_ _ | refine blk_drew ?_ | refine blk_alloc ?_ _)); exact BK174.out⟩, ⟨by (with_reducible repeat (first | refine blk_drewN ?_ _ | refine blk_drew ?_ | refine blk_alloc ?_ _)); refine blk_put (cs := #[.string t172, .bool false]) ?_ 1 _ rfl; (with_reducible repeat (first | refine blk_drewN ?_ _ | refine blk_drew ?_ | refine blk_alloc ?_ _)); refine blk_put (cs := #[.string (⟨#[]⟩ : ByteArray), .bool false]) ?_ 0 _ rfl; (with_reducible repeat (first | refine blk_drewN ?_ _ | refine blk_drew ?_ | refine blk_alloc ?_ _)); refine blk_far ?_ NB175_174.out _; (with_reducible repeat (first | refine blk_drewN ?_ _ | refine blk_drew ?_ | refine blk_alloc ?_ _)); refine blk_far ?_ NB175_174.out _; (with_reducible repeat (first | refine blk_drewN ?_ _ | refine blk_drew ?_ | refine blk_alloc ?_ _)); exact BK175.out⟩, ⟨by repeat (first | (with_reducible first | exact HB.out | apply below_alloc | apply pw_below_drewN | apply below_drew1 | refine below_set ?_ GE168.out | refine below_set ?_ GE174.out | refine below_set ?_ GE175.out) | exact HB.out)⟩⟩
        case rest =>
          clear HC24
          try clear c1
          try clear c2
          try clear p2
          try clear c3
          try clear c4
          try clear c5
          try clear c6
          try clear p6
          try clear c8
          try clear c9
          try clear c9b0
          try clear c9b1
          try clear c10
          try clear c10b0
          try clear c10b1
          try clear c12
          try clear c12b0
          try clear c13
          try clear c13b0
          try clear c17
          try clear c17b0
          try clear c18
          try clear c18b0
          try clear c20
          try clear c30
          try clear c31
          try clear c33
          try clear c36
          try clear c36b0
          try clear c36b1
          try clear c37
          try clear c37b0
          try clear c37b1
          try clear c38
          try clear c39
          try clear c41
          try clear c41b0
          try clear c42
          try clear c42b0
          try clear c43
          try clear c44
          try clear c46
          try clear c47
          try clear c49
          try clear c50
          try clear c52
          try clear c52b0
          try clear c53
          try clear c53b0
          try clear c54
          try clear c55
          try clear c57
          try clear c58
          try clear c60
          try clear c61
          try clear hcz11_0
          try clear hcz11_1
          try clear hcz14_0
          try clear hcz14_1
          try clear hcz15_0
          try clear hcz15_1
          try clear hcz16_0
          try clear hcz16_1
          try clear hcz19_0
          try clear hcz19_1
          try clear hcz20_0
          try clear hcz20_1
          try clear hcz21_0
          try clear hcz21_1
          try clear hcz25_0
          try clear hcz25_1
          try clear hcz32_0
          try clear hcz32_1
          try clear hcz34_0
          try clear hcz34_1
          try clear hcz35_0
          try clear hcz35_1
          try clear hcz40_0
          try clear hcz40_1
          try clear hcz45_0
          try clear hcz45_1
          try clear hcz48_0
          try clear hcz48_1
          try clear hcz51_0
          try clear hcz51_1
          try clear hcz56_0
          try clear hcz56_1
          try clear hcz59_0
          try clear hcz59_1
          try clear hcz62_0
          try clear hcz62_1
          try clear hcz8_0
          try clear hcz8_1
          try clear hfz11_0
          try clear hfz11_1
          try clear hfz14_0
          try clear hfz14_1
          try clear hfz15_0
          try clear hfz15_1
          try clear hfz16_0
          try clear hfz16_1
          try clear hfz19_0
          try clear hfz19_1
          try clear hfz20_0
          try clear hfz20_1
          try clear hfz21_0
          try clear hfz21_1
          try clear hfz25_0
          try clear hfz25_1
          try clear hfz32_0
          try clear hfz32_1
          try clear hfz34_0
          try clear hfz34_1
          try clear hfz35_0
          try clear hfz35_1
          try clear hfz40_0
          try clear hfz40_1
          try clear hfz45_0
          try clear hfz45_1
          try clear hfz48_0
          try clear hfz48_1
          try clear hfz51_0
          try clear hfz51_1
          try clear hfz56_0
          try clear hfz56_1
          try clear hfz59_0
          try clear hfz59_1
          try clear hfz62_0
          try clear hfz62_1
          try clear hfz8_0
          try clear hfz8_1
          try clear p2
          try clear p6
          obtain ⟨kq, x11_23, rfl, HA, HJ23, BK168, BK174, BK175, HB⟩ := hcut
          cases kq with
          | zero => exact absurd HA.out (by simp [comitialaw06_BallotBounds.j1])
          | succ kj23 =>
            have H := HA.out
            clear HA
            simp only [comitialaw06_BallotBounds.j1] at H
            have H1 : ((ballot_Right.f ((Int.tmod a0 3) % 4294967296) (wrap64 (a1))).bind fun t176 => (if (t176 == x7_4) = true then (if (t173 == (!x11_23)) = true then (if t173 = true then (some true) else (if t170 = ((Int.tmod a0 3) % 4294967296) then (some (t171 == (Go.bits .and .i64 (wrap64 (a1)) 255))) else (some false))) else (some false)) else (some false))) = some r := by first | (with_reducible exact H) | (rw [if_pos rfl] at H; exact H) | (rw [if_pos trivial] at H; exact H) | (rw [if_neg not_false] at H; exact H)
            clear H
            have H := H1
            clear H1
            replace H := Option.bind_eq_some_iff.mp H
            obtain ⟨t176, A630, H⟩ := H
            replace H : (if (t176 == x7_4) = true then (if (t173 == (!x11_23)) = true then (if t173 = true then (some true) else (if t170 = ((Int.tmod a0 3) % 4294967296) then (some (t171 == (Go.bits .and .i64 (wrap64 (a1)) 255))) else (some false))) else (some false)) else (some false)) = some r := H
            have A63 := Aside0.mk A630
            clear A630
            by_cases c64 : (t176 == x7_4) = true
            · rw [if_pos c64] at H
              have c64b0 : (t176 == x7_4) = true := c64
              (try (have c64b1 : decide (t176 = x7_4) = true := by simpa using c64))
              (try (have c64b2 : (t176 == x7_4) = true := by simpa using c64))
              clear c64
              by_cases c65 : (t173 == (!x11_23)) = true
              · rw [if_pos c65] at H
                have c65b0 : (t173 == (!x11_23)) = true := c65
                (try (have c65b1 : decide (t173 = (!x11_23)) = true := by simpa using c65))
                (try (have c65b2 : (t173 == (!x11_23)) = true := by simpa using c65))
                clear c65
                by_cases c66 : t173 = true
                · subst c66
                  have H1 : (some true) = some r := by rw [if_pos rfl] at H; exact H
                  clear H
                  have H := H1
                  clear H1
                  obtain rfl := Option.some.inj H
                  have hnb67 := NB168_174.out
                  have hnc67 := NB174_168.out
                  have hnb68 := NB168_175.out
                  have hnc68 := NB175_168.out
                  have hcz69_0 : wc.cell? ⟨gb168, 0, none⟩ = some (.int .u32 ((Int.tmod a0 3) % 4294967296)) := (blk_cell BK168.out 0).trans rfl
                  have hcz69_1 : wc.cell? ⟨gb168, 1, none⟩ = some (.int .i64 (wrap64 (a1))) := (blk_cell BK168.out 1).trans rfl
                  have hfz69_0 := blk_frozen BK168.out 0
                  have hfz69_1 := blk_frozen BK168.out 1
                  go_wp2_with (first | (go_at_call 15; (with_reducible refine (ballot_Right.calls ((Int.tmod a0 3) % 4294967296) (wrap64 (a1)) t176 _ A63.out).mono ?_); rintro e w70 ⟨rfl, hb⟩; have n0_ := Aside0.mk (blk_below (g := gb168) (o := .cells #[.int .u32 ((Int.tmod a0 3) % 4294967296), .int .i64 (wrap64 (a1))] 24 (0, 0)) (by (with_reducible repeat (first | refine blk_drewN ?_ _ | refine blk_drew ?_ | refine blk_alloc ?_ _)); exact BK168.out) hb); have n1_ := Aside0.mk (blk_below (g := gb174) (o := .cells #[.int .u32 t170, .int .i64 t171] 24 (0, 0)) (by (with_reducible repeat (first | refine blk_drewN ?_ _ | refine blk_drew ?_ | refine blk_alloc ?_ _)); exact BK174.out) hb); have n2_ := Aside0.mk (blk_below (g := gb175) (o := .cells #[.string t172, .bool true] 26 (0, 0)) (by (with_reducible repeat (first | refine blk_drewN ?_ _ | refine blk_drew ?_ | refine blk_alloc ?_ _)); exact BK175.out) hb); have n3_ := Aside0.mk (below_step (by repeat (first | (with_reducible first | exact HB.out | apply below_alloc | apply pw_below_drewN | apply below_drew1 | refine below_set ?_ GE168.out | refine below_set ?_ GE174.out | refine below_set ?_ GE175.out) | exact HB.out)) hb); clear BK168; clear BK174; clear BK175; clear HB; have BK168 := n0_; have BK174 := n1_; have BK175 := n2_; have HB := n3_; clear n0_ n1_ n2_ n3_; (try clear hb); (try clear hb2); (try clear hk); (try clear hi); have hnb71 := NB175_174.out; have hnc71 := NB174_175.out; have hcz72_0 : w70.cell? ⟨gb175, 0, none⟩ = some (.string t172) := (blk_cell BK175.out 0).trans rfl; have hcz72_1 : w70.cell? ⟨gb175, 1, none⟩ = some (.bool true) := (blk_cell BK175.out 1).trans rfl; have hfz72_0 := blk_frozen BK175.out 0; have hfz72_1 := blk_frozen BK175.out 1))
                  go_ret
                  exact ⟨by first | rfl | (simp [errW_none, errW_some] <;> rfl) | (simp [*, errW_none, errW_some] <;> rfl), by repeat (first | (with_reducible first | exact HB.out | apply below_alloc | apply pw_below_drewN | apply below_drew1 | refine below_set ?_ GE168.out | refine below_set ?_ GE174.out | refine below_set ?_ GE175.out) | exact HB.out)⟩
                · replace c66 := Bool.eq_false_iff.mpr c66
                  subst c66
                  have H1 : (if t170 = ((Int.tmod a0 3) % 4294967296) then (some (t171 == (Go.bits .and .i64 (wrap64 (a1)) 255))) else (some false)) = some r := by rw [if_neg (show ¬ (false = true) by decide)] at H; exact H
                  clear H
                  have H := H1
                  clear H1
                  by_cases c73 : t170 = ((Int.tmod a0 3) % 4294967296)
                  · rw [if_pos c73] at H
                    have c73b0 : (t170 == ((Int.tmod a0 3) % 4294967296)) = true := beq_iff_eq.mpr c73
                    have c73b1 : (t170 != ((Int.tmod a0 3) % 4294967296)) = false := bne_eq_false_iff_eq.mpr c73
                    clear c73
                    obtain rfl := Option.some.inj H
                    have hnb74 := NB168_174.out
                    have hnc74 := NB174_168.out
                    have hnb75 := NB168_175.out
                    have hnc75 := NB175_168.out
                    have hcz76_0 : wc.cell? ⟨gb168, 0, none⟩ = some (.int .u32 ((Int.tmod a0 3) % 4294967296)) := (blk_cell BK168.out 0).trans rfl
                    have hcz76_1 : wc.cell? ⟨gb168, 1, none⟩ = some (.int .i64 (wrap64 (a1))) := (blk_cell BK168.out 1).trans rfl
                    have hfz76_0 := blk_frozen BK168.out 0
                    have hfz76_1 := blk_frozen BK168.out 1
                    go_wp2_with (first | (go_at_call 15; (with_reducible refine (ballot_Right.calls ((Int.tmod a0 3) % 4294967296) (wrap64 (a1)) t176 _ A63.out).mono ?_); rintro e w77 ⟨rfl, hb⟩; have n0_ := Aside0.mk (blk_below (g := gb168) (o := .cells #[.int .u32 ((Int.tmod a0 3) % 4294967296), .int .i64 (wrap64 (a1))] 24 (0, 0)) (by (with_reducible repeat (first | refine blk_drewN ?_ _ | refine blk_drew ?_ | refine blk_alloc ?_ _)); exact BK168.out) hb); have n1_ := Aside0.mk (blk_below (g := gb174) (o := .cells #[.int .u32 t170, .int .i64 t171] 24 (0, 0)) (by (with_reducible repeat (first | refine blk_drewN ?_ _ | refine blk_drew ?_ | refine blk_alloc ?_ _)); exact BK174.out) hb); have n2_ := Aside0.mk (blk_below (g := gb175) (o := .cells #[.string t172, .bool false] 26 (0, 0)) (by (with_reducible repeat (first | refine blk_drewN ?_ _ | refine blk_drew ?_ | refine blk_alloc ?_ _)); exact BK175.out) hb); have n3_ := Aside0.mk (below_step (by repeat (first | (with_reducible first | exact HB.out | apply below_alloc | apply pw_below_drewN | apply below_drew1 | refine below_set ?_ GE168.out | refine below_set ?_ GE174.out | refine below_set ?_ GE175.out) | exact HB.out)) hb); clear BK168; clear BK174; clear BK175; clear HB; have BK168 := n0_; have BK174 := n1_; have BK175 := n2_; have HB := n3_; clear n0_ n1_ n2_ n3_; (try clear hb); (try clear hb2); (try clear hk); (try clear hi); have hnb78 := NB175_174.out; have hnc78 := NB174_175.out; have hcz79_0 : w77.cell? ⟨gb175, 0, none⟩ = some (.string t172) := (blk_cell BK175.out 0).trans rfl; have hcz79_1 : w77.cell? ⟨gb175, 1, none⟩ = some (.bool false) := (blk_cell BK175.out 1).trans rfl; have hfz79_0 := blk_frozen BK175.out 0; have hfz79_1 := blk_frozen BK175.out 1; have hcz80_0 : w77.cell? ⟨gb174, 0, none⟩ = some (.int .u32 t170) := (blk_cell BK174.out 0).trans rfl; have hcz80_1 : w77.cell? ⟨gb174, 1, none⟩ = some (.int .i64 t171) := (blk_cell BK174.out 1).trans rfl; have hfz80_0 := blk_frozen BK174.out 0; have hfz80_1 := blk_frozen BK174.out 1; have hcz81_0 : w77.cell? ⟨gb168, 0, none⟩ = some (.int .u32 ((Int.tmod a0 3) % 4294967296)) := (blk_cell BK168.out 0).trans rfl; have hcz81_1 : w77.cell? ⟨gb168, 1, none⟩ = some (.int .i64 (wrap64 (a1))) := (blk_cell BK168.out 1).trans rfl; have hfz81_0 := blk_frozen BK168.out 0; have hfz81_1 := blk_frozen BK168.out 1))
                    go_ret
                    exact ⟨by first | rfl | (simp [errW_none, errW_some] <;> rfl) | (simp [*, errW_none, errW_some] <;> rfl), by repeat (first | (with_reducible first | exact HB.out | apply below_alloc | apply pw_below_drewN | apply below_drew1 | refine below_set ?_ GE168.out | refine below_set ?_ GE174.out | refine below_set ?_ GE175.out) | exact HB.out)⟩
                  · rw [if_neg c73] at H
                    have c73b0 : (t170 == ((Int.tmod a0 3) % 4294967296)) = false := beq_eq_false_iff_ne.mpr c73
                    have c73b1 : (t170 != ((Int.tmod a0 3) % 4294967296)) = true := bne_iff_ne.mpr c73
                    obtain rfl := Option.some.inj H
                    have hnb82 := NB168_174.out
                    have hnc82 := NB174_168.out
                    have hnb83 := NB168_175.out
                    have hnc83 := NB175_168.out
                    have hcz84_0 : wc.cell? ⟨gb168, 0, none⟩ = some (.int .u32 ((Int.tmod a0 3) % 4294967296)) := (blk_cell BK168.out 0).trans rfl
                    have hcz84_1 : wc.cell? ⟨gb168, 1, none⟩ = some (.int .i64 (wrap64 (a1))) := (blk_cell BK168.out 1).trans rfl
                    have hfz84_0 := blk_frozen BK168.out 0
                    have hfz84_1 := blk_frozen BK168.out 1
                    go_wp2_with (first | (go_at_call 15; (with_reducible refine (ballot_Right.calls ((Int.tmod a0 3) % 4294967296) (wrap64 (a1)) t176 _ A63.out).mono ?_); rintro e w85 ⟨rfl, hb⟩; have n0_ := Aside0.mk (blk_below (g := gb168) (o := .cells #[.int .u32 ((Int.tmod a0 3) % 4294967296), .int .i64 (wrap64 (a1))] 24 (0, 0)) (by (with_reducible repeat (first | refine blk_drewN ?_ _ | refine blk_drew ?_ | refine blk_alloc ?_ _)); exact BK168.out) hb); have n1_ := Aside0.mk (blk_below (g := gb174) (o := .cells #[.int .u32 t170, .int .i64 t171] 24 (0, 0)) (by (with_reducible repeat (first | refine blk_drewN ?_ _ | refine blk_drew ?_ | refine blk_alloc ?_ _)); exact BK174.out) hb); have n2_ := Aside0.mk (blk_below (g := gb175) (o := .cells #[.string t172, .bool false] 26 (0, 0)) (by (with_reducible repeat (first | refine blk_drewN ?_ _ | refine blk_drew ?_ | refine blk_alloc ?_ _)); exact BK175.out) hb); have n3_ := Aside0.mk (below_step (by repeat (first | (with_reducible first | exact HB.out | apply below_alloc | apply pw_below_drewN | apply below_drew1 | refine below_set ?_ GE168.out | refine below_set ?_ GE174.out | refine below_set ?_ GE175.out) | exact HB.out)) hb); clear BK168; clear BK174; clear BK175; clear HB; have BK168 := n0_; have BK174 := n1_; have BK175 := n2_; have HB := n3_; clear n0_ n1_ n2_ n3_; (try clear hb); (try clear hb2); (try clear hk); (try clear hi); have hnb86 := NB175_174.out; have hnc86 := NB174_175.out; have hcz87_0 : w85.cell? ⟨gb175, 0, none⟩ = some (.string t172) := (blk_cell BK175.out 0).trans rfl; have hcz87_1 : w85.cell? ⟨gb175, 1, none⟩ = some (.bool false) := (blk_cell BK175.out 1).trans rfl; have hfz87_0 := blk_frozen BK175.out 0; have hfz87_1 := blk_frozen BK175.out 1; have hcz88_0 : w85.cell? ⟨gb174, 0, none⟩ = some (.int .u32 t170) := (blk_cell BK174.out 0).trans rfl; have hcz88_1 : w85.cell? ⟨gb174, 1, none⟩ = some (.int .i64 t171) := (blk_cell BK174.out 1).trans rfl; have hfz88_0 := blk_frozen BK174.out 0; have hfz88_1 := blk_frozen BK174.out 1; have hcz89_0 : w85.cell? ⟨gb168, 0, none⟩ = some (.int .u32 ((Int.tmod a0 3) % 4294967296)) := (blk_cell BK168.out 0).trans rfl; have hcz89_1 : w85.cell? ⟨gb168, 1, none⟩ = some (.int .i64 (wrap64 (a1))) := (blk_cell BK168.out 1).trans rfl; have hfz89_0 := blk_frozen BK168.out 0; have hfz89_1 := blk_frozen BK168.out 1))
                    go_ret
                    exact ⟨by first | rfl | (simp [errW_none, errW_some] <;> rfl) | (simp [*, errW_none, errW_some] <;> rfl), by repeat (first | (with_reducible first | exact HB.out | apply below_alloc | apply pw_below_drewN | apply below_drew1 | refine below_set ?_ GE168.out | refine below_set ?_ GE174.out | refine below_set ?_ GE175.out) | exact HB.out)⟩
              · rw [if_neg c65] at H
                have c65b0 : (t173 == (!x11_23)) = false := by simpa using c65
                (try (have c65b1 : decide (t173 = (!x11_23)) = false := by simpa using c65))
                (try (have c65b2 : (t173 == (!x11_23)) = false := by simpa using c65))
                (try (have c65b3 : ¬ (t173 = (!x11_23)) := by simpa using c65))
                clear c65
                obtain rfl := Option.some.inj H
                have hnb90 := NB168_174.out
                have hnc90 := NB174_168.out
                have hnb91 := NB168_175.out
                have hnc91 := NB175_168.out
                have hcz92_0 : wc.cell? ⟨gb168, 0, none⟩ = some (.int .u32 ((Int.tmod a0 3) % 4294967296)) := (blk_cell BK168.out 0).trans rfl
                have hcz92_1 : wc.cell? ⟨gb168, 1, none⟩ = some (.int .i64 (wrap64 (a1))) := (blk_cell BK168.out 1).trans rfl
                have hfz92_0 := blk_frozen BK168.out 0
                have hfz92_1 := blk_frozen BK168.out 1
                go_wp2_with (first | (go_at_call 15; (with_reducible refine (ballot_Right.calls ((Int.tmod a0 3) % 4294967296) (wrap64 (a1)) t176 _ A63.out).mono ?_); rintro e w93 ⟨rfl, hb⟩; have n0_ := Aside0.mk (blk_below (g := gb168) (o := .cells #[.int .u32 ((Int.tmod a0 3) % 4294967296), .int .i64 (wrap64 (a1))] 24 (0, 0)) (by (with_reducible repeat (first | refine blk_drewN ?_ _ | refine blk_drew ?_ | refine blk_alloc ?_ _)); exact BK168.out) hb); have n1_ := Aside0.mk (blk_below (g := gb174) (o := .cells #[.int .u32 t170, .int .i64 t171] 24 (0, 0)) (by (with_reducible repeat (first | refine blk_drewN ?_ _ | refine blk_drew ?_ | refine blk_alloc ?_ _)); exact BK174.out) hb); have n2_ := Aside0.mk (blk_below (g := gb175) (o := .cells #[.string t172, .bool t173] 26 (0, 0)) (by (with_reducible repeat (first | refine blk_drewN ?_ _ | refine blk_drew ?_ | refine blk_alloc ?_ _)); exact BK175.out) hb); have n3_ := Aside0.mk (below_step (by repeat (first | (with_reducible first | exact HB.out | apply below_alloc | apply pw_below_drewN | apply below_drew1 | refine below_set ?_ GE168.out | refine below_set ?_ GE174.out | refine below_set ?_ GE175.out) | exact HB.out)) hb); clear BK168; clear BK174; clear BK175; clear HB; have BK168 := n0_; have BK174 := n1_; have BK175 := n2_; have HB := n3_; clear n0_ n1_ n2_ n3_; (try clear hb); (try clear hb2); (try clear hk); (try clear hi); have hnb94 := NB175_174.out; have hnc94 := NB174_175.out; have hcz95_0 : w93.cell? ⟨gb175, 0, none⟩ = some (.string t172) := (blk_cell BK175.out 0).trans rfl; have hcz95_1 : w93.cell? ⟨gb175, 1, none⟩ = some (.bool t173) := (blk_cell BK175.out 1).trans rfl; have hfz95_0 := blk_frozen BK175.out 0; have hfz95_1 := blk_frozen BK175.out 1))
                go_ret
                exact ⟨by first | rfl | (simp [errW_none, errW_some] <;> rfl) | (simp [*, errW_none, errW_some] <;> rfl), by repeat (first | (with_reducible first | exact HB.out | apply below_alloc | apply pw_below_drewN | apply below_drew1 | refine below_set ?_ GE168.out | refine below_set ?_ GE174.out | refine below_set ?_ GE175.out) | exact HB.out)⟩
            · rw [if_neg c64] at H
              have c64b0 : (t176 == x7_4) = false := by simpa using c64
              (try (have c64b1 : decide (t176 = x7_4) = false := by simpa using c64))
              (try (have c64b2 : (t176 == x7_4) = false := by simpa using c64))
              (try (have c64b3 : ¬ (t176 = x7_4) := by simpa using c64))
              clear c64
              obtain rfl := Option.some.inj H
              have hnb96 := NB168_174.out
              have hnc96 := NB174_168.out
              have hnb97 := NB168_175.out
              have hnc97 := NB175_168.out
              have hcz98_0 : wc.cell? ⟨gb168, 0, none⟩ = some (.int .u32 ((Int.tmod a0 3) % 4294967296)) := (blk_cell BK168.out 0).trans rfl
              have hcz98_1 : wc.cell? ⟨gb168, 1, none⟩ = some (.int .i64 (wrap64 (a1))) := (blk_cell BK168.out 1).trans rfl
              have hfz98_0 := blk_frozen BK168.out 0
              have hfz98_1 := blk_frozen BK168.out 1
              go_wp2_with (first | (go_at_call 15; (with_reducible refine (ballot_Right.calls ((Int.tmod a0 3) % 4294967296) (wrap64 (a1)) t176 _ A63.out).mono ?_); rintro e w99 ⟨rfl, hb⟩; have n0_ := Aside0.mk (blk_below (g := gb168) (o := .cells #[.int .u32 ((Int.tmod a0 3) % 4294967296), .int .i64 (wrap64 (a1))] 24 (0, 0)) (by (with_reducible repeat (first | refine blk_drewN ?_ _ | refine blk_drew ?_ | refine blk_alloc ?_ _)); exact BK168.out) hb); have n1_ := Aside0.mk (blk_below (g := gb174) (o := .cells #[.int .u32 t170, .int .i64 t171] 24 (0, 0)) (by (with_reducible repeat (first | refine blk_drewN ?_ _ | refine blk_drew ?_ | refine blk_alloc ?_ _)); exact BK174.out) hb); have n2_ := Aside0.mk (blk_below (g := gb175) (o := .cells #[.string t172, .bool t173] 26 (0, 0)) (by (with_reducible repeat (first | refine blk_drewN ?_ _ | refine blk_drew ?_ | refine blk_alloc ?_ _)); exact BK175.out) hb); have n3_ := Aside0.mk (below_step (by repeat (first | (with_reducible first | exact HB.out | apply below_alloc | apply pw_below_drewN | apply below_drew1 | refine below_set ?_ GE168.out | refine below_set ?_ GE174.out | refine below_set ?_ GE175.out) | exact HB.out)) hb); clear BK168; clear BK174; clear BK175; clear HB; have BK168 := n0_; have BK174 := n1_; have BK175 := n2_; have HB := n3_; clear n0_ n1_ n2_ n3_; (try clear hb); (try clear hb2); (try clear hk); (try clear hi)))
              go_ret
              exact ⟨by first | rfl | (simp [errW_none, errW_some] <;> rfl) | (simp [*, errW_none, errW_some] <;> rfl), by repeat (first | (with_reducible first | exact HB.out | apply below_alloc | apply pw_below_drewN | apply below_drew1 | refine below_set ?_ GE168.out | refine below_set ?_ GE174.out | refine below_set ?_ GE175.out) | exact HB.out)⟩
  · replace c4 := Bool.eq_false_iff.mpr c4
    subst c4
    have H1 : (some false) = some r := by rw [if_neg (show ¬ (false = true) by decide)] at H; exact H
    clear H
    have H := H1
    clear H1
    obtain rfl := Option.some.inj H
    go_enter Tryd.func8, Tryd.ntmps8
    go_wp2_with (first | ((with_reducible refine gate_callee (f := 9) rfl ?_); refine goesL_ (some 12) rfl rfl Tryd.func9 (by kernel_rfl) rfl #[] rfl (by (try simp only [List.map_toArray, List.map_cons, List.map_nil]); first | done | rfl | (simp only [List.length_drop, List.length_take]; rfl)) ?_; (with_reducible refine (comitialaw06_examples.calls k  false _ ?side1 A3.out).mono ?_); (case side1 => first | (with_reducible exact HSC_.out) | exact Strconv.Tab.below HSC_.out (by repeat (first | (with_reducible first | exact HB.out | apply below_alloc | apply pw_below_drewN | apply below_drew1) | exact HB.out))); rintro e w100 ⟨rfl, hb⟩; refine ⟨_, rfl, ?_⟩; have n0_ := Aside0.mk (below_step (by repeat (first | (with_reducible first | exact HB.out | apply below_alloc | apply pw_below_drewN | apply below_drew1) | exact HB.out)) hb); clear HB; have HB := n0_; clear n0_; (try clear hb); (try clear hb2); (try clear hk); (try clear hi)))
    go_ret
    exact ⟨by first | rfl | (simp [errW_none, errW_some] <;> rfl) | (simp [*, errW_none, errW_some] <;> rfl), by repeat (first | (with_reducible first | exact HB.out | apply below_alloc | apply pw_below_drewN | apply below_drew1) | exact HB.out)⟩

/-- THE ONE PURE STATEMENT of comitialaw06_BallotBounds. -/
def comitialaw06_BallotBounds.Pure : Prop := ∀ (a0 : Int) (a1 : Int), (Lit.int .u8 a0).wf = true → (Lit.int .i8 a1).wf = true → ∃ k, comitialaw06_BallotBounds.f k a0 a1 = some true

end Go.Proofs.YthjpnbjcldpklaaDoor.PBallotBounds
