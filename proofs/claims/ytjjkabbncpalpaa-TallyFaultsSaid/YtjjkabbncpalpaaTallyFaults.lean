/- Chapter 12: the faults, a new tally; that TallyFaults is true. Of any numbers. -/
import Derived.Test.YtjjkabbncpalpaaNf
import Derived.Test.YtjjkabbncpalpaaNvLaw
namespace Go.Proofs.Ytjjkabbncpalpaa.Nv
open Go
def X0 : FuncId → List NV → NV → Prop := fun _ _ _ => False
abbrev E0 := EvF F X0
theorem examples_ev : evF F 2000 9 [] [] = some (.bool true, []) := by kernel_rfl
theorem f9 (m : Mem) : E0 9 [] m (.bool true) m := EvF.any (EvF.ev 2000 examples_ev) m
def faults (n : Int) : Int := if n = 3 then 1 else if n = 5 then 2 else if n = 7 then 3 else 0
theorem faults_3 : faults 3 = 1 := rfl
theorem faults_5 : faults 5 = 2 := rfl
theorem faults_7 : faults 7 = 3 := rfl
set_option maxRecDepth 4000 in
theorem f13 (n : Int) (m : Mem) : E0 13 [.int .i64 n] m (.int .i64 (faults n)) m := by
  refine EvF.by (nf := nf13) (args := [.int .i64 n]) rfl (of_decide_eq_true rfl) rfl ?_
  repeat' (first
    | refine WO.testT rfl rfl ?_
    | refine WO.testF rfl rfl ?_
    | (refine WO.test rfl rfl ?_ ?_ <;> intro hc <;> (try simp only [decide_eq_true_eq, decide_eq_false_iff_not, beq_iff_eq, beq_eq_false_iff_ne, bne_iff_ne, bne_eq_false_iff_eq, ne_eq, gt_iff_lt, ge_iff_le, Int.not_lt, Int.not_le, not_true_eq_false, not_false_eq_true] at hc) <;> (try omega))
    | refine WO.go rfl rfl ?_
    | refine WO.no rfl ?_
    | refine WO.nil ?_
    | refine WO.st rfl rfl ?_
    | refine WO.no' rfl ?_
    | (refine WO.fork rfl ?_ ?_ <;> intro hc <;> (fail_if_success (exfalso; cases hc; done)) <;> (try subst hc))
    | refine W.seq ?_
    | refine W.region ?_
    | refine W.skip ?_
    | refine W.condT rfl ?_
    | refine W.condF rfl ?_
    | (refine W.fork rfl ?_ ?_ <;> intro hc <;> (fail_if_success (exfalso; cases hc; done)) <;> (try subst hc))
    | refine W.ret ?_
    | refine W.block ?_
    | refine W.exit ?_
    | refine W.drawn ?_
    | refine WH.testT rfl rfl ?_
    | refine WH.testF rfl rfl ?_
    | (refine WH.test rfl rfl ?_ ?_ <;> intro hc <;> (try simp only [decide_eq_true_eq, decide_eq_false_iff_not, beq_iff_eq, beq_eq_false_iff_ne, bne_iff_ne, bne_eq_false_iff_eq, ne_eq, gt_iff_lt, ge_iff_le, Int.not_lt, Int.not_le, not_true_eq_false, not_false_eq_true] at hc) <;> (try omega))
    | refine WH.go rfl rfl rfl ?_
    | refine WH.no rfl ?_
    | (refine WH.fork rfl ?_ ?_ <;> intro hc <;> (fail_if_success (exfalso; cases hc; done)) <;> (try subst hc))
    | refine WH.nil ?_)
  all_goals refine ⟨.inr rfl, _, rfl, fin rfl ?_ rfl⟩
  all_goals simp only [NV.int.injEq, true_and]
  · unfold faults; split; omega; split; omega; split; omega; rfl
  · unfold faults; split; omega; split; omega; split; omega; rfl
  · rw [Int.tmod_eq_emod_of_nonneg (by omega)] at *; unfold faults; split; omega; split; omega; split; omega; rfl
  · rw [Int.tmod_eq_emod_of_nonneg (by omega)] at *
    have : n = 3 ∨ n = 5 ∨ n = 7 := by omega
    rcases this with rfl | rfl | rfl <;> rfl
def tally0 (n me : Int) : List NV := [.int .i64 n, .int .i64 me, .bool false, .bool false, .bool false, .int .u32 0, .slc 0 true [], .bool false, .bool false, .bool false, .int .u32 0, .slc 0 true [], .bool false, .bool false, .bool false, .int .u32 0, .slc 0 true [], .bool false, .bool false, .bool false, .int .u32 0, .slc 0 true [], .bool false, .bool false, .bool false, .int .u32 0, .slc 0 true [], .bool false, .bool false, .bool false, .int .u32 0, .slc 0 true [], .bool false, .bool false, .bool false, .int .u32 0, .slc 0 true [], .bool false, .bool false, .bool false, .int .u32 0, .slc 0 true []]
def okNew (n me : Int) : Prop := faults n ≠ 0 ∧ 1 ≤ me ∧ me ≤ n
set_option maxRecDepth 4000 in
theorem f11 (n me : Int) (bs : List NObj) (ts : List Bool) (m : Mem) :
    (okNew n me ∧ E0 11 [.int .i64 n, .int .i64 me] (⟨bs, ts⟩ :: m) (.tup [.ptr 0 bs.length 0, .int .i64 0]) (⟨bs ++ [.cells (tally0 n me)], ts⟩ :: m)) ∨ (¬ okNew n me ∧ E0 11 [.int .i64 n, .int .i64 me] (⟨bs, ts⟩ :: m) (.tup [.nilp, .int .i64 1]) (⟨bs, ts⟩ :: m)) := by
  by_cases h : okNew n me
  · refine .inl ⟨h, EvF.by (nf := nf11) (args := [.int .i64 n, .int .i64 me]) rfl (of_decide_eq_true rfl) rfl ?_⟩
    obtain ⟨h1, h2, h3⟩ := h
    repeat' (first
      | refine WO.testT rfl rfl ?_
      | refine WO.testF rfl rfl ?_
      | (refine WO.test rfl rfl ?_ ?_ <;> intro hc <;> (try simp only [decide_eq_true_eq, decide_eq_false_iff_not, beq_iff_eq, beq_eq_false_iff_ne, bne_iff_ne, bne_eq_false_iff_eq, ne_eq, gt_iff_lt, ge_iff_le, Int.not_lt, Int.not_le, not_true_eq_false, not_false_eq_true] at hc) <;> (try omega))
      | refine WO.go rfl rfl ?_
      | refine WO.no rfl ?_
      | refine WO.ask rfl rfl (f13 _ _) ?_
      | refine WO.ask' rfl rfl (f13 _ _) ?_
      | refine WH.ask rfl rfl rfl (f13 _ _) ?_
      | refine WO.nil ?_
      | refine WO.st rfl rfl ?_
      | refine WO.no' rfl ?_
      | (refine WO.fork rfl ?_ ?_ <;> intro hc <;> (fail_if_success (exfalso; cases hc; done)) <;> (try subst hc))
      | refine W.seq ?_
      | refine W.region ?_
      | refine W.skip ?_
      | refine W.condT rfl ?_
      | refine W.condF rfl ?_
      | (refine W.fork rfl ?_ ?_ <;> intro hc <;> (fail_if_success (exfalso; cases hc; done)) <;> (try subst hc))
      | refine W.ret ?_
      | refine W.block ?_
      | refine W.exit ?_
      | refine W.drawn ?_
      | refine WH.testT rfl rfl ?_
      | refine WH.testF rfl rfl ?_
      | (refine WH.test rfl rfl ?_ ?_ <;> intro hc <;> (try simp only [decide_eq_true_eq, decide_eq_false_iff_not, beq_iff_eq, beq_eq_false_iff_ne, bne_iff_ne, bne_eq_false_iff_eq, ne_eq, gt_iff_lt, ge_iff_le, Int.not_lt, Int.not_le, not_true_eq_false, not_false_eq_true] at hc) <;> (try omega))
      | refine WH.go rfl rfl rfl ?_
      | refine WH.no rfl ?_
      | (refine WH.fork rfl ?_ ?_ <;> intro hc <;> (fail_if_success (exfalso; cases hc; done)) <;> (try subst hc))
      | refine WH.nil ?_)
    all_goals first
      | (refine ⟨.inr rfl, _, rfl, fin rfl rfl ?_⟩; simp only [List.append_nil]; rfl)
  · refine .inr ⟨h, EvF.by (nf := nf11) (args := [.int .i64 n, .int .i64 me]) rfl (of_decide_eq_true rfl) rfl ?_⟩
    unfold okNew at h
    repeat' (first
      | refine WO.testT rfl rfl ?_
      | refine WO.testF rfl rfl ?_
      | (refine WO.test rfl rfl ?_ ?_ <;> intro hc <;> (try simp only [decide_eq_true_eq, decide_eq_false_iff_not, beq_iff_eq, beq_eq_false_iff_ne, bne_iff_ne, bne_eq_false_iff_eq, ne_eq, gt_iff_lt, ge_iff_le, Int.not_lt, Int.not_le, not_true_eq_false, not_false_eq_true] at hc) <;> (try omega))
      | refine WO.go rfl rfl ?_
      | refine WO.no rfl ?_
      | refine WO.ask rfl rfl (f13 _ _) ?_
      | refine WO.ask' rfl rfl (f13 _ _) ?_
      | refine WH.ask rfl rfl rfl (f13 _ _) ?_
      | refine WO.nil ?_
      | refine WO.st rfl rfl ?_
      | refine WO.no' rfl ?_
      | (refine WO.fork rfl ?_ ?_ <;> intro hc <;> (fail_if_success (exfalso; cases hc; done)) <;> (try subst hc))
      | refine W.seq ?_
      | refine W.region ?_
      | refine W.skip ?_
      | refine W.condT rfl ?_
      | refine W.condF rfl ?_
      | (refine W.fork rfl ?_ ?_ <;> intro hc <;> (fail_if_success (exfalso; cases hc; done)) <;> (try subst hc))
      | refine W.ret ?_
      | refine W.block ?_
      | refine W.exit ?_
      | refine W.drawn ?_
      | refine WH.testT rfl rfl ?_
      | refine WH.testF rfl rfl ?_
      | (refine WH.test rfl rfl ?_ ?_ <;> intro hc <;> (try simp only [decide_eq_true_eq, decide_eq_false_iff_not, beq_iff_eq, beq_eq_false_iff_ne, bne_iff_ne, bne_eq_false_iff_eq, ne_eq, gt_iff_lt, ge_iff_le, Int.not_lt, Int.not_le, not_true_eq_false, not_false_eq_true] at hc) <;> (try omega))
      | refine WH.go rfl rfl rfl ?_
      | refine WH.no rfl ?_
      | (refine WH.fork rfl ?_ ?_ <;> intro hc <;> (fail_if_success (exfalso; cases hc; done)) <;> (try subst hc))
      | refine WH.nil ?_)
    all_goals first
      | (refine ⟨.inr rfl, _, rfl, fin rfl rfl rfl⟩)
theorem f13z {n : Int} (h : faults n = 0) (m : Mem) : E0 13 [.int .i64 n] m (.int .i64 0) m := by
  have := f13 n m
  rwa [h] at this
theorem f13_3 (m : Mem) : E0 13 [.int .i64 3] m (.int .i64 1) m := f13 3 m
theorem f13_5 (m : Mem) : E0 13 [.int .i64 5] m (.int .i64 2) m := f13 5 m
theorem f13_7 (m : Mem) : E0 13 [.int .i64 7] m (.int .i64 3) m := f13 7 m
set_option maxRecDepth 4000 in
set_option maxHeartbeats 4000000 in
theorem f7a (n me : Int) (hn : n = 3 ∨ n = 5 ∨ n = 7) : E0 7 [.int .i64 n, .int .i64 me] [] (.bool true) [] := by
  refine EvF.by (nf := nf7) (args := [.int .i64 n, .int .i64 me]) rfl (of_decide_eq_true rfl) rfl ?_
  rcases f11 n me [] [] [] with ⟨⟨_, h1, h2⟩, hf⟩ | ⟨h, hf⟩
  · rcases hn with rfl | rfl | rfl
    all_goals
      repeat' (first
        | refine WO.testT rfl rfl ?_
        | refine WO.testF rfl rfl ?_
        | (refine WO.test rfl rfl ?_ ?_ <;> intro hc <;> (try simp only [decide_eq_true_eq, decide_eq_false_iff_not, beq_iff_eq, beq_eq_false_iff_ne, bne_iff_ne, bne_eq_false_iff_eq, ne_eq, gt_iff_lt, ge_iff_le, Int.not_lt, Int.not_le, not_true_eq_false, not_false_eq_true] at hc) <;> (try omega))
        | refine WO.go rfl rfl ?_
        | refine WO.no rfl ?_
        | refine WO.ask rfl rfl (f9 _) ?_
        | refine WO.ask' rfl rfl (f9 _) ?_
        | refine WH.ask rfl rfl rfl (f9 _) ?_
        | refine WO.ask rfl rfl (f13_3 _) ?_
        | refine WO.ask' rfl rfl (f13_3 _) ?_
        | refine WH.ask rfl rfl rfl (f13_3 _) ?_
        | refine WO.ask rfl rfl (f13_5 _) ?_
        | refine WO.ask' rfl rfl (f13_5 _) ?_
        | refine WH.ask rfl rfl rfl (f13_5 _) ?_
        | refine WO.ask rfl rfl (f13_7 _) ?_
        | refine WO.ask' rfl rfl (f13_7 _) ?_
        | refine WH.ask rfl rfl rfl (f13_7 _) ?_
        | refine WO.ask rfl rfl (hf) ?_
        | refine WO.ask' rfl rfl (hf) ?_
        | refine WH.ask rfl rfl rfl (hf) ?_
        | refine WO.nil ?_
        | refine WO.st rfl rfl ?_
        | refine WO.no' rfl ?_
        | (refine WO.fork rfl ?_ ?_ <;> intro hc <;> (fail_if_success (exfalso; cases hc; done)) <;> (try subst hc))
        | refine W.seq ?_
        | refine W.region ?_
        | refine W.skip ?_
        | refine W.condT rfl ?_
        | refine W.condF rfl ?_
        | (refine W.fork rfl ?_ ?_ <;> intro hc <;> (fail_if_success (exfalso; cases hc; done)) <;> (try subst hc))
        | refine W.ret ?_
        | refine W.block ?_
        | refine W.exit ?_
        | refine W.drawn ?_
        | refine WH.testT rfl rfl ?_
        | refine WH.testF rfl rfl ?_
        | (refine WH.test rfl rfl ?_ ?_ <;> intro hc <;> (try simp only [decide_eq_true_eq, decide_eq_false_iff_not, beq_iff_eq, beq_eq_false_iff_ne, bne_iff_ne, bne_eq_false_iff_eq, ne_eq, gt_iff_lt, ge_iff_le, Int.not_lt, Int.not_le, not_true_eq_false, not_false_eq_true] at hc) <;> (try omega))
        | refine WH.go rfl rfl rfl ?_
        | refine WH.no rfl ?_
        | (refine WH.fork rfl ?_ ?_ <;> intro hc <;> (fail_if_success (exfalso; cases hc; done)) <;> (try subst hc))
        | refine WH.nil ?_)
    all_goals refine ⟨.inr rfl, _, rfl, fin rfl rfl rfl⟩
  · unfold okNew at h
    have h : ¬ (1 ≤ me ∧ me ≤ n) := fun hq => h ⟨by rcases hn with rfl | rfl | rfl <;> decide, hq⟩
    rcases hn with rfl | rfl | rfl
    all_goals
      repeat' (first
        | refine WO.testT rfl rfl ?_
        | refine WO.testF rfl rfl ?_
        | (refine WO.test rfl rfl ?_ ?_ <;> intro hc <;> (try simp only [decide_eq_true_eq, decide_eq_false_iff_not, beq_iff_eq, beq_eq_false_iff_ne, bne_iff_ne, bne_eq_false_iff_eq, ne_eq, gt_iff_lt, ge_iff_le, Int.not_lt, Int.not_le, not_true_eq_false, not_false_eq_true] at hc) <;> (try omega))
        | refine WO.go rfl rfl ?_
        | refine WO.no rfl ?_
        | refine WO.ask rfl rfl (f9 _) ?_
        | refine WO.ask' rfl rfl (f9 _) ?_
        | refine WH.ask rfl rfl rfl (f9 _) ?_
        | refine WO.ask rfl rfl (f13_3 _) ?_
        | refine WO.ask' rfl rfl (f13_3 _) ?_
        | refine WH.ask rfl rfl rfl (f13_3 _) ?_
        | refine WO.ask rfl rfl (f13_5 _) ?_
        | refine WO.ask' rfl rfl (f13_5 _) ?_
        | refine WH.ask rfl rfl rfl (f13_5 _) ?_
        | refine WO.ask rfl rfl (f13_7 _) ?_
        | refine WO.ask' rfl rfl (f13_7 _) ?_
        | refine WH.ask rfl rfl rfl (f13_7 _) ?_
        | refine WO.ask rfl rfl (hf) ?_
        | refine WO.ask' rfl rfl (hf) ?_
        | refine WH.ask rfl rfl rfl (hf) ?_
        | refine WO.nil ?_
        | refine WO.st rfl rfl ?_
        | refine WO.no' rfl ?_
        | (refine WO.fork rfl ?_ ?_ <;> intro hc <;> (fail_if_success (exfalso; cases hc; done)) <;> (try subst hc))
        | refine W.seq ?_
        | refine W.region ?_
        | refine W.skip ?_
        | refine W.condT rfl ?_
        | refine W.condF rfl ?_
        | (refine W.fork rfl ?_ ?_ <;> intro hc <;> (fail_if_success (exfalso; cases hc; done)) <;> (try subst hc))
        | refine W.ret ?_
        | refine W.block ?_
        | refine W.exit ?_
        | refine W.drawn ?_
        | refine WH.testT rfl rfl ?_
        | refine WH.testF rfl rfl ?_
        | (refine WH.test rfl rfl ?_ ?_ <;> intro hc <;> (try simp only [decide_eq_true_eq, decide_eq_false_iff_not, beq_iff_eq, beq_eq_false_iff_ne, bne_iff_ne, bne_eq_false_iff_eq, ne_eq, gt_iff_lt, ge_iff_le, Int.not_lt, Int.not_le, not_true_eq_false, not_false_eq_true] at hc) <;> (try omega))
        | refine WH.go rfl rfl rfl ?_
        | refine WH.no rfl ?_
        | (refine WH.fork rfl ?_ ?_ <;> intro hc <;> (fail_if_success (exfalso; cases hc; done)) <;> (try subst hc))
        | refine WH.nil ?_)
    all_goals refine ⟨.inr rfl, _, rfl, fin rfl rfl rfl⟩
set_option maxRecDepth 4000 in
set_option maxHeartbeats 4000000 in
theorem f7b (n me : Int) (h3 : n ≠ 3) (h5 : n ≠ 5) (h7 : n ≠ 7) : E0 7 [.int .i64 n, .int .i64 me] [] (.bool true) [] := by
  refine EvF.by (nf := nf7) (args := [.int .i64 n, .int .i64 me]) rfl (of_decide_eq_true rfl) rfl ?_
  have hz : faults n = 0 := by unfold faults; rw [if_neg h3, if_neg h5, if_neg h7]
  rcases f11 n me [] [] [] with ⟨⟨h, _⟩, hf⟩ | ⟨_, hf⟩
  · exact absurd hz h
  · repeat' (first
      | refine WO.testT rfl rfl ?_
      | refine WO.testF rfl rfl ?_
      | (refine WO.test rfl rfl ?_ ?_ <;> intro hc <;> (try simp only [decide_eq_true_eq, decide_eq_false_iff_not, beq_iff_eq, beq_eq_false_iff_ne, bne_iff_ne, bne_eq_false_iff_eq, ne_eq, gt_iff_lt, ge_iff_le, Int.not_lt, Int.not_le, not_true_eq_false, not_false_eq_true] at hc) <;> (try omega))
      | refine WO.go rfl rfl ?_
      | refine WO.no rfl ?_
      | refine WO.ask rfl rfl (f9 _) ?_
      | refine WO.ask' rfl rfl (f9 _) ?_
      | refine WH.ask rfl rfl rfl (f9 _) ?_
      | refine WO.ask rfl rfl (f13z hz _) ?_
      | refine WO.ask' rfl rfl (f13z hz _) ?_
      | refine WH.ask rfl rfl rfl (f13z hz _) ?_
      | refine WO.ask rfl rfl (f13_3 _) ?_
      | refine WO.ask' rfl rfl (f13_3 _) ?_
      | refine WH.ask rfl rfl rfl (f13_3 _) ?_
      | refine WO.ask rfl rfl (f13_5 _) ?_
      | refine WO.ask' rfl rfl (f13_5 _) ?_
      | refine WH.ask rfl rfl rfl (f13_5 _) ?_
      | refine WO.ask rfl rfl (f13_7 _) ?_
      | refine WO.ask' rfl rfl (f13_7 _) ?_
      | refine WH.ask rfl rfl rfl (f13_7 _) ?_
      | refine WO.ask rfl rfl (hf) ?_
      | refine WO.ask' rfl rfl (hf) ?_
      | refine WH.ask rfl rfl rfl (hf) ?_
      | refine WO.nil ?_
      | refine WO.st rfl rfl ?_
      | refine WO.no' rfl ?_
      | (refine WO.fork rfl ?_ ?_ <;> intro hc <;> (fail_if_success (exfalso; cases hc; done)) <;> (try subst hc))
      | refine W.seq ?_
      | refine W.region ?_
      | refine W.skip ?_
      | refine W.condT rfl ?_
      | refine W.condF rfl ?_
      | (refine W.fork rfl ?_ ?_ <;> intro hc <;> (fail_if_success (exfalso; cases hc; done)) <;> (try subst hc))
      | refine W.ret ?_
      | refine W.block ?_
      | refine W.exit ?_
      | refine W.drawn ?_
      | refine WH.testT rfl rfl ?_
      | refine WH.testF rfl rfl ?_
      | (refine WH.test rfl rfl ?_ ?_ <;> intro hc <;> (try simp only [decide_eq_true_eq, decide_eq_false_iff_not, beq_iff_eq, beq_eq_false_iff_ne, bne_iff_ne, bne_eq_false_iff_eq, ne_eq, gt_iff_lt, ge_iff_le, Int.not_lt, Int.not_le, not_true_eq_false, not_false_eq_true] at hc) <;> (try omega))
      | refine WH.go rfl rfl rfl ?_
      | refine WH.no rfl ?_
      | (refine WH.fork rfl ?_ ?_ <;> intro hc <;> (fail_if_success (exfalso; cases hc; done)) <;> (try subst hc))
      | refine WH.nil ?_)
    all_goals refine ⟨.inr rfl, _, rfl, fin rfl rfl rfl⟩
theorem f7 (n me : Int) : E0 7 [.int .i64 n, .int .i64 me] [] (.bool true) [] := by
  by_cases h3 : n = 3
  · exact f7a n me (.inl h3)
  · by_cases h5 : n = 5
    · exact f7a n me (.inr (.inl h5))
    · by_cases h7 : n = 7
      · exact f7a n me (.inr (.inr h7))
      · exact f7b n me h3 h5 h7
end Go.Proofs.Ytjjkabbncpalpaa.Nv
