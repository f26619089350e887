/- ChooseCounts. -/
import Derived.Test.YthecdihimfddgaaChoose4
namespace Go.Proofs.Ythecdihimfddgaa.Nv
open Go
theorem sh_ap2 {R : List (List NV)} {t : Nat} {k k' : IntKind} {a b : Int} : shArgs [.int k a, .int k' b, apV 16 R t] = shArgs [.int k a, .int k' b, mkS 16 R] := by cases R <;> rfl
theorem sh_ap1' {R : List (List NV)} {t : Nat} {k : IntKind} {a : Int} : shArgs [.int k a, apV 16 R t] = shArgs [.int k a, mkS 16 R] := by cases R <;> rfl
theorem someF_nil {p : Rp → Bool} {l : List Rp} (h : ∀ r ∈ l, p r = false) : someF p l = [] := by
  unfold someF
  rw [List.filter_eq_nil_iff.2 (fun r hr => by rw [h r hr]; simp)]
  rfl
theorem cntd_snoc (n : Int) (l : List Rp) (r : Rp) : cntd n (l ++ [r]) = if cntP n (cntd n l) r then cntd n l ++ [r] else cntd n l := by
  unfold cntd
  rw [List.foldl_append]
  rfl
theorem cntd_any {n w : Int} (h : 1 ≤ w ∧ w ≤ n) (l : List Rp) : ((cntd n l).any fun o => decide (o.who = w)) = l.any fun o => decide (o.who = w) := by
  have key : ∀ (l out : List Rp), ((l.foldl (fun out r => if cntP n out r then out ++ [r] else out) out).any fun o => decide (o.who = w)) = ((out.any fun o => decide (o.who = w)) || l.any fun o => decide (o.who = w)) := by
    intro l
    induction l with
    | nil => intro out; simp
    | cons x l ih =>
      intro out
      rw [List.foldl_cons, ih, List.any_cons]
      cases hp : cntP n out x
      · rw [if_neg (by simp)]
        by_cases hx : x.who = w
        · have : (out.any fun o => decide (o.who = w)) = true := by
            unfold cntP at hp
            rw [hx, decide_eq_true h, Bool.and_true] at hp
            simpa using hp
          rw [this]; simp
        · rw [decide_eq_false hx]; simp
      · rw [if_pos rfl, List.any_append]
        simp [Bool.or_assoc]
  rw [show cntd n l = l.foldl (fun out r => if cntP n out r then out ++ [r] else out) [] from rfl, key]
  simp
theorem chosen_none {n o : Int} {l : List Rp} (h : ∀ r ∈ l, r.x.st = 0) (he : enough n l = true) : chosen n o l = ⟨2, cmd0, 0, []⟩ := by
  have hL : ∀ r ∈ cntd n l, r.x.st = 0 := fun r hr => h r (cntd_mem r hr)
  have h1 : ∀ a b, 1 ≤ a → someF (stP a b) (cntd n l) = [] := fun a b ha => someF_nil fun r hr => decide_eq_false (by rw [hL r hr]; omega)
  have h2 : someF ownP (cntd n l) = [] := someF_nil fun r hr => by unfold ownP; rw [decide_eq_false (by rw [hL r hr]; omega)]; rfl
  unfold chosen
  rw [he, if_pos rfl, h1 3 4 (by omega), h1 2 2 (by omega), h1 1 1 (by omega), h2]
theorem chosen_few {n o : Int} {l : List Rp} (he : enough n l = false) : chosen n o l = ⟨0, cmd0, 0, []⟩ := by
  unfold chosen
  rw [he, if_neg (by simp)]
def mtC (l : List Rp) : List Bool := (List.range 12).map fun w : Nat => l.any fun r => decide (r.who = (w : Int))
theorem mtC_len (l : List Rp) : (mtC l).length = 12 := by simp [mtC]
theorem mtC_get {l : List Rp} {w : Nat} (h : w < 12) : (mtC l)[w]? = some (l.any fun r => decide (r.who = (w : Int))) := by
  unfold mtC
  rw [List.getElem?_map, List.getElem?_range h]
  rfl
theorem mtC_set {l : List Rp} {r : Rp} {w : Nat} (h : r.who = (w : Int)) : mtC (l ++ [r]) = (mtC l).set w true := by
  apply List.ext_getElem?
  intro v
  by_cases hv : v < 12
  · rw [mtC_get hv, List.any_append]
    by_cases hw : w = v
    · subst hw
      rw [List.getElem?_set_self (by rw [mtC_len]; exact hv)]
      simp [h]
    · rw [List.getElem?_set_ne hw, mtC_get hv]
      have : decide (r.who = (v : Int)) = false := decide_eq_false (by omega)
      simp [this]
  · rw [List.getElem?_eq_none (by rw [mtC_len]; omega), List.getElem?_eq_none (by rw [List.length_set, mtC_len]; omega)]
def rp0 (w : Int) : Rp := ⟨w, ix0 ⟨1, 1⟩⟩
theorem faults_odd {r : Int} (h : 0 ≤ r ∧ r ≤ 2) : faults (3 + 2 * r) = r + 1 := by
  have : r = 0 ∨ r = 1 ∨ r = 2 := by omega
  rcases this with rfl | rfl | rfl <;> rfl
structure Sc where
  k : Nat
  R : List Rp
  t : Nat
  ts : List Bool
set_option maxRecDepth 8000 in
set_option maxHeartbeats 32000000 in
theorem lawCounts (a0 : Int) (b0 : (0 : Int) ≤ a0 ∧ a0 ≤ 255) (rows : List (List NV)) (hr : byteRows rows) (hn : rows.length ≤ 140737488351232) :
    E0 4 [.int .u8 a0, .slc 1 false rows] [] (.bool true) [] := by
  refine EvF.by (nf := nf4) (args := [.int .u8 a0, .slc 1 false rows]) rfl (of_decide_eq_true rfl) rfl ?_
  have hfo : faults (3 + 2 * (a0 % 3)) = a0 % 3 + 1 := faults_odd (by omega)
  repeat' (first | refine W.seq ?_ | refine W.region ?_ | refine WO.nil ?_ | refine WO.onG rfl ?_ | refine WO.offG rfl ?_ | (refine WO.fork rfl ?_ ?_ <;> intro hc <;> (fail_if_success (exfalso; cases hc; done)) <;> (first | subst hc | (simp at hc; try omega) | skip)) | (refine WO.isMv ?_; first | refine WO.go rfl rfl ?_ | refine WO.mvR rfl ?_) | (refine WO.isBin ?_; first | refine WO.add64 rfl rfl rfl (by omega) (by omega) ?_ | refine WO.rem rfl rfl rfl (by omega) (by omega) ?_ | refine WO.quoI64 rfl rfl rfl (by omega) (by omega) (by omega) ?_ | refine WO.quoU8 rfl rfl rfl (by omega) (by omega) (by omega) ?_ | refine WO.quoU32 rfl rfl rfl (by omega) (by omega) (by omega) ?_ | refine WO.quoU64 rfl rfl rfl (by omega) (by omega) (by omega) ?_ | refine WO.mul64 rfl rfl rfl (by omega) (by omega) ?_ | refine WO.addU32 rfl rfl rfl (by omega) (by omega) ?_ | refine WO.addU64 rfl rfl rfl (by omega) (by omega) ?_ | refine WO.addU8 rfl rfl rfl (by omega) (by omega) ?_ | refine WO.testT rfl rfl ?_ | refine WO.testF rfl rfl ?_ | (refine WO.tlss rfl rfl rfl (fun hc => ?_) (fun hc => ?_) <;> try omega) | (refine WO.tleq rfl rfl rfl (fun hc => ?_) (fun hc => ?_) <;> try omega) | (refine WO.tgtr rfl rfl rfl (fun hc => ?_) (fun hc => ?_) <;> try omega) | (refine WO.tgeq rfl rfl rfl (fun hc => ?_) (fun hc => ?_) <;> try omega) | (refine WO.teql rfl rfl rfl (fun hc => ?_) (fun hc => ?_) <;> try omega) | refine WO.tseql rfl rfl rfl (fun hc => ?_) (fun hc => ?_) | refine WO.go rfl rfl ?_) | (refine WO.isUn ?_; first | refine WO.go rfl rfl ?_) | (refine WO.isI2i ?_; first | refine WO.toI64 rfl rfl (by omega) (by omega) ?_ | refine WO.go rfl rfl ?_) | (refine WO.isCall ?_; first | refine WO.ask rfl rfl (c_examples _) ?_ | refine WO.ask' rfl rfl (c_examples _) ?_) | (refine WO.isLoad ?_; first | refine WO.go rfl rfl ?_ | refine WO.ldc rfl rfl blk_l1 rfl rfl ?_ | refine WO.lda rfl rfl blk_l1 (of_decide_eq_true rfl) rfl ?_ | refine WO.ldc rfl rfl blk_l2 rfl rfl ?_ | refine WO.lda rfl rfl blk_l2 (of_decide_eq_true rfl) rfl ?_ | refine WO.ldc rfl rfl blk_l3 rfl rfl ?_ | refine WO.lda rfl rfl blk_l3 (of_decide_eq_true rfl) rfl ?_) | (refine WO.isStore ?_; first | refine WO.st rfl rfl ?_ | refine WO.stB rfl rfl rfl rfl rfl blk_l1 (of_decide_eq_true rfl) rfl set_l1 ?_ | refine WO.stB rfl rfl rfl rfl rfl blk_l2 (of_decide_eq_true rfl) rfl set_l2 ?_ | refine WO.stB rfl rfl rfl rfl rfl blk_l3 (of_decide_eq_true rfl) rfl set_l3 ?_) | (refine WO.isIaddr ?_; first | refine WO.go rfl rfl ?_) | (refine WO.isLen ?_; first | refine WO.go rfl rfl ?_) | (refine WO.isApp ?_; first | refine WO.go rfl rfl ?_) | (refine WO.isEq ?_; first | refine WO.go rfl rfl ?_) | refine WO.go rfl rfl ?_ | refine WO.st rfl rfl ?_ | refine W.skip ?_ | refine W.condT rfl ?_ | refine W.condF rfl ?_ | (refine W.fork rfl ?_ ?_ <;> intro hc <;> (fail_if_success (exfalso; cases hc; done)) <;> (first | subst hc | (simp at hc; try omega) | skip)) | refine W.ret ?_ | refine W.block ?_ | refine W.exit ?_)
  generalize hnn : 3 + 2 * (a0 % 3) = n at hfo
  generalize hff : a0 % 3 + 1 = f at hfo
  have hn7 : 3 ≤ n ∧ n ≤ 7 ∧ n = 2 * f + 1 := by omega
  refine W.ind (σ := Sc) (fun q => [(1, .slc 1 false rows), (5, .bool true), (6, .int .i64 n), (7, apV 16 (q.R.map Rp.c) q.t), (8, .ptr 0 0 0), (9, .int .i64 (cntd n q.R).length), (10, .int .i64 q.k)])
    (fun q => [⟨[.cells (bools (mtC q.R))], q.ts⟩]) (fun q => q.k ≤ rows.length ∧ q.k ≤ 9 ∧ q.R.length = q.k ∧ tokOf (q.R.map Rp.c) q.ts q.t ∧ ∀ r ∈ q.R, r.x = ix0 ⟨1, 1⟩) (fun q => 9 - q.k) ⟨0, [], 0, []⟩ ⟨Nat.zero_le _, Nat.zero_le _, rfl, .inl rfl, fun r h => by simp at h⟩ ⟨rfl, rfl, rfl, rfl, rfl, rfl, rfl, trivial⟩ rfl ?_
  rintro ⟨k, R, t, ts⟩ e ⟨h1, h2, h3, ht, h4⟩ IH
  dsimp only at h1 h2 h3 ht h4 ⊢
  have lR : (R.map Rp.c).length = k := by rw [List.length_map]; exact h3
  have hcl := cntd_len n R R.length (Nat.le_refl _)
  rw [List.take_length] at hcl
  refine W.round ?_
  by_cases hlt : k < rows.length ∧ k < 9
  · obtain ⟨g1, g2⟩ := hlt
    obtain ⟨r, hri⟩ := get_lt g1
    obtain ⟨x, rfl, x0, x1⟩ := hr r (List.mem_of_getElem? hri)
    obtain ⟨w, hw⟩ : ∃ w : Nat, x % 10 = (w : Int) := ⟨(x % 10).toNat, by omega⟩
    have hwl : w < 12 := by omega
    have hget := bools_get (mtC_get (l := R) hwl)
    rw [← hw, ← Nat.zero_add w] at hget
    have hset := mtC_set (l := R) (r := rp0 (x % 10)) (w := w) hw
    have hM := mtC_len R
    have hsn : cntd n (R ++ [rp0 (x % 10)]) = if (!((cntd n R).any fun o => decide (o.who = x % 10)) && decide (1 ≤ x % 10 ∧ x % 10 ≤ n)) = true then cntd n R ++ [rp0 (x % 10)] else cntd n R := cntd_snoc n R (rp0 (x % 10))
    have hok : ∀ r ∈ R ++ [rp0 (x % 10)], r.x = ix0 ⟨1, 1⟩ := fun r hr => by
      rcases List.mem_append.1 hr with q | q
      · exact h4 r q
      · rw [List.mem_singleton.1 q]; rfl
    by_cases hin : 1 ≤ x % 10 ∧ x % 10 ≤ n
    · rw [cntd_any hin] at hsn
      cases ha : R.any fun o => decide (o.who = x % 10)
      · rw [ha] at hget hsn
        rw [show (!false && decide (1 ≤ x % 10 ∧ x % 10 ≤ n)) = true by rw [decide_eq_true hin]; rfl, if_pos rfl] at hsn
        repeat' (first | refine W.seq ?_ | refine W.region ?_ | refine WO.nil ?_ | refine WO.setBool rfl rfl rfl rfl (by omega) ?_ | refine WO.app (rows := R.map Rp.c) (t := t) rfl rfl rfl rfl rfl ht (by show (_ + 1) * _ ≤ _; omega) (by show _ + 1 ≤ _; omega) fun ts t ht => ?_ | refine WO.onG rfl ?_ | refine WO.offG rfl ?_ | (refine WO.fork rfl ?_ ?_ <;> intro hc <;> (fail_if_success (exfalso; cases hc; done)) <;> (first | subst hc | (simp at hc; try omega) | skip)) | (refine WO.isMv ?_; first | refine WO.go rfl rfl ?_ | refine WO.mvR rfl ?_) | (refine WO.isBin ?_; first | refine WO.add64 rfl rfl rfl (by omega) (by omega) ?_ | refine WO.rem rfl rfl rfl (by omega) (by omega) ?_ | refine WO.quoI64 rfl rfl rfl (by omega) (by omega) (by omega) ?_ | refine WO.quoU8 rfl rfl rfl (by omega) (by omega) (by omega) ?_ | refine WO.quoU32 rfl rfl rfl (by omega) (by omega) (by omega) ?_ | refine WO.quoU64 rfl rfl rfl (by omega) (by omega) (by omega) ?_ | refine WO.mul64 rfl rfl rfl (by omega) (by omega) ?_ | refine WO.addU32 rfl rfl rfl (by omega) (by omega) ?_ | refine WO.addU64 rfl rfl rfl (by omega) (by omega) ?_ | refine WO.addU8 rfl rfl rfl (by omega) (by omega) ?_ | refine WO.testT rfl rfl ?_ | refine WO.testF rfl rfl ?_ | (refine WO.tlss rfl rfl rfl (fun hc => ?_) (fun hc => ?_) <;> try omega) | (refine WO.tleq rfl rfl rfl (fun hc => ?_) (fun hc => ?_) <;> try omega) | (refine WO.tgtr rfl rfl rfl (fun hc => ?_) (fun hc => ?_) <;> try omega) | (refine WO.tgeq rfl rfl rfl (fun hc => ?_) (fun hc => ?_) <;> try omega) | (refine WO.teql rfl rfl rfl (fun hc => ?_) (fun hc => ?_) <;> try omega) | refine WO.tseql rfl rfl rfl (fun hc => ?_) (fun hc => ?_) | refine WO.go rfl rfl ?_) | (refine WO.isUn ?_; first | refine WO.go rfl rfl ?_) | (refine WO.isI2i ?_; first | refine WO.toI64 rfl rfl (by omega) (by omega) ?_ | refine WO.go rfl rfl ?_) | (refine WO.isCall ?_; first | refine WO.ask rfl rfl (c_INew ⟨1, 1⟩ _) ?_ | refine WO.ask' rfl rfl (c_INew ⟨1, 1⟩ _) ?_) | (refine WO.isLoad ?_; first | refine WO.ldc rfl rfl rfl hget rfl ?_ | refine WO.go rfl rfl ?_ | refine WO.ldc rfl rfl blk_l1 rfl rfl ?_ | refine WO.lda rfl rfl blk_l1 (of_decide_eq_true rfl) rfl ?_ | refine WO.ldc rfl rfl blk_l2 rfl rfl ?_ | refine WO.lda rfl rfl blk_l2 (of_decide_eq_true rfl) rfl ?_ | refine WO.ldc rfl rfl blk_l3 rfl rfl ?_ | refine WO.lda rfl rfl blk_l3 (of_decide_eq_true rfl) rfl ?_) | (refine WO.isStore ?_; first | refine WO.st rfl rfl ?_ | refine WO.stB rfl rfl rfl rfl rfl blk_l1 (of_decide_eq_true rfl) rfl set_l1 ?_ | refine WO.stB rfl rfl rfl rfl rfl blk_l2 (of_decide_eq_true rfl) rfl set_l2 ?_ | refine WO.stB rfl rfl rfl rfl rfl blk_l3 (of_decide_eq_true rfl) rfl set_l3 ?_) | (refine WO.isIaddr ?_; first | refine WO.slidx rfl rfl rfl rfl rfl hri ?_ | refine WO.pidx1 rfl rfl rfl (n := w) (by omega) (by omega) ?_ | refine WO.go rfl rfl ?_) | (refine WO.isLen ?_; first | refine WO.go rfl rfl ?_) | (refine WO.isApp ?_; first | refine WO.go rfl rfl ?_) | (refine WO.isEq ?_; first | refine WO.go rfl rfl ?_) | refine WO.go rfl rfl ?_ | refine WO.st rfl rfl ?_ | refine W.skip ?_ | refine W.condT rfl ?_ | refine W.condF rfl ?_ | (refine W.fork rfl ?_ ?_ <;> intro hc <;> (fail_if_success (exfalso; cases hc; done)) <;> (first | subst hc | (simp at hc; try omega) | skip)) | refine W.ret ?_ | refine W.block ?_ | refine W.exit ?_)
        have ht2 : tokOf ((R ++ [rp0 (x % 10)]).map Rp.c) ts t := by rw [List.map_append]; exact ht
        refine IH ⟨k + 1, R ++ [rp0 (x % 10)], t, ts⟩ _ _ (by show 9 - (k + 1) < 9 - k; omega) ⟨g1, g2, ?_, ht2, hok⟩ ⟨?_, ?_, ?_, ?_, ?_, ?_, ?_, trivial⟩ ?_
        · show (R ++ [rp0 (x % 10)]).length = k + 1
          rw [List.length_append, h3]; rfl
        · rfl
        · rfl
        · rfl
        · dsimp only
          rw [List.map_append]; rfl
        · rfl
        · dsimp only
          rw [hsn]; rw [List.length_append]; rfl
        · rfl
        · dsimp only
          rw [hset]
          try simp only [Nat.zero_add]
          rfl
      · rw [ha] at hget hsn
        rw [show (!true && decide (1 ≤ x % 10 ∧ x % 10 ≤ n)) = false from rfl, if_neg (by simp)] at hsn
        repeat' (first | refine W.seq ?_ | refine W.region ?_ | refine WO.nil ?_ | refine WO.setBool rfl rfl rfl rfl (by omega) ?_ | refine WO.app (rows := R.map Rp.c) (t := t) rfl rfl rfl rfl rfl ht (by show (_ + 1) * _ ≤ _; omega) (by show _ + 1 ≤ _; omega) fun ts t ht => ?_ | refine WO.onG rfl ?_ | refine WO.offG rfl ?_ | (refine WO.fork rfl ?_ ?_ <;> intro hc <;> (fail_if_success (exfalso; cases hc; done)) <;> (first | subst hc | (simp at hc; try omega) | skip)) | (refine WO.isMv ?_; first | refine WO.go rfl rfl ?_ | refine WO.mvR rfl ?_) | (refine WO.isBin ?_; first | refine WO.add64 rfl rfl rfl (by omega) (by omega) ?_ | refine WO.rem rfl rfl rfl (by omega) (by omega) ?_ | refine WO.quoI64 rfl rfl rfl (by omega) (by omega) (by omega) ?_ | refine WO.quoU8 rfl rfl rfl (by omega) (by omega) (by omega) ?_ | refine WO.quoU32 rfl rfl rfl (by omega) (by omega) (by omega) ?_ | refine WO.quoU64 rfl rfl rfl (by omega) (by omega) (by omega) ?_ | refine WO.mul64 rfl rfl rfl (by omega) (by omega) ?_ | refine WO.addU32 rfl rfl rfl (by omega) (by omega) ?_ | refine WO.addU64 rfl rfl rfl (by omega) (by omega) ?_ | refine WO.addU8 rfl rfl rfl (by omega) (by omega) ?_ | refine WO.testT rfl rfl ?_ | refine WO.testF rfl rfl ?_ | (refine WO.tlss rfl rfl rfl (fun hc => ?_) (fun hc => ?_) <;> try omega) | (refine WO.tleq rfl rfl rfl (fun hc => ?_) (fun hc => ?_) <;> try omega) | (refine WO.tgtr rfl rfl rfl (fun hc => ?_) (fun hc => ?_) <;> try omega) | (refine WO.tgeq rfl rfl rfl (fun hc => ?_) (fun hc => ?_) <;> try omega) | (refine WO.teql rfl rfl rfl (fun hc => ?_) (fun hc => ?_) <;> try omega) | refine WO.tseql rfl rfl rfl (fun hc => ?_) (fun hc => ?_) | refine WO.go rfl rfl ?_) | (refine WO.isUn ?_; first | refine WO.go rfl rfl ?_) | (refine WO.isI2i ?_; first | refine WO.toI64 rfl rfl (by omega) (by omega) ?_ | refine WO.go rfl rfl ?_) | (refine WO.isCall ?_; first | refine WO.ask rfl rfl (c_INew ⟨1, 1⟩ _) ?_ | refine WO.ask' rfl rfl (c_INew ⟨1, 1⟩ _) ?_) | (refine WO.isLoad ?_; first | refine WO.ldc rfl rfl rfl hget rfl ?_ | refine WO.go rfl rfl ?_ | refine WO.ldc rfl rfl blk_l1 rfl rfl ?_ | refine WO.lda rfl rfl blk_l1 (of_decide_eq_true rfl) rfl ?_ | refine WO.ldc rfl rfl blk_l2 rfl rfl ?_ | refine WO.lda rfl rfl blk_l2 (of_decide_eq_true rfl) rfl ?_ | refine WO.ldc rfl rfl blk_l3 rfl rfl ?_ | refine WO.lda rfl rfl blk_l3 (of_decide_eq_true rfl) rfl ?_) | (refine WO.isStore ?_; first | refine WO.st rfl rfl ?_ | refine WO.stB rfl rfl rfl rfl rfl blk_l1 (of_decide_eq_true rfl) rfl set_l1 ?_ | refine WO.stB rfl rfl rfl rfl rfl blk_l2 (of_decide_eq_true rfl) rfl set_l2 ?_ | refine WO.stB rfl rfl rfl rfl rfl blk_l3 (of_decide_eq_true rfl) rfl set_l3 ?_) | (refine WO.isIaddr ?_; first | refine WO.slidx rfl rfl rfl rfl rfl hri ?_ | refine WO.pidx1 rfl rfl rfl (n := w) (by omega) (by omega) ?_ | refine WO.go rfl rfl ?_) | (refine WO.isLen ?_; first | refine WO.go rfl rfl ?_) | (refine WO.isApp ?_; first | refine WO.go rfl rfl ?_) | (refine WO.isEq ?_; first | refine WO.go rfl rfl ?_) | refine WO.go rfl rfl ?_ | refine WO.st rfl rfl ?_ | refine W.skip ?_ | refine W.condT rfl ?_ | refine W.condF rfl ?_ | (refine W.fork rfl ?_ ?_ <;> intro hc <;> (fail_if_success (exfalso; cases hc; done)) <;> (first | subst hc | (simp at hc; try omega) | skip)) | refine W.ret ?_ | refine W.block ?_ | refine W.exit ?_)
        have ht2 : tokOf ((R ++ [rp0 (x % 10)]).map Rp.c) ts t := by rw [List.map_append]; exact ht
        refine IH ⟨k + 1, R ++ [rp0 (x % 10)], t, ts⟩ _ _ (by show 9 - (k + 1) < 9 - k; omega) ⟨g1, g2, ?_, ht2, hok⟩ ⟨?_, ?_, ?_, ?_, ?_, ?_, ?_, trivial⟩ ?_
        · show (R ++ [rp0 (x % 10)]).length = k + 1
          rw [List.length_append, h3]; rfl
        · rfl
        · rfl
        · rfl
        · dsimp only
          rw [List.map_append]; rfl
        · rfl
        · dsimp only
          rw [hsn]; rfl
        · rfl
        · dsimp only
          rw [hset]
          try simp only [Nat.zero_add]
          rfl
    · rw [show (decide (1 ≤ x % 10 ∧ x % 10 ≤ n)) = false from decide_eq_false hin, Bool.and_false, if_neg (by simp)] at hsn
      repeat' (first | refine W.seq ?_ | refine W.region ?_ | refine WO.nil ?_ | refine WO.setBool rfl rfl rfl rfl (by omega) ?_ | refine WO.app (rows := R.map Rp.c) (t := t) rfl rfl rfl rfl rfl ht (by show (_ + 1) * _ ≤ _; omega) (by show _ + 1 ≤ _; omega) fun ts t ht => ?_ | refine WO.onG rfl ?_ | refine WO.offG rfl ?_ | (refine WO.fork rfl ?_ ?_ <;> intro hc <;> (fail_if_success (exfalso; cases hc; done)) <;> (first | subst hc | (simp at hc; try omega) | skip)) | (refine WO.isMv ?_; first | refine WO.go rfl rfl ?_ | refine WO.mvR rfl ?_) | (refine WO.isBin ?_; first | refine WO.add64 rfl rfl rfl (by omega) (by omega) ?_ | refine WO.rem rfl rfl rfl (by omega) (by omega) ?_ | refine WO.quoI64 rfl rfl rfl (by omega) (by omega) (by omega) ?_ | refine WO.quoU8 rfl rfl rfl (by omega) (by omega) (by omega) ?_ | refine WO.quoU32 rfl rfl rfl (by omega) (by omega) (by omega) ?_ | refine WO.quoU64 rfl rfl rfl (by omega) (by omega) (by omega) ?_ | refine WO.mul64 rfl rfl rfl (by omega) (by omega) ?_ | refine WO.addU32 rfl rfl rfl (by omega) (by omega) ?_ | refine WO.addU64 rfl rfl rfl (by omega) (by omega) ?_ | refine WO.addU8 rfl rfl rfl (by omega) (by omega) ?_ | refine WO.testT rfl rfl ?_ | refine WO.testF rfl rfl ?_ | (refine WO.tlss rfl rfl rfl (fun hc => ?_) (fun hc => ?_) <;> try omega) | (refine WO.tleq rfl rfl rfl (fun hc => ?_) (fun hc => ?_) <;> try omega) | (refine WO.tgtr rfl rfl rfl (fun hc => ?_) (fun hc => ?_) <;> try omega) | (refine WO.tgeq rfl rfl rfl (fun hc => ?_) (fun hc => ?_) <;> try omega) | (refine WO.teql rfl rfl rfl (fun hc => ?_) (fun hc => ?_) <;> try omega) | refine WO.tseql rfl rfl rfl (fun hc => ?_) (fun hc => ?_) | refine WO.go rfl rfl ?_) | (refine WO.isUn ?_; first | refine WO.go rfl rfl ?_) | (refine WO.isI2i ?_; first | refine WO.toI64 rfl rfl (by omega) (by omega) ?_ | refine WO.go rfl rfl ?_) | (refine WO.isCall ?_; first | refine WO.ask rfl rfl (c_INew ⟨1, 1⟩ _) ?_ | refine WO.ask' rfl rfl (c_INew ⟨1, 1⟩ _) ?_) | (refine WO.isLoad ?_; first | refine WO.ldc rfl rfl rfl hget rfl ?_ | refine WO.go rfl rfl ?_ | refine WO.ldc rfl rfl blk_l1 rfl rfl ?_ | refine WO.lda rfl rfl blk_l1 (of_decide_eq_true rfl) rfl ?_ | refine WO.ldc rfl rfl blk_l2 rfl rfl ?_ | refine WO.lda rfl rfl blk_l2 (of_decide_eq_true rfl) rfl ?_ | refine WO.ldc rfl rfl blk_l3 rfl rfl ?_ | refine WO.lda rfl rfl blk_l3 (of_decide_eq_true rfl) rfl ?_) | (refine WO.isStore ?_; first | refine WO.st rfl rfl ?_ | refine WO.stB rfl rfl rfl rfl rfl blk_l1 (of_decide_eq_true rfl) rfl set_l1 ?_ | refine WO.stB rfl rfl rfl rfl rfl blk_l2 (of_decide_eq_true rfl) rfl set_l2 ?_ | refine WO.stB rfl rfl rfl rfl rfl blk_l3 (of_decide_eq_true rfl) rfl set_l3 ?_) | (refine WO.isIaddr ?_; first | refine WO.slidx rfl rfl rfl rfl rfl hri ?_ | refine WO.pidx1 rfl rfl rfl (n := w) (by omega) (by omega) ?_ | refine WO.go rfl rfl ?_) | (refine WO.isLen ?_; first | refine WO.go rfl rfl ?_) | (refine WO.isApp ?_; first | refine WO.go rfl rfl ?_) | (refine WO.isEq ?_; first | refine WO.go rfl rfl ?_) | refine WO.go rfl rfl ?_ | refine WO.st rfl rfl ?_ | refine W.skip ?_ | refine W.condT rfl ?_ | refine W.condF rfl ?_ | (refine W.fork rfl ?_ ?_ <;> intro hc <;> (fail_if_success (exfalso; cases hc; done)) <;> (first | subst hc | (simp at hc; try omega) | skip)) | refine W.ret ?_ | refine W.block ?_ | refine W.exit ?_)
      all_goals
        have ht2 : tokOf ((R ++ [rp0 (x % 10)]).map Rp.c) ts t := by rw [List.map_append]; exact ht
        refine IH ⟨k + 1, R ++ [rp0 (x % 10)], t, ts⟩ _ _ (by show 9 - (k + 1) < 9 - k; omega) ⟨g1, g2, ?_, ht2, hok⟩ ⟨?_, ?_, ?_, ?_, ?_, ?_, ?_, trivial⟩ ?_
        · show (R ++ [rp0 (x % 10)]).length = k + 1
          rw [List.length_append, h3]; rfl
        · rfl
        · rfl
        · rfl
        · dsimp only
          rw [List.map_append]; rfl
        · rfl
        · dsimp only
          rw [hsn]; rfl
        · rfl
        · dsimp only
          rw [hset]
          try simp only [Nat.zero_add]
          rfl
  · obtain ⟨ec, hec⟩ : ∃ ec : Bool, enough n R = ec := ⟨_, rfl⟩
    have hst : ∀ r ∈ R, r.x.st = 0 := fun r hr => by rw [h4 r hr]; rfl
    have hokx : ∀ r ∈ R, okIx r.x := fun r hr => by rw [h4 r hr]; exact ⟨.inr rfl, Nat.zero_le _, Int.le_refl _⟩
    have hzR : mz 16 (R.map Rp.c) = 16 ∨ R = [] := (mz_or _ _).imp id map_nil.1
    have he1 : ∀ M, E0 15 [.int .i64 n, apV 16 (R.map Rp.c) t] M (.bool (enough n R)) M := fun M => E0.args sh_ap1' (c_Enough n R _ _ hzR (by omega) M)
    have he4 : ∀ M, E0 15 [.int .i64 4, apV 16 (R.map Rp.c) t] M (.bool (enough 4 R)) M := fun M => E0.args sh_ap1' (c_Enough 4 R _ _ hzR (by omega) M)
    have hch : ∀ M, E0 11 [.int .i64 n, .int .i64 1, apV 16 (R.map Rp.c) t] M (.agg (chosen n 1 R).c) M := fun M => E0.args sh_ap2 (c_Choose n 1 R _ _ hzR (by omega) hokx M)
    have hc6 : ∀ M, E0 11 [.int .i64 6, .int .i64 1, apV 16 (R.map Rp.c) t] M (.agg (chosen 6 1 R).c) M := fun M => E0.args sh_ap2 (c_Choose 6 1 R _ _ hzR (by omega) hokx M)
    have f4 : enough 4 R = false := decide_eq_false (by simp [faults])
    have f6 : enough 6 R = false := decide_eq_false (by simp [faults])
    rw [f4] at he4
    rw [chosen_few f6] at hc6
    cases ec
    · rw [hec] at he1
      rw [chosen_few hec] at hch
      have hq : ¬ f < ((cntd n R).length : Int) := fun h => by
        unfold enough at hec
        exact of_decide_eq_false hec ⟨by omega, by omega⟩
      repeat' (first | refine W.seq ?_ | refine W.region ?_ | refine WO.nil ?_ | refine WO.onG rfl ?_ | refine WO.offG rfl ?_ | (refine WO.fork rfl ?_ ?_ <;> intro hc <;> (fail_if_success (exfalso; cases hc; done)) <;> (first | subst hc | (simp at hc; try omega) | skip)) | (refine WO.isMv ?_; first | refine WO.go rfl rfl ?_ | refine WO.mvR rfl ?_) | (refine WO.isBin ?_; first | refine WO.add64 rfl rfl rfl (by omega) (by omega) ?_ | refine WO.rem rfl rfl rfl (by omega) (by omega) ?_ | refine WO.quoI64 rfl rfl rfl (by omega) (by omega) (by omega) ?_ | refine WO.quoU8 rfl rfl rfl (by omega) (by omega) (by omega) ?_ | refine WO.quoU32 rfl rfl rfl (by omega) (by omega) (by omega) ?_ | refine WO.quoU64 rfl rfl rfl (by omega) (by omega) (by omega) ?_ | refine WO.mul64 rfl rfl rfl (by omega) (by omega) ?_ | refine WO.addU32 rfl rfl rfl (by omega) (by omega) ?_ | refine WO.addU64 rfl rfl rfl (by omega) (by omega) ?_ | refine WO.addU8 rfl rfl rfl (by omega) (by omega) ?_ | refine WO.testT rfl rfl ?_ | refine WO.testF rfl rfl ?_ | (refine WO.tlss rfl rfl rfl (fun hc => ?_) (fun hc => ?_) <;> try omega) | (refine WO.tleq rfl rfl rfl (fun hc => ?_) (fun hc => ?_) <;> try omega) | (refine WO.tgtr rfl rfl rfl (fun hc => ?_) (fun hc => ?_) <;> try omega) | (refine WO.tgeq rfl rfl rfl (fun hc => ?_) (fun hc => ?_) <;> try omega) | (refine WO.teql rfl rfl rfl (fun hc => ?_) (fun hc => ?_) <;> try omega) | refine WO.tseql rfl rfl rfl (fun hc => ?_) (fun hc => ?_) | refine WO.go rfl rfl ?_) | (refine WO.isUn ?_; first | refine WO.go rfl rfl ?_) | (refine WO.isI2i ?_; first | refine WO.toI64 rfl rfl (by omega) (by omega) ?_ | refine WO.go rfl rfl ?_) | (refine WO.isCall ?_; first | refine WO.ask rfl rfl (he1 _) ?_ | refine WO.ask' rfl rfl (he1 _) ?_ | refine WO.ask rfl rfl (he4 _) ?_ | refine WO.ask' rfl rfl (he4 _) ?_ | refine WO.ask rfl rfl (hch _) ?_ | refine WO.ask' rfl rfl (hch _) ?_ | refine WO.ask rfl rfl (hc6 _) ?_ | refine WO.ask' rfl rfl (hc6 _) ?_) | (refine WO.isLoad ?_; first | refine WO.go rfl rfl ?_ | refine WO.ldc rfl rfl blk_l1 rfl rfl ?_ | refine WO.lda rfl rfl blk_l1 (of_decide_eq_true rfl) rfl ?_ | refine WO.ldc rfl rfl blk_l2 rfl rfl ?_ | refine WO.lda rfl rfl blk_l2 (of_decide_eq_true rfl) rfl ?_ | refine WO.ldc rfl rfl blk_l3 rfl rfl ?_ | refine WO.lda rfl rfl blk_l3 (of_decide_eq_true rfl) rfl ?_) | (refine WO.isStore ?_; first | refine WO.st rfl rfl ?_ | refine WO.stB rfl rfl rfl rfl rfl blk_l1 (of_decide_eq_true rfl) rfl set_l1 ?_ | refine WO.stB rfl rfl rfl rfl rfl blk_l2 (of_decide_eq_true rfl) rfl set_l2 ?_ | refine WO.stB rfl rfl rfl rfl rfl blk_l3 (of_decide_eq_true rfl) rfl set_l3 ?_) | (refine WO.isIaddr ?_; first | refine WO.go rfl rfl ?_) | (refine WO.isLen ?_; first | refine WO.go rfl rfl ?_) | (refine WO.isApp ?_; first | refine WO.go rfl rfl ?_) | (refine WO.isEq ?_; first | refine WO.go rfl rfl ?_) | refine WO.go rfl rfl ?_ | refine WO.st rfl rfl ?_ | refine W.skip ?_ | refine W.condT rfl ?_ | refine W.condF rfl ?_ | (refine W.fork rfl ?_ ?_ <;> intro hc <;> (fail_if_success (exfalso; cases hc; done)) <;> (first | subst hc | (simp at hc; try omega) | skip)) | refine W.ret ?_ | refine W.block ?_ | refine W.exit ?_)
      all_goals exact ⟨.inr rfl, _, rfl, fin rfl rfl rfl⟩
    · rw [hec] at he1
      rw [chosen_none hst hec] at hch
      have hq : f < ((cntd n R).length : Int) := by
        unfold enough at hec
        have := of_decide_eq_true hec
        omega
      repeat' (first | refine W.seq ?_ | refine W.region ?_ | refine WO.nil ?_ | refine WO.onG rfl ?_ | refine WO.offG rfl ?_ | (refine WO.fork rfl ?_ ?_ <;> intro hc <;> (fail_if_success (exfalso; cases hc; done)) <;> (first | subst hc | (simp at hc; try omega) | skip)) | (refine WO.isMv ?_; first | refine WO.go rfl rfl ?_ | refine WO.mvR rfl ?_) | (refine WO.isBin ?_; first | refine WO.add64 rfl rfl rfl (by omega) (by omega) ?_ | refine WO.rem rfl rfl rfl (by omega) (by omega) ?_ | refine WO.quoI64 rfl rfl rfl (by omega) (by omega) (by omega) ?_ | refine WO.quoU8 rfl rfl rfl (by omega) (by omega) (by omega) ?_ | refine WO.quoU32 rfl rfl rfl (by omega) (by omega) (by omega) ?_ | refine WO.quoU64 rfl rfl rfl (by omega) (by omega) (by omega) ?_ | refine WO.mul64 rfl rfl rfl (by omega) (by omega) ?_ | refine WO.addU32 rfl rfl rfl (by omega) (by omega) ?_ | refine WO.addU64 rfl rfl rfl (by omega) (by omega) ?_ | refine WO.addU8 rfl rfl rfl (by omega) (by omega) ?_ | refine WO.testT rfl rfl ?_ | refine WO.testF rfl rfl ?_ | (refine WO.tlss rfl rfl rfl (fun hc => ?_) (fun hc => ?_) <;> try omega) | (refine WO.tleq rfl rfl rfl (fun hc => ?_) (fun hc => ?_) <;> try omega) | (refine WO.tgtr rfl rfl rfl (fun hc => ?_) (fun hc => ?_) <;> try omega) | (refine WO.tgeq rfl rfl rfl (fun hc => ?_) (fun hc => ?_) <;> try omega) | (refine WO.teql rfl rfl rfl (fun hc => ?_) (fun hc => ?_) <;> try omega) | refine WO.tseql rfl rfl rfl (fun hc => ?_) (fun hc => ?_) | refine WO.go rfl rfl ?_) | (refine WO.isUn ?_; first | refine WO.go rfl rfl ?_) | (refine WO.isI2i ?_; first | refine WO.toI64 rfl rfl (by omega) (by omega) ?_ | refine WO.go rfl rfl ?_) | (refine WO.isCall ?_; first | refine WO.ask rfl rfl (he1 _) ?_ | refine WO.ask' rfl rfl (he1 _) ?_ | refine WO.ask rfl rfl (he4 _) ?_ | refine WO.ask' rfl rfl (he4 _) ?_ | refine WO.ask rfl rfl (hch _) ?_ | refine WO.ask' rfl rfl (hch _) ?_ | refine WO.ask rfl rfl (hc6 _) ?_ | refine WO.ask' rfl rfl (hc6 _) ?_) | (refine WO.isLoad ?_; first | refine WO.go rfl rfl ?_ | refine WO.ldc rfl rfl blk_l1 rfl rfl ?_ | refine WO.lda rfl rfl blk_l1 (of_decide_eq_true rfl) rfl ?_ | refine WO.ldc rfl rfl blk_l2 rfl rfl ?_ | refine WO.lda rfl rfl blk_l2 (of_decide_eq_true rfl) rfl ?_ | refine WO.ldc rfl rfl blk_l3 rfl rfl ?_ | refine WO.lda rfl rfl blk_l3 (of_decide_eq_true rfl) rfl ?_) | (refine WO.isStore ?_; first | refine WO.st rfl rfl ?_ | refine WO.stB rfl rfl rfl rfl rfl blk_l1 (of_decide_eq_true rfl) rfl set_l1 ?_ | refine WO.stB rfl rfl rfl rfl rfl blk_l2 (of_decide_eq_true rfl) rfl set_l2 ?_ | refine WO.stB rfl rfl rfl rfl rfl blk_l3 (of_decide_eq_true rfl) rfl set_l3 ?_) | (refine WO.isIaddr ?_; first | refine WO.go rfl rfl ?_) | (refine WO.isLen ?_; first | refine WO.go rfl rfl ?_) | (refine WO.isApp ?_; first | refine WO.go rfl rfl ?_) | (refine WO.isEq ?_; first | refine WO.go rfl rfl ?_) | refine WO.go rfl rfl ?_ | refine WO.st rfl rfl ?_ | refine W.skip ?_ | refine W.condT rfl ?_ | refine W.condF rfl ?_ | (refine W.fork rfl ?_ ?_ <;> intro hc <;> (fail_if_success (exfalso; cases hc; done)) <;> (first | subst hc | (simp at hc; try omega) | skip)) | refine W.ret ?_ | refine W.block ?_ | refine W.exit ?_)
      all_goals exact ⟨.inr rfl, _, rfl, fin rfl rfl rfl⟩
theorem lawCountsw (a0 : Int) (rows : List (List NV)) (b0 : (0 : Int) ≤ a0 ∧ a0 ≤ 255) (hn : rows.length * 1 ≤ 140737488351232)
    (kb : ∀ r ∈ rows, (fun l => ∃ x : Int, l = [.int .u8 x] ∧ (Lit.int .u8 x).wf = true) r ∧ r.length = 1) :
    E0 4 [.int .u8 a0, .slc 1 false rows] [] (.bool true) [] := lawCounts a0 b0 rows (bytes_of kb) (by omega)
end Go.Proofs.Ythecdihimfddgaa.Nv
