/- What is chosen. -/
import Derived.Test.YthecdihimfddgaaChoose3
namespace Go.Proofs.Ythecdihimfddgaa.Nv
open Go
def faults (n : Int) : Int := if n = 3 then 1 else if n = 5 then 2 else if n = 7 then 3 else 0
set_option maxRecDepth 4000 in
theorem c_Faults (n : Int) (m : Mem) : E0 35 [.int .i64 n] m (.int .i64 (faults n)) m := by
  refine EvF.by (nf := nf35) (args := [.int .i64 n]) rfl (of_decide_eq_true rfl) rfl ?_
  repeat' (first | refine W.seq ?_ | refine W.region ?_ | refine WO.nil ?_ | refine WO.onG rfl ?_ | refine WO.offG rfl ?_ | (refine WO.fork rfl ?_ ?_ <;> intro hc <;> (fail_if_success (exfalso; cases hc; done)) <;> (first | subst hc | (simp at hc; try omega) | skip)) | (refine WO.isMv ?_; first | refine WO.go rfl rfl ?_ | refine WO.mvR rfl ?_) | (refine WO.isBin ?_; first | refine WO.rem rfl rfl rfl (by omega) (by omega) ?_ | refine WO.quoI64 rfl rfl rfl (by omega) (by omega) (by omega) ?_ | refine WO.quoU8 rfl rfl rfl (by omega) (by omega) (by omega) ?_ | refine WO.quoU32 rfl rfl rfl (by omega) (by omega) (by omega) ?_ | refine WO.quoU64 rfl rfl rfl (by omega) (by omega) (by omega) ?_ | refine WO.testT rfl rfl ?_ | refine WO.testF rfl rfl ?_ | (refine WO.tlss rfl rfl rfl (fun hc => ?_) (fun hc => ?_) <;> try omega) | (refine WO.tgtr rfl rfl rfl (fun hc => ?_) (fun hc => ?_) <;> try omega) | (refine WO.teql rfl rfl rfl (fun hc => ?_) (fun hc => ?_) <;> try omega) | refine WO.tseql rfl rfl rfl (fun hc => ?_) (fun hc => ?_) | refine WO.go rfl rfl ?_) | refine WO.go rfl rfl ?_ | refine W.skip ?_ | refine W.condT rfl ?_ | refine W.condF rfl ?_ | (refine W.fork rfl ?_ ?_ <;> intro hc <;> (fail_if_success (exfalso; cases hc; done)) <;> (first | subst hc | (simp at hc; try omega) | skip)) | refine W.ret ?_)
  all_goals refine ⟨.inr rfl, _, rfl, fin rfl (congrArg _ ?_) rfl⟩
  all_goals (unfold faults; (repeat' split) <;> omega)
set_option maxRecDepth 4000 in
theorem c_rFaults (n : Int) (m : Mem) : E0 40 [.int .i64 n] m (.int .i64 (faults n)) m := by
  refine EvF.by (nf := nf40) (args := [.int .i64 n]) rfl (of_decide_eq_true rfl) rfl ?_
  repeat' (first | refine W.seq ?_ | refine W.region ?_ | refine WO.nil ?_ | refine WO.onG rfl ?_ | refine WO.offG rfl ?_ | (refine WO.fork rfl ?_ ?_ <;> intro hc <;> (fail_if_success (exfalso; cases hc; done)) <;> (first | subst hc | (simp at hc; try omega) | skip)) | (refine WO.isMv ?_; first | refine WO.go rfl rfl ?_ | refine WO.mvR rfl ?_) | (refine WO.isBin ?_; first | refine WO.sub64 rfl rfl rfl (by omega) (by omega) ?_ | refine WO.quoI64 rfl rfl rfl (by omega) (by omega) (by omega) ?_ | refine WO.quoU8 rfl rfl rfl (by omega) (by omega) (by omega) ?_ | refine WO.quoU32 rfl rfl rfl (by omega) (by omega) (by omega) ?_ | refine WO.quoU64 rfl rfl rfl (by omega) (by omega) (by omega) ?_ | refine WO.subU64 rfl rfl rfl (by omega) (by omega) ?_ | refine WO.subU32 rfl rfl rfl (by omega) (by omega) ?_ | refine WO.testT rfl rfl ?_ | refine WO.testF rfl rfl ?_ | (refine WO.tneq rfl rfl rfl (fun hc => ?_) (fun hc => ?_) <;> try omega) | refine WO.tsneq rfl rfl rfl (fun hc => ?_) (fun hc => ?_) | refine WO.go rfl rfl ?_) | refine WO.go rfl rfl ?_ | refine W.skip ?_ | refine W.condT rfl ?_ | refine W.condF rfl ?_ | (refine W.fork rfl ?_ ?_ <;> intro hc <;> (fail_if_success (exfalso; cases hc; done)) <;> (first | subst hc | (simp at hc; try omega) | skip)) | refine W.ret ?_)
  all_goals refine ⟨.inr rfl, _, rfl, fin rfl (congrArg _ ?_) rfl⟩
  all_goals (unfold faults; (repeat' split) <;> omega)
theorem faults_pos (n : Int) : 0 ≤ faults n ∧ faults n ≤ 3 := by unfold faults; (repeat' split) <;> omega
def enough (n : Int) (l : List Rp) : Bool := decide (0 < faults n ∧ faults n < (cntd n l).length)
set_option maxRecDepth 8000 in
theorem c_Enough (n : Int) (l : List Rp) (z : Nat) (f : Bool) (hz : z = 16 ∨ l = []) (hl : l.length ≤ 100000) (M : Mem) :
    E0 15 [.int .i64 n, .slc z f (l.map Rp.c)] M (.bool (enough n l)) M := by
  refine EvF.by (nf := nf15) (args := [.int .i64 n, .slc z f (l.map Rp.c)]) rfl (of_decide_eq_true rfl) rfl ?_
  have hc1 := c_counted n l z f hz hl
  have lc : ((cntd n l).map Rp.c).length = (cntd n l).length := List.length_map ..
  have hcl := cntd_len n l l.length (Nat.le_refl _)
  rw [List.take_length] at hcl
  repeat' (first | refine W.seq ?_ | refine W.region ?_ | refine WO.nil ?_ | refine WO.onG rfl ?_ | refine WO.offG rfl ?_ | (refine WO.fork rfl ?_ ?_ <;> intro hc <;> (fail_if_success (exfalso; cases hc; done)) <;> (first | subst hc | (simp at hc; try omega) | skip)) | (refine WO.isMv ?_; first | refine WO.go rfl rfl ?_ | refine WO.mvR rfl ?_) | (refine WO.isBin ?_; first | refine WO.testT rfl rfl ?_ | refine WO.testF rfl rfl ?_ | (refine WO.tgtr rfl rfl rfl (fun hc => ?_) (fun hc => ?_) <;> try omega) | refine WO.go rfl rfl ?_) | (refine WO.isCall ?_; first | refine WO.ask rfl rfl (c_Faults _ _) ?_ | refine WO.ask rfl rfl (hc1 _) ?_) | (refine WO.isLen ?_; first | refine WO.lenS rfl rfl lc ?_ | refine WO.go rfl rfl ?_) | refine WO.go rfl rfl ?_ | refine W.ret ?_)
  all_goals refine ⟨.inr rfl, _, rfl, fin rfl (congrArg NV.bool ?_) rfl⟩
  all_goals (unfold enough; first | exact (decide_eq_true (by omega)).symm | exact (decide_eq_false (by omega)).symm)
structure Cz where
  kind : Int
  cmd : Cmd
  seq : Int
  deps : List ID
def Cz.c (x : Cz) : List NV := [.int .i64 x.kind, .int .i64 x.cmd.op, .int .i64 x.cmd.client, .int .u32 x.cmd.seq, .str x.cmd.key, .str x.cmd.value, .int .u32 x.seq, mkS 2 (x.deps.map ID.c)]
def okIx (x : Ix) : Prop := (x.dz = 2 ∨ x.deps = []) ∧ x.deps.length ≤ 100000 ∧ 0 ≤ x.seq
def ofC (k : Int) (x : Ix) : Cz := ⟨k, x.cmd, x.seq, x.deps⟩
set_option maxRecDepth 8000 in
set_option maxHeartbeats 4000000 in
theorem c_of (k : Int) (x : Ix) (hx : okIx x) (M : Mem) : E0 37 [.int .i64 k, .agg x.c] M (.agg (ofC k x).c) M := by
  obtain ⟨h1, h2, h3⟩ := hx
  refine EvF.by (nf := nf37) (args := [.int .i64 k, .agg x.c]) rfl (of_decide_eq_true rfl) rfl ?_
  have hj := c_attrJoin x.seq 0 x.deps [] x.dz 0 x.df true h1 (.inr rfl) (by simp; omega)
  rw [show max x.seq 0 = x.seq by omega, merge_nil] at hj
  repeat' (first | refine W.seq ?_ | refine W.region ?_ | refine W.drawn ?_ | refine WH.nil ?_ | refine WO.nil ?_ | (refine WO.isStore ?_; first | refine WO.st rfl rfl ?_) | refine WO.go rfl rfl ?_ | refine WO.st rfl rfl ?_ | (refine WH.isMv ?_; first | refine WH.go rfl rfl rfl ?_ | refine WH.mvR rfl ?_) | (refine WH.isCall ?_; first | refine WH.ask rfl rfl rfl rfl (hj _) ?_) | (refine WH.isLoad ?_; first | refine WH.go rfl rfl rfl ?_) | refine WH.go rfl rfl rfl ?_ | refine W.ret ?_)
  exact ⟨.inr rfl, _, rfl, fin rfl rfl rfl⟩
set_option maxRecDepth 8000 in
set_option maxHeartbeats 4000000 in
theorem c_by (x : Ix) (xs : List Ix) (hx : xs.length ≤ 100000) (M : Mem) : E0 36 [.slc 15 false ((x :: xs).map Ix.c)] M (.agg (maxV x xs).c) M := by
  refine EvF.by (nf := nf36) (args := [.slc 15 false ((x :: xs).map Ix.c)]) rfl (of_decide_eq_true rfl) rfl ?_
  have hm := c_MaxFunc x xs hx
  repeat' (first | refine W.seq ?_ | refine W.region ?_ | refine WO.nil ?_ | (refine WO.isMv ?_; first | refine WO.go rfl rfl ?_ | refine WO.mvR rfl ?_) | (refine WO.isCall ?_; first | refine WO.ask rfl rfl (hm _) ?_ | refine WO.ask' rfl rfl (hm _) ?_) | (refine WO.isStore ?_; first | refine WO.st rfl rfl ?_) | refine WO.go rfl rfl ?_ | refine WO.st rfl rfl ?_ | refine W.ret ?_)
  exact ⟨.inr rfl, _, rfl, fin rfl rfl rfl⟩
theorem maxV_mem : ∀ (xs : List Ix) (x : Ix), maxV x xs ∈ x :: xs
  | [], x => by simp [maxV]
  | y :: ys, x => by
    have e : maxV x (y :: ys) = maxV (if 0 < ordB y.vote x.vote then y else x) ys := rfl
    rw [e]
    have := maxV_mem ys (if 0 < ordB y.vote x.vote then y else x)
    rcases List.mem_cons.1 this with q | q
    · rw [q]; split <;> simp
    · simp [q]
/-- What of right replies is chosen. -/
def chosen (n o : Int) (l : List Rp) : Cz :=
  if enough n l then
    match someF (stP 3 4) (cntd n l) with
    | x :: _ => ofC 1 x
    | [] => match someF (stP 2 2) (cntd n l) with
      | x :: xs => ofC 2 (maxV x xs)
      | [] => match someF ownP (cntd n l), decide (faults n ≤ (someF ownP (cntd n l)).length ∧ someF (ownerP o) (cntd n l) = []) with
        | x :: _, true => ofC 2 x
        | _, _ => match someF (stP 1 1) (cntd n l) with
          | x :: xs => ⟨3, (maxV x xs).cmd, 0, []⟩
          | [] => ⟨2, cmd0, 0, []⟩
  else ⟨0, cmd0, 0, []⟩
theorem someF_ok {p : Rp → Bool} {l : List Rp} (h : ∀ r ∈ l, okIx r.x) : ∀ x ∈ someF p l, okIx x := fun x hx => by
  unfold someF at hx
  obtain ⟨r, h1, rfl⟩ := List.mem_map.1 hx
  exact h r (List.mem_filter.1 h1).1
theorem cntd_mem {n : Int} {l : List Rp} : ∀ r ∈ cntd n l, r ∈ l := by
  have key : ∀ (l out : List Rp), ∀ r ∈ l.foldl (fun out r => if cntP n out r then out ++ [r] else out) out, r ∈ out ∨ r ∈ l := by
    intro l
    induction l with
    | nil => exact fun out r h => .inl h
    | cons x l ih =>
      intro out r h
      rcases ih _ r h with q | q
      · dsimp only at q
        split at q
        · rcases List.mem_append.1 q with q | q
          · exact .inl q
          · exact .inr (by rw [List.mem_singleton.1 q]; exact .head _)
        · exact .inl q
      · exact .inr (.tail _ q)
  exact fun r h => (key l [] r h).resolve_left (by simp)
set_option maxRecDepth 8000 in
set_option maxHeartbeats 32000000 in
theorem c_Choose (n o : Int) (l : List Rp) (z : Nat) (f : Bool) (hz : z = 16 ∨ l = []) (hl : l.length ≤ 100000) (hok : ∀ r ∈ l, okIx r.x) (M : Mem) :
    E0 11 [.int .i64 n, .int .i64 o, .slc z f (l.map Rp.c)] M (.agg (chosen n o l).c) M := by
  refine EvF.by (nf := nf11) (args := [.int .i64 n, .int .i64 o, .slc z f (l.map Rp.c)]) rfl (of_decide_eq_true rfl) rfl ?_
  have he := c_Enough n l z f hz hl
  have hcn := c_counted n l z f hz hl
  have hcl := cntd_len n l l.length (Nat.le_refl _)
  rw [List.take_length] at hcl
  have hokL : ∀ r ∈ cntd n l, okIx r.x := fun r hr => hok r (cntd_mem r hr)
  cases hen : enough n l
  · have hv : chosen n o l = ⟨0, cmd0, 0, []⟩ := by unfold chosen; rw [hen, if_neg (by simp)]
    rw [hen] at he
    rw [hv]
    repeat' (first | refine W.seq ?_ | refine W.region ?_ | refine WO.nil ?_ | refine W.scope ?_ | refine WO.onG rfl ?_ | refine WO.offG rfl ?_ | (refine WO.fork rfl ?_ ?_ <;> intro hc <;> (fail_if_success (exfalso; cases hc; done)) <;> (first | subst hc | (simp at hc; try omega) | skip)) | (refine WO.isMv ?_; first | refine WO.go rfl rfl ?_ | refine WO.mvR rfl ?_) | (refine WO.isBin ?_; first | refine WO.testT rfl rfl ?_ | refine WO.testF rfl rfl ?_ | (refine WO.tgtr rfl rfl rfl (fun hc => ?_) (fun hc => ?_) <;> try omega) | (refine WO.tgeq rfl rfl rfl (fun hc => ?_) (fun hc => ?_) <;> try omega) | (refine WO.teql rfl rfl rfl (fun hc => ?_) (fun hc => ?_) <;> try omega) | refine WO.tseql rfl rfl rfl (fun hc => ?_) (fun hc => ?_) | refine WO.go rfl rfl ?_) | (refine WO.isUn ?_; first | refine WO.go rfl rfl ?_) | (refine WO.isCall ?_; first | refine WO.ask rfl rfl (he _) ?_ | refine WO.ask' rfl rfl (he _) ?_) | (refine WO.isDyn ?_; first | refine WO.ask rfl rfl (he _) ?_ | refine WO.ask' rfl rfl (he _) ?_) | (refine WO.isLoad ?_; first | refine WO.go rfl rfl ?_ | refine WO.ldc rfl rfl blk_l1 rfl rfl ?_ | refine WO.lda rfl rfl blk_l1 (of_decide_eq_true rfl) rfl ?_ | refine WO.ldc rfl rfl blk_l2 rfl rfl ?_ | refine WO.lda rfl rfl blk_l2 (of_decide_eq_true rfl) rfl ?_ | refine WO.ldc rfl rfl blk_l3 rfl rfl ?_ | refine WO.lda rfl rfl blk_l3 (of_decide_eq_true rfl) rfl ?_) | (refine WO.isStore ?_; first | refine WO.st rfl rfl ?_ | refine WO.stB rfl rfl rfl rfl rfl blk_l1 (of_decide_eq_true rfl) rfl set_l1 ?_ | refine WO.stB rfl rfl rfl rfl rfl blk_l2 (of_decide_eq_true rfl) rfl set_l2 ?_ | refine WO.stB rfl rfl rfl rfl rfl blk_l3 (of_decide_eq_true rfl) rfl set_l3 ?_) | (refine WO.isIaddr ?_; first | refine WO.go rfl rfl ?_) | (refine WO.isSlice ?_; first | refine WO.go rfl rfl ?_) | (refine WO.isLen ?_; first | refine WO.go rfl rfl ?_) | refine WO.go rfl rfl ?_ | refine WO.st rfl rfl ?_ | refine W.skip ?_ | refine W.condT rfl ?_ | refine W.condF rfl ?_ | (refine W.fork rfl ?_ ?_ <;> intro hc <;> (fail_if_success (exfalso; cases hc; done)) <;> (first | subst hc | (simp at hc; try omega) | skip)) | refine W.ret ?_)
    change (_ ∨ _) ∧ _
    exact ⟨.inr rfl, _, rfl, fin rfl rfl rfl⟩
  rw [hen] at he
  have hlen : ∀ p, (someF p (cntd n l)).length ≤ 100000 := fun p => by
    have := someF_len p (cntd n l) (cntd n l).length
    rw [List.take_length] at this
    omega
  have hso := c_someA (cntd n l) (mz 16 ((cntd n l).map Rp.c)) ((cntd n l).map Rp.c).isEmpty ((mz_or _ _).imp id map_nil.1) (by omega) 31 ownP c_ownP
  have hsw := fun M hb => c_someB (cntd n l) (mz 16 ((cntd n l).map Rp.c)) ((cntd n l).map Rp.c).isEmpty ((mz_or _ _).imp id map_nil.1) (by omega) 33 (ownerP o) 0 0 (.cells [.int .i64 o]) (fun c l' M' h => c_ownerP o 0 c l' M' h) M hb
  have hs34 := fun M hb => c_status 3 4 (cntd n l) (by omega) 0 1 M hb
  have hs22 := fun M hb => c_status 2 2 (cntd n l) (by omega) 0 1 M hb
  have hs11 := fun M hb => c_status 1 1 (cntd n l) (by omega) 0 1 M hb
  have g34 := someF_ok (p := stP 3 4) hokL
  have g22 := someF_ok (p := stP 2 2) hokL
  have gow := someF_ok (p := ownP) hokL
  have l34 := hlen (stP 3 4)
  have l22 := hlen (stP 2 2)
  have l11 := hlen (stP 1 1)
  have low := hlen ownP
  have lwn := hlen (ownerP o)
  have c34 : chosen n o l = match someF (stP 3 4) (cntd n l) with
    | x :: _ => ofC 1 x
    | [] => match someF (stP 2 2) (cntd n l) with
      | x :: xs => ofC 2 (maxV x xs)
      | [] => match someF ownP (cntd n l), decide (faults n ≤ (someF ownP (cntd n l)).length ∧ someF (ownerP o) (cntd n l) = []) with
        | x :: _, true => ofC 2 x
        | _, _ => match someF (stP 1 1) (cntd n l) with
          | x :: xs => ⟨3, (maxV x xs).cmd, 0, []⟩
          | [] => ⟨2, cmd0, 0, []⟩ := by unfold chosen; rw [hen, if_pos rfl]
  have hfp : 0 < faults n := by unfold enough at hen; exact (of_decide_eq_true hen).1
  generalize someF (stP 3 4) (cntd n l) = S34 at *
  generalize someF (stP 2 2) (cntd n l) = S22 at *
  generalize someF (stP 1 1) (cntd n l) = S11 at *
  generalize someF ownP (cntd n l) = So at *
  generalize someF (ownerP o) (cntd n l) = Sw at *
  cases S34 with
  | cons x xs =>
    rw [c34]
    have ll : ((x :: xs).map Ix.c).length = xs.length + 1 := by rw [List.length_map, List.length_cons]
    have h0 : ((x :: xs).map Ix.c)[0]? = some x.c := rfl
    have hof := c_of 1 x (g34 x (.head _))
    repeat' (first | refine W.seq ?_ | refine W.region ?_ | refine WO.nil ?_ | refine W.scope ?_ | refine W.goto ⟨_, rfl, W.inscope ?_⟩ | refine WO.onG rfl ?_ | refine WO.offG rfl ?_ | (refine WO.fork rfl ?_ ?_ <;> intro hc <;> (fail_if_success (exfalso; cases hc; done)) <;> (first | subst hc | (simp at hc; try omega) | skip)) | (refine WO.isMv ?_; first | refine WO.go rfl rfl ?_ | refine WO.mvR rfl ?_) | (refine WO.isBin ?_; first | refine WO.testT rfl rfl ?_ | refine WO.testF rfl rfl ?_ | (refine WO.tgtr rfl rfl rfl (fun hc => ?_) (fun hc => ?_) <;> try omega) | (refine WO.tgeq rfl rfl rfl (fun hc => ?_) (fun hc => ?_) <;> try omega) | (refine WO.teql rfl rfl rfl (fun hc => ?_) (fun hc => ?_) <;> try omega) | refine WO.tseql rfl rfl rfl (fun hc => ?_) (fun hc => ?_) | refine WO.go rfl rfl ?_) | (refine WO.isUn ?_; first | refine WO.go rfl rfl ?_) | (refine WO.isCall ?_; first | refine WO.ask rfl rfl (he _) ?_ | refine WO.ask' rfl rfl (he _) ?_ | refine WO.ask rfl rfl (hcn _) ?_ | refine WO.ask' rfl rfl (hcn _) ?_ | refine WO.ask rfl rfl (hs34 _ rfl) ?_ | refine WO.ask' rfl rfl (hs34 _ rfl) ?_ | refine WO.ask rfl rfl (hs22 _ rfl) ?_ | refine WO.ask' rfl rfl (hs22 _ rfl) ?_ | refine WO.ask rfl rfl (hs11 _ rfl) ?_ | refine WO.ask' rfl rfl (hs11 _ rfl) ?_ | refine WO.ask rfl rfl (hso _) ?_ | refine WO.ask' rfl rfl (hso _) ?_ | refine WO.ask rfl rfl (hsw _ rfl) ?_ | refine WO.ask' rfl rfl (hsw _ rfl) ?_ | refine WO.ask rfl rfl (c_Faults _ _) ?_ | refine WO.ask' rfl rfl (c_Faults _ _) ?_ | refine WO.ask rfl rfl (hof _) ?_ | refine WO.ask' rfl rfl (hof _) ?_) | (refine WO.isDyn ?_; first | refine WO.ask rfl rfl (he _) ?_ | refine WO.ask' rfl rfl (he _) ?_ | refine WO.ask rfl rfl (hcn _) ?_ | refine WO.ask' rfl rfl (hcn _) ?_ | refine WO.ask rfl rfl (hs34 _ rfl) ?_ | refine WO.ask' rfl rfl (hs34 _ rfl) ?_ | refine WO.ask rfl rfl (hs22 _ rfl) ?_ | refine WO.ask' rfl rfl (hs22 _ rfl) ?_ | refine WO.ask rfl rfl (hs11 _ rfl) ?_ | refine WO.ask' rfl rfl (hs11 _ rfl) ?_ | refine WO.ask rfl rfl (hso _) ?_ | refine WO.ask' rfl rfl (hso _) ?_ | refine WO.ask rfl rfl (hsw _ rfl) ?_ | refine WO.ask' rfl rfl (hsw _ rfl) ?_ | refine WO.ask rfl rfl (c_Faults _ _) ?_ | refine WO.ask' rfl rfl (c_Faults _ _) ?_ | refine WO.ask rfl rfl (hof _) ?_ | refine WO.ask' rfl rfl (hof _) ?_) | (refine WO.isLoad ?_; first | refine WO.go rfl rfl ?_ | refine WO.ldc rfl rfl blk_l1 rfl rfl ?_ | refine WO.lda rfl rfl blk_l1 (of_decide_eq_true rfl) rfl ?_ | refine WO.ldc rfl rfl blk_l2 rfl rfl ?_ | refine WO.lda rfl rfl blk_l2 (of_decide_eq_true rfl) rfl ?_ | refine WO.ldc rfl rfl blk_l3 rfl rfl ?_ | refine WO.lda rfl rfl blk_l3 (of_decide_eq_true rfl) rfl ?_) | (refine WO.isStore ?_; first | refine WO.st rfl rfl ?_ | refine WO.stB rfl rfl rfl rfl rfl blk_l1 (of_decide_eq_true rfl) rfl set_l1 ?_ | refine WO.stB rfl rfl rfl rfl rfl blk_l2 (of_decide_eq_true rfl) rfl set_l2 ?_ | refine WO.stB rfl rfl rfl rfl rfl blk_l3 (of_decide_eq_true rfl) rfl set_l3 ?_) | (refine WO.isIaddr ?_; first | refine WO.slidx rfl rfl rfl rfl rfl h0 ?_ | refine WO.go rfl rfl ?_) | (refine WO.isSlice ?_; first | refine WO.go rfl rfl ?_) | (refine WO.isLen ?_; first | refine WO.lenS rfl rfl ll ?_ | refine WO.go rfl rfl ?_) | refine WO.go rfl rfl ?_ | refine WO.st rfl rfl ?_ | refine W.skip ?_ | refine W.condT rfl ?_ | refine W.condF rfl ?_ | (refine W.fork rfl ?_ ?_ <;> intro hc <;> (fail_if_success (exfalso; cases hc; done)) <;> (first | subst hc | (simp at hc; try omega) | skip)) | refine W.ret ?_)
    change (_ ∨ _) ∧ _
    exact ⟨.inr rfl, _, rfl, fin rfl rfl rfl⟩
  | nil =>
    have e0 : (([] : List Ix).map Ix.c).length = 0 := rfl
    cases S22 with
    | cons x xs =>
      rw [c34]
      have ll : ((x :: xs).map Ix.c).length = xs.length + 1 := by rw [List.length_map, List.length_cons]
      have hby := c_by x xs (by simp at l22; omega)
      have hof := c_of 2 (maxV x xs) (g22 _ (maxV_mem xs x))
      repeat' (first | refine W.seq ?_ | refine W.region ?_ | refine WO.nil ?_ | refine W.scope ?_ | refine W.goto ⟨_, rfl, W.inscope ?_⟩ | refine WO.onG rfl ?_ | refine WO.offG rfl ?_ | (refine WO.fork rfl ?_ ?_ <;> intro hc <;> (fail_if_success (exfalso; cases hc; done)) <;> (first | subst hc | (simp at hc; try omega) | skip)) | (refine WO.isMv ?_; first | refine WO.go rfl rfl ?_ | refine WO.mvR rfl ?_) | (refine WO.isBin ?_; first | refine WO.testT rfl rfl ?_ | refine WO.testF rfl rfl ?_ | (refine WO.tgtr rfl rfl rfl (fun hc => ?_) (fun hc => ?_) <;> try omega) | (refine WO.tgeq rfl rfl rfl (fun hc => ?_) (fun hc => ?_) <;> try omega) | (refine WO.teql rfl rfl rfl (fun hc => ?_) (fun hc => ?_) <;> try omega) | refine WO.tseql rfl rfl rfl (fun hc => ?_) (fun hc => ?_) | refine WO.go rfl rfl ?_) | (refine WO.isUn ?_; first | refine WO.go rfl rfl ?_) | (refine WO.isCall ?_; first | refine WO.ask rfl rfl (he _) ?_ | refine WO.ask' rfl rfl (he _) ?_ | refine WO.ask rfl rfl (hcn _) ?_ | refine WO.ask' rfl rfl (hcn _) ?_ | refine WO.ask rfl rfl (hs34 _ rfl) ?_ | refine WO.ask' rfl rfl (hs34 _ rfl) ?_ | refine WO.ask rfl rfl (hs22 _ rfl) ?_ | refine WO.ask' rfl rfl (hs22 _ rfl) ?_ | refine WO.ask rfl rfl (hs11 _ rfl) ?_ | refine WO.ask' rfl rfl (hs11 _ rfl) ?_ | refine WO.ask rfl rfl (hso _) ?_ | refine WO.ask' rfl rfl (hso _) ?_ | refine WO.ask rfl rfl (hsw _ rfl) ?_ | refine WO.ask' rfl rfl (hsw _ rfl) ?_ | refine WO.ask rfl rfl (c_Faults _ _) ?_ | refine WO.ask' rfl rfl (c_Faults _ _) ?_ | refine WO.ask rfl rfl (hby _) ?_ | refine WO.ask' rfl rfl (hby _) ?_ | refine WO.ask rfl rfl (hof _) ?_ | refine WO.ask' rfl rfl (hof _) ?_) | (refine WO.isDyn ?_; first | refine WO.ask rfl rfl (he _) ?_ | refine WO.ask' rfl rfl (he _) ?_ | refine WO.ask rfl rfl (hcn _) ?_ | refine WO.ask' rfl rfl (hcn _) ?_ | refine WO.ask rfl rfl (hs34 _ rfl) ?_ | refine WO.ask' rfl rfl (hs34 _ rfl) ?_ | refine WO.ask rfl rfl (hs22 _ rfl) ?_ | refine WO.ask' rfl rfl (hs22 _ rfl) ?_ | refine WO.ask rfl rfl (hs11 _ rfl) ?_ | refine WO.ask' rfl rfl (hs11 _ rfl) ?_ | refine WO.ask rfl rfl (hso _) ?_ | refine WO.ask' rfl rfl (hso _) ?_ | refine WO.ask rfl rfl (hsw _ rfl) ?_ | refine WO.ask' rfl rfl (hsw _ rfl) ?_ | refine WO.ask rfl rfl (c_Faults _ _) ?_ | refine WO.ask' rfl rfl (c_Faults _ _) ?_ | refine WO.ask rfl rfl (hby _) ?_ | refine WO.ask' rfl rfl (hby _) ?_ | refine WO.ask rfl rfl (hof _) ?_ | refine WO.ask' rfl rfl (hof _) ?_) | (refine WO.isLoad ?_; first | refine WO.go rfl rfl ?_ | refine WO.ldc rfl rfl blk_l1 rfl rfl ?_ | refine WO.lda rfl rfl blk_l1 (of_decide_eq_true rfl) rfl ?_ | refine WO.ldc rfl rfl blk_l2 rfl rfl ?_ | refine WO.lda rfl rfl blk_l2 (of_decide_eq_true rfl) rfl ?_ | refine WO.ldc rfl rfl blk_l3 rfl rfl ?_ | refine WO.lda rfl rfl blk_l3 (of_decide_eq_true rfl) rfl ?_) | (refine WO.isStore ?_; first | refine WO.st rfl rfl ?_ | refine WO.stB rfl rfl rfl rfl rfl blk_l1 (of_decide_eq_true rfl) rfl set_l1 ?_ | refine WO.stB rfl rfl rfl rfl rfl blk_l2 (of_decide_eq_true rfl) rfl set_l2 ?_ | refine WO.stB rfl rfl rfl rfl rfl blk_l3 (of_decide_eq_true rfl) rfl set_l3 ?_) | (refine WO.isIaddr ?_; first | refine WO.go rfl rfl ?_) | (refine WO.isSlice ?_; first | refine WO.go rfl rfl ?_) | (refine WO.isLen ?_; first | refine WO.lenS rfl rfl ll ?_ | refine WO.lenS rfl rfl e0 ?_ | refine WO.go rfl rfl ?_) | refine WO.go rfl rfl ?_ | refine WO.st rfl rfl ?_ | refine W.skip ?_ | refine W.condT rfl ?_ | refine W.condF rfl ?_ | (refine W.fork rfl ?_ ?_ <;> intro hc <;> (fail_if_success (exfalso; cases hc; done)) <;> (first | subst hc | (simp at hc; try omega) | skip)) | refine W.ret ?_)
      change (_ ∨ _) ∧ _
      exact ⟨.inr rfl, _, rfl, fin rfl rfl rfl⟩
    | nil =>
      have lo : (So.map Ix.c).length = So.length := List.length_map ..
      have lw : (Sw.map Ix.c).length = Sw.length := List.length_map ..
      by_cases hq : faults n ≤ So.length ∧ Sw = []
      · obtain ⟨hq1, rfl⟩ := hq
        cases So with
        | nil => simp at hq1; omega
        | cons x xs =>
          have hd : decide (faults n ≤ ((x :: xs).length : Int) ∧ ([] : List Ix) = []) = true := decide_eq_true ⟨hq1, rfl⟩
          rw [hd] at c34
          have hv : chosen n o l = ofC 2 x := c34
          rw [hv]
          have hby := c_by x [] (by simp)
          have hof := c_of 2 x (gow x (.head _))
          repeat' (first | refine W.seq ?_ | refine W.region ?_ | refine WO.nil ?_ | refine W.scope ?_ | refine W.goto ⟨_, rfl, W.inscope ?_⟩ | refine WO.onG rfl ?_ | refine WO.offG rfl ?_ | (refine WO.fork rfl ?_ ?_ <;> intro hc <;> (fail_if_success (exfalso; cases hc; done)) <;> (first | subst hc | (simp at hc; try omega) | skip)) | (refine WO.isMv ?_; first | refine WO.go rfl rfl ?_ | refine WO.mvR rfl ?_) | (refine WO.isBin ?_; first | refine WO.testT rfl rfl ?_ | refine WO.testF rfl rfl ?_ | (refine WO.tgtr rfl rfl rfl (fun hc => ?_) (fun hc => ?_) <;> try omega) | (refine WO.tgeq rfl rfl rfl (fun hc => ?_) (fun hc => ?_) <;> try omega) | (refine WO.teql rfl rfl rfl (fun hc => ?_) (fun hc => ?_) <;> try omega) | refine WO.tseql rfl rfl rfl (fun hc => ?_) (fun hc => ?_) | refine WO.go rfl rfl ?_) | (refine WO.isUn ?_; first | refine WO.go rfl rfl ?_) | (refine WO.isCall ?_; first | refine WO.ask rfl rfl (he _) ?_ | refine WO.ask' rfl rfl (he _) ?_ | refine WO.ask rfl rfl (hcn _) ?_ | refine WO.ask' rfl rfl (hcn _) ?_ | refine WO.ask rfl rfl (hs34 _ rfl) ?_ | refine WO.ask' rfl rfl (hs34 _ rfl) ?_ | refine WO.ask rfl rfl (hs22 _ rfl) ?_ | refine WO.ask' rfl rfl (hs22 _ rfl) ?_ | refine WO.ask rfl rfl (hs11 _ rfl) ?_ | refine WO.ask' rfl rfl (hs11 _ rfl) ?_ | refine WO.ask rfl rfl (hso _) ?_ | refine WO.ask' rfl rfl (hso _) ?_ | refine WO.ask rfl rfl (hsw _ rfl) ?_ | refine WO.ask' rfl rfl (hsw _ rfl) ?_ | refine WO.ask rfl rfl (c_Faults _ _) ?_ | refine WO.ask' rfl rfl (c_Faults _ _) ?_ | refine WO.ask rfl rfl (hby _) ?_ | refine WO.ask' rfl rfl (hby _) ?_ | refine WO.ask rfl rfl (hof _) ?_ | refine WO.ask' rfl rfl (hof _) ?_) | (refine WO.isDyn ?_; first | refine WO.ask rfl rfl (he _) ?_ | refine WO.ask' rfl rfl (he _) ?_ | refine WO.ask rfl rfl (hcn _) ?_ | refine WO.ask' rfl rfl (hcn _) ?_ | refine WO.ask rfl rfl (hs34 _ rfl) ?_ | refine WO.ask' rfl rfl (hs34 _ rfl) ?_ | refine WO.ask rfl rfl (hs22 _ rfl) ?_ | refine WO.ask' rfl rfl (hs22 _ rfl) ?_ | refine WO.ask rfl rfl (hs11 _ rfl) ?_ | refine WO.ask' rfl rfl (hs11 _ rfl) ?_ | refine WO.ask rfl rfl (hso _) ?_ | refine WO.ask' rfl rfl (hso _) ?_ | refine WO.ask rfl rfl (hsw _ rfl) ?_ | refine WO.ask' rfl rfl (hsw _ rfl) ?_ | refine WO.ask rfl rfl (c_Faults _ _) ?_ | refine WO.ask' rfl rfl (c_Faults _ _) ?_ | refine WO.ask rfl rfl (hby _) ?_ | refine WO.ask' rfl rfl (hby _) ?_ | refine WO.ask rfl rfl (hof _) ?_ | refine WO.ask' rfl rfl (hof _) ?_) | (refine WO.isLoad ?_; first | refine WO.go rfl rfl ?_ | refine WO.ldc rfl rfl blk_l1 rfl rfl ?_ | refine WO.lda rfl rfl blk_l1 (of_decide_eq_true rfl) rfl ?_ | refine WO.ldc rfl rfl blk_l2 rfl rfl ?_ | refine WO.lda rfl rfl blk_l2 (of_decide_eq_true rfl) rfl ?_ | refine WO.ldc rfl rfl blk_l3 rfl rfl ?_ | refine WO.lda rfl rfl blk_l3 (of_decide_eq_true rfl) rfl ?_) | (refine WO.isStore ?_; first | refine WO.st rfl rfl ?_ | refine WO.stB rfl rfl rfl rfl rfl blk_l1 (of_decide_eq_true rfl) rfl set_l1 ?_ | refine WO.stB rfl rfl rfl rfl rfl blk_l2 (of_decide_eq_true rfl) rfl set_l2 ?_ | refine WO.stB rfl rfl rfl rfl rfl blk_l3 (of_decide_eq_true rfl) rfl set_l3 ?_) | (refine WO.isIaddr ?_; first | refine WO.go rfl rfl ?_) | (refine WO.isSlice ?_; first | refine WO.slhi rfl rfl rfl rfl (.inl rfl) (by rw [lo]; show 1 ≤ xs.length + 1; omega) ?_ | refine WO.go rfl rfl ?_) | (refine WO.isLen ?_; first | refine WO.lenS rfl rfl lo ?_ | refine WO.lenS rfl rfl e0 ?_ | refine WO.go rfl rfl ?_) | refine WO.go rfl rfl ?_ | refine WO.st rfl rfl ?_ | refine W.skip ?_ | refine W.condT rfl ?_ | refine W.condF rfl ?_ | (refine W.fork rfl ?_ ?_ <;> intro hc <;> (fail_if_success (exfalso; cases hc; done)) <;> (first | subst hc | (simp at hc; try omega) | skip)) | refine W.ret ?_)
          change (_ ∨ _) ∧ _
          exact ⟨.inr rfl, _, rfl, fin rfl rfl rfl⟩
      · have hd := decide_eq_false hq
        cases S11 with
        | cons x xs =>
          have hv : chosen n o l = ⟨3, (maxV x xs).cmd, 0, []⟩ := by rw [c34, hd]; cases So <;> rfl
          rw [hv]
          have ll : ((x :: xs).map Ix.c).length = xs.length + 1 := by rw [List.length_map, List.length_cons]
          have hby := c_by x xs (by simp at l11; omega)
          by_cases hq1 : faults n ≤ So.length
          · have hw : ¬ (Sw.length : Int) = 0 := fun h => hq ⟨hq1, List.length_eq_zero_iff.1 (by omega)⟩
            repeat' (first | refine W.seq ?_ | refine W.region ?_ | refine WO.nil ?_ | refine W.scope ?_ | refine W.goto ⟨_, rfl, W.inscope ?_⟩ | refine WO.onG rfl ?_ | refine WO.offG rfl ?_ | (refine WO.fork rfl ?_ ?_ <;> intro hc <;> (fail_if_success (exfalso; cases hc; done)) <;> (first | subst hc | (simp at hc; try omega) | skip)) | (refine WO.isMv ?_; first | refine WO.go rfl rfl ?_ | refine WO.mvR rfl ?_) | (refine WO.isBin ?_; first | refine WO.eqF rfl rfl rfl hw ?_ | refine WO.testT rfl rfl ?_ | refine WO.testF rfl rfl ?_ | (refine WO.tgtr rfl rfl rfl (fun hc => ?_) (fun hc => ?_) <;> try omega) | (refine WO.tgeq rfl rfl rfl (fun hc => ?_) (fun hc => ?_) <;> try omega) | (refine WO.teql rfl rfl rfl (fun hc => ?_) (fun hc => ?_) <;> try omega) | refine WO.tseql rfl rfl rfl (fun hc => ?_) (fun hc => ?_) | refine WO.go rfl rfl ?_) | (refine WO.isUn ?_; first | refine WO.go rfl rfl ?_) | (refine WO.isCall ?_; first | refine WO.ask rfl rfl (he _) ?_ | refine WO.ask' rfl rfl (he _) ?_ | refine WO.ask rfl rfl (hcn _) ?_ | refine WO.ask' rfl rfl (hcn _) ?_ | refine WO.ask rfl rfl (hs34 _ rfl) ?_ | refine WO.ask' rfl rfl (hs34 _ rfl) ?_ | refine WO.ask rfl rfl (hs22 _ rfl) ?_ | refine WO.ask' rfl rfl (hs22 _ rfl) ?_ | refine WO.ask rfl rfl (hs11 _ rfl) ?_ | refine WO.ask' rfl rfl (hs11 _ rfl) ?_ | refine WO.ask rfl rfl (hso _) ?_ | refine WO.ask' rfl rfl (hso _) ?_ | refine WO.ask rfl rfl (hsw _ rfl) ?_ | refine WO.ask' rfl rfl (hsw _ rfl) ?_ | refine WO.ask rfl rfl (c_Faults _ _) ?_ | refine WO.ask' rfl rfl (c_Faults _ _) ?_ | refine WO.ask rfl rfl (hby _) ?_ | refine WO.ask' rfl rfl (hby _) ?_) | (refine WO.isDyn ?_; first | refine WO.ask rfl rfl (he _) ?_ | refine WO.ask' rfl rfl (he _) ?_ | refine WO.ask rfl rfl (hcn _) ?_ | refine WO.ask' rfl rfl (hcn _) ?_ | refine WO.ask rfl rfl (hs34 _ rfl) ?_ | refine WO.ask' rfl rfl (hs34 _ rfl) ?_ | refine WO.ask rfl rfl (hs22 _ rfl) ?_ | refine WO.ask' rfl rfl (hs22 _ rfl) ?_ | refine WO.ask rfl rfl (hs11 _ rfl) ?_ | refine WO.ask' rfl rfl (hs11 _ rfl) ?_ | refine WO.ask rfl rfl (hso _) ?_ | refine WO.ask' rfl rfl (hso _) ?_ | refine WO.ask rfl rfl (hsw _ rfl) ?_ | refine WO.ask' rfl rfl (hsw _ rfl) ?_ | refine WO.ask rfl rfl (c_Faults _ _) ?_ | refine WO.ask' rfl rfl (c_Faults _ _) ?_ | refine WO.ask rfl rfl (hby _) ?_ | refine WO.ask' rfl rfl (hby _) ?_) | (refine WO.isLoad ?_; first | refine WO.go rfl rfl ?_ | refine WO.ldc rfl rfl blk_l1 rfl rfl ?_ | refine WO.lda rfl rfl blk_l1 (of_decide_eq_true rfl) rfl ?_ | refine WO.ldc rfl rfl blk_l2 rfl rfl ?_ | refine WO.lda rfl rfl blk_l2 (of_decide_eq_true rfl) rfl ?_ | refine WO.ldc rfl rfl blk_l3 rfl rfl ?_ | refine WO.lda rfl rfl blk_l3 (of_decide_eq_true rfl) rfl ?_) | (refine WO.isStore ?_; first | refine WO.st rfl rfl ?_ | refine WO.stB rfl rfl rfl rfl rfl blk_l1 (of_decide_eq_true rfl) rfl set_l1 ?_ | refine WO.stB rfl rfl rfl rfl rfl blk_l2 (of_decide_eq_true rfl) rfl set_l2 ?_ | refine WO.stB rfl rfl rfl rfl rfl blk_l3 (of_decide_eq_true rfl) rfl set_l3 ?_) | (refine WO.isIaddr ?_; first | refine WO.go rfl rfl ?_) | (refine WO.isSlice ?_; first | refine WO.go rfl rfl ?_) | (refine WO.isLen ?_; first | refine WO.lenS rfl rfl lo ?_ | refine WO.lenS rfl rfl lw ?_ | refine WO.lenS rfl rfl ll ?_ | refine WO.lenS rfl rfl e0 ?_ | refine WO.go rfl rfl ?_) | refine WO.go rfl rfl ?_ | refine WO.st rfl rfl ?_ | refine W.skip ?_ | refine W.condT rfl ?_ | refine W.condF rfl ?_ | (refine W.fork rfl ?_ ?_ <;> intro hc <;> (fail_if_success (exfalso; cases hc; done)) <;> (first | subst hc | (simp at hc; try omega) | skip)) | refine W.ret ?_)
            change (_ ∨ _) ∧ _
            exact ⟨.inr rfl, _, rfl, fin rfl rfl rfl⟩
          · repeat' (first | refine W.seq ?_ | refine W.region ?_ | refine WO.nil ?_ | refine W.scope ?_ | refine W.goto ⟨_, rfl, W.inscope ?_⟩ | refine WO.onG rfl ?_ | refine WO.offG rfl ?_ | (refine WO.fork rfl ?_ ?_ <;> intro hc <;> (fail_if_success (exfalso; cases hc; done)) <;> (first | subst hc | (simp at hc; try omega) | skip)) | (refine WO.isMv ?_; first | refine WO.go rfl rfl ?_ | refine WO.mvR rfl ?_) | (refine WO.isBin ?_; first | refine WO.testT rfl rfl ?_ | refine WO.testF rfl rfl ?_ | (refine WO.tgtr rfl rfl rfl (fun hc => ?_) (fun hc => ?_) <;> try omega) | (refine WO.tgeq rfl rfl rfl (fun hc => ?_) (fun hc => ?_) <;> try omega) | (refine WO.teql rfl rfl rfl (fun hc => ?_) (fun hc => ?_) <;> try omega) | refine WO.tseql rfl rfl rfl (fun hc => ?_) (fun hc => ?_) | refine WO.go rfl rfl ?_) | (refine WO.isUn ?_; first | refine WO.go rfl rfl ?_) | (refine WO.isCall ?_; first | refine WO.ask rfl rfl (he _) ?_ | refine WO.ask' rfl rfl (he _) ?_ | refine WO.ask rfl rfl (hcn _) ?_ | refine WO.ask' rfl rfl (hcn _) ?_ | refine WO.ask rfl rfl (hs34 _ rfl) ?_ | refine WO.ask' rfl rfl (hs34 _ rfl) ?_ | refine WO.ask rfl rfl (hs22 _ rfl) ?_ | refine WO.ask' rfl rfl (hs22 _ rfl) ?_ | refine WO.ask rfl rfl (hs11 _ rfl) ?_ | refine WO.ask' rfl rfl (hs11 _ rfl) ?_ | refine WO.ask rfl rfl (hso _) ?_ | refine WO.ask' rfl rfl (hso _) ?_ | refine WO.ask rfl rfl (hsw _ rfl) ?_ | refine WO.ask' rfl rfl (hsw _ rfl) ?_ | refine WO.ask rfl rfl (c_Faults _ _) ?_ | refine WO.ask' rfl rfl (c_Faults _ _) ?_ | refine WO.ask rfl rfl (hby _) ?_ | refine WO.ask' rfl rfl (hby _) ?_) | (refine WO.isDyn ?_; first | refine WO.ask rfl rfl (he _) ?_ | refine WO.ask' rfl rfl (he _) ?_ | refine WO.ask rfl rfl (hcn _) ?_ | refine WO.ask' rfl rfl (hcn _) ?_ | refine WO.ask rfl rfl (hs34 _ rfl) ?_ | refine WO.ask' rfl rfl (hs34 _ rfl) ?_ | refine WO.ask rfl rfl (hs22 _ rfl) ?_ | refine WO.ask' rfl rfl (hs22 _ rfl) ?_ | refine WO.ask rfl rfl (hs11 _ rfl) ?_ | refine WO.ask' rfl rfl (hs11 _ rfl) ?_ | refine WO.ask rfl rfl (hso _) ?_ | refine WO.ask' rfl rfl (hso _) ?_ | refine WO.ask rfl rfl (hsw _ rfl) ?_ | refine WO.ask' rfl rfl (hsw _ rfl) ?_ | refine WO.ask rfl rfl (c_Faults _ _) ?_ | refine WO.ask' rfl rfl (c_Faults _ _) ?_ | refine WO.ask rfl rfl (hby _) ?_ | refine WO.ask' rfl rfl (hby _) ?_) | (refine WO.isLoad ?_; first | refine WO.go rfl rfl ?_ | refine WO.ldc rfl rfl blk_l1 rfl rfl ?_ | refine WO.lda rfl rfl blk_l1 (of_decide_eq_true rfl) rfl ?_ | refine WO.ldc rfl rfl blk_l2 rfl rfl ?_ | refine WO.lda rfl rfl blk_l2 (of_decide_eq_true rfl) rfl ?_ | refine WO.ldc rfl rfl blk_l3 rfl rfl ?_ | refine WO.lda rfl rfl blk_l3 (of_decide_eq_true rfl) rfl ?_) | (refine WO.isStore ?_; first | refine WO.st rfl rfl ?_ | refine WO.stB rfl rfl rfl rfl rfl blk_l1 (of_decide_eq_true rfl) rfl set_l1 ?_ | refine WO.stB rfl rfl rfl rfl rfl blk_l2 (of_decide_eq_true rfl) rfl set_l2 ?_ | refine WO.stB rfl rfl rfl rfl rfl blk_l3 (of_decide_eq_true rfl) rfl set_l3 ?_) | (refine WO.isIaddr ?_; first | refine WO.go rfl rfl ?_) | (refine WO.isSlice ?_; first | refine WO.go rfl rfl ?_) | (refine WO.isLen ?_; first | refine WO.lenS rfl rfl lo ?_ | refine WO.lenS rfl rfl lw ?_ | refine WO.lenS rfl rfl ll ?_ | refine WO.lenS rfl rfl e0 ?_ | refine WO.go rfl rfl ?_) | refine WO.go rfl rfl ?_ | refine WO.st rfl rfl ?_ | refine W.skip ?_ | refine W.condT rfl ?_ | refine W.condF rfl ?_ | (refine W.fork rfl ?_ ?_ <;> intro hc <;> (fail_if_success (exfalso; cases hc; done)) <;> (first | subst hc | (simp at hc; try omega) | skip)) | refine W.ret ?_)
            change (_ ∨ _) ∧ _
            exact ⟨.inr rfl, _, rfl, fin rfl rfl rfl⟩
        | nil =>
          have hv : chosen n o l = ⟨2, cmd0, 0, []⟩ := by rw [c34, hd]; cases So <;> rfl
          rw [hv]
          by_cases hq1 : faults n ≤ So.length
          · have hw : ¬ (Sw.length : Int) = 0 := fun h => hq ⟨hq1, List.length_eq_zero_iff.1 (by omega)⟩
            repeat' (first | refine W.seq ?_ | refine W.region ?_ | refine WO.nil ?_ | refine W.scope ?_ | refine W.goto ⟨_, rfl, W.inscope ?_⟩ | refine WO.onG rfl ?_ | refine WO.offG rfl ?_ | (refine WO.fork rfl ?_ ?_ <;> intro hc <;> (fail_if_success (exfalso; cases hc; done)) <;> (first | subst hc | (simp at hc; try omega) | skip)) | (refine WO.isMv ?_; first | refine WO.go rfl rfl ?_ | refine WO.mvR rfl ?_) | (refine WO.isBin ?_; first | refine WO.eqF rfl rfl rfl hw ?_ | refine WO.testT rfl rfl ?_ | refine WO.testF rfl rfl ?_ | (refine WO.tgtr rfl rfl rfl (fun hc => ?_) (fun hc => ?_) <;> try omega) | (refine WO.tgeq rfl rfl rfl (fun hc => ?_) (fun hc => ?_) <;> try omega) | (refine WO.teql rfl rfl rfl (fun hc => ?_) (fun hc => ?_) <;> try omega) | refine WO.tseql rfl rfl rfl (fun hc => ?_) (fun hc => ?_) | refine WO.go rfl rfl ?_) | (refine WO.isUn ?_; first | refine WO.go rfl rfl ?_) | (refine WO.isCall ?_; first | refine WO.ask rfl rfl (he _) ?_ | refine WO.ask' rfl rfl (he _) ?_ | refine WO.ask rfl rfl (hcn _) ?_ | refine WO.ask' rfl rfl (hcn _) ?_ | refine WO.ask rfl rfl (hs34 _ rfl) ?_ | refine WO.ask' rfl rfl (hs34 _ rfl) ?_ | refine WO.ask rfl rfl (hs22 _ rfl) ?_ | refine WO.ask' rfl rfl (hs22 _ rfl) ?_ | refine WO.ask rfl rfl (hs11 _ rfl) ?_ | refine WO.ask' rfl rfl (hs11 _ rfl) ?_ | refine WO.ask rfl rfl (hso _) ?_ | refine WO.ask' rfl rfl (hso _) ?_ | refine WO.ask rfl rfl (hsw _ rfl) ?_ | refine WO.ask' rfl rfl (hsw _ rfl) ?_ | refine WO.ask rfl rfl (c_Faults _ _) ?_ | refine WO.ask' rfl rfl (c_Faults _ _) ?_) | (refine WO.isDyn ?_; first | refine WO.ask rfl rfl (he _) ?_ | refine WO.ask' rfl rfl (he _) ?_ | refine WO.ask rfl rfl (hcn _) ?_ | refine WO.ask' rfl rfl (hcn _) ?_ | refine WO.ask rfl rfl (hs34 _ rfl) ?_ | refine WO.ask' rfl rfl (hs34 _ rfl) ?_ | refine WO.ask rfl rfl (hs22 _ rfl) ?_ | refine WO.ask' rfl rfl (hs22 _ rfl) ?_ | refine WO.ask rfl rfl (hs11 _ rfl) ?_ | refine WO.ask' rfl rfl (hs11 _ rfl) ?_ | refine WO.ask rfl rfl (hso _) ?_ | refine WO.ask' rfl rfl (hso _) ?_ | refine WO.ask rfl rfl (hsw _ rfl) ?_ | refine WO.ask' rfl rfl (hsw _ rfl) ?_ | refine WO.ask rfl rfl (c_Faults _ _) ?_ | refine WO.ask' rfl rfl (c_Faults _ _) ?_) | (refine WO.isLoad ?_; first | refine WO.go rfl rfl ?_ | refine WO.ldc rfl rfl blk_l1 rfl rfl ?_ | refine WO.lda rfl rfl blk_l1 (of_decide_eq_true rfl) rfl ?_ | refine WO.ldc rfl rfl blk_l2 rfl rfl ?_ | refine WO.lda rfl rfl blk_l2 (of_decide_eq_true rfl) rfl ?_ | refine WO.ldc rfl rfl blk_l3 rfl rfl ?_ | refine WO.lda rfl rfl blk_l3 (of_decide_eq_true rfl) rfl ?_) | (refine WO.isStore ?_; first | refine WO.st rfl rfl ?_ | refine WO.stB rfl rfl rfl rfl rfl blk_l1 (of_decide_eq_true rfl) rfl set_l1 ?_ | refine WO.stB rfl rfl rfl rfl rfl blk_l2 (of_decide_eq_true rfl) rfl set_l2 ?_ | refine WO.stB rfl rfl rfl rfl rfl blk_l3 (of_decide_eq_true rfl) rfl set_l3 ?_) | (refine WO.isIaddr ?_; first | refine WO.go rfl rfl ?_) | (refine WO.isSlice ?_; first | refine WO.go rfl rfl ?_) | (refine WO.isLen ?_; first | refine WO.lenS rfl rfl lo ?_ | refine WO.lenS rfl rfl lw ?_ | refine WO.lenS rfl rfl e0 ?_ | refine WO.go rfl rfl ?_) | refine WO.go rfl rfl ?_ | refine WO.st rfl rfl ?_ | refine W.skip ?_ | refine W.condT rfl ?_ | refine W.condF rfl ?_ | (refine W.fork rfl ?_ ?_ <;> intro hc <;> (fail_if_success (exfalso; cases hc; done)) <;> (first | subst hc | (simp at hc; try omega) | skip)) | refine W.ret ?_)
            change (_ ∨ _) ∧ _
            exact ⟨.inr rfl, _, rfl, fin rfl rfl rfl⟩
          · repeat' (first | refine W.seq ?_ | refine W.region ?_ | refine WO.nil ?_ | refine W.scope ?_ | refine W.goto ⟨_, rfl, W.inscope ?_⟩ | refine WO.onG rfl ?_ | refine WO.offG rfl ?_ | (refine WO.fork rfl ?_ ?_ <;> intro hc <;> (fail_if_success (exfalso; cases hc; done)) <;> (first | subst hc | (simp at hc; try omega) | skip)) | (refine WO.isMv ?_; first | refine WO.go rfl rfl ?_ | refine WO.mvR rfl ?_) | (refine WO.isBin ?_; first | refine WO.testT rfl rfl ?_ | refine WO.testF rfl rfl ?_ | (refine WO.tgtr rfl rfl rfl (fun hc => ?_) (fun hc => ?_) <;> try omega) | (refine WO.tgeq rfl rfl rfl (fun hc => ?_) (fun hc => ?_) <;> try omega) | (refine WO.teql rfl rfl rfl (fun hc => ?_) (fun hc => ?_) <;> try omega) | refine WO.tseql rfl rfl rfl (fun hc => ?_) (fun hc => ?_) | refine WO.go rfl rfl ?_) | (refine WO.isUn ?_; first | refine WO.go rfl rfl ?_) | (refine WO.isCall ?_; first | refine WO.ask rfl rfl (he _) ?_ | refine WO.ask' rfl rfl (he _) ?_ | refine WO.ask rfl rfl (hcn _) ?_ | refine WO.ask' rfl rfl (hcn _) ?_ | refine WO.ask rfl rfl (hs34 _ rfl) ?_ | refine WO.ask' rfl rfl (hs34 _ rfl) ?_ | refine WO.ask rfl rfl (hs22 _ rfl) ?_ | refine WO.ask' rfl rfl (hs22 _ rfl) ?_ | refine WO.ask rfl rfl (hs11 _ rfl) ?_ | refine WO.ask' rfl rfl (hs11 _ rfl) ?_ | refine WO.ask rfl rfl (hso _) ?_ | refine WO.ask' rfl rfl (hso _) ?_ | refine WO.ask rfl rfl (hsw _ rfl) ?_ | refine WO.ask' rfl rfl (hsw _ rfl) ?_ | refine WO.ask rfl rfl (c_Faults _ _) ?_ | refine WO.ask' rfl rfl (c_Faults _ _) ?_) | (refine WO.isDyn ?_; first | refine WO.ask rfl rfl (he _) ?_ | refine WO.ask' rfl rfl (he _) ?_ | refine WO.ask rfl rfl (hcn _) ?_ | refine WO.ask' rfl rfl (hcn _) ?_ | refine WO.ask rfl rfl (hs34 _ rfl) ?_ | refine WO.ask' rfl rfl (hs34 _ rfl) ?_ | refine WO.ask rfl rfl (hs22 _ rfl) ?_ | refine WO.ask' rfl rfl (hs22 _ rfl) ?_ | refine WO.ask rfl rfl (hs11 _ rfl) ?_ | refine WO.ask' rfl rfl (hs11 _ rfl) ?_ | refine WO.ask rfl rfl (hso _) ?_ | refine WO.ask' rfl rfl (hso _) ?_ | refine WO.ask rfl rfl (hsw _ rfl) ?_ | refine WO.ask' rfl rfl (hsw _ rfl) ?_ | refine WO.ask rfl rfl (c_Faults _ _) ?_ | refine WO.ask' rfl rfl (c_Faults _ _) ?_) | (refine WO.isLoad ?_; first | refine WO.go rfl rfl ?_ | refine WO.ldc rfl rfl blk_l1 rfl rfl ?_ | refine WO.lda rfl rfl blk_l1 (of_decide_eq_true rfl) rfl ?_ | refine WO.ldc rfl rfl blk_l2 rfl rfl ?_ | refine WO.lda rfl rfl blk_l2 (of_decide_eq_true rfl) rfl ?_ | refine WO.ldc rfl rfl blk_l3 rfl rfl ?_ | refine WO.lda rfl rfl blk_l3 (of_decide_eq_true rfl) rfl ?_) | (refine WO.isStore ?_; first | refine WO.st rfl rfl ?_ | refine WO.stB rfl rfl rfl rfl rfl blk_l1 (of_decide_eq_true rfl) rfl set_l1 ?_ | refine WO.stB rfl rfl rfl rfl rfl blk_l2 (of_decide_eq_true rfl) rfl set_l2 ?_ | refine WO.stB rfl rfl rfl rfl rfl blk_l3 (of_decide_eq_true rfl) rfl set_l3 ?_) | (refine WO.isIaddr ?_; first | refine WO.go rfl rfl ?_) | (refine WO.isSlice ?_; first | refine WO.go rfl rfl ?_) | (refine WO.isLen ?_; first | refine WO.lenS rfl rfl lo ?_ | refine WO.lenS rfl rfl lw ?_ | refine WO.lenS rfl rfl e0 ?_ | refine WO.go rfl rfl ?_) | refine WO.go rfl rfl ?_ | refine WO.st rfl rfl ?_ | refine W.skip ?_ | refine W.condT rfl ?_ | refine W.condF rfl ?_ | (refine W.fork rfl ?_ ?_ <;> intro hc <;> (fail_if_success (exfalso; cases hc; done)) <;> (first | subst hc | (simp at hc; try omega) | skip)) | refine W.ret ?_)
            change (_ ∨ _) ∧ _
            exact ⟨.inr rfl, _, rfl, fin rfl rfl rfl⟩
end Go.Proofs.Ythecdihimfddgaa.Nv
