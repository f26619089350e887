/- Ballots, instances: what the functions come to. -/
import Derived.Test.YthecdihimfddgaaCmd2
namespace Go.Proofs.Ythecdihimfddgaa.Nv
open Go
structure Bl where
  r : Int
  w : Int
  deriving DecidableEq
def Bl.c (x : Bl) : List NV := [.int .u32 x.r, .int .i64 x.w]
def bl0 : Bl := ⟨0, 0⟩
def ordB (a b : Bl) : Int := orI (cmpI a.r b.r) (cmpI a.w b.w)
theorem ordB_gt {a b : Bl} : 0 < ordB a b ↔ b.r < a.r ∨ a.r = b.r ∧ b.w < a.w := by
  unfold ordB orI cmpI
  split <;> (try split) <;> (try split) <;> (try split) <;> (try split) <;> simp_all <;> omega
theorem ordB_lt {a b : Bl} : ordB a b < 0 ↔ a.r < b.r ∨ a.r = b.r ∧ a.w < b.w := by
  unfold ordB orI cmpI
  split <;> (try split) <;> (try split) <;> (try split) <;> (try split) <;> simp_all <;> omega
structure Ix where
  id : ID
  st : Int
  cmd : Cmd
  seq : Int
  dz : Nat
  df : Bool
  deps : List ID
  bal : Bl
  vote : Bl
  own : Bool
def Ix.c (x : Ix) : List NV := [.int .i64 x.id.o, .int .i64 x.id.n, .int .i64 x.st, .int .i64 x.cmd.op, .int .i64 x.cmd.client, .int .u32 x.cmd.seq, .str x.cmd.key, .str x.cmd.value, .int .u32 x.seq, .slc x.dz x.df (x.deps.map ID.c), .int .u32 x.bal.r, .int .i64 x.bal.w, .int .u32 x.vote.r, .int .i64 x.vote.w, .bool x.own]
def ix0 (id : ID) : Ix := ⟨id, 0, cmd0, 0, 0, true, [], bl0, bl0, false⟩
set_option maxRecDepth 4000 in
theorem c_isNaN32 (a : Int) (m : Mem) : E0 60 [.int .u32 a] m (.bool false) m := by
  refine EvF.by (nf := nf60) (args := [.int .u32 a]) rfl (of_decide_eq_true rfl) rfl ?_
  repeat' (first | refine W.seq ?_ | refine W.region ?_ | refine WO.nil ?_ | (refine WO.isMv ?_; first | refine WO.go rfl rfl ?_ | refine WO.mvR rfl ?_) | (refine WO.isBin ?_; first | refine WO.neF rfl rfl rfl rfl ?_ | refine WO.testT rfl rfl ?_ | refine WO.testF rfl rfl ?_ | (refine WO.tneq rfl rfl rfl (fun hc => ?_) (fun hc => ?_) <;> try omega) | refine WO.tsneq rfl rfl rfl (fun hc => ?_) (fun hc => ?_) | refine WO.go rfl rfl ?_) | refine WO.go rfl rfl ?_ | refine W.ret ?_)
  exact ⟨.inr rfl, _, rfl, fin rfl rfl rfl⟩
set_option maxRecDepth 4000 in
theorem c_Compare32 (a b : Int) (m : Mem) : E0 56 [.int .u32 a, .int .u32 b] m (.int .i64 (cmpI a b)) m := by
  refine EvF.by (nf := nf56) (args := [.int .u32 a, .int .u32 b]) rfl (of_decide_eq_true rfl) rfl ?_
  repeat' (first | refine W.seq ?_ | refine W.region ?_ | refine WO.nil ?_ | (refine WO.isMv ?_; first | refine WO.go rfl rfl ?_ | refine WO.mvR rfl ?_) | (refine WO.isBin ?_; first | refine WO.testT rfl rfl ?_ | refine WO.testF rfl rfl ?_ | (refine WO.tlss rfl rfl rfl (fun hc => ?_) (fun hc => ?_) <;> try omega) | (refine WO.tgtr rfl rfl rfl (fun hc => ?_) (fun hc => ?_) <;> try omega) | refine WO.go rfl rfl ?_) | (refine WO.isCall ?_; first | refine WO.ask rfl rfl (c_isNaN32 _ _) ?_) | refine WO.go rfl rfl ?_ | refine W.skip ?_ | refine W.condT rfl ?_ | refine W.condF rfl ?_ | (refine W.fork rfl ?_ ?_ <;> intro hc <;> (fail_if_success (exfalso; cases hc; done)) <;> (first | subst hc | (simp at hc; try omega) | skip)) | refine W.ret ?_)
  all_goals refine ⟨.inr rfl, _, rfl, fin rfl (congrArg _ ?_) rfl⟩
  all_goals (unfold cmpI; split <;> (try split) <;> omega)
set_option maxRecDepth 4000 in
theorem c_BOrder (a b : Bl) (m : Mem) : E0 44 [.agg a.c, .agg b.c] m (.int .i64 (ordB a b)) m := by
  refine EvF.by (nf := nf44) (args := [.agg a.c, .agg b.c]) rfl (of_decide_eq_true rfl) rfl ?_
  repeat' (first | refine W.seq ?_ | refine W.region ?_ | refine W.drawn ?_ | refine WH.nil ?_ | refine WO.nil ?_ | (refine WO.isMv ?_; first | refine WO.go rfl rfl ?_ | refine WO.mvR rfl ?_) | (refine WO.isCall ?_; first | refine WO.ask rfl rfl (c_Compare _ _ _) ?_ | refine WO.ask rfl rfl (c_Compare32 _ _ _) ?_ | refine WO.ask rfl rfl (c_Or _ _ _) ?_) | refine WO.go rfl rfl ?_ | (refine WH.isCall ?_; first | refine WH.ask rfl rfl rfl rfl (c_Compare _ _ _) ?_ | refine WH.ask rfl rfl rfl rfl (c_Compare32 _ _ _) ?_ | refine WH.ask rfl rfl rfl rfl (c_Or _ _ _) ?_) | (refine WH.isLoad ?_; first | refine WH.go rfl rfl rfl ?_) | refine WH.go rfl rfl rfl ?_ | refine W.ret ?_)
  exact ⟨.inr rfl, _, rfl, fin rfl rfl rfl⟩
set_option maxRecDepth 4000 in
theorem c_refBOrder (a b : Bl) (m : Mem) : E0 54 [.agg a.c, .agg b.c] m (.int .i64 (ordB a b)) m := by
  refine EvF.by (nf := nf54) (args := [.agg a.c, .agg b.c]) rfl (of_decide_eq_true rfl) rfl ?_
  repeat' (first | refine W.seq ?_ | refine W.region ?_ | refine WO.nil ?_ | refine WO.onG rfl ?_ | refine WO.offG rfl ?_ | (refine WO.fork rfl ?_ ?_ <;> intro hc <;> (fail_if_success (exfalso; cases hc; done)) <;> (first | subst hc | (simp at hc; try omega) | skip)) | (refine WO.isMv ?_; first | refine WO.go rfl rfl ?_ | refine WO.mvR rfl ?_) | (refine WO.isBin ?_; first | refine WO.testT rfl rfl ?_ | refine WO.testF rfl rfl ?_ | (refine WO.tlss rfl rfl rfl (fun hc => ?_) (fun hc => ?_) <;> try omega) | (refine WO.teql rfl rfl rfl (fun hc => ?_) (fun hc => ?_) <;> try omega) | refine WO.tseql rfl rfl rfl (fun hc => ?_) (fun hc => ?_) | refine WO.go rfl rfl ?_) | (refine WO.isLoad ?_; first | refine WO.go rfl rfl ?_) | (refine WO.isEq ?_; first | refine WO.go rfl rfl ?_) | refine WO.go rfl rfl ?_ | refine W.skip ?_ | refine W.condT rfl ?_ | refine W.condF rfl ?_ | (refine W.fork rfl ?_ ?_ <;> intro hc <;> (fail_if_success (exfalso; cases hc; done)) <;> (first | subst hc | (simp at hc; try omega) | skip)) | refine W.ret ?_)
  all_goals refine ⟨.inr rfl, _, rfl, fin rfl (congrArg _ ?_) rfl⟩
  all_goals
    unfold ordB orI cmpI
    split <;> (try split) <;> (try split) <;> (try split) <;> (try split) <;> simp_all <;> omega
theorem Bl.ext' {a b : Bl} : a = b ↔ a.r = b.r ∧ a.w = b.w := by cases a; cases b; simp
theorem eq_bl (a b : Bl) : eqL [.int, .int] a.c b.c = some (decide (a = b)) := by
  have h : decide (a = b) = (decide (a.r = b.r) && (decide (a.w = b.w) && true)) := by
    rw [Bool.eq_iff_iff]
    simp [Bl.ext']
  rw [h]
  simp only [Bl.c, eqL, eqC, if_true, int_beq]
set_option maxRecDepth 4000 in
theorem c_BZero (a : Bl) (m : Mem) : E0 32 [.agg a.c] m (.bool (decide (a = bl0))) m := by
  refine EvF.by (nf := nf32) (args := [.agg a.c]) rfl (of_decide_eq_true rfl) rfl ?_
  repeat' (first | refine W.seq ?_ | refine W.region ?_ | refine WO.nil ?_ | (refine WO.isMv ?_; first | refine WO.go rfl rfl ?_ | refine WO.mvR rfl ?_) | (refine WO.isLoad ?_; first | refine WO.go rfl rfl ?_) | (refine WO.isEq ?_; first | refine WO.go rfl rfl ?_) | refine WO.go rfl rfl ?_ | refine W.ret ?_)
  exact ⟨.inr rfl, _, rfl, fin rfl (congrArg NV.bool (by rw [if_neg (by simp), Bool.eq_iff_iff]; simp [Bl.ext', bl0])) rfl⟩
set_option maxRecDepth 4000 in
theorem c_INew (id : ID) (m : Mem) : E0 18 [.agg id.c] m (.agg (ix0 id).c) m := by
  refine EvF.by (nf := nf18) (args := [.agg id.c]) rfl (of_decide_eq_true rfl) rfl ?_
  repeat' (first | refine W.seq ?_ | refine W.region ?_ | refine WO.nil ?_ | (refine WO.isLoad ?_; first | refine WO.go rfl rfl ?_) | (refine WO.isStore ?_; first | refine WO.st rfl rfl ?_) | refine WO.go rfl rfl ?_ | refine WO.st rfl rfl ?_ | refine W.ret ?_)
  exact ⟨.inr rfl, _, rfl, fin rfl rfl rfl⟩
set_option maxRecDepth 4000 in
theorem c_open (x : Ix) (b : Bl) (h : x.st < 3) (hb : 0 ≤ ordB b x.bal) (m : Mem) : E0 43 [.agg x.c, .agg b.c] m (.bool true) m := by
  refine EvF.by (nf := nf43) (args := [.agg x.c, .agg b.c]) rfl (of_decide_eq_true rfl) rfl ?_
  repeat' (first | refine W.seq ?_ | refine W.region ?_ | refine WO.nil ?_ | refine WO.onG rfl ?_ | refine WO.offG rfl ?_ | (refine WO.fork rfl ?_ ?_ <;> intro hc <;> (fail_if_success (exfalso; cases hc; done)) <;> (first | subst hc | (simp at hc; try omega) | skip)) | (refine WO.isMv ?_; first | refine WO.go rfl rfl ?_ | refine WO.mvR rfl ?_) | (refine WO.isBin ?_; first | refine WO.testT rfl rfl ?_ | refine WO.testF rfl rfl ?_ | (refine WO.tlss rfl rfl rfl (fun hc => ?_) (fun hc => ?_) <;> try omega) | (refine WO.tgeq rfl rfl rfl (fun hc => ?_) (fun hc => ?_) <;> try omega) | refine WO.go rfl rfl ?_) | (refine WO.isCall ?_; first | refine WO.ask rfl rfl (c_BOrder b x.bal _) ?_) | (refine WO.isLoad ?_; first | refine WO.go rfl rfl ?_) | refine WO.go rfl rfl ?_ | refine W.ret ?_)
  exact ⟨.inr rfl, _, rfl, fin rfl rfl rfl⟩
def voteI (x : Ix) (st : Int) (b : Bl) (c : Cmd) (s : Int) (z : Nat) (f : Bool) (D : List ID) (own : Bool) : Ix := ⟨x.id, st, c, s, z, f, D, b, b, own⟩
set_option maxRecDepth 8000 in
set_option maxHeartbeats 8000000 in
theorem c_vote (x : Ix) (st : Int) (b : Bl) (c : Cmd) (s : Int) (z : Nat) (f : Bool) (D : List ID) (own : Bool) (m : Mem) :
    E0 45 [.agg x.c, .int .i64 st, .agg b.c, .agg c.c, .agg (attrC s z f D), .bool own] m (.agg (voteI x st b c s z f D own).c) m := by
  refine EvF.by (nf := nf45) (args := [.agg x.c, .int .i64 st, .agg b.c, .agg c.c, .agg (attrC s z f D), .bool own]) rfl (of_decide_eq_true rfl) rfl ?_
  repeat' (first | refine W.seq ?_ | refine W.region ?_ | refine WO.nil ?_ | (refine WO.isMv ?_; first | refine WO.go rfl rfl ?_ | refine WO.mvR rfl ?_) | (refine WO.isLoad ?_; first | refine WO.go rfl rfl ?_) | (refine WO.isStore ?_; first | refine WO.st rfl rfl ?_) | refine WO.go rfl rfl ?_ | refine WO.st rfl rfl ?_ | refine W.ret ?_)
  exact ⟨.inr rfl, _, rfl, fin rfl rfl rfl⟩
set_option maxRecDepth 8000 in
set_option maxHeartbeats 8000000 in
theorem c_PreAccept (id : ID) (c : Cmd) (s : Int) (z : Nat) (f : Bool) (D : List ID) (own : Bool) (m : Mem) :
    E0 20 [.agg (ix0 id).c, .agg bl0.c, .agg c.c, .agg (attrC s z f D), .bool own] m (.tup [.agg (voteI (ix0 id) 1 bl0 c s z f D own).c, .bool true]) m := by
  refine EvF.by (nf := nf20) (args := [.agg (ix0 id).c, .agg bl0.c, .agg c.c, .agg (attrC s z f D), .bool own]) rfl (of_decide_eq_true rfl) rfl ?_
  have ho := c_open (ix0 id) bl0 (by show (0 : Int) < 3; omega) (by show 0 ≤ ordB bl0 bl0; decide)
  have hv := c_vote (ix0 id) 1 bl0 c s z f D own
  repeat' (first | refine W.seq ?_ | refine W.region ?_ | refine WO.nil ?_ | refine WO.onG rfl ?_ | refine WO.offG rfl ?_ | (refine WO.fork rfl ?_ ?_ <;> intro hc <;> (fail_if_success (exfalso; cases hc; done)) <;> (first | subst hc | (simp at hc; try omega) | skip)) | (refine WO.isMv ?_; first | refine WO.go rfl rfl ?_ | refine WO.mvR rfl ?_) | (refine WO.isBin ?_; first | refine WO.testT rfl rfl ?_ | refine WO.testF rfl rfl ?_ | (refine WO.tleq rfl rfl rfl (fun hc => ?_) (fun hc => ?_) <;> try omega) | (refine WO.tneq rfl rfl rfl (fun hc => ?_) (fun hc => ?_) <;> try omega) | refine WO.tsneq rfl rfl rfl (fun hc => ?_) (fun hc => ?_) | refine WO.go rfl rfl ?_) | (refine WO.isUn ?_; first | refine WO.go rfl rfl ?_) | (refine WO.isCall ?_; first | refine WO.ask rfl rfl (ho _) ?_ | refine WO.ask' rfl rfl (ho _) ?_ | refine WO.ask rfl rfl (hv _) ?_ | refine WO.ask' rfl rfl (hv _) ?_) | (refine WO.isLoad ?_; first | refine WO.go rfl rfl ?_) | (refine WO.isStore ?_; first | refine WO.st rfl rfl ?_) | refine WO.go rfl rfl ?_ | refine WO.st rfl rfl ?_ | refine W.skip ?_ | refine W.condT rfl ?_ | refine W.condF rfl ?_ | (refine W.fork rfl ?_ ?_ <;> intro hc <;> (fail_if_success (exfalso; cases hc; done)) <;> (first | subst hc | (simp at hc; try omega) | skip)) | refine W.ret ?_)
  exact ⟨.inr rfl, _, rfl, fin rfl rfl rfl⟩
set_option maxRecDepth 8000 in
set_option maxHeartbeats 8000000 in
theorem c_Accept (id : ID) (b : Bl) (hb : 1 ≤ b.r) (c : Cmd) (s : Int) (z : Nat) (f : Bool) (D : List ID) (m : Mem) :
    E0 23 [.agg (ix0 id).c, .agg b.c, .agg c.c, .agg (attrC s z f D)] m (.tup [.agg (voteI (ix0 id) 2 b c s z f D false).c, .bool true]) m := by
  refine EvF.by (nf := nf23) (args := [.agg (ix0 id).c, .agg b.c, .agg c.c, .agg (attrC s z f D)]) rfl (of_decide_eq_true rfl) rfl ?_
  have hg : 0 < ordB b bl0 := ordB_gt.2 (.inl (by show (0 : Int) < b.r; omega))
  have ho := c_open (ix0 id) b (by show (0 : Int) < 3; omega) (Int.le_of_lt hg)
  have hv := c_vote (ix0 id) 2 b c s z f D false
  repeat' (first | refine W.seq ?_ | refine W.region ?_ | refine WO.nil ?_ | refine WO.onG rfl ?_ | refine WO.offG rfl ?_ | (refine WO.fork rfl ?_ ?_ <;> intro hc <;> (fail_if_success (exfalso; cases hc; done)) <;> (first | subst hc | (simp at hc; try omega) | skip)) | (refine WO.isMv ?_; first | refine WO.go rfl rfl ?_ | refine WO.mvR rfl ?_) | (refine WO.isBin ?_; first | refine WO.testT rfl rfl ?_ | refine WO.testF rfl rfl ?_ | (refine WO.tleq rfl rfl rfl (fun hc => ?_) (fun hc => ?_) <;> try omega) | (refine WO.teql rfl rfl rfl (fun hc => ?_) (fun hc => ?_) <;> try omega) | refine WO.tseql rfl rfl rfl (fun hc => ?_) (fun hc => ?_) | refine WO.go rfl rfl ?_) | (refine WO.isUn ?_; first | refine WO.go rfl rfl ?_) | (refine WO.isCall ?_; first | refine WO.ask rfl rfl (ho _) ?_ | refine WO.ask' rfl rfl (ho _) ?_ | refine WO.ask rfl rfl (hv _) ?_ | refine WO.ask' rfl rfl (hv _) ?_) | (refine WO.isLoad ?_; first | refine WO.go rfl rfl ?_) | (refine WO.isStore ?_; first | refine WO.st rfl rfl ?_) | refine WO.go rfl rfl ?_ | refine WO.st rfl rfl ?_ | refine W.skip ?_ | refine W.condT rfl ?_ | refine W.condF rfl ?_ | (refine W.fork rfl ?_ ?_ <;> intro hc <;> (fail_if_success (exfalso; cases hc; done)) <;> (first | subst hc | (simp at hc; try omega) | skip)) | refine W.ret ?_)
  exact ⟨.inr rfl, _, rfl, fin rfl rfl rfl⟩
set_option maxRecDepth 8000 in
set_option maxHeartbeats 8000000 in
theorem c_Commit (id : ID) (c : Cmd) (s : Int) (z : Nat) (f : Bool) (D : List ID) (m : Mem) :
    E0 24 [.agg (ix0 id).c, .agg c.c, .agg (attrC s z f D)] m (.tup [.agg (Ix.mk id 3 c s z f D bl0 bl0 false).c, .bool true]) m := by
  refine EvF.by (nf := nf24) (args := [.agg (ix0 id).c, .agg c.c, .agg (attrC s z f D)]) rfl (of_decide_eq_true rfl) rfl ?_
  repeat' (first | refine W.seq ?_ | refine W.region ?_ | refine W.drawn ?_ | refine WH.nil ?_ | refine WO.nil ?_ | (refine WO.isMv ?_; first | refine WO.go rfl rfl ?_ | refine WO.mvR rfl ?_) | (refine WO.isBin ?_; first | refine WO.testT rfl rfl ?_ | refine WO.testF rfl rfl ?_ | (refine WO.tgeq rfl rfl rfl (fun hc => ?_) (fun hc => ?_) <;> try omega) | refine WO.go rfl rfl ?_) | (refine WO.isLoad ?_; first | refine WO.go rfl rfl ?_) | (refine WO.isStore ?_; first | refine WO.st rfl rfl ?_) | refine WO.go rfl rfl ?_ | refine WO.st rfl rfl ?_ | (refine WH.isLoad ?_; first | refine WH.go rfl rfl rfl ?_) | (refine WH.isStore ?_; first | refine WH.st rfl rfl rfl ?_) | refine WH.go rfl rfl rfl ?_ | refine WH.st rfl rfl rfl ?_ | refine W.skip ?_ | refine W.condT rfl ?_ | refine W.condF rfl ?_ | (refine W.fork rfl ?_ ?_ <;> intro hc <;> (fail_if_success (exfalso; cases hc; done)) <;> (first | subst hc | (simp at hc; try omega) | skip)) | refine W.ret ?_)
  exact ⟨.inr rfl, _, rfl, fin rfl rfl rfl⟩
set_option maxRecDepth 8000 in
set_option maxHeartbeats 8000000 in
theorem c_Execute (x : Ix) (h : x.st = 3) (m : Mem) :
    E0 25 [.agg x.c] m (.tup [.agg { x with st := 4 }.c, .bool true]) m := by
  obtain ⟨id, st, c, s, z, f, D, b, v, o⟩ := x
  obtain rfl : st = 3 := h
  refine EvF.by (nf := nf25) (args := [.agg (Ix.mk id 3 c s z f D b v o).c]) rfl (of_decide_eq_true rfl) rfl ?_
  repeat' (first | refine W.seq ?_ | refine W.region ?_ | refine WO.nil ?_ | (refine WO.isMv ?_; first | refine WO.go rfl rfl ?_ | refine WO.mvR rfl ?_) | (refine WO.isBin ?_; first | refine WO.testT rfl rfl ?_ | refine WO.testF rfl rfl ?_ | (refine WO.tneq rfl rfl rfl (fun hc => ?_) (fun hc => ?_) <;> try omega) | refine WO.tsneq rfl rfl rfl (fun hc => ?_) (fun hc => ?_) | refine WO.go rfl rfl ?_) | (refine WO.isLoad ?_; first | refine WO.go rfl rfl ?_) | (refine WO.isStore ?_; first | refine WO.st rfl rfl ?_) | refine WO.go rfl rfl ?_ | refine WO.st rfl rfl ?_ | refine W.skip ?_ | refine W.condT rfl ?_ | refine W.condF rfl ?_ | (refine W.fork rfl ?_ ?_ <;> intro hc <;> (fail_if_success (exfalso; cases hc; done)) <;> (first | subst hc | (simp at hc; try omega) | skip)) | refine W.ret ?_)
  exact ⟨.inr rfl, _, rfl, fin rfl rfl rfl⟩
end Go.Proofs.Ythecdihimfddgaa.Nv
