/- What is looked for in lists, by functions. -/
import Derived.Test.YtehkfdicaiehcaaJudge7
namespace Go.Proofs.Ytehkfdicaiehcaa.Nv
open Go
structure Ev where
  kind : Int
  a : Int
  cmd : Cmd
  b : Int
  d : Int
  reply : Reply
def Ev.c (x : Ev) : List NV := [.int .i64 x.kind, .int .i64 x.a, .int .i64 x.cmd.op, .int .i64 x.cmd.client, .int .u32 x.cmd.seq, .str x.cmd.key, .str x.cmd.value, .int .i64 x.b, .int .i64 x.d, .int .i64 x.reply.client, .int .u32 x.reply.seq, .bool x.reply.found, .str x.reply.value]
def posF {α : Type} (p : α → Bool) : List α → Int → Int
  | [], _ => -1
  | c :: x, s => if p c then s else posF p x (s + 1)
theorem posF_iff {α : Type} (p : α → Bool) : ∀ (x : List α) (s : Int), 0 ≤ s → (0 ≤ posF p x s ↔ x.any p = true)
  | [], s, _ => by simp [posF]
  | c :: x, s, h => by
    unfold posF
    rw [List.any_cons]
    cases p c
    · rw [if_neg (by simp), Bool.false_or]
      exact posF_iff p x (s + 1) (by omega)
    · simp [h]
set_option maxRecDepth 8000 in
set_option maxHeartbeats 4000000 in
theorem c_IndexCmd (x : List Cmd) (z : Nat) (f : Bool) (hz : z = 5 ∨ x = []) (hx : x.length ≤ 281474976710656) (g l i : Nat) (B : NObj) (p : Cmd → Bool) (hg : ∀ c : Cmd, ∀ (l' : Nat) (M' : Mem), blk? M' l' i = some B → E0 g [.agg c.c, .ptr l' i 0] M' (.bool (p c)) M') (M : Mem) (hb : blk? M l i = some B) :
    E0 40 [.slc z f (x.map Cmd.c), .fn g [.ptr l i 0]] M (.int .i64 (posF p x 0)) M := by
  refine EvF.by (nf := nf40) (args := [.slc z f (x.map Cmd.c), .fn g [.ptr l i 0]]) rfl (of_decide_eq_true rfl) rfl ?_
  have hb' : ∀ fr, blk? (fr :: M) (l + 1) i = some B := fun fr => hb
  repeat' (first | refine W.seq ?_ | refine W.region ?_ | refine WO.nil ?_ | (refine WO.isMv ?_; first | refine WO.go rfl rfl ?_ | refine WO.mvR rfl ?_) | (refine WO.isBin ?_; first | refine WO.add64 rfl rfl rfl (by omega) (by omega) ?_ | refine WO.addU32 rfl rfl rfl (by omega) (by omega) ?_ | refine WO.addU64 rfl rfl rfl (by omega) (by omega) ?_ | refine WO.addU8 rfl rfl rfl (by omega) (by omega) ?_ | refine WO.testT rfl rfl ?_ | refine WO.testF rfl rfl ?_ | (refine WO.tlss rfl rfl rfl (fun hc => ?_) (fun hc => ?_) <;> try omega) | refine WO.go rfl rfl ?_) | (refine WO.isLoad ?_; first | refine WO.go rfl rfl ?_ | refine WO.ldc rfl rfl blk_l1 rfl rfl ?_ | refine WO.lda rfl rfl blk_l1 (of_decide_eq_true rfl) rfl ?_ | refine WO.ldc rfl rfl blk_l2 rfl rfl ?_ | refine WO.lda rfl rfl blk_l2 (of_decide_eq_true rfl) rfl ?_ | refine WO.ldc rfl rfl blk_l3 rfl rfl ?_ | refine WO.lda rfl rfl blk_l3 (of_decide_eq_true rfl) rfl ?_) | (refine WO.isIaddr ?_; first | refine WO.go rfl rfl ?_) | (refine WO.isLen ?_; first | refine WO.lenS rfl rfl (List.length_map ..) ?_ | refine WO.go rfl rfl ?_) | refine WO.go rfl rfl ?_ | refine W.skip ?_ | refine W.condT rfl ?_ | refine W.condF rfl ?_ | (refine W.fork rfl ?_ ?_ <;> intro hc <;> (fail_if_success (exfalso; cases hc; done)) <;> (first | subst hc | (simp at hc; try omega) | skip)) | refine W.ret ?_ | refine W.block ?_ | refine W.exit ?_)
  refine W.ind (σ := Nat) (fun k => [(0, .slc z f (x.map Cmd.c)), (1, .fn g [.ptr (l + 1) i 0]), (7, .int .i64 x.length), (8, .int .i64 k)]) (fun _ => ⟨[], []⟩ :: M) (fun k => k ≤ x.length ∧ posF p x 0 = posF p (x.drop k) k) (fun k => x.length - k) 0 ⟨Nat.zero_le _, rfl⟩ ⟨rfl, rfl, rfl, rfl, trivial⟩ rfl ?_
  rintro k e ⟨hk, hinv⟩ IH
  refine W.round ?_
  by_cases hlt : k < x.length
  · obtain ⟨c, hc⟩ := get_lt hlt
    have hrow := map_get (f := Cmd.c) hc
    have hz' : z = 5 := hz.resolve_right (by rintro rfl; simp at hlt)
    rw [List.drop_eq_getElem_cons hlt, show x[k] = c from (List.getElem?_eq_some_iff.1 hc).2, posF] at hinv
    have hq := hg c
    cases hp : p c
    · rw [hp] at hinv hq
      repeat' (first | refine W.seq ?_ | refine W.region ?_ | refine WO.nil ?_ | (refine WO.isMv ?_; first | refine WO.go rfl rfl ?_ | refine WO.mvR rfl ?_) | (refine WO.isBin ?_; first | refine WO.add64 rfl rfl rfl (by omega) (by omega) ?_ | refine WO.addU32 rfl rfl rfl (by omega) (by omega) ?_ | refine WO.addU64 rfl rfl rfl (by omega) (by omega) ?_ | refine WO.addU8 rfl rfl rfl (by omega) (by omega) ?_ | refine WO.testT rfl rfl ?_ | refine WO.testF rfl rfl ?_ | (refine WO.tlss rfl rfl rfl (fun hc => ?_) (fun hc => ?_) <;> try omega) | refine WO.go rfl rfl ?_) | (refine WO.isDyn ?_; first | refine WO.ask rfl rfl (hq _ _ (hb' _)) ?_) | (refine WO.isLoad ?_; first | refine WO.go rfl rfl ?_ | refine WO.ldc rfl rfl blk_l1 rfl rfl ?_ | refine WO.lda rfl rfl blk_l1 (of_decide_eq_true rfl) rfl ?_ | refine WO.ldc rfl rfl blk_l2 rfl rfl ?_ | refine WO.lda rfl rfl blk_l2 (of_decide_eq_true rfl) rfl ?_ | refine WO.ldc rfl rfl blk_l3 rfl rfl ?_ | refine WO.lda rfl rfl blk_l3 (of_decide_eq_true rfl) rfl ?_) | (refine WO.isIaddr ?_; first | refine WO.slidx rfl rfl rfl rfl hz' hrow ?_ | refine WO.go rfl rfl ?_) | (refine WO.isLen ?_; first | refine WO.go rfl rfl ?_) | refine WO.go rfl rfl ?_ | refine W.skip ?_ | refine W.condT rfl ?_ | refine W.condF rfl ?_ | (refine W.fork rfl ?_ ?_ <;> intro hc <;> (fail_if_success (exfalso; cases hc; done)) <;> (first | subst hc | (simp at hc; try omega) | skip)) | refine W.ret ?_ | refine W.block ?_ | refine W.exit ?_)
      exact IH (k + 1) _ _ (by omega) ⟨hlt, hinv⟩ ⟨rfl, rfl, rfl, rfl, trivial⟩ rfl
    · rw [hp] at hinv hq
      repeat' (first | refine W.seq ?_ | refine W.region ?_ | refine WO.nil ?_ | (refine WO.isMv ?_; first | refine WO.go rfl rfl ?_ | refine WO.mvR rfl ?_) | (refine WO.isBin ?_; first | refine WO.add64 rfl rfl rfl (by omega) (by omega) ?_ | refine WO.addU32 rfl rfl rfl (by omega) (by omega) ?_ | refine WO.addU64 rfl rfl rfl (by omega) (by omega) ?_ | refine WO.addU8 rfl rfl rfl (by omega) (by omega) ?_ | refine WO.testT rfl rfl ?_ | refine WO.testF rfl rfl ?_ | (refine WO.tlss rfl rfl rfl (fun hc => ?_) (fun hc => ?_) <;> try omega) | refine WO.go rfl rfl ?_) | (refine WO.isDyn ?_; first | refine WO.ask rfl rfl (hq _ _ (hb' _)) ?_) | (refine WO.isLoad ?_; first | refine WO.go rfl rfl ?_ | refine WO.ldc rfl rfl blk_l1 rfl rfl ?_ | refine WO.lda rfl rfl blk_l1 (of_decide_eq_true rfl) rfl ?_ | refine WO.ldc rfl rfl blk_l2 rfl rfl ?_ | refine WO.lda rfl rfl blk_l2 (of_decide_eq_true rfl) rfl ?_ | refine WO.ldc rfl rfl blk_l3 rfl rfl ?_ | refine WO.lda rfl rfl blk_l3 (of_decide_eq_true rfl) rfl ?_) | (refine WO.isIaddr ?_; first | refine WO.slidx rfl rfl rfl rfl hz' hrow ?_ | refine WO.go rfl rfl ?_) | (refine WO.isLen ?_; first | refine WO.go rfl rfl ?_) | refine WO.go rfl rfl ?_ | refine W.skip ?_ | refine W.condT rfl ?_ | refine W.condF rfl ?_ | (refine W.fork rfl ?_ ?_ <;> intro hc <;> (fail_if_success (exfalso; cases hc; done)) <;> (first | subst hc | (simp at hc; try omega) | skip)) | refine W.ret ?_ | refine W.block ?_ | refine W.exit ?_)
      exact ⟨.inr rfl, _, rfl, fin rfl (by rw [hinv]; rfl) rfl⟩
  · obtain rfl : k = x.length := by omega
    rw [List.drop_length] at hinv
    repeat' (first | refine W.seq ?_ | refine W.region ?_ | refine WO.nil ?_ | (refine WO.isMv ?_; first | refine WO.go rfl rfl ?_ | refine WO.mvR rfl ?_) | (refine WO.isBin ?_; first | refine WO.add64 rfl rfl rfl (by omega) (by omega) ?_ | refine WO.addU32 rfl rfl rfl (by omega) (by omega) ?_ | refine WO.addU64 rfl rfl rfl (by omega) (by omega) ?_ | refine WO.addU8 rfl rfl rfl (by omega) (by omega) ?_ | refine WO.testT rfl rfl ?_ | refine WO.testF rfl rfl ?_ | (refine WO.tlss rfl rfl rfl (fun hc => ?_) (fun hc => ?_) <;> try omega) | refine WO.go rfl rfl ?_) | (refine WO.isLoad ?_; first | refine WO.go rfl rfl ?_ | refine WO.ldc rfl rfl blk_l1 rfl rfl ?_ | refine WO.lda rfl rfl blk_l1 (of_decide_eq_true rfl) rfl ?_ | refine WO.ldc rfl rfl blk_l2 rfl rfl ?_ | refine WO.lda rfl rfl blk_l2 (of_decide_eq_true rfl) rfl ?_ | refine WO.ldc rfl rfl blk_l3 rfl rfl ?_ | refine WO.lda rfl rfl blk_l3 (of_decide_eq_true rfl) rfl ?_) | (refine WO.isIaddr ?_; first | refine WO.go rfl rfl ?_) | (refine WO.isLen ?_; first | refine WO.go rfl rfl ?_) | refine WO.go rfl rfl ?_ | refine W.skip ?_ | refine W.condT rfl ?_ | refine W.condF rfl ?_ | (refine W.fork rfl ?_ ?_ <;> intro hc <;> (fail_if_success (exfalso; cases hc; done)) <;> (first | subst hc | (simp at hc; try omega) | skip)) | refine W.ret ?_ | refine W.block ?_ | refine W.exit ?_)
    exact ⟨.inr rfl, _, rfl, fin rfl (by rw [hinv]; rfl) rfl⟩
set_option maxRecDepth 8000 in
theorem c_ContainsCmd (x : List Cmd) (z : Nat) (f : Bool) (hz : z = 5 ∨ x = []) (hx : x.length ≤ 281474976710656) (g l i : Nat) (B : NObj) (p : Cmd → Bool) (hg : ∀ c : Cmd, ∀ (l' : Nat) (M' : Mem), blk? M' l' i = some B → E0 g [.agg c.c, .ptr l' i 0] M' (.bool (p c)) M') (M : Mem) (hb : blk? M l i = some B) :
    E0 28 [.slc z f (x.map Cmd.c), .fn g [.ptr l i 0]] M (.bool (x.any p)) M := by
  refine EvF.by (nf := nf28) (args := [.slc z f (x.map Cmd.c), .fn g [.ptr l i 0]]) rfl (of_decide_eq_true rfl) rfl ?_
  have hb' : ∀ fr, blk? (fr :: M) (l + 1) i = some B := fun fr => hb
  have hi := c_IndexCmd x z f hz hx g (l + 1) i B p hg
  have hq := posF_iff p x 0 (Int.le_refl 0)
  cases ha : x.any p
  · have hn : ¬ 0 ≤ posF p x 0 := fun q => by rw [hq.1 q] at ha; cases ha
    repeat' (first | refine W.seq ?_ | refine W.region ?_ | refine WO.nil ?_ | (refine WO.isMv ?_; first | refine WO.go rfl rfl ?_ | refine WO.mvR rfl ?_) | (refine WO.isBin ?_; first | refine WO.testT rfl rfl ?_ | refine WO.testF rfl rfl ?_ | (refine WO.tgeq rfl rfl rfl (fun hc => ?_) (fun hc => ?_) <;> try omega) | refine WO.go rfl rfl ?_) | (refine WO.isCall ?_; first | refine WO.ask rfl rfl (hi _ (hb' _)) ?_) | refine WO.go rfl rfl ?_ | refine W.ret ?_)
    exact ⟨.inr rfl, _, rfl, fin rfl rfl rfl⟩
  · have hn : 0 ≤ posF p x 0 := hq.2 ha
    repeat' (first | refine W.seq ?_ | refine W.region ?_ | refine WO.nil ?_ | (refine WO.isMv ?_; first | refine WO.go rfl rfl ?_ | refine WO.mvR rfl ?_) | (refine WO.isBin ?_; first | refine WO.testT rfl rfl ?_ | refine WO.testF rfl rfl ?_ | (refine WO.tgeq rfl rfl rfl (fun hc => ?_) (fun hc => ?_) <;> try omega) | refine WO.go rfl rfl ?_) | (refine WO.isCall ?_; first | refine WO.ask rfl rfl (hi _ (hb' _)) ?_) | refine WO.go rfl rfl ?_ | refine W.ret ?_)
    exact ⟨.inr rfl, _, rfl, fin rfl rfl rfl⟩
set_option maxRecDepth 8000 in
set_option maxHeartbeats 4000000 in
theorem c_IndexEv (x : List Ev) (z : Nat) (f : Bool) (hz : z = 13 ∨ x = []) (hx : x.length ≤ 281474976710656) (g l i : Nat) (B : NObj) (p : Ev → Bool) (hg : ∀ c : Ev, ∀ (l' : Nat) (M' : Mem), blk? M' l' i = some B → E0 g [.agg c.c, .ptr l' i 0] M' (.bool (p c)) M') (M : Mem) (hb : blk? M l i = some B) :
    E0 41 [.slc z f (x.map Ev.c), .fn g [.ptr l i 0]] M (.int .i64 (posF p x 0)) M := by
  refine EvF.by (nf := nf41) (args := [.slc z f (x.map Ev.c), .fn g [.ptr l i 0]]) rfl (of_decide_eq_true rfl) rfl ?_
  have hb' : ∀ fr, blk? (fr :: M) (l + 1) i = some B := fun fr => hb
  repeat' (first | refine W.seq ?_ | refine W.region ?_ | refine WO.nil ?_ | (refine WO.isMv ?_; first | refine WO.go rfl rfl ?_ | refine WO.mvR rfl ?_) | (refine WO.isBin ?_; first | refine WO.add64 rfl rfl rfl (by omega) (by omega) ?_ | refine WO.addU32 rfl rfl rfl (by omega) (by omega) ?_ | refine WO.addU64 rfl rfl rfl (by omega) (by omega) ?_ | refine WO.addU8 rfl rfl rfl (by omega) (by omega) ?_ | refine WO.testT rfl rfl ?_ | refine WO.testF rfl rfl ?_ | (refine WO.tlss rfl rfl rfl (fun hc => ?_) (fun hc => ?_) <;> try omega) | refine WO.go rfl rfl ?_) | (refine WO.isLoad ?_; first | refine WO.go rfl rfl ?_ | refine WO.ldc rfl rfl blk_l1 rfl rfl ?_ | refine WO.lda rfl rfl blk_l1 (of_decide_eq_true rfl) rfl ?_ | refine WO.ldc rfl rfl blk_l2 rfl rfl ?_ | refine WO.lda rfl rfl blk_l2 (of_decide_eq_true rfl) rfl ?_ | refine WO.ldc rfl rfl blk_l3 rfl rfl ?_ | refine WO.lda rfl rfl blk_l3 (of_decide_eq_true rfl) rfl ?_) | (refine WO.isIaddr ?_; first | refine WO.go rfl rfl ?_) | (refine WO.isLen ?_; first | refine WO.lenS rfl rfl (List.length_map ..) ?_ | refine WO.go rfl rfl ?_) | refine WO.go rfl rfl ?_ | refine W.skip ?_ | refine W.condT rfl ?_ | refine W.condF rfl ?_ | (refine W.fork rfl ?_ ?_ <;> intro hc <;> (fail_if_success (exfalso; cases hc; done)) <;> (first | subst hc | (simp at hc; try omega) | skip)) | refine W.ret ?_ | refine W.block ?_ | refine W.exit ?_)
  refine W.ind (σ := Nat) (fun k => [(0, .slc z f (x.map Ev.c)), (1, .fn g [.ptr (l + 1) i 0]), (7, .int .i64 x.length), (8, .int .i64 k)]) (fun _ => ⟨[], []⟩ :: M) (fun k => k ≤ x.length ∧ posF p x 0 = posF p (x.drop k) k) (fun k => x.length - k) 0 ⟨Nat.zero_le _, rfl⟩ ⟨rfl, rfl, rfl, rfl, trivial⟩ rfl ?_
  rintro k e ⟨hk, hinv⟩ IH
  refine W.round ?_
  by_cases hlt : k < x.length
  · obtain ⟨c, hc⟩ := get_lt hlt
    have hrow := map_get (f := Ev.c) hc
    have hz' : z = 13 := hz.resolve_right (by rintro rfl; simp at hlt)
    rw [List.drop_eq_getElem_cons hlt, show x[k] = c from (List.getElem?_eq_some_iff.1 hc).2, posF] at hinv
    have hq := hg c
    cases hp : p c
    · rw [hp] at hinv hq
      repeat' (first | refine W.seq ?_ | refine W.region ?_ | refine WO.nil ?_ | (refine WO.isMv ?_; first | refine WO.go rfl rfl ?_ | refine WO.mvR rfl ?_) | (refine WO.isBin ?_; first | refine WO.add64 rfl rfl rfl (by omega) (by omega) ?_ | refine WO.addU32 rfl rfl rfl (by omega) (by omega) ?_ | refine WO.addU64 rfl rfl rfl (by omega) (by omega) ?_ | refine WO.addU8 rfl rfl rfl (by omega) (by omega) ?_ | refine WO.testT rfl rfl ?_ | refine WO.testF rfl rfl ?_ | (refine WO.tlss rfl rfl rfl (fun hc => ?_) (fun hc => ?_) <;> try omega) | refine WO.go rfl rfl ?_) | (refine WO.isDyn ?_; first | refine WO.ask rfl rfl (hq _ _ (hb' _)) ?_) | (refine WO.isLoad ?_; first | refine WO.go rfl rfl ?_ | refine WO.ldc rfl rfl blk_l1 rfl rfl ?_ | refine WO.lda rfl rfl blk_l1 (of_decide_eq_true rfl) rfl ?_ | refine WO.ldc rfl rfl blk_l2 rfl rfl ?_ | refine WO.lda rfl rfl blk_l2 (of_decide_eq_true rfl) rfl ?_ | refine WO.ldc rfl rfl blk_l3 rfl rfl ?_ | refine WO.lda rfl rfl blk_l3 (of_decide_eq_true rfl) rfl ?_) | (refine WO.isIaddr ?_; first | refine WO.slidx rfl rfl rfl rfl hz' hrow ?_ | refine WO.go rfl rfl ?_) | (refine WO.isLen ?_; first | refine WO.go rfl rfl ?_) | refine WO.go rfl rfl ?_ | refine W.skip ?_ | refine W.condT rfl ?_ | refine W.condF rfl ?_ | (refine W.fork rfl ?_ ?_ <;> intro hc <;> (fail_if_success (exfalso; cases hc; done)) <;> (first | subst hc | (simp at hc; try omega) | skip)) | refine W.ret ?_ | refine W.block ?_ | refine W.exit ?_)
      exact IH (k + 1) _ _ (by omega) ⟨hlt, hinv⟩ ⟨rfl, rfl, rfl, rfl, trivial⟩ rfl
    · rw [hp] at hinv hq
      repeat' (first | refine W.seq ?_ | refine W.region ?_ | refine WO.nil ?_ | (refine WO.isMv ?_; first | refine WO.go rfl rfl ?_ | refine WO.mvR rfl ?_) | (refine WO.isBin ?_; first | refine WO.add64 rfl rfl rfl (by omega) (by omega) ?_ | refine WO.addU32 rfl rfl rfl (by omega) (by omega) ?_ | refine WO.addU64 rfl rfl rfl (by omega) (by omega) ?_ | refine WO.addU8 rfl rfl rfl (by omega) (by omega) ?_ | refine WO.testT rfl rfl ?_ | refine WO.testF rfl rfl ?_ | (refine WO.tlss rfl rfl rfl (fun hc => ?_) (fun hc => ?_) <;> try omega) | refine WO.go rfl rfl ?_) | (refine WO.isDyn ?_; first | refine WO.ask rfl rfl (hq _ _ (hb' _)) ?_) | (refine WO.isLoad ?_; first | refine WO.go rfl rfl ?_ | refine WO.ldc rfl rfl blk_l1 rfl rfl ?_ | refine WO.lda rfl rfl blk_l1 (of_decide_eq_true rfl) rfl ?_ | refine WO.ldc rfl rfl blk_l2 rfl rfl ?_ | refine WO.lda rfl rfl blk_l2 (of_decide_eq_true rfl) rfl ?_ | refine WO.ldc rfl rfl blk_l3 rfl rfl ?_ | refine WO.lda rfl rfl blk_l3 (of_decide_eq_true rfl) rfl ?_) | (refine WO.isIaddr ?_; first | refine WO.slidx rfl rfl rfl rfl hz' hrow ?_ | refine WO.go rfl rfl ?_) | (refine WO.isLen ?_; first | refine WO.go rfl rfl ?_) | refine WO.go rfl rfl ?_ | refine W.skip ?_ | refine W.condT rfl ?_ | refine W.condF rfl ?_ | (refine W.fork rfl ?_ ?_ <;> intro hc <;> (fail_if_success (exfalso; cases hc; done)) <;> (first | subst hc | (simp at hc; try omega) | skip)) | refine W.ret ?_ | refine W.block ?_ | refine W.exit ?_)
      exact ⟨.inr rfl, _, rfl, fin rfl (by rw [hinv]; rfl) rfl⟩
  · obtain rfl : k = x.length := by omega
    rw [List.drop_length] at hinv
    repeat' (first | refine W.seq ?_ | refine W.region ?_ | refine WO.nil ?_ | (refine WO.isMv ?_; first | refine WO.go rfl rfl ?_ | refine WO.mvR rfl ?_) | (refine WO.isBin ?_; first | refine WO.add64 rfl rfl rfl (by omega) (by omega) ?_ | refine WO.addU32 rfl rfl rfl (by omega) (by omega) ?_ | refine WO.addU64 rfl rfl rfl (by omega) (by omega) ?_ | refine WO.addU8 rfl rfl rfl (by omega) (by omega) ?_ | refine WO.testT rfl rfl ?_ | refine WO.testF rfl rfl ?_ | (refine WO.tlss rfl rfl rfl (fun hc => ?_) (fun hc => ?_) <;> try omega) | refine WO.go rfl rfl ?_) | (refine WO.isLoad ?_; first | refine WO.go rfl rfl ?_ | refine WO.ldc rfl rfl blk_l1 rfl rfl ?_ | refine WO.lda rfl rfl blk_l1 (of_decide_eq_true rfl) rfl ?_ | refine WO.ldc rfl rfl blk_l2 rfl rfl ?_ | refine WO.lda rfl rfl blk_l2 (of_decide_eq_true rfl) rfl ?_ | refine WO.ldc rfl rfl blk_l3 rfl rfl ?_ | refine WO.lda rfl rfl blk_l3 (of_decide_eq_true rfl) rfl ?_) | (refine WO.isIaddr ?_; first | refine WO.go rfl rfl ?_) | (refine WO.isLen ?_; first | refine WO.go rfl rfl ?_) | refine WO.go rfl rfl ?_ | refine W.skip ?_ | refine W.condT rfl ?_ | refine W.condF rfl ?_ | (refine W.fork rfl ?_ ?_ <;> intro hc <;> (fail_if_success (exfalso; cases hc; done)) <;> (first | subst hc | (simp at hc; try omega) | skip)) | refine W.ret ?_ | refine W.block ?_ | refine W.exit ?_)
    exact ⟨.inr rfl, _, rfl, fin rfl (by rw [hinv]; rfl) rfl⟩
set_option maxRecDepth 8000 in
theorem c_ContainsEv (x : List Ev) (z : Nat) (f : Bool) (hz : z = 13 ∨ x = []) (hx : x.length ≤ 281474976710656) (g l i : Nat) (B : NObj) (p : Ev → Bool) (hg : ∀ c : Ev, ∀ (l' : Nat) (M' : Mem), blk? M' l' i = some B → E0 g [.agg c.c, .ptr l' i 0] M' (.bool (p c)) M') (M : Mem) (hb : blk? M l i = some B) :
    E0 30 [.slc z f (x.map Ev.c), .fn g [.ptr l i 0]] M (.bool (x.any p)) M := by
  refine EvF.by (nf := nf30) (args := [.slc z f (x.map Ev.c), .fn g [.ptr l i 0]]) rfl (of_decide_eq_true rfl) rfl ?_
  have hb' : ∀ fr, blk? (fr :: M) (l + 1) i = some B := fun fr => hb
  have hi := c_IndexEv x z f hz hx g (l + 1) i B p hg
  have hq := posF_iff p x 0 (Int.le_refl 0)
  cases ha : x.any p
  · have hn : ¬ 0 ≤ posF p x 0 := fun q => by rw [hq.1 q] at ha; cases ha
    repeat' (first | refine W.seq ?_ | refine W.region ?_ | refine WO.nil ?_ | (refine WO.isMv ?_; first | refine WO.go rfl rfl ?_ | refine WO.mvR rfl ?_) | (refine WO.isBin ?_; first | refine WO.testT rfl rfl ?_ | refine WO.testF rfl rfl ?_ | (refine WO.tgeq rfl rfl rfl (fun hc => ?_) (fun hc => ?_) <;> try omega) | refine WO.go rfl rfl ?_) | (refine WO.isCall ?_; first | refine WO.ask rfl rfl (hi _ (hb' _)) ?_) | refine WO.go rfl rfl ?_ | refine W.ret ?_)
    exact ⟨.inr rfl, _, rfl, fin rfl rfl rfl⟩
  · have hn : 0 ≤ posF p x 0 := hq.2 ha
    repeat' (first | refine W.seq ?_ | refine W.region ?_ | refine WO.nil ?_ | (refine WO.isMv ?_; first | refine WO.go rfl rfl ?_ | refine WO.mvR rfl ?_) | (refine WO.isBin ?_; first | refine WO.testT rfl rfl ?_ | refine WO.testF rfl rfl ?_ | (refine WO.tgeq rfl rfl rfl (fun hc => ?_) (fun hc => ?_) <;> try omega) | refine WO.go rfl rfl ?_) | (refine WO.isCall ?_; first | refine WO.ask rfl rfl (hi _ (hb' _)) ?_) | refine WO.go rfl rfl ?_ | refine W.ret ?_)
    exact ⟨.inr rfl, _, rfl, fin rfl rfl rfl⟩
set_option maxRecDepth 8000 in
set_option maxHeartbeats 4000000 in
theorem c_IndexRep (x : List Reply) (z : Nat) (f : Bool) (hz : z = 4 ∨ x = []) (hx : x.length ≤ 281474976710656) (g l i : Nat) (B : NObj) (p : Reply → Bool) (hg : ∀ c : Reply, ∀ (l' : Nat) (M' : Mem), blk? M' l' i = some B → E0 g [.agg c.c, .ptr l' i 0] M' (.bool (p c)) M') (M : Mem) (hb : blk? M l i = some B) :
    E0 42 [.slc z f (x.map Reply.c), .fn g [.ptr l i 0]] M (.int .i64 (posF p x 0)) M := by
  refine EvF.by (nf := nf42) (args := [.slc z f (x.map Reply.c), .fn g [.ptr l i 0]]) rfl (of_decide_eq_true rfl) rfl ?_
  have hb' : ∀ fr, blk? (fr :: M) (l + 1) i = some B := fun fr => hb
  repeat' (first | refine W.seq ?_ | refine W.region ?_ | refine WO.nil ?_ | (refine WO.isMv ?_; first | refine WO.go rfl rfl ?_ | refine WO.mvR rfl ?_) | (refine WO.isBin ?_; first | refine WO.add64 rfl rfl rfl (by omega) (by omega) ?_ | refine WO.addU32 rfl rfl rfl (by omega) (by omega) ?_ | refine WO.addU64 rfl rfl rfl (by omega) (by omega) ?_ | refine WO.addU8 rfl rfl rfl (by omega) (by omega) ?_ | refine WO.testT rfl rfl ?_ | refine WO.testF rfl rfl ?_ | (refine WO.tlss rfl rfl rfl (fun hc => ?_) (fun hc => ?_) <;> try omega) | refine WO.go rfl rfl ?_) | (refine WO.isLoad ?_; first | refine WO.go rfl rfl ?_ | refine WO.ldc rfl rfl blk_l1 rfl rfl ?_ | refine WO.lda rfl rfl blk_l1 (of_decide_eq_true rfl) rfl ?_ | refine WO.ldc rfl rfl blk_l2 rfl rfl ?_ | refine WO.lda rfl rfl blk_l2 (of_decide_eq_true rfl) rfl ?_ | refine WO.ldc rfl rfl blk_l3 rfl rfl ?_ | refine WO.lda rfl rfl blk_l3 (of_decide_eq_true rfl) rfl ?_) | (refine WO.isIaddr ?_; first | refine WO.go rfl rfl ?_) | (refine WO.isLen ?_; first | refine WO.lenS rfl rfl (List.length_map ..) ?_ | refine WO.go rfl rfl ?_) | refine WO.go rfl rfl ?_ | refine W.skip ?_ | refine W.condT rfl ?_ | refine W.condF rfl ?_ | (refine W.fork rfl ?_ ?_ <;> intro hc <;> (fail_if_success (exfalso; cases hc; done)) <;> (first | subst hc | (simp at hc; try omega) | skip)) | refine W.ret ?_ | refine W.block ?_ | refine W.exit ?_)
  refine W.ind (σ := Nat) (fun k => [(0, .slc z f (x.map Reply.c)), (1, .fn g [.ptr (l + 1) i 0]), (7, .int .i64 x.length), (8, .int .i64 k)]) (fun _ => ⟨[], []⟩ :: M) (fun k => k ≤ x.length ∧ posF p x 0 = posF p (x.drop k) k) (fun k => x.length - k) 0 ⟨Nat.zero_le _, rfl⟩ ⟨rfl, rfl, rfl, rfl, trivial⟩ rfl ?_
  rintro k e ⟨hk, hinv⟩ IH
  refine W.round ?_
  by_cases hlt : k < x.length
  · obtain ⟨c, hc⟩ := get_lt hlt
    have hrow := map_get (f := Reply.c) hc
    have hz' : z = 4 := hz.resolve_right (by rintro rfl; simp at hlt)
    rw [List.drop_eq_getElem_cons hlt, show x[k] = c from (List.getElem?_eq_some_iff.1 hc).2, posF] at hinv
    have hq := hg c
    cases hp : p c
    · rw [hp] at hinv hq
      repeat' (first | refine W.seq ?_ | refine W.region ?_ | refine WO.nil ?_ | (refine WO.isMv ?_; first | refine WO.go rfl rfl ?_ | refine WO.mvR rfl ?_) | (refine WO.isBin ?_; first | refine WO.add64 rfl rfl rfl (by omega) (by omega) ?_ | refine WO.addU32 rfl rfl rfl (by omega) (by omega) ?_ | refine WO.addU64 rfl rfl rfl (by omega) (by omega) ?_ | refine WO.addU8 rfl rfl rfl (by omega) (by omega) ?_ | refine WO.testT rfl rfl ?_ | refine WO.testF rfl rfl ?_ | (refine WO.tlss rfl rfl rfl (fun hc => ?_) (fun hc => ?_) <;> try omega) | refine WO.go rfl rfl ?_) | (refine WO.isDyn ?_; first | refine WO.ask rfl rfl (hq _ _ (hb' _)) ?_) | (refine WO.isLoad ?_; first | refine WO.go rfl rfl ?_ | refine WO.ldc rfl rfl blk_l1 rfl rfl ?_ | refine WO.lda rfl rfl blk_l1 (of_decide_eq_true rfl) rfl ?_ | refine WO.ldc rfl rfl blk_l2 rfl rfl ?_ | refine WO.lda rfl rfl blk_l2 (of_decide_eq_true rfl) rfl ?_ | refine WO.ldc rfl rfl blk_l3 rfl rfl ?_ | refine WO.lda rfl rfl blk_l3 (of_decide_eq_true rfl) rfl ?_) | (refine WO.isIaddr ?_; first | refine WO.slidx rfl rfl rfl rfl hz' hrow ?_ | refine WO.go rfl rfl ?_) | (refine WO.isLen ?_; first | refine WO.go rfl rfl ?_) | refine WO.go rfl rfl ?_ | refine W.skip ?_ | refine W.condT rfl ?_ | refine W.condF rfl ?_ | (refine W.fork rfl ?_ ?_ <;> intro hc <;> (fail_if_success (exfalso; cases hc; done)) <;> (first | subst hc | (simp at hc; try omega) | skip)) | refine W.ret ?_ | refine W.block ?_ | refine W.exit ?_)
      exact IH (k + 1) _ _ (by omega) ⟨hlt, hinv⟩ ⟨rfl, rfl, rfl, rfl, trivial⟩ rfl
    · rw [hp] at hinv hq
      repeat' (first | refine W.seq ?_ | refine W.region ?_ | refine WO.nil ?_ | (refine WO.isMv ?_; first | refine WO.go rfl rfl ?_ | refine WO.mvR rfl ?_) | (refine WO.isBin ?_; first | refine WO.add64 rfl rfl rfl (by omega) (by omega) ?_ | refine WO.addU32 rfl rfl rfl (by omega) (by omega) ?_ | refine WO.addU64 rfl rfl rfl (by omega) (by omega) ?_ | refine WO.addU8 rfl rfl rfl (by omega) (by omega) ?_ | refine WO.testT rfl rfl ?_ | refine WO.testF rfl rfl ?_ | (refine WO.tlss rfl rfl rfl (fun hc => ?_) (fun hc => ?_) <;> try omega) | refine WO.go rfl rfl ?_) | (refine WO.isDyn ?_; first | refine WO.ask rfl rfl (hq _ _ (hb' _)) ?_) | (refine WO.isLoad ?_; first | refine WO.go rfl rfl ?_ | refine WO.ldc rfl rfl blk_l1 rfl rfl ?_ | refine WO.lda rfl rfl blk_l1 (of_decide_eq_true rfl) rfl ?_ | refine WO.ldc rfl rfl blk_l2 rfl rfl ?_ | refine WO.lda rfl rfl blk_l2 (of_decide_eq_true rfl) rfl ?_ | refine WO.ldc rfl rfl blk_l3 rfl rfl ?_ | refine WO.lda rfl rfl blk_l3 (of_decide_eq_true rfl) rfl ?_) | (refine WO.isIaddr ?_; first | refine WO.slidx rfl rfl rfl rfl hz' hrow ?_ | refine WO.go rfl rfl ?_) | (refine WO.isLen ?_; first | refine WO.go rfl rfl ?_) | refine WO.go rfl rfl ?_ | refine W.skip ?_ | refine W.condT rfl ?_ | refine W.condF rfl ?_ | (refine W.fork rfl ?_ ?_ <;> intro hc <;> (fail_if_success (exfalso; cases hc; done)) <;> (first | subst hc | (simp at hc; try omega) | skip)) | refine W.ret ?_ | refine W.block ?_ | refine W.exit ?_)
      exact ⟨.inr rfl, _, rfl, fin rfl (by rw [hinv]; rfl) rfl⟩
  · obtain rfl : k = x.length := by omega
    rw [List.drop_length] at hinv
    repeat' (first | refine W.seq ?_ | refine W.region ?_ | refine WO.nil ?_ | (refine WO.isMv ?_; first | refine WO.go rfl rfl ?_ | refine WO.mvR rfl ?_) | (refine WO.isBin ?_; first | refine WO.add64 rfl rfl rfl (by omega) (by omega) ?_ | refine WO.addU32 rfl rfl rfl (by omega) (by omega) ?_ | refine WO.addU64 rfl rfl rfl (by omega) (by omega) ?_ | refine WO.addU8 rfl rfl rfl (by omega) (by omega) ?_ | refine WO.testT rfl rfl ?_ | refine WO.testF rfl rfl ?_ | (refine WO.tlss rfl rfl rfl (fun hc => ?_) (fun hc => ?_) <;> try omega) | refine WO.go rfl rfl ?_) | (refine WO.isLoad ?_; first | refine WO.go rfl rfl ?_ | refine WO.ldc rfl rfl blk_l1 rfl rfl ?_ | refine WO.lda rfl rfl blk_l1 (of_decide_eq_true rfl) rfl ?_ | refine WO.ldc rfl rfl blk_l2 rfl rfl ?_ | refine WO.lda rfl rfl blk_l2 (of_decide_eq_true rfl) rfl ?_ | refine WO.ldc rfl rfl blk_l3 rfl rfl ?_ | refine WO.lda rfl rfl blk_l3 (of_decide_eq_true rfl) rfl ?_) | (refine WO.isIaddr ?_; first | refine WO.go rfl rfl ?_) | (refine WO.isLen ?_; first | refine WO.go rfl rfl ?_) | refine WO.go rfl rfl ?_ | refine W.skip ?_ | refine W.condT rfl ?_ | refine W.condF rfl ?_ | (refine W.fork rfl ?_ ?_ <;> intro hc <;> (fail_if_success (exfalso; cases hc; done)) <;> (first | subst hc | (simp at hc; try omega) | skip)) | refine W.ret ?_ | refine W.block ?_ | refine W.exit ?_)
    exact ⟨.inr rfl, _, rfl, fin rfl (by rw [hinv]; rfl) rfl⟩
set_option maxRecDepth 8000 in
theorem c_ContainsRep (x : List Reply) (z : Nat) (f : Bool) (hz : z = 4 ∨ x = []) (hx : x.length ≤ 281474976710656) (g l i : Nat) (B : NObj) (p : Reply → Bool) (hg : ∀ c : Reply, ∀ (l' : Nat) (M' : Mem), blk? M' l' i = some B → E0 g [.agg c.c, .ptr l' i 0] M' (.bool (p c)) M') (M : Mem) (hb : blk? M l i = some B) :
    E0 33 [.slc z f (x.map Reply.c), .fn g [.ptr l i 0]] M (.bool (x.any p)) M := by
  refine EvF.by (nf := nf33) (args := [.slc z f (x.map Reply.c), .fn g [.ptr l i 0]]) rfl (of_decide_eq_true rfl) rfl ?_
  have hb' : ∀ fr, blk? (fr :: M) (l + 1) i = some B := fun fr => hb
  have hi := c_IndexRep x z f hz hx g (l + 1) i B p hg
  have hq := posF_iff p x 0 (Int.le_refl 0)
  cases ha : x.any p
  · have hn : ¬ 0 ≤ posF p x 0 := fun q => by rw [hq.1 q] at ha; cases ha
    repeat' (first | refine W.seq ?_ | refine W.region ?_ | refine WO.nil ?_ | (refine WO.isMv ?_; first | refine WO.go rfl rfl ?_ | refine WO.mvR rfl ?_) | (refine WO.isBin ?_; first | refine WO.testT rfl rfl ?_ | refine WO.testF rfl rfl ?_ | (refine WO.tgeq rfl rfl rfl (fun hc => ?_) (fun hc => ?_) <;> try omega) | refine WO.go rfl rfl ?_) | (refine WO.isCall ?_; first | refine WO.ask rfl rfl (hi _ (hb' _)) ?_) | refine WO.go rfl rfl ?_ | refine W.ret ?_)
    exact ⟨.inr rfl, _, rfl, fin rfl rfl rfl⟩
  · have hn : 0 ≤ posF p x 0 := hq.2 ha
    repeat' (first | refine W.seq ?_ | refine W.region ?_ | refine WO.nil ?_ | (refine WO.isMv ?_; first | refine WO.go rfl rfl ?_ | refine WO.mvR rfl ?_) | (refine WO.isBin ?_; first | refine WO.testT rfl rfl ?_ | refine WO.testF rfl rfl ?_ | (refine WO.tgeq rfl rfl rfl (fun hc => ?_) (fun hc => ?_) <;> try omega) | refine WO.go rfl rfl ?_) | (refine WO.isCall ?_; first | refine WO.ask rfl rfl (hi _ (hb' _)) ?_) | refine WO.go rfl rfl ?_ | refine W.ret ?_)
    exact ⟨.inr rfl, _, rfl, fin rfl rfl rfl⟩
set_option maxRecDepth 8000 in
theorem c_Asked11 (c : Cmd) (i : Nat) (e : Ev) (l : Nat) (M : Mem) (hb : blk? M l i = some (.cells c.c)) :
    E0 31 [.agg e.c, .ptr l i 0] M (.bool (decide (e.kind = 1) && decide (e.cmd = c))) M := by
  refine EvF.by (nf := nf31) (args := [.agg e.c, .ptr l i 0]) rfl (of_decide_eq_true rfl) rfl ?_
  have hb' : ∀ fr, blk? (fr :: M) (l + 1) i = some (.cells c.c) := fun fr => hb
  have he := eq_cmd e.cmd c
  by_cases h1 : e.kind = 1
  · repeat' (first | refine W.seq ?_ | refine W.region ?_ | refine WO.nil ?_ | refine WO.onG rfl ?_ | refine WO.offG rfl ?_ | (refine WO.fork rfl ?_ ?_ <;> intro hc <;> (fail_if_success (exfalso; cases hc; done)) <;> (first | subst hc | (simp at hc; try omega) | skip)) | (refine WO.isMv ?_; first | refine WO.go rfl rfl ?_ | refine WO.mvR rfl ?_) | (refine WO.isBin ?_; first | refine WO.eqT rfl rfl rfl h1 ?_ | refine WO.testT rfl rfl ?_ | refine WO.testF rfl rfl ?_ | (refine WO.teql rfl rfl rfl (fun hc => ?_) (fun hc => ?_) <;> try omega) | refine WO.tseql rfl rfl rfl (fun hc => ?_) (fun hc => ?_) | refine WO.go rfl rfl ?_) | (refine WO.isLoad ?_; first | refine WO.lda rfl rfl (hb' _) (Nat.le_refl 5) rfl ?_ | refine WO.go rfl rfl ?_) | (refine WO.isEq ?_; first | refine WO.eqA rfl rfl rfl he ?_ | refine WO.go rfl rfl ?_) | refine WO.go rfl rfl ?_ | refine W.ret ?_)
    exact ⟨.inr rfl, _, rfl, fin rfl (by rw [decide_eq_true h1]; rfl) rfl⟩
  · repeat' (first | refine W.seq ?_ | refine W.region ?_ | refine WO.nil ?_ | refine WO.onG rfl ?_ | refine WO.offG rfl ?_ | (refine WO.fork rfl ?_ ?_ <;> intro hc <;> (fail_if_success (exfalso; cases hc; done)) <;> (first | subst hc | (simp at hc; try omega) | skip)) | (refine WO.isMv ?_; first | refine WO.go rfl rfl ?_ | refine WO.mvR rfl ?_) | (refine WO.isBin ?_; first | refine WO.eqF rfl rfl rfl h1 ?_ | refine WO.testT rfl rfl ?_ | refine WO.testF rfl rfl ?_ | (refine WO.teql rfl rfl rfl (fun hc => ?_) (fun hc => ?_) <;> try omega) | refine WO.tseql rfl rfl rfl (fun hc => ?_) (fun hc => ?_) | refine WO.go rfl rfl ?_) | (refine WO.isLoad ?_; first | refine WO.go rfl rfl ?_) | (refine WO.isEq ?_; first | refine WO.go rfl rfl ?_) | refine WO.go rfl rfl ?_ | refine W.ret ?_)
    exact ⟨.inr rfl, _, rfl, fin rfl (by rw [decide_eq_false h1]; rfl) rfl⟩
def askedBy (v : List Ev) (c : Cmd) : Bool := v.any fun e => decide (e.kind = 1) && decide (e.cmd = c)
set_option maxRecDepth 8000 in
theorem c_Asked1 (v : List Ev) (z : Nat) (f : Bool) (hz : z = 13 ∨ v = []) (hv : v.length ≤ 281474976710656) (i : Nat) (c : Cmd) (l : Nat) (M : Mem) (hb : blk? M l i = some (.cells [.slc z f (v.map Ev.c)])) :
    E0 29 [.agg c.c, .ptr l i 0] M (.bool (!askedBy v c)) M := by
  refine EvF.by (nf := nf29) (args := [.agg c.c, .ptr l i 0]) rfl (of_decide_eq_true rfl) rfl ?_
  have hb' : ∀ fr, blk? (fr :: M) (l + 1) i = some (.cells [.slc z f (v.map Ev.c)]) := fun fr => hb
  have hcon := c_ContainsEv v z f hz hv 31 0 0 (.cells c.c) _ (fun e l' M' => c_Asked11 c 0 e l' M')
  repeat' (first | refine W.seq ?_ | refine W.region ?_ | refine WO.nil ?_ | (refine WO.isMv ?_; first | refine WO.go rfl rfl ?_ | refine WO.mvR rfl ?_) | (refine WO.isUn ?_; first | refine WO.go rfl rfl ?_) | (refine WO.isCall ?_; first | refine WO.ask rfl rfl (hcon _ rfl) ?_) | (refine WO.isLoad ?_; first | refine WO.ldc rfl rfl (hb' _) rfl rfl ?_ | refine WO.go rfl rfl ?_) | refine WO.go rfl rfl ?_ | refine W.ret ?_)
  exact ⟨.inr rfl, _, rfl, fin rfl rfl rfl⟩
set_option maxRecDepth 8000 in
theorem c_Asked (x : List Cmd) (y : Nat) (h : Bool) (hy : y = 5 ∨ x = []) (hx : x.length ≤ 281474976710656) (v : List Ev) (z : Nat) (f : Bool) (hz : z = 13 ∨ v = []) (hv : v.length ≤ 281474976710656) (M : Mem) :
    E0 19 [.slc y h (x.map Cmd.c), .slc z f (v.map Ev.c)] M (.bool (x.all (askedBy v))) M := by
  refine EvF.by (nf := nf19) (args := [.slc y h (x.map Cmd.c), .slc z f (v.map Ev.c)]) rfl (of_decide_eq_true rfl) rfl ?_
  have hcon := c_ContainsCmd x y h hy hx 29 0 0 (.cells [.slc z f (v.map Ev.c)]) _ (fun c l' M' => c_Asked1 v z f hz hv 0 c l' M')
  repeat' (first | refine W.seq ?_ | refine W.region ?_ | refine WO.nil ?_ | (refine WO.isMv ?_; first | refine WO.go rfl rfl ?_ | refine WO.mvR rfl ?_) | (refine WO.isUn ?_; first | refine WO.go rfl rfl ?_) | (refine WO.isCall ?_; first | refine WO.ask rfl rfl (hcon _ rfl) ?_) | refine WO.go rfl rfl ?_ | refine W.ret ?_)
  exact ⟨.inr rfl, _, rfl, fin rfl (by rw [List.not_any_eq_all_not]; simp) rfl⟩
/-- Does a reply speak against another one? -/
def liesTo (e r : Reply) : Bool := decide (r.client = e.client) && (decide (r.seq = e.seq) && !decide (r = e))
set_option maxRecDepth 8000 in
theorem c_Honest1 (e : Ev) (i : Nat) (r : Reply) (l : Nat) (M : Mem) (hb : blk? M l i = some (.cells e.c)) :
    E0 32 [.agg r.c, .ptr l i 0] M (.bool (liesTo e.reply r)) M := by
  refine EvF.by (nf := nf32) (args := [.agg r.c, .ptr l i 0]) rfl (of_decide_eq_true rfl) rfl ?_
  have hb' : ∀ fr, blk? (fr :: M) (l + 1) i = some (.cells e.c) := fun fr => hb
  have he := eq_reply r e.reply
  unfold liesTo
  by_cases h1 : r.client = e.reply.client
  · by_cases h2 : r.seq = e.reply.seq
    · repeat' (first | refine W.seq ?_ | refine W.region ?_ | refine WO.nil ?_ | refine WO.onG rfl ?_ | refine WO.offG rfl ?_ | (refine WO.fork rfl ?_ ?_ <;> intro hc <;> (fail_if_success (exfalso; cases hc; done)) <;> (first | subst hc | (simp at hc; try omega) | skip)) | (refine WO.isMv ?_; first | refine WO.go rfl rfl ?_ | refine WO.mvR rfl ?_) | (refine WO.isBin ?_; first | refine WO.eqT rfl rfl rfl h1 ?_ | refine WO.eqT rfl rfl rfl h2 ?_ | refine WO.testT rfl rfl ?_ | refine WO.testF rfl rfl ?_ | (refine WO.teql rfl rfl rfl (fun hc => ?_) (fun hc => ?_) <;> try omega) | refine WO.tseql rfl rfl rfl (fun hc => ?_) (fun hc => ?_) | refine WO.go rfl rfl ?_) | (refine WO.isLoad ?_; first | refine WO.ldc rfl rfl (hb' _) rfl rfl ?_ | refine WO.lda rfl rfl (hb' _) (Nat.le_refl 13) rfl ?_ | refine WO.go rfl rfl ?_) | (refine WO.isEq ?_; first | refine WO.neA rfl rfl rfl he ?_ | refine WO.go rfl rfl ?_) | refine WO.go rfl rfl ?_ | refine W.ret ?_)
      exact ⟨.inr rfl, _, rfl, fin rfl (by rw [decide_eq_true h1, decide_eq_true h2]; rfl) rfl⟩
    · repeat' (first | refine W.seq ?_ | refine W.region ?_ | refine WO.nil ?_ | refine WO.onG rfl ?_ | refine WO.offG rfl ?_ | (refine WO.fork rfl ?_ ?_ <;> intro hc <;> (fail_if_success (exfalso; cases hc; done)) <;> (first | subst hc | (simp at hc; try omega) | skip)) | (refine WO.isMv ?_; first | refine WO.go rfl rfl ?_ | refine WO.mvR rfl ?_) | (refine WO.isBin ?_; first | refine WO.eqT rfl rfl rfl h1 ?_ | refine WO.eqF rfl rfl rfl h2 ?_ | refine WO.testT rfl rfl ?_ | refine WO.testF rfl rfl ?_ | (refine WO.teql rfl rfl rfl (fun hc => ?_) (fun hc => ?_) <;> try omega) | refine WO.tseql rfl rfl rfl (fun hc => ?_) (fun hc => ?_) | refine WO.go rfl rfl ?_) | (refine WO.isLoad ?_; first | refine WO.ldc rfl rfl (hb' _) rfl rfl ?_ | refine WO.go rfl rfl ?_) | (refine WO.isEq ?_; first | refine WO.go rfl rfl ?_) | refine WO.go rfl rfl ?_ | refine W.ret ?_)
      exact ⟨.inr rfl, _, rfl, fin rfl (by rw [decide_eq_true h1, decide_eq_false h2]; rfl) rfl⟩
  · repeat' (first | refine W.seq ?_ | refine W.region ?_ | refine WO.nil ?_ | refine WO.onG rfl ?_ | refine WO.offG rfl ?_ | (refine WO.fork rfl ?_ ?_ <;> intro hc <;> (fail_if_success (exfalso; cases hc; done)) <;> (first | subst hc | (simp at hc; try omega) | skip)) | (refine WO.isMv ?_; first | refine WO.go rfl rfl ?_ | refine WO.mvR rfl ?_) | (refine WO.isBin ?_; first | refine WO.eqF rfl rfl rfl h1 ?_ | refine WO.testT rfl rfl ?_ | refine WO.testF rfl rfl ?_ | (refine WO.teql rfl rfl rfl (fun hc => ?_) (fun hc => ?_) <;> try omega) | refine WO.tseql rfl rfl rfl (fun hc => ?_) (fun hc => ?_) | refine WO.go rfl rfl ?_) | (refine WO.isLoad ?_; first | refine WO.ldc rfl rfl (hb' _) rfl rfl ?_ | refine WO.go rfl rfl ?_) | (refine WO.isEq ?_; first | refine WO.go rfl rfl ?_) | refine WO.go rfl rfl ?_ | refine W.ret ?_)
    exact ⟨.inr rfl, _, rfl, fin rfl (by rw [decide_eq_false h1]; rfl) rfl⟩
end Go.Proofs.Ytehkfdicaiehcaa.Nv
