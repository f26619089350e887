/- A tally: what its methods come to. -/
import Derived.Test.YtjjkabbncpalpaaAttr1
namespace Go.Proofs.Ytjjkabbncpalpaa.Nv
open Go
theorem examples_ev : evF F 2000 9 [] [] = some (.bool true, []) := by kernel_rfl
theorem c_examples (m : Mem) : E0 9 [] m (.bool true) m := EvF.any (EvF.ev 2000 examples_ev) m
def faults (n : Int) : Int := if n = 3 then 1 else if n = 5 then 2 else if n = 7 then 3 else 0
set_option maxRecDepth 4000 in
theorem c_Faults (n : Int) (m : Mem) : E0 13 [.int .i64 n] m (.int .i64 (faults n)) m := by
  refine EvF.by (nf := nf13) (args := [.int .i64 n]) rfl (of_decide_eq_true rfl) rfl ?_
  repeat' (first | refine W.seq ?_ | refine W.region ?_ | refine WO.nil ?_ | refine WO.onG rfl ?_ | refine WO.offG rfl ?_ | (refine WO.fork rfl ?_ ?_ <;> intro hc <;> (fail_if_success (exfalso; cases hc; done)) <;> (first | subst hc | (simp at hc; try omega) | skip)) | (refine WO.isMv ?_; first | refine WO.go rfl rfl ?_ | refine WO.mvR rfl ?_) | (refine WO.isBin ?_; first | refine WO.rem rfl rfl rfl (by omega) (by omega) ?_ | refine WO.quoI64 rfl rfl rfl (by omega) (by omega) (by omega) ?_ | refine WO.quoU8 rfl rfl rfl (by omega) (by omega) (by omega) ?_ | refine WO.quoU32 rfl rfl rfl (by omega) (by omega) (by omega) ?_ | refine WO.quoU64 rfl rfl rfl (by omega) (by omega) (by omega) ?_ | refine WO.testT rfl rfl ?_ | refine WO.testF rfl rfl ?_ | (refine WO.tlss rfl rfl rfl (fun hc => ?_) (fun hc => ?_) <;> try omega) | (refine WO.tgtr rfl rfl rfl (fun hc => ?_) (fun hc => ?_) <;> try omega) | (refine WO.teql rfl rfl rfl (fun hc => ?_) (fun hc => ?_) <;> try omega) | refine WO.tseql rfl rfl rfl (fun hc => ?_) (fun hc => ?_) | refine WO.go rfl rfl ?_) | refine WO.go rfl rfl ?_ | refine W.skip ?_ | refine W.condT rfl ?_ | refine W.condF rfl ?_ | (refine W.fork rfl ?_ ?_ <;> intro hc <;> (fail_if_success (exfalso; cases hc; done)) <;> (first | subst hc | (simp at hc; try omega) | skip)) | refine W.ret ?_)
  all_goals refine ⟨.inr rfl, _, rfl, fin rfl (congrArg _ ?_) rfl⟩
  all_goals (unfold faults; split; omega; split; omega; split; omega; omega)
/-- Who answered, and what. -/
structure Ans where
  pre : Bool
  own : Bool
  acc : Bool
  seq : Int
  deps : List ID
def Ans.c (a : Ans) : List NV := [.bool a.pre, .bool a.own, .bool a.acc, .int .u32 a.seq, mkS 2 (a.deps.map ID.c)]
def ans0 : Ans := ⟨false, false, false, 0, []⟩
def tallyC (n me : Int) (A : List Ans) : List NV := .int .i64 n :: .int .i64 me :: (A.map Ans.c).flatten
theorem ansf_get : ∀ (A : List Ans) (w j : Nat) (a : Ans), A[w]? = some a → j < 5 → ((A.map Ans.c).flatten)[w * 5 + j]? = a.c[j]?
  | b :: A, 0, j, a, h, hj => by
    simp only [List.getElem?_cons_zero, Option.some.injEq] at h
    subst h
    rw [List.map_cons, List.flatten_cons, List.getElem?_append_left (by simp [Ans.c]; omega)]
    simp
  | b :: A, w + 1, j, a, h, hj => by
    rw [List.map_cons, List.flatten_cons, List.getElem?_append_right (by simp [Ans.c]; omega)]
    have : (w + 1) * 5 + j - b.c.length = w * 5 + j := by simp [Ans.c]; omega
    rw [this]
    exact ansf_get A w j a (by simpa using h) hj
  | [], w, j, a, h, hj => by simp at h
theorem tally_get {n me : Int} {A : List Ans} {w j : Nat} {a : Ans} (h : A[w]? = some a) (hj : j < 5) : (tallyC n me A)[2 + w * 5 + j]? = a.c[j]? := by
  unfold tallyC
  rw [show 2 + w * 5 + j = (w * 5 + j) + 1 + 1 by omega, List.getElem?_cons_succ, List.getElem?_cons_succ]
  exact ansf_get A w j a h hj
theorem ansf_len (A : List Ans) : ((A.map Ans.c).flatten).length = A.length * 5 := by
  induction A with
  | nil => rfl
  | cons a A ih => rw [List.map_cons, List.flatten_cons, List.length_append, ih]; simp [Ans.c]; omega
theorem tally_len (n me : Int) (A : List Ans) : (tallyC n me A).length = A.length * 5 + 2 := by unfold tallyC; rw [List.length_cons, List.length_cons, ansf_len]
/-- Cells of one answer set: at j, as many as vs. -/
theorem ansf_set : ∀ (A : List Ans) (w j : Nat) (a a' : Ans) (v : NV), A[w]? = some a → j < 5 → a'.c = a.c.set j v → ((A.map Ans.c).flatten).set (w * 5 + j) v = ((A.set w a').map Ans.c).flatten
  | b :: A, 0, j, a, a', v, h, hj, hc => by
    simp only [List.getElem?_cons_zero, Option.some.injEq] at h
    subst h
    rw [List.set_cons_zero, List.map_cons, List.map_cons, List.flatten_cons, List.flatten_cons, hc, List.set_append_left _ _ (by simp [Ans.c]; omega)]
    simp
  | b :: A, w + 1, j, a, a', v, h, hj, hc => by
    rw [List.set_cons_succ, List.map_cons, List.map_cons, List.flatten_cons, List.flatten_cons, List.set_append_right _ _ (by simp [Ans.c]; omega)]
    have : (w + 1) * 5 + j - b.c.length = w * 5 + j := by simp [Ans.c]; omega
    rw [this, ansf_set A w j a a' v (by simpa using h) hj hc]
  | [], w, j, a, a', v, h, hj, hc => by simp at h
theorem tally_set {n me : Int} {A : List Ans} {w j : Nat} {a a' : Ans} {v : NV} (h : A[w]? = some a) (hj : j < 5) (hc : a'.c = a.c.set j v) : (tallyC n me A).set (2 + w * 5 + j) v = tallyC n me (A.set w a') := by
  unfold tallyC
  rw [show 2 + w * 5 + j = (w * 5 + j) + 1 + 1 by omega, List.set_cons_succ, List.set_cons_succ, ansf_set A w j a a' v h hj hc]
def otherB (n me who : Int) : Bool := decide (1 ≤ who ∧ who ≤ n ∧ who ≠ me)
set_option maxRecDepth 4000 in
theorem c_other (n me who : Int) (l i : Nat) (M : Mem) (A : List Ans) (hb : blk? M l i = some (.cells (tallyC n me A))) :
    E0 30 [.ptr l i 0, .int .i64 who] M (.bool (otherB n me who)) M := by
  have hb' : blk? (⟨[], []⟩ :: M) (l + 1) i = some (.cells (tallyC n me A)) := hb
  refine EvF.by (nf := nf30) (args := [.ptr l i 0, .int .i64 who]) rfl (of_decide_eq_true rfl) rfl ?_
  repeat' (first | refine W.seq ?_ | refine W.region ?_ | refine WO.nil ?_ | refine WO.onG rfl ?_ | refine WO.offG rfl ?_ | (refine WO.fork rfl ?_ ?_ <;> intro hc <;> (fail_if_success (exfalso; cases hc; done)) <;> (first | subst hc | (simp at hc; try omega) | skip)) | (refine WO.isMv ?_; first | refine WO.go rfl rfl ?_ | refine WO.mvR rfl ?_) | (refine WO.isBin ?_; first | refine WO.testT rfl rfl ?_ | refine WO.testF rfl rfl ?_ | (refine WO.tleq rfl rfl rfl (fun hc => ?_) (fun hc => ?_) <;> try omega) | (refine WO.tgeq rfl rfl rfl (fun hc => ?_) (fun hc => ?_) <;> try omega) | (refine WO.tneq rfl rfl rfl (fun hc => ?_) (fun hc => ?_) <;> try omega) | refine WO.tsneq rfl rfl rfl (fun hc => ?_) (fun hc => ?_) | refine WO.go rfl rfl ?_) | (refine WO.isLoad ?_; first | refine WO.ldc rfl rfl hb' rfl rfl ?_ | refine WO.go rfl rfl ?_) | refine WO.go rfl rfl ?_ | refine W.ret ?_)
  all_goals refine ⟨.inr rfl, _, rfl, fin rfl (congrArg _ ?_) rfl⟩
  all_goals (unfold otherB; first | (refine (decide_eq_true ?_).symm; omega) | (refine (decide_eq_false ?_).symm; omega))
set_option maxRecDepth 4000 in
theorem c_Acc (n me who : Int) (l i : Nat) (M : Mem) (A : List Ans) (hb : blk? M l i = some (.cells (tallyC n me A))) (hA : A.length = 8) (hn : n ≤ 7) (w : Nat) (a : Ans) (hw : otherB n me who = true → who = w ∧ A[w]? = some a) :
    E0 15 [.ptr l i 0, .int .i64 who] M (.bool (otherB n me who && !a.acc)) (if otherB n me who && !a.acc then setBlk M l i (.cells (tallyC n me (A.set w { a with acc := true }))) else M) := by
  have hb' : blk? (⟨[], []⟩ :: M) (l + 1) i = some (.cells (tallyC n me A)) := hb
  refine EvF.by (nf := nf15) (args := [.ptr l i 0, .int .i64 who]) rfl (of_decide_eq_true rfl) rfl ?_
  have hf := c_other n me who (l + 1) i _ A hb'
  cases ho : otherB n me who
  · rw [ho] at hf
    repeat' (first | refine W.seq ?_ | refine W.region ?_ | refine WO.nil ?_ | refine WO.onG rfl ?_ | refine WO.offG rfl ?_ | (refine WO.fork rfl ?_ ?_ <;> intro hc <;> (fail_if_success (exfalso; cases hc; done)) <;> (first | subst hc | (simp at hc; try omega) | skip)) | (refine WO.isMv ?_; first | refine WO.go rfl rfl ?_ | refine WO.mvR rfl ?_) | (refine WO.isUn ?_; first | refine WO.go rfl rfl ?_) | (refine WO.isCall ?_; first | refine WO.ask rfl rfl (hf) ?_ | refine WO.ask' rfl rfl (hf) ?_) | (refine WO.isLoad ?_; first | refine WO.go rfl rfl ?_) | (refine WO.isStore ?_; first | refine WO.st rfl rfl ?_) | (refine WO.isIaddr ?_; first | refine WO.go rfl rfl ?_) | refine WO.go rfl rfl ?_ | refine WO.st rfl rfl ?_ | refine W.skip ?_ | refine W.condT rfl ?_ | refine W.condF rfl ?_ | (refine W.fork rfl ?_ ?_ <;> intro hc <;> (fail_if_success (exfalso; cases hc; done)) <;> (first | subst hc | (simp at hc; try omega) | skip)) | refine W.ret ?_)
    exact ⟨.inr rfl, _, rfl, fin rfl rfl rfl⟩
  · obtain ⟨hw1, ha⟩ := hw ho
    rw [ho] at hf
    have hwl : w < 8 := by have := (List.getElem?_eq_some_iff.1 ha).1; omega
    have hg : (tallyC n me A)[0 + 2 + w * 5 + 2]? = some (.bool a.acc) := by rw [Nat.zero_add, tally_get ha (by omega)]; rfl
    have hlen : (tallyC n me A).length = 42 := by rw [tally_len, hA]
    cases hacc : a.acc
    · rw [hacc] at hg
      have hset : (tallyC n me A).set (0 + 2 + w * 5 + 2) (.bool true) = tallyC n me (A.set w { a with acc := true }) := by rw [Nat.zero_add]; exact tally_set ha (by omega) rfl
      repeat' (first | refine W.seq ?_ | refine W.region ?_ | refine WO.nil ?_ | refine WO.st rfl (st1_of rfl rfl rfl rfl hb (by omega)) ?_ | refine WO.onG rfl ?_ | refine WO.offG rfl ?_ | (refine WO.fork rfl ?_ ?_ <;> intro hc <;> (fail_if_success (exfalso; cases hc; done)) <;> (first | subst hc | (simp at hc; try omega) | skip)) | (refine WO.isMv ?_; first | refine WO.go rfl rfl ?_ | refine WO.mvR rfl ?_) | (refine WO.isUn ?_; first | refine WO.go rfl rfl ?_) | (refine WO.isCall ?_; first | refine WO.ask rfl rfl (hf) ?_ | refine WO.ask' rfl rfl (hf) ?_) | (refine WO.isLoad ?_; first | refine WO.ldc rfl rfl hb' hg rfl ?_ | refine WO.go rfl rfl ?_) | (refine WO.isStore ?_; first | refine WO.st rfl rfl ?_) | (refine WO.isIaddr ?_; first | refine WO.pidx rfl rfl rfl hw1 hwl ?_ | refine WO.go rfl rfl ?_) | refine WO.go rfl rfl ?_ | refine WO.st rfl rfl ?_ | refine W.skip ?_ | refine W.condT rfl ?_ | refine W.condF rfl ?_ | (refine W.fork rfl ?_ ?_ <;> intro hc <;> (fail_if_success (exfalso; cases hc; done)) <;> (first | subst hc | (simp at hc; try omega) | skip)) | refine W.ret ?_)
      refine ⟨.inr rfl, _, rfl, fin rfl rfl ?_⟩
      rw [hset]; rfl
    · rw [hacc] at hg
      repeat' (first | refine W.seq ?_ | refine W.region ?_ | refine WO.nil ?_ | refine WO.onG rfl ?_ | refine WO.offG rfl ?_ | (refine WO.fork rfl ?_ ?_ <;> intro hc <;> (fail_if_success (exfalso; cases hc; done)) <;> (first | subst hc | (simp at hc; try omega) | skip)) | (refine WO.isMv ?_; first | refine WO.go rfl rfl ?_ | refine WO.mvR rfl ?_) | (refine WO.isUn ?_; first | refine WO.go rfl rfl ?_) | (refine WO.isCall ?_; first | refine WO.ask rfl rfl (hf) ?_ | refine WO.ask' rfl rfl (hf) ?_) | (refine WO.isLoad ?_; first | refine WO.ldc rfl rfl hb' hg rfl ?_ | refine WO.go rfl rfl ?_) | (refine WO.isStore ?_; first | refine WO.st rfl rfl ?_) | (refine WO.isIaddr ?_; first | refine WO.pidx rfl rfl rfl hw1 hwl ?_ | refine WO.go rfl rfl ?_) | refine WO.go rfl rfl ?_ | refine WO.st rfl rfl ?_ | refine W.skip ?_ | refine W.condT rfl ?_ | refine W.condF rfl ?_ | (refine W.fork rfl ?_ ?_ <;> intro hc <;> (fail_if_success (exfalso; cases hc; done)) <;> (first | subst hc | (simp at hc; try omega) | skip)) | refine W.ret ?_)
      exact ⟨.inr rfl, _, rfl, fin rfl rfl rfl⟩
end Go.Proofs.Ytjjkabbncpalpaa.Nv
