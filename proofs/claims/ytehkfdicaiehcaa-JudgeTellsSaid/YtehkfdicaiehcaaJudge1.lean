/- What is replayed. -/
import Derived.Test.YtehkfdicaiehcaaStore2
namespace Go.Proofs.Ytehkfdicaiehcaa.Nv
open Go
def runS : Vals → Dones → List Cmd → List Reply
  | _, _, [] => []
  | V, D, c :: l => if applyOk D c then replyOf V c :: runS (putV V c) (aput (c.client, c.seq) (replyOf V c) D) l else runS V D l
def replay (l : List Cmd) : List Reply := runS [] [] l
theorem logs_out {G : Logs} {o : Option Nat} {ts ts' : List Bool} {n t t' : Nat} {rows : List (List NV)} (h : LogsOk G o ts n) (ho : o = if rows = [] then none else some t) (hk : TokStep rows t ts ts' t') (ht : ts'[t']? = some true) : LogsOk G (some t') ts' n := by
  have key : ∀ (i : Nat) x, G[i]? = some x → ts'[x.2.2]? = some true := fun i x hx => hk.keep _ (by
    by_cases hr : rows = []
    · exact .inl hr
    · rw [if_neg hr] at ho; exact .inr (h.odis t i x ho hx)) (h.live i x hx)
  refine ⟨key, h.inj, h.len, fun u hu => ?_, fun u i x hu hx => ?_⟩
  · cases hu; exact ht
  · cases hu; exact hk.fresh _ (h.live i x hx)
set_option maxRecDepth 8000 in
theorem c_storeNew (ts : List Bool) (m : Mem) : E0 25 [] (⟨[], ts⟩ :: m) (.ptr 0 3 0) (⟨storeB [] [] [], ts⟩ :: m) := by
  refine EvF.by (nf := nf25) (args := []) rfl (of_decide_eq_true rfl) rfl ?_
  repeat' (first | refine W.seq ?_ | refine W.region ?_ | refine WO.nil ?_ | (refine WO.isMv ?_; first | refine WO.go rfl rfl ?_ | refine WO.mvR rfl ?_) | refine WO.go rfl rfl ?_ | refine W.ret ?_)
  refine ⟨.inr rfl, _, rfl, fin rfl rfl ?_⟩
  simp only [List.append_nil]
  rfl
theorem logs_up {G : Logs} {o : Option Nat} {ts : List Bool} {n : Nat} (h : LogsOk G o ts n) : LogsOk G o ts (n + 1) := ⟨h.live, h.inj, fun i x hx => Nat.le_succ_of_le (h.len i x hx), h.olive, h.odis⟩
structure Rp where
  V : Vals
  G : Logs
  D : Dones
  junk : List NObj
  ts : List Bool
  i : Nat
  R : List (List NV)
  t : Nat
set_option maxRecDepth 8000 in
set_option maxHeartbeats 8000000 in
theorem c_Replay (l : List Cmd) (z : Nat) (f : Bool) (hz : z = 5 ∨ l = []) (hl : l.length ≤ 1000000) (m : Mem) : E0 12 [.slc z f (l.map Cmd.c)] m (mkS 4 ((replay l).map Reply.c)) m := by
  refine EvF.by (nf := nf12) (args := [.slc z f (l.map Cmd.c)]) rfl (of_decide_eq_true rfl) rfl ?_
  repeat' (first | refine W.seq ?_ | refine W.region ?_ | refine WO.nil ?_ | (refine WO.isMv ?_; first | refine WO.go rfl rfl ?_ | refine WO.mvR rfl ?_) | (refine WO.isBin ?_; first | refine WO.add64 rfl rfl rfl (by omega) (by omega) ?_ | refine WO.addU32 rfl rfl rfl (by omega) (by omega) ?_ | refine WO.addU64 rfl rfl rfl (by omega) (by omega) ?_ | refine WO.addU8 rfl rfl rfl (by omega) (by omega) ?_ | refine WO.testT rfl rfl ?_ | refine WO.testF rfl rfl ?_ | (refine WO.tlss rfl rfl rfl (fun hc => ?_) (fun hc => ?_) <;> try omega) | refine WO.go rfl rfl ?_) | (refine WO.isCall ?_; first | refine WO.ask rfl rfl (c_storeNew _ _) ?_ | refine WO.ask' rfl rfl (c_storeNew _ _) ?_) | (refine WO.isLoad ?_; first | refine WO.go rfl rfl ?_ | refine WO.ldc rfl rfl blk_l1 rfl rfl ?_ | refine WO.lda rfl rfl blk_l1 (of_decide_eq_true rfl) rfl ?_ | refine WO.ldc rfl rfl blk_l2 rfl rfl ?_ | refine WO.lda rfl rfl blk_l2 (of_decide_eq_true rfl) rfl ?_ | refine WO.ldc rfl rfl blk_l3 rfl rfl ?_ | refine WO.lda rfl rfl blk_l3 (of_decide_eq_true rfl) rfl ?_) | (refine WO.isStore ?_; first | refine WO.st rfl rfl ?_ | refine WO.stB rfl rfl rfl rfl rfl blk_l1 (of_decide_eq_true rfl) rfl set_l1 ?_ | refine WO.stB rfl rfl rfl rfl rfl blk_l2 (of_decide_eq_true rfl) rfl set_l2 ?_ | refine WO.stB rfl rfl rfl rfl rfl blk_l3 (of_decide_eq_true rfl) rfl set_l3 ?_) | (refine WO.isIaddr ?_; first | refine WO.go rfl rfl ?_) | (refine WO.isLen ?_; first | refine WO.lenS rfl rfl (List.length_map ..) ?_ | refine WO.go rfl rfl ?_) | (refine WO.isApp ?_; first | refine WO.go rfl rfl ?_) | refine WO.go rfl rfl ?_ | refine WO.st rfl rfl ?_ | refine W.skip ?_ | refine W.condT rfl ?_ | refine W.condF rfl ?_ | (refine W.fork rfl ?_ ?_ <;> intro hc <;> (fail_if_success (exfalso; cases hc; done)) <;> (first | subst hc | (simp at hc; try omega) | skip)) | refine W.ret ?_ | refine W.block ?_ | refine W.exit ?_)
  refine W.ind (σ := Rp) (fun s => [(0, .slc z f (l.map Cmd.c)), (3, apV 4 s.R s.t), (4, .ptr 0 3 0), (10, .slc z f (l.map Cmd.c)), (11, .int .i64 l.length), (12, .int .i64 s.i)]) (fun s => ⟨storeB s.V s.G s.D ++ s.junk, s.ts⟩ :: m)
    (fun s => s.i ≤ l.length ∧ LogsOk s.G (if s.R = [] then none else some s.t) s.ts s.i ∧ s.R.length ≤ s.i ∧ (replay l).map Reply.c = s.R ++ (runS s.V s.D (l.drop s.i)).map Reply.c) (fun s => l.length - s.i)
    ⟨[], [], [], [], [], 0, [], 0⟩ ⟨Nat.zero_le _, ⟨fun i x h => by simp at h, fun i j x y h => by simp at h, fun i x h => by simp at h, fun t h => by simp at h, fun t i x h => by simp at h⟩, Nat.le_refl _, rfl⟩ ⟨rfl, rfl, rfl, rfl, rfl, rfl, trivial⟩ rfl ?_
  rintro ⟨V, G, D, junk, ts, i, R, t⟩ e ⟨hi, hG, hR, hinv⟩ IH
  dsimp only at hi hG hR hinv ⊢
  refine W.round ?_
  by_cases hlt : i < l.length
  · obtain ⟨c, hc⟩ := get_lt hlt
    have hrow := map_get (f := Cmd.c) hc
    have hz' : z = 5 := hz.resolve_right (by rintro rfl; simp at hlt)
    rw [List.drop_eq_getElem_cons hlt, show l[i] = c from (List.getElem?_eq_some_iff.1 hc).2, runS] at hinv
    have ht : tokOf R ts t := by
      by_cases hr : R = []
      · exact .inl hr
      · rw [if_neg hr] at hG; exact .inr (hG.olive t rfl)
    cases hok : applyOk D c
    · rw [hok] at hinv
      have hno := fun junk => c_ApplyNo V G D junk ts m c hok
      repeat' (first | refine W.seq ?_ | refine W.region ?_ | refine WO.nil ?_ | (refine WO.isMv ?_; first | refine WO.go rfl rfl ?_ | refine WO.mvR rfl ?_) | (refine WO.isBin ?_; first | refine WO.add64 rfl rfl rfl (by omega) (by omega) ?_ | refine WO.addU32 rfl rfl rfl (by omega) (by omega) ?_ | refine WO.addU64 rfl rfl rfl (by omega) (by omega) ?_ | refine WO.addU8 rfl rfl rfl (by omega) (by omega) ?_ | refine WO.testT rfl rfl ?_ | refine WO.testF rfl rfl ?_ | (refine WO.tlss rfl rfl rfl (fun hc => ?_) (fun hc => ?_) <;> try omega) | refine WO.go rfl rfl ?_) | (refine WO.isCall ?_; first | refine WO.ask rfl rfl (hno _) ?_ | refine WO.ask' rfl rfl (hno _) ?_) | (refine WO.isLoad ?_; first | refine WO.go rfl rfl ?_ | refine WO.ldc rfl rfl blk_l1 rfl rfl ?_ | refine WO.lda rfl rfl blk_l1 (of_decide_eq_true rfl) rfl ?_ | refine WO.ldc rfl rfl blk_l2 rfl rfl ?_ | refine WO.lda rfl rfl blk_l2 (of_decide_eq_true rfl) rfl ?_ | refine WO.ldc rfl rfl blk_l3 rfl rfl ?_ | refine WO.lda rfl rfl blk_l3 (of_decide_eq_true rfl) rfl ?_) | (refine WO.isStore ?_; first | refine WO.st rfl rfl ?_ | refine WO.stB rfl rfl rfl rfl rfl blk_l1 (of_decide_eq_true rfl) rfl set_l1 ?_ | refine WO.stB rfl rfl rfl rfl rfl blk_l2 (of_decide_eq_true rfl) rfl set_l2 ?_ | refine WO.stB rfl rfl rfl rfl rfl blk_l3 (of_decide_eq_true rfl) rfl set_l3 ?_) | (refine WO.isIaddr ?_; first | refine WO.slidx rfl rfl rfl rfl hz' hrow ?_ | refine WO.go rfl rfl ?_) | (refine WO.isLen ?_; first | refine WO.go rfl rfl ?_) | (refine WO.isApp ?_; first | refine WO.go rfl rfl ?_) | refine WO.go rfl rfl ?_ | refine WO.st rfl rfl ?_ | refine W.skip ?_ | refine W.condT rfl ?_ | refine W.condF rfl ?_ | (refine W.fork rfl ?_ ?_ <;> intro hc <;> (fail_if_success (exfalso; cases hc; done)) <;> (first | subst hc | (simp at hc; try omega) | skip)) | refine W.ret ?_ | refine W.block ?_ | refine W.exit ?_)
      exact IH ⟨V, G, D, _, ts, i + 1, R, t⟩ _ _ (by show l.length - (i + 1) < l.length - i; omega) ⟨hlt, logs_up hG, by show R.length ≤ i + 1; omega, hinv⟩ ⟨rfl, rfl, rfl, rfl, rfl, rfl, trivial⟩ rfl
    · rw [hok] at hinv
      obtain ⟨G', ts', hG', hyes⟩ := c_ApplyYes V G D ts m c _ i hG (by omega) hok
      have ht' : tokOf R ts' t := by
        by_cases hr : R = []
        · exact .inl hr
        · rw [if_neg hr] at hG'; exact .inr (hG'.olive t rfl)
      repeat' (first | refine W.seq ?_ | refine W.region ?_ | refine WO.nil ?_ | refine WO.appK (rows := R) (t := t) rfl rfl rfl rfl rfl ht' (by show (_ + 1) * _ ≤ _; omega) (by show _ + 1 ≤ _; omega) fun ts t ht hkept => ?_ | (refine WO.isMv ?_; first | refine WO.go rfl rfl ?_ | refine WO.mvR rfl ?_) | (refine WO.isBin ?_; first | refine WO.add64 rfl rfl rfl (by omega) (by omega) ?_ | refine WO.addU32 rfl rfl rfl (by omega) (by omega) ?_ | refine WO.addU64 rfl rfl rfl (by omega) (by omega) ?_ | refine WO.addU8 rfl rfl rfl (by omega) (by omega) ?_ | refine WO.testT rfl rfl ?_ | refine WO.testF rfl rfl ?_ | (refine WO.tlss rfl rfl rfl (fun hc => ?_) (fun hc => ?_) <;> try omega) | refine WO.go rfl rfl ?_) | (refine WO.isCall ?_; first | refine WO.ask rfl rfl (hyes _) ?_ | refine WO.ask' rfl rfl (hyes _) ?_) | (refine WO.isLoad ?_; first | refine WO.go rfl rfl ?_ | refine WO.ldc rfl rfl blk_l1 rfl rfl ?_ | refine WO.lda rfl rfl blk_l1 (of_decide_eq_true rfl) rfl ?_ | refine WO.ldc rfl rfl blk_l2 rfl rfl ?_ | refine WO.lda rfl rfl blk_l2 (of_decide_eq_true rfl) rfl ?_ | refine WO.ldc rfl rfl blk_l3 rfl rfl ?_ | refine WO.lda rfl rfl blk_l3 (of_decide_eq_true rfl) rfl ?_) | (refine WO.isStore ?_; first | refine WO.st rfl rfl ?_ | refine WO.stB rfl rfl rfl rfl rfl blk_l1 (of_decide_eq_true rfl) rfl set_l1 ?_ | refine WO.stB rfl rfl rfl rfl rfl blk_l2 (of_decide_eq_true rfl) rfl set_l2 ?_ | refine WO.stB rfl rfl rfl rfl rfl blk_l3 (of_decide_eq_true rfl) rfl set_l3 ?_) | (refine WO.isIaddr ?_; first | refine WO.slidx rfl rfl rfl rfl hz' hrow ?_ | refine WO.go rfl rfl ?_) | (refine WO.isLen ?_; first | refine WO.go rfl rfl ?_) | (refine WO.isApp ?_; first | refine WO.go rfl rfl ?_) | refine WO.go rfl rfl ?_ | refine WO.st rfl rfl ?_ | refine W.skip ?_ | refine W.condT rfl ?_ | refine W.condF rfl ?_ | (refine W.fork rfl ?_ ?_ <;> intro hc <;> (fail_if_success (exfalso; cases hc; done)) <;> (first | subst hc | (simp at hc; try omega) | skip)) | refine W.ret ?_ | refine W.block ?_ | refine W.exit ?_)
      have hne : ¬ (R ++ [(replyOf V c).c] = []) := by simp
      refine IH ⟨putV V c, G', aput (c.client, c.seq) (replyOf V c) D, _, ts, i + 1, R ++ [(replyOf V c).c], t⟩ _ _ (by show l.length - (i + 1) < l.length - i; omega) ⟨hlt, ?_, ?_, ?_⟩ ⟨rfl, rfl, rfl, rfl, rfl, rfl, trivial⟩ rfl
      · show LogsOk G' (if R ++ [(replyOf V c).c] = [] then none else some t) ts (i + 1)
        rw [if_neg hne]
        exact logs_out hG' rfl hkept (ht.resolve_left hne)
      · show (R ++ [(replyOf V c).c]).length ≤ i + 1
        rw [List.length_append]
        exact Nat.succ_le_succ hR
      · refine hinv.trans ?_
        show _ = (R ++ [(replyOf V c).c]) ++ (runS (putV V c) (aput (c.client, c.seq) (replyOf V c) D) (l.drop (i + 1))).map Reply.c
        rw [List.append_assoc]
        rfl
  · obtain rfl : i = l.length := by omega
    rw [List.drop_length] at hinv
    repeat' (first | refine W.seq ?_ | refine W.region ?_ | refine WO.nil ?_ | (refine WO.isMv ?_; first | refine WO.go rfl rfl ?_ | refine WO.mvR rfl ?_) | (refine WO.isBin ?_; first | refine WO.add64 rfl rfl rfl (by omega) (by omega) ?_ | refine WO.addU32 rfl rfl rfl (by omega) (by omega) ?_ | refine WO.addU64 rfl rfl rfl (by omega) (by omega) ?_ | refine WO.addU8 rfl rfl rfl (by omega) (by omega) ?_ | refine WO.testT rfl rfl ?_ | refine WO.testF rfl rfl ?_ | (refine WO.tlss rfl rfl rfl (fun hc => ?_) (fun hc => ?_) <;> try omega) | refine WO.go rfl rfl ?_) | (refine WO.isLoad ?_; first | refine WO.go rfl rfl ?_ | refine WO.ldc rfl rfl blk_l1 rfl rfl ?_ | refine WO.lda rfl rfl blk_l1 (of_decide_eq_true rfl) rfl ?_ | refine WO.ldc rfl rfl blk_l2 rfl rfl ?_ | refine WO.lda rfl rfl blk_l2 (of_decide_eq_true rfl) rfl ?_ | refine WO.ldc rfl rfl blk_l3 rfl rfl ?_ | refine WO.lda rfl rfl blk_l3 (of_decide_eq_true rfl) rfl ?_) | (refine WO.isStore ?_; first | refine WO.st rfl rfl ?_ | refine WO.stB rfl rfl rfl rfl rfl blk_l1 (of_decide_eq_true rfl) rfl set_l1 ?_ | refine WO.stB rfl rfl rfl rfl rfl blk_l2 (of_decide_eq_true rfl) rfl set_l2 ?_ | refine WO.stB rfl rfl rfl rfl rfl blk_l3 (of_decide_eq_true rfl) rfl set_l3 ?_) | (refine WO.isIaddr ?_; first | refine WO.go rfl rfl ?_) | (refine WO.isLen ?_; first | refine WO.go rfl rfl ?_) | (refine WO.isApp ?_; first | refine WO.go rfl rfl ?_) | refine WO.go rfl rfl ?_ | refine WO.st rfl rfl ?_ | refine W.skip ?_ | refine W.condT rfl ?_ | refine W.condF rfl ?_ | (refine W.fork rfl ?_ ?_ <;> intro hc <;> (fail_if_success (exfalso; cases hc; done)) <;> (first | subst hc | (simp at hc; try omega) | skip)) | refine W.ret ?_ | refine W.block ?_ | refine W.exit ?_)
    exact ⟨.inr rfl, _, rfl, fin pop_ap (by rw [hinv]; simp [runS]) rfl⟩
end Go.Proofs.Ytehkfdicaiehcaa.Nv
