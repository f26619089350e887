/- A tally: what its methods come to: answers, counts. -/
import Derived.Test.YtjjkabbncpalpaaTally1
namespace Go.Proofs.Ytjjkabbncpalpaa.Nv
open Go
def rightL (l : List ID) : Bool := decide (l.length ≤ 400) && isSet l
set_option maxRecDepth 8000 in
set_option maxHeartbeats 4000000 in
theorem c_Pre (n me who : Int) (l i : Nat) (M : Mem) (A : List Ans) (hb : blk? M l i = some (.cells (tallyC n me A))) (hA : A.length = 8) (hn : n ≤ 7) (w : Nat) (a : Ans) (hw : otherB n me who = true → who = w ∧ A[w]? = some a)
    (s : Int) (z : Nat) (f : Bool) (L : List ID) (hz : z = 2 ∨ L = []) (hL : L.length ≤ 1000) (hs : 0 ≤ s) (own : Bool) :
    E0 17 [.ptr l i 0, .int .i64 who, .agg (attrC s z f L), .bool own] M (.bool (otherB n me who && !a.pre && rightL L))
      (if otherB n me who && !a.pre && rightL L then setBlk M l i (.cells (tallyC n me (A.set w { a with pre := true, own := own, seq := max s 0, deps := merge true L [] }))) else M) := by
  have hb' : blk? (⟨[] ++ [.cells (attrC s z f L)], []⟩ :: M) (l + 1) i = some (.cells (tallyC n me A)) := hb
  refine EvF.by (nf := nf17) (args := [.ptr l i 0, .int .i64 who, .agg (attrC s z f L), .bool own]) rfl (of_decide_eq_true rfl) rfl ?_
  have hf := c_other n me who (l + 1) i _ A hb'
  cases ho : otherB n me who
  · rw [ho] at hf
    repeat' (first | refine W.seq ?_ | refine W.region ?_ | refine WO.nil ?_ | refine WO.onG rfl ?_ | refine WO.offG rfl ?_ | (refine WO.fork rfl ?_ ?_ <;> intro hc <;> (fail_if_success (exfalso; cases hc; done)) <;> (first | subst hc | (simp at hc; try omega) | skip)) | (refine WO.isMv ?_; first | refine WO.go rfl rfl ?_ | refine WO.mvR rfl ?_) | (refine WO.isUn ?_; first | refine WO.go rfl rfl ?_) | (refine WO.isCall ?_; first | refine WO.ask rfl rfl (hf) ?_ | refine WO.ask' rfl rfl (hf) ?_) | (refine WO.isLoad ?_; first | refine WO.go rfl rfl ?_) | (refine WO.isStore ?_; first | refine WO.st rfl rfl ?_) | (refine WO.isIaddr ?_; first | refine WO.go rfl rfl ?_) | refine WO.go rfl rfl ?_ | refine WO.st rfl rfl ?_ | refine W.skip ?_ | refine W.condT rfl ?_ | refine W.condF rfl ?_ | (refine W.fork rfl ?_ ?_ <;> intro hc <;> (fail_if_success (exfalso; cases hc; done)) <;> (first | subst hc | (simp at hc; try omega) | skip)) | refine W.ret ?_)
    exact ⟨.inr rfl, _, rfl, fin rfl rfl rfl⟩
  · obtain ⟨hw1, ha⟩ := hw ho
    rw [ho] at hf
    have hwl : w < 8 := by have := (List.getElem?_eq_some_iff.1 ha).1; omega
    have hg : (tallyC n me A)[0 + 2 + w * 5 + 0]? = some (.bool a.pre) := by rw [Nat.zero_add, tally_get ha (by omega)]; rfl
    have hlen : (tallyC n me A).length = 42 := by rw [tally_len, hA]
    cases hpre : a.pre
    · rw [hpre] at hg
      have hr := c_attrRight s L z f hz (by omega)
      have hj := c_attrJoin s 0 L [] z 0 f true hz (.inr rfl) (by simp; omega)
      cases hR : rightL L
      · unfold rightL at hR
        rw [hR] at hr
        repeat' (first | refine W.seq ?_ | refine W.region ?_ | refine WO.nil ?_ | refine WO.onG rfl ?_ | refine WO.offG rfl ?_ | (refine WO.fork rfl ?_ ?_ <;> intro hc <;> (fail_if_success (exfalso; cases hc; done)) <;> (first | subst hc | (simp at hc; try omega) | skip)) | (refine WO.isMv ?_; first | refine WO.go rfl rfl ?_ | refine WO.mvR rfl ?_) | (refine WO.isUn ?_; first | refine WO.go rfl rfl ?_) | (refine WO.isCall ?_; first | refine WO.ask rfl rfl (hf) ?_ | refine WO.ask' rfl rfl (hf) ?_ | refine WO.ask rfl rfl (hr _) ?_ | refine WO.ask' rfl rfl (hr _) ?_) | (refine WO.isLoad ?_; first | refine WO.ldc rfl rfl hb' hg rfl ?_ | refine WO.go rfl rfl ?_) | (refine WO.isStore ?_; first | refine WO.st rfl rfl ?_) | (refine WO.isIaddr ?_; first | refine WO.pidx rfl rfl rfl hw1 hwl ?_ | refine WO.go rfl rfl ?_) | refine WO.go rfl rfl ?_ | refine WO.st rfl rfl ?_ | refine W.skip ?_ | refine W.condT rfl ?_ | refine W.condF rfl ?_ | (refine W.fork rfl ?_ ?_ <;> intro hc <;> (fail_if_success (exfalso; cases hc; done)) <;> (first | subst hc | (simp at hc; try omega) | skip)) | refine W.ret ?_)
        exact ⟨.inr rfl, _, rfl, fin rfl rfl rfl⟩
      · unfold rightL at hR
        rw [hR] at hr
        have hw8 : w < A.length := by omega
        have g1 : (A.set w { a with pre := true })[w]? = some { a with pre := true } := List.getElem?_set_self hw8
        have s1 : (tallyC n me A).take (0 + 2 + w * 5 + 0) ++ [.bool true] ++ (tallyC n me A).drop (0 + 2 + w * 5 + 0 + 1) = tallyC n me (A.set w { a with pre := true }) := by
          rw [set_eq (by omega), Nat.zero_add]; exact tally_set ha (by omega) rfl
        have l1 : (tallyC n me (A.set w { a with pre := true })).length = 42 := by rw [tally_len, List.length_set, hA]
        have g2 : (A.set w { a with pre := true, own := own })[w]? = some { a with pre := true, own := own } := List.getElem?_set_self hw8
        have s2 : (tallyC n me (A.set w { a with pre := true })).take (0 + 2 + w * 5 + 1) ++ [.bool own] ++ (tallyC n me (A.set w { a with pre := true })).drop (0 + 2 + w * 5 + 1 + 1) = tallyC n me (A.set w { a with pre := true, own := own }) := by
          rw [set_eq (by omega), Nat.zero_add, tally_set g1 (by omega) (a' := { a with pre := true, own := own }) rfl, List.set_set]
        have l2 : (tallyC n me (A.set w { a with pre := true, own := own })).length = 42 := by rw [tally_len, List.length_set, hA]
        have g3 : (A.set w { a with pre := true, own := own, seq := max s 0 })[w]? = some { a with pre := true, own := own, seq := max s 0 } := List.getElem?_set_self hw8
        have s3 : (tallyC n me (A.set w { a with pre := true, own := own })).take (0 + 2 + w * 5 + 3) ++ attrR (max s 0) (merge true L []) ++ (tallyC n me (A.set w { a with pre := true, own := own })).drop (0 + 2 + w * 5 + 3 + 2) = tallyC n me (A.set w { a with pre := true, own := own, seq := max s 0, deps := merge true L [] }) := by
          unfold attrR
          rw [put2 (by omega), Nat.zero_add, tally_set g2 (by omega) (a' := { a with pre := true, own := own, seq := max s 0 }) rfl, List.set_set, Nat.add_assoc (2 + w * 5) 3 1, tally_set g3 (by omega) (a' := { a with pre := true, own := own, seq := max s 0, deps := merge true L [] }) rfl, List.set_set]
        repeat' (first | refine W.seq ?_ | refine W.region ?_ | refine WO.nil ?_ | refine WO.stB rfl rfl rfl rfl rfl hb' (by omega) s1 rfl ?_ | refine WO.stB rfl rfl rfl rfl rfl (blk_set hb') (by omega) s2 rfl ?_ | refine WO.stB rfl rfl rfl rfl rfl (blk_set (blk_set hb')) (by omega) s3 rfl ?_ | refine WO.onG rfl ?_ | refine WO.offG rfl ?_ | (refine WO.fork rfl ?_ ?_ <;> intro hc <;> (fail_if_success (exfalso; cases hc; done)) <;> (first | subst hc | (simp at hc; try omega) | skip)) | (refine WO.isMv ?_; first | refine WO.go rfl rfl ?_ | refine WO.mvR rfl ?_) | (refine WO.isUn ?_; first | refine WO.go rfl rfl ?_) | (refine WO.isCall ?_; first | refine WO.ask rfl rfl (hf) ?_ | refine WO.ask' rfl rfl (hf) ?_ | refine WO.ask rfl rfl (hr _) ?_ | refine WO.ask' rfl rfl (hr _) ?_ | refine WO.ask rfl rfl (hj _) ?_ | refine WO.ask' rfl rfl (hj _) ?_) | (refine WO.isLoad ?_; first | refine WO.ldc rfl rfl hb' hg rfl ?_ | refine WO.go rfl rfl ?_) | (refine WO.isStore ?_; first | refine WO.st rfl rfl ?_) | (refine WO.isIaddr ?_; first | refine WO.pidx rfl rfl rfl hw1 hwl ?_ | refine WO.go rfl rfl ?_) | refine WO.go rfl rfl ?_ | refine WO.st rfl rfl ?_ | refine W.skip ?_ | refine W.condT rfl ?_ | refine W.condF rfl ?_ | (refine W.fork rfl ?_ ?_ <;> intro hc <;> (fail_if_success (exfalso; cases hc; done)) <;> (first | subst hc | (simp at hc; try omega) | skip)) | refine W.ret ?_)
        refine ⟨.inr rfl, _, rfl, fin rfl rfl ?_⟩
        exact set_set.trans set_set
    · rw [hpre] at hg
      repeat' (first | refine W.seq ?_ | refine W.region ?_ | refine WO.nil ?_ | refine WO.onG rfl ?_ | refine WO.offG rfl ?_ | (refine WO.fork rfl ?_ ?_ <;> intro hc <;> (fail_if_success (exfalso; cases hc; done)) <;> (first | subst hc | (simp at hc; try omega) | skip)) | (refine WO.isMv ?_; first | refine WO.go rfl rfl ?_ | refine WO.mvR rfl ?_) | (refine WO.isUn ?_; first | refine WO.go rfl rfl ?_) | (refine WO.isCall ?_; first | refine WO.ask rfl rfl (hf) ?_ | refine WO.ask' rfl rfl (hf) ?_) | (refine WO.isLoad ?_; first | refine WO.ldc rfl rfl hb' hg rfl ?_ | refine WO.go rfl rfl ?_) | (refine WO.isStore ?_; first | refine WO.st rfl rfl ?_) | (refine WO.isIaddr ?_; first | refine WO.pidx rfl rfl rfl hw1 hwl ?_ | refine WO.go rfl rfl ?_) | refine WO.go rfl rfl ?_ | refine WO.st rfl rfl ?_ | refine W.skip ?_ | refine W.condT rfl ?_ | refine W.condF rfl ?_ | (refine W.fork rfl ?_ ?_ <;> intro hc <;> (fail_if_success (exfalso; cases hc; done)) <;> (first | subst hc | (simp at hc; try omega) | skip)) | refine W.ret ?_)
      exact ⟨.inr rfl, _, rfl, fin rfl rfl rfl⟩
theorem shL_plain {s : Shift} : ∀ {l : List NV}, (∀ v ∈ l, sh1 s v = some v) → shL s l = some l
  | [], _ => rfl
  | v :: l, h => by
    simp only [shL, h v (List.mem_cons_self ..), shL_plain (l := l) fun w hw => h w (List.mem_cons_of_mem _ hw)]
theorem ansf_sh (s : Shift) (A : List Ans) : shL s (A.map Ans.c).flatten = some (A.map Ans.c).flatten := by
  apply shL_plain
  intro v hv
  obtain ⟨r, hr, hvr⟩ := List.mem_flatten.1 hv
  obtain ⟨a, _, rfl⟩ := List.mem_map.1 hr
  simp only [Ans.c, List.mem_cons, List.not_mem_nil, or_false] at hvr
  rcases hvr with rfl | rfl | rfl | rfl | rfl <;> rfl
theorem ansf_slice : ∀ {A : List Ans} {w : Nat} {a : Ans}, A[w]? = some a → (((A.map Ans.c).flatten).drop (w * 5)).take 5 = a.c
  | b :: A, 0, a, h => by
    simp only [List.getElem?_cons_zero, Option.some.injEq] at h
    subst h
    rw [List.map_cons, List.flatten_cons, Nat.zero_mul, List.drop_zero, List.take_left' (by rfl)]
  | b :: A, w + 1, a, h => by
    rw [List.map_cons, List.flatten_cons, show (w + 1) * 5 = b.c.length + w * 5 by simp [Ans.c]; omega, ← List.drop_drop, List.drop_left' rfl]
    exact ansf_slice (by simpa using h)
  | [], w, a, h => by simp at h
/-- How many of the first k. -/
def cntB (p : Ans → Bool) (A : List Ans) (k : Nat) : Int := ((A.take k).countP p : Int)
theorem cntB_succ {p : Ans → Bool} {A : List Ans} {k : Nat} {a : Ans} (h : A[k]? = some a) : cntB p A (k + 1) = cntB p A k + (if p a then 1 else 0) := by
  unfold cntB
  obtain ⟨hk, rfl⟩ := List.getElem?_eq_some_iff.1 h
  rw [List.take_succ_eq_append_getElem hk, List.countP_append]
  cases hp : p A[k] <;> simp [hp]
theorem cntB_le (p : Ans → Bool) (A : List Ans) (k : Nat) : 0 ≤ cntB p A k ∧ cntB p A k ≤ k := by
  unfold cntB
  have h1 := List.countP_le_length (p := p) (l := A.take k)
  have h2 : (A.take k).length ≤ k := by rw [List.length_take]; omega
  omega
set_option maxRecDepth 4000 in
theorem c_count (b : Bool) (v : Int) (hv : 0 ≤ v ∧ v ≤ 100) (l i : Nat) (M : Mem) (hb : blk? M l i = some (.cells [.int .i64 v])) :
    E0 37 [.bool b, .ptr l i 0] M (.tup []) (setBlk M l i (.cells [.int .i64 (v + (if b then 1 else 0))])) := by
  have hb' : blk? (⟨[], []⟩ :: M) (l + 1) i = some (.cells [.int .i64 v]) := hb
  refine EvF.by (nf := nf37) (args := [.bool b, .ptr l i 0]) rfl (of_decide_eq_true rfl) rfl ?_
  cases b
  · repeat' (first | refine W.seq ?_ | refine W.region ?_ | refine WO.nil ?_ | (refine WO.isMv ?_; first | refine WO.go rfl rfl ?_ | refine WO.mvR rfl ?_) | (refine WO.isBin ?_; first | refine WO.add64 rfl rfl rfl (by omega) (by omega) ?_ | refine WO.addU32 rfl rfl rfl (by omega) (by omega) ?_ | refine WO.addU64 rfl rfl rfl (by omega) (by omega) ?_ | refine WO.addU8 rfl rfl rfl (by omega) (by omega) ?_ | refine WO.go rfl rfl ?_) | (refine WO.isLoad ?_; first | refine WO.go rfl rfl ?_) | (refine WO.isStore ?_; first | refine WO.st rfl rfl ?_) | refine WO.go rfl rfl ?_ | refine WO.st rfl rfl ?_ | refine W.skip ?_ | refine W.condT rfl ?_ | refine W.condF rfl ?_ | (refine W.fork rfl ?_ ?_ <;> intro hc <;> (fail_if_success (exfalso; cases hc; done)) <;> (first | subst hc | (simp at hc; try omega) | skip)))
    refine ⟨.inl rfl, _, rfl, fin rfl rfl ?_⟩
    rw [show v + (if false = true then 1 else 0) = v by simp]
    unfold setBlk
    apply List.ext_getElem?
    intro j
    rw [List.getElem?_modify]
    unfold blk? at hb
    split at hb
    · rename_i fr hf
      by_cases hj : l = j
      · subst hj
        have hi := (List.getElem?_eq_some_iff.1 hb)
        obtain ⟨h1, h2⟩ := hi
        have : fr.blks.set i (.cells [.int .i64 v]) = fr.blks := by rw [← h2]; exact List.set_getElem_self h1
        rw [hf]
        simp [this]
      · cases M[j]? <;> simp [hj]
    · cases hb
  · repeat' (first | refine W.seq ?_ | refine W.region ?_ | refine WO.nil ?_ | refine WO.st rfl (st1_of rfl rfl rfl rfl hb (by simp)) ?_ | (refine WO.isMv ?_; first | refine WO.go rfl rfl ?_ | refine WO.mvR rfl ?_) | (refine WO.isBin ?_; first | refine WO.add64 rfl rfl rfl (by omega) (by omega) ?_ | refine WO.addU32 rfl rfl rfl (by omega) (by omega) ?_ | refine WO.addU64 rfl rfl rfl (by omega) (by omega) ?_ | refine WO.addU8 rfl rfl rfl (by omega) (by omega) ?_ | refine WO.go rfl rfl ?_) | (refine WO.isLoad ?_; first | refine WO.ldc rfl rfl hb' rfl rfl ?_ | refine WO.go rfl rfl ?_) | (refine WO.isStore ?_; first | refine WO.st rfl rfl ?_) | refine WO.go rfl rfl ?_ | refine WO.st rfl rfl ?_ | refine W.skip ?_ | refine W.condT rfl ?_ | refine W.condF rfl ?_ | (refine W.fork rfl ?_ ?_ <;> intro hc <;> (fail_if_success (exfalso; cases hc; done)) <;> (first | subst hc | (simp at hc; try omega) | skip)))
    exact ⟨.inl rfl, _, rfl, fin rfl rfl rfl⟩
def pPre (a : Ans) : Bool := a.pre
def pOwn (a : Ans) : Bool := a.pre && a.own
def pAcc (a : Ans) : Bool := a.acc
set_option maxRecDepth 8000 in
set_option maxHeartbeats 4000000 in
theorem c_Many (n me : Int) (l i : Nat) (M : Mem) (A : List Ans) (hb : blk? M l i = some (.cells (tallyC n me A))) (hA : A.length = 8) :
    E0 22 [.ptr l i 0] M (.tup [.int .i64 (cntB pPre A 8), .int .i64 (cntB pOwn A 8), .int .i64 (cntB pAcc A 8)]) M := by
  have hb' : ∀ fr, blk? (fr :: M) (l + 1) i = some (.cells (tallyC n me A)) := fun fr => hb
  refine EvF.by (nf := nf22) (args := [.ptr l i 0]) rfl (of_decide_eq_true rfl) rfl ?_
  have hfl : (((tallyC n me A).drop (0 + 2)).take 40) = (A.map Ans.c).flatten := by
    show ((A.map Ans.c).flatten).take 40 = _
    rw [List.take_of_length_le (by rw [ansf_len]; omega)]
  have hlen := ansf_len A
  repeat' (first | refine W.seq ?_ | refine W.region ?_ | refine WO.nil ?_ | refine WO.onG rfl ?_ | refine WO.offG rfl ?_ | (refine WO.fork rfl ?_ ?_ <;> intro hc <;> (fail_if_success (exfalso; cases hc; done)) <;> (first | subst hc | (simp at hc; try omega) | skip)) | (refine WO.isMv ?_; first | refine WO.go rfl rfl ?_ | refine WO.mvR rfl ?_) | (refine WO.isBin ?_; first | refine WO.add64 rfl rfl rfl (by omega) (by omega) ?_ | refine WO.addU32 rfl rfl rfl (by omega) (by omega) ?_ | refine WO.addU64 rfl rfl rfl (by omega) (by omega) ?_ | refine WO.addU8 rfl rfl rfl (by omega) (by omega) ?_ | refine WO.testT rfl rfl ?_ | refine WO.testF rfl rfl ?_ | (refine WO.tlss rfl rfl rfl (fun hc => ?_) (fun hc => ?_) <;> try omega) | refine WO.go rfl rfl ?_) | (refine WO.isLoad ?_; first | refine WO.lda rfl rfl (hb' _) (by rw [tally_len]; omega) (by rw [hfl]; exact ansf_sh _ A) ?_ | refine WO.go rfl rfl ?_ | refine WO.ldc rfl rfl blk_l1 rfl rfl ?_ | refine WO.lda rfl rfl blk_l1 (of_decide_eq_true rfl) rfl ?_ | refine WO.ldc rfl rfl blk_l2 rfl rfl ?_ | refine WO.lda rfl rfl blk_l2 (of_decide_eq_true rfl) rfl ?_ | refine WO.ldc rfl rfl blk_l3 rfl rfl ?_ | refine WO.lda rfl rfl blk_l3 (of_decide_eq_true rfl) rfl ?_) | (refine WO.isStore ?_; first | refine WO.st rfl rfl ?_ | refine WO.stB rfl rfl rfl rfl rfl blk_l1 (of_decide_eq_true rfl) rfl set_l1 ?_ | refine WO.stB rfl rfl rfl rfl rfl blk_l2 (of_decide_eq_true rfl) rfl set_l2 ?_ | refine WO.stB rfl rfl rfl rfl rfl blk_l3 (of_decide_eq_true rfl) rfl set_l3 ?_) | (refine WO.isIndex ?_; first | refine WO.go rfl rfl ?_) | refine WO.go rfl rfl ?_ | refine WO.st rfl rfl ?_ | refine W.skip ?_ | refine W.condT rfl ?_ | refine W.condF rfl ?_ | (refine W.fork rfl ?_ ?_ <;> intro hc <;> (fail_if_success (exfalso; cases hc; done)) <;> (first | subst hc | (simp at hc; try omega) | skip)) | refine W.ret ?_ | refine W.block ?_ | refine W.exit ?_)
  refine W.ind (σ := Nat × List NObj) (fun s => [(2, .ptr 0 0 0), (3, .ptr 0 1 0), (4, .ptr 0 2 0), (5, .fn 37 []), (11, .agg (A.map Ans.c).flatten), (12, .int .i64 s.1)])
    (fun s => ⟨[.cells [.int .i64 (cntB pPre A s.1)], .cells [.int .i64 (cntB pOwn A s.1)], .cells [.int .i64 (cntB pAcc A s.1)]] ++ s.2, []⟩ :: M) (fun s => s.1 ≤ 8) (fun s => 8 - s.1) (0, []) (by simp) ⟨rfl, rfl, rfl, rfl, rfl, rfl, trivial⟩ rfl ?_
  rintro ⟨k, junk⟩ e hk IH
  dsimp only at hk ⊢
  refine W.round ?_
  by_cases h8 : k < 8
  · obtain ⟨a, ha⟩ := get_lt (l := A) (i := k) (by omega)
    have hs := ansf_slice ha
    have b1 := cntB_le pPre A k
    have b2 := cntB_le pOwn A k
    have b3 := cntB_le pAcc A k
    have e1 := cntB_succ (p := pPre) ha
    have e2 := cntB_succ (p := pOwn) ha
    have e3 := cntB_succ (p := pAcc) ha
    have c1 : ∀ x, E0 37 [.bool a.pre, .ptr 0 0 0] (⟨([.cells [.int .i64 (cntB pPre A k)], .cells [.int .i64 (cntB pOwn A k)], .cells [.int .i64 (cntB pAcc A k)]] ++ junk) ++ [x], []⟩ :: M) (.tup []) (⟨([.cells [.int .i64 (cntB pPre A (k + 1))], .cells [.int .i64 (cntB pOwn A k)], .cells [.int .i64 (cntB pAcc A k)]] ++ junk) ++ [x], []⟩ :: M) := by
      intro x; rw [e1]; exact c_count a.pre _ (by omega) 0 0 _ rfl
    have c2 : ∀ x, E0 37 [.bool (a.pre && a.own), .ptr 0 1 0] (⟨([.cells [.int .i64 (cntB pPre A (k + 1))], .cells [.int .i64 (cntB pOwn A k)], .cells [.int .i64 (cntB pAcc A k)]] ++ junk) ++ [x], []⟩ :: M) (.tup []) (⟨([.cells [.int .i64 (cntB pPre A (k + 1))], .cells [.int .i64 (cntB pOwn A (k + 1))], .cells [.int .i64 (cntB pAcc A k)]] ++ junk) ++ [x], []⟩ :: M) := by
      intro x; rw [e2]; exact c_count (a.pre && a.own) _ (by omega) 0 1 _ rfl
    have c3 : ∀ x, E0 37 [.bool a.acc, .ptr 0 2 0] (⟨([.cells [.int .i64 (cntB pPre A (k + 1))], .cells [.int .i64 (cntB pOwn A (k + 1))], .cells [.int .i64 (cntB pAcc A k)]] ++ junk) ++ [x], []⟩ :: M) (.tup []) (⟨([.cells [.int .i64 (cntB pPre A (k + 1))], .cells [.int .i64 (cntB pOwn A (k + 1))], .cells [.int .i64 (cntB pAcc A (k + 1))]] ++ junk) ++ [x], []⟩ :: M) := by
      intro x; rw [e3]; exact c_count a.acc _ (by omega) 0 2 _ rfl
    rcases a with ⟨pr, ow, ac, sq, dp⟩
    dsimp only [Ans.c] at hs c1 c2 c3 ha
    cases pr <;> cases ow
    all_goals
      repeat' (first | refine W.seq ?_ | refine W.region ?_ | refine WO.nil ?_ | refine WO.onG rfl ?_ | refine WO.offG rfl ?_ | (refine WO.isMv ?_; first | refine WO.go rfl rfl ?_ | refine WO.mvR rfl ?_) | (refine WO.isBin ?_; first | refine WO.add64 rfl rfl rfl (by omega) (by omega) ?_ | refine WO.addU32 rfl rfl rfl (by omega) (by omega) ?_ | refine WO.addU64 rfl rfl rfl (by omega) (by omega) ?_ | refine WO.addU8 rfl rfl rfl (by omega) (by omega) ?_ | refine WO.testT rfl rfl ?_ | refine WO.testF rfl rfl ?_ | (refine WO.tlss rfl rfl rfl (fun hc => ?_) (fun hc => ?_) <;> try omega) | refine WO.go rfl rfl ?_) | (refine WO.isDyn ?_; first | refine WO.ask rfl rfl (c1 _) ?_ | refine WO.ask' rfl rfl (c1 _) ?_ | refine WO.ask rfl rfl (c2 _) ?_ | refine WO.ask' rfl rfl (c2 _) ?_ | refine WO.ask rfl rfl (c3 _) ?_ | refine WO.ask' rfl rfl (c3 _) ?_) | (refine WO.isLoad ?_; first | refine WO.go rfl rfl ?_ | refine WO.ldc rfl rfl blk_l1 rfl rfl ?_ | refine WO.lda rfl rfl blk_l1 (of_decide_eq_true rfl) rfl ?_ | refine WO.ldc rfl rfl blk_l2 rfl rfl ?_ | refine WO.lda rfl rfl blk_l2 (of_decide_eq_true rfl) rfl ?_ | refine WO.ldc rfl rfl blk_l3 rfl rfl ?_ | refine WO.lda rfl rfl blk_l3 (of_decide_eq_true rfl) rfl ?_) | (refine WO.isStore ?_; first | refine WO.st rfl rfl ?_ | refine WO.stB rfl rfl rfl rfl rfl blk_l1 (of_decide_eq_true rfl) rfl set_l1 ?_ | refine WO.stB rfl rfl rfl rfl rfl blk_l2 (of_decide_eq_true rfl) rfl set_l2 ?_ | refine WO.stB rfl rfl rfl rfl rfl blk_l3 (of_decide_eq_true rfl) rfl set_l3 ?_) | (refine WO.isIndex ?_; first | refine WO.aggidx rfl rfl rfl rfl h8 (by omega) hs ?_ | refine WO.go rfl rfl ?_) | refine WO.go rfl rfl ?_ | refine WO.st rfl rfl ?_ | refine W.skip ?_ | refine W.condT rfl ?_ | refine W.condF rfl ?_ | refine W.ret ?_ | refine W.block ?_ | refine W.exit ?_)
      exact IH (k + 1, _) _ _ (by simp only; omega) (by simp only; omega) ⟨rfl, rfl, rfl, rfl, rfl, rfl, trivial⟩ rfl
  · obtain rfl : k = 8 := by omega
    repeat' (first | refine W.seq ?_ | refine W.region ?_ | refine WO.nil ?_ | refine WO.onG rfl ?_ | refine WO.offG rfl ?_ | (refine WO.fork rfl ?_ ?_ <;> intro hc <;> (fail_if_success (exfalso; cases hc; done)) <;> (first | subst hc | (simp at hc; try omega) | skip)) | (refine WO.isMv ?_; first | refine WO.go rfl rfl ?_ | refine WO.mvR rfl ?_) | (refine WO.isBin ?_; first | refine WO.add64 rfl rfl rfl (by omega) (by omega) ?_ | refine WO.addU32 rfl rfl rfl (by omega) (by omega) ?_ | refine WO.addU64 rfl rfl rfl (by omega) (by omega) ?_ | refine WO.addU8 rfl rfl rfl (by omega) (by omega) ?_ | refine WO.testT rfl rfl ?_ | refine WO.testF rfl rfl ?_ | (refine WO.tlss rfl rfl rfl (fun hc => ?_) (fun hc => ?_) <;> try omega) | refine WO.go rfl rfl ?_) | (refine WO.isLoad ?_; first | refine WO.go rfl rfl ?_ | refine WO.ldc rfl rfl blk_l1 rfl rfl ?_ | refine WO.lda rfl rfl blk_l1 (of_decide_eq_true rfl) rfl ?_ | refine WO.ldc rfl rfl blk_l2 rfl rfl ?_ | refine WO.lda rfl rfl blk_l2 (of_decide_eq_true rfl) rfl ?_ | refine WO.ldc rfl rfl blk_l3 rfl rfl ?_ | refine WO.lda rfl rfl blk_l3 (of_decide_eq_true rfl) rfl ?_) | (refine WO.isStore ?_; first | refine WO.st rfl rfl ?_ | refine WO.stB rfl rfl rfl rfl rfl blk_l1 (of_decide_eq_true rfl) rfl set_l1 ?_ | refine WO.stB rfl rfl rfl rfl rfl blk_l2 (of_decide_eq_true rfl) rfl set_l2 ?_ | refine WO.stB rfl rfl rfl rfl rfl blk_l3 (of_decide_eq_true rfl) rfl set_l3 ?_) | (refine WO.isIndex ?_; first | refine WO.go rfl rfl ?_) | refine WO.go rfl rfl ?_ | refine WO.st rfl rfl ?_ | refine W.skip ?_ | refine W.condT rfl ?_ | refine W.condF rfl ?_ | (refine W.fork rfl ?_ ?_ <;> intro hc <;> (fail_if_success (exfalso; cases hc; done)) <;> (first | subst hc | (simp at hc; try omega) | skip)) | refine W.ret ?_ | refine W.block ?_ | refine W.exit ?_)
    exact ⟨.inr rfl, _, rfl, fin rfl rfl rfl⟩
end Go.Proofs.Ytjjkabbncpalpaa.Nv
