/- The document's store: all that was done, in order. -/
import Derived.Test.YtehkfdicaiehcaaJudge12
namespace Go.Proofs.Ytehkfdicaiehcaa.Nv
open Go
theorem app_ne {α : Type} {a : List α} {y : α} {ys : List α} : (a ++ (y :: ys)).isEmpty = false := by cases a <;> rfl
theorem pop_apl {sz t : Nat} {rows : List (List NV)} {fr : Fr} {M : Mem} : popH (apl sz rows 0 t) (fr :: M) = some (mkS sz rows, M) := by rw [apl_zero]; exact pop_ap
def rsC (L : List Cmd) (R : List Reply) (t1 t2 : Nat) : List NV := [apV 5 (L.map Cmd.c) t1, apV 4 (R.map Reply.c) t2]
def isR (c s : Int) (r : Reply) : Bool := decide (r.client = c) && decide (r.seq = s)
def knownR (R : List Reply) (c s : Int) : Option Reply := R.find? (isR c s)
def isV (k : ByteArray) (c : Cmd) : Bool := decide (c.key = k) && !decide (c.op = 2)
def valueR (L : List Cmd) (k : ByteArray) : Option Cmd := L.reverse.find? (isV k)
def knownV (o : Option Reply) : NV := match o with
  | some r => .tup [.agg r.c, .int .i64 0]
  | none => .tup [.agg reply0.c, .int .i64 5]
def valueV (o : Option Cmd) : NV := match o with
  | some c => .tup [.str c.value, .bool (decide (c.op = 1))]
  | none => .tup [.str ByteArray.empty, .bool false]
theorem valueR_snoc (L : List Cmd) (c : Cmd) (k : ByteArray) : valueR (L ++ [c]) k = if isV k c then some c else valueR L k := by
  unfold valueR
  rw [List.reverse_append]
  show List.find? (isV k) (c :: L.reverse) = _
  rw [List.find?_cons]
  cases isV k c <;> rfl
set_option maxRecDepth 8000 in
set_option maxHeartbeats 4000000 in
theorem c_rKnown (L : List Cmd) (R : List Reply) (t1 t2 lv b : Nat) (hR : R.length ≤ 1000000) (M : Mem) (hb : blk? M lv b = some (.cells (rsC L R t1 t2))) (c s : Int) :
    E0 38 [.ptr lv b 0, .int .i64 c, .int .u32 s] M (knownV (knownR R c s)) M := by
  refine EvF.by (nf := nf38) (args := [.ptr lv b 0, .int .i64 c, .int .u32 s]) rfl (of_decide_eq_true rfl) rfl ?_
  have hb' : ∀ fr : Fr, blk? (fr :: M) (lv + 1) b = some (.cells (rsC L R t1 t2)) := fun _ => hb
  have lR : (R.map Reply.c).length = R.length := List.length_map ..
  repeat' (first | refine W.seq ?_ | refine W.region ?_ | refine WO.nil ?_ | refine WO.onG rfl ?_ | refine WO.offG rfl ?_ | (refine WO.fork rfl ?_ ?_ <;> intro hc <;> (fail_if_success (exfalso; cases hc; done)) <;> (first | subst hc | (simp at hc; try omega) | skip)) | (refine WO.isMv ?_; first | refine WO.go rfl rfl ?_ | refine WO.mvR rfl ?_) | (refine WO.isBin ?_; first | refine WO.add64 rfl rfl rfl (by omega) (by omega) ?_ | refine WO.addU32 rfl rfl rfl (by omega) (by omega) ?_ | refine WO.addU64 rfl rfl rfl (by omega) (by omega) ?_ | refine WO.addU8 rfl rfl rfl (by omega) (by omega) ?_ | refine WO.testT rfl rfl ?_ | refine WO.testF rfl rfl ?_ | (refine WO.tlss rfl rfl rfl (fun hc => ?_) (fun hc => ?_) <;> try omega) | (refine WO.teql rfl rfl rfl (fun hc => ?_) (fun hc => ?_) <;> try omega) | refine WO.tseql rfl rfl rfl (fun hc => ?_) (fun hc => ?_) | refine WO.go rfl rfl ?_) | (refine WO.isLoad ?_; first | refine WO.go rfl rfl ?_ | refine WO.ldc rfl rfl blk_l1 rfl rfl ?_ | refine WO.lda rfl rfl blk_l1 (of_decide_eq_true rfl) rfl ?_ | refine WO.ldc rfl rfl blk_l2 rfl rfl ?_ | refine WO.lda rfl rfl blk_l2 (of_decide_eq_true rfl) rfl ?_ | refine WO.ldc rfl rfl blk_l3 rfl rfl ?_ | refine WO.lda rfl rfl blk_l3 (of_decide_eq_true rfl) rfl ?_) | (refine WO.isStore ?_; first | refine WO.st rfl rfl ?_ | refine WO.stB rfl rfl rfl rfl rfl blk_l1 (of_decide_eq_true rfl) rfl set_l1 ?_ | refine WO.stB rfl rfl rfl rfl rfl blk_l2 (of_decide_eq_true rfl) rfl set_l2 ?_ | refine WO.stB rfl rfl rfl rfl rfl blk_l3 (of_decide_eq_true rfl) rfl set_l3 ?_) | (refine WO.isIaddr ?_; first | refine WO.go rfl rfl ?_) | (refine WO.isLen ?_; first | refine WO.go rfl rfl ?_) | refine WO.go rfl rfl ?_ | refine WO.st rfl rfl ?_ | refine W.skip ?_ | refine W.condT rfl ?_ | refine W.condF rfl ?_ | (refine W.fork rfl ?_ ?_ <;> intro hc <;> (fail_if_success (exfalso; cases hc; done)) <;> (first | subst hc | (simp at hc; try omega) | skip)) | refine W.ret ?_ | refine W.block ?_ | refine W.exit ?_)
  refine W.ind (σ := Nat) (fun i => [(0, .ptr (lv + 1) b 0), (1, .int .i64 c), (2, .int .u32 s), (6, .ptr 0 0 0), (8, .int .i64 i)]) (fun _ => ⟨[.cells reply0.c], []⟩ :: M) (fun i => i ≤ R.length ∧ knownR R c s = knownR (R.drop i) c s) (fun i => R.length - i) 0 ⟨Nat.zero_le _, rfl⟩ ⟨rfl, rfl, rfl, rfl, rfl, trivial⟩ rfl ?_
  rintro i e ⟨hi, hinv⟩ IH
  refine W.round ?_
  by_cases hlt : i < R.length
  · obtain ⟨r, hget⟩ := get_lt hlt
    have hrow := map_get (f := Reply.c) hget
    rw [List.drop_eq_getElem_cons hlt, show R[i] = r from (List.getElem?_eq_some_iff.1 hget).2] at hinv
    unfold knownR at hinv
    rw [List.find?_cons] at hinv
    by_cases h1 : r.client = c
    · by_cases h2 : r.seq = s
      · have hq : isR c s r = true := by unfold isR; rw [decide_eq_true h1, decide_eq_true h2]; rfl
        rw [hq] at hinv
        repeat' (first | refine W.seq ?_ | refine W.region ?_ | refine WO.nil ?_ | refine WO.onG rfl ?_ | refine WO.offG rfl ?_ | (refine WO.fork rfl ?_ ?_ <;> intro hc <;> (fail_if_success (exfalso; cases hc; done)) <;> (first | subst hc | (simp at hc; try omega) | skip)) | (refine WO.isMv ?_; first | refine WO.go rfl rfl ?_ | refine WO.mvR rfl ?_) | (refine WO.isBin ?_; first | refine WO.eqT rfl rfl rfl h1 ?_ | refine WO.eqT rfl rfl rfl h2 ?_ | refine WO.add64 rfl rfl rfl (by omega) (by omega) ?_ | refine WO.addU32 rfl rfl rfl (by omega) (by omega) ?_ | refine WO.addU64 rfl rfl rfl (by omega) (by omega) ?_ | refine WO.addU8 rfl rfl rfl (by omega) (by omega) ?_ | refine WO.testT rfl rfl ?_ | refine WO.testF rfl rfl ?_ | (refine WO.tlss rfl rfl rfl (fun hc => ?_) (fun hc => ?_) <;> try omega) | (refine WO.teql rfl rfl rfl (fun hc => ?_) (fun hc => ?_) <;> try omega) | refine WO.tseql rfl rfl rfl (fun hc => ?_) (fun hc => ?_) | refine WO.go rfl rfl ?_) | (refine WO.isLoad ?_; first | refine WO.ldc rfl rfl (hb' _) rfl sh_ap1 ?_ | refine WO.go rfl rfl ?_ | refine WO.ldc rfl rfl blk_l1 rfl rfl ?_ | refine WO.lda rfl rfl blk_l1 (of_decide_eq_true rfl) rfl ?_ | refine WO.ldc rfl rfl blk_l2 rfl rfl ?_ | refine WO.lda rfl rfl blk_l2 (of_decide_eq_true rfl) rfl ?_ | refine WO.ldc rfl rfl blk_l3 rfl rfl ?_ | refine WO.lda rfl rfl blk_l3 (of_decide_eq_true rfl) rfl ?_) | (refine WO.isStore ?_; first | refine WO.st rfl rfl ?_ | refine WO.stB rfl rfl rfl rfl rfl blk_l1 (of_decide_eq_true rfl) rfl set_l1 ?_ | refine WO.stB rfl rfl rfl rfl rfl blk_l2 (of_decide_eq_true rfl) rfl set_l2 ?_ | refine WO.stB rfl rfl rfl rfl rfl blk_l3 (of_decide_eq_true rfl) rfl set_l3 ?_) | (refine WO.isIaddr ?_; first | refine WO.idxL rfl rfl rfl rfl hrow ?_ | refine WO.go rfl rfl ?_) | (refine WO.isLen ?_; first | refine WO.lenL rfl rfl lR ?_ | refine WO.go rfl rfl ?_) | refine WO.go rfl rfl ?_ | refine WO.st rfl rfl ?_ | refine W.skip ?_ | refine W.condT rfl ?_ | refine W.condF rfl ?_ | (refine W.fork rfl ?_ ?_ <;> intro hc <;> (fail_if_success (exfalso; cases hc; done)) <;> (first | subst hc | (simp at hc; try omega) | skip)) | refine W.ret ?_ | refine W.block ?_ | refine W.exit ?_)
        exact ⟨.inr rfl, _, rfl, fin rfl (by unfold knownR; rw [hinv]; rfl) rfl⟩
      · have hq : isR c s r = false := by unfold isR; rw [decide_eq_true h1, decide_eq_false h2]; rfl
        rw [hq] at hinv
        repeat' (first | refine W.seq ?_ | refine W.region ?_ | refine WO.nil ?_ | refine WO.onG rfl ?_ | refine WO.offG rfl ?_ | (refine WO.fork rfl ?_ ?_ <;> intro hc <;> (fail_if_success (exfalso; cases hc; done)) <;> (first | subst hc | (simp at hc; try omega) | skip)) | (refine WO.isMv ?_; first | refine WO.go rfl rfl ?_ | refine WO.mvR rfl ?_) | (refine WO.isBin ?_; first | refine WO.eqT rfl rfl rfl h1 ?_ | refine WO.eqF rfl rfl rfl h2 ?_ | refine WO.add64 rfl rfl rfl (by omega) (by omega) ?_ | refine WO.addU32 rfl rfl rfl (by omega) (by omega) ?_ | refine WO.addU64 rfl rfl rfl (by omega) (by omega) ?_ | refine WO.addU8 rfl rfl rfl (by omega) (by omega) ?_ | refine WO.testT rfl rfl ?_ | refine WO.testF rfl rfl ?_ | (refine WO.tlss rfl rfl rfl (fun hc => ?_) (fun hc => ?_) <;> try omega) | (refine WO.teql rfl rfl rfl (fun hc => ?_) (fun hc => ?_) <;> try omega) | refine WO.tseql rfl rfl rfl (fun hc => ?_) (fun hc => ?_) | refine WO.go rfl rfl ?_) | (refine WO.isLoad ?_; first | refine WO.ldc rfl rfl (hb' _) rfl sh_ap1 ?_ | refine WO.go rfl rfl ?_ | refine WO.ldc rfl rfl blk_l1 rfl rfl ?_ | refine WO.lda rfl rfl blk_l1 (of_decide_eq_true rfl) rfl ?_ | refine WO.ldc rfl rfl blk_l2 rfl rfl ?_ | refine WO.lda rfl rfl blk_l2 (of_decide_eq_true rfl) rfl ?_ | refine WO.ldc rfl rfl blk_l3 rfl rfl ?_ | refine WO.lda rfl rfl blk_l3 (of_decide_eq_true rfl) rfl ?_) | (refine WO.isStore ?_; first | refine WO.st rfl rfl ?_ | refine WO.stB rfl rfl rfl rfl rfl blk_l1 (of_decide_eq_true rfl) rfl set_l1 ?_ | refine WO.stB rfl rfl rfl rfl rfl blk_l2 (of_decide_eq_true rfl) rfl set_l2 ?_ | refine WO.stB rfl rfl rfl rfl rfl blk_l3 (of_decide_eq_true rfl) rfl set_l3 ?_) | (refine WO.isIaddr ?_; first | refine WO.idxL rfl rfl rfl rfl hrow ?_ | refine WO.go rfl rfl ?_) | (refine WO.isLen ?_; first | refine WO.lenL rfl rfl lR ?_ | refine WO.go rfl rfl ?_) | refine WO.go rfl rfl ?_ | refine WO.st rfl rfl ?_ | refine W.skip ?_ | refine W.condT rfl ?_ | refine W.condF rfl ?_ | (refine W.fork rfl ?_ ?_ <;> intro hc <;> (fail_if_success (exfalso; cases hc; done)) <;> (first | subst hc | (simp at hc; try omega) | skip)) | refine W.ret ?_ | refine W.block ?_ | refine W.exit ?_)
        exact IH (i + 1) _ _ (by omega) ⟨hlt, hinv⟩ ⟨rfl, rfl, rfl, rfl, rfl, trivial⟩ rfl
    · have hq : isR c s r = false := by unfold isR; rw [decide_eq_false h1]; rfl
      rw [hq] at hinv
      repeat' (first | refine W.seq ?_ | refine W.region ?_ | refine WO.nil ?_ | refine WO.onG rfl ?_ | refine WO.offG rfl ?_ | (refine WO.fork rfl ?_ ?_ <;> intro hc <;> (fail_if_success (exfalso; cases hc; done)) <;> (first | subst hc | (simp at hc; try omega) | skip)) | (refine WO.isMv ?_; first | refine WO.go rfl rfl ?_ | refine WO.mvR rfl ?_) | (refine WO.isBin ?_; first | refine WO.eqF rfl rfl rfl h1 ?_ | refine WO.add64 rfl rfl rfl (by omega) (by omega) ?_ | refine WO.addU32 rfl rfl rfl (by omega) (by omega) ?_ | refine WO.addU64 rfl rfl rfl (by omega) (by omega) ?_ | refine WO.addU8 rfl rfl rfl (by omega) (by omega) ?_ | refine WO.testT rfl rfl ?_ | refine WO.testF rfl rfl ?_ | (refine WO.tlss rfl rfl rfl (fun hc => ?_) (fun hc => ?_) <;> try omega) | (refine WO.teql rfl rfl rfl (fun hc => ?_) (fun hc => ?_) <;> try omega) | refine WO.tseql rfl rfl rfl (fun hc => ?_) (fun hc => ?_) | refine WO.go rfl rfl ?_) | (refine WO.isLoad ?_; first | refine WO.ldc rfl rfl (hb' _) rfl sh_ap1 ?_ | refine WO.go rfl rfl ?_ | refine WO.ldc rfl rfl blk_l1 rfl rfl ?_ | refine WO.lda rfl rfl blk_l1 (of_decide_eq_true rfl) rfl ?_ | refine WO.ldc rfl rfl blk_l2 rfl rfl ?_ | refine WO.lda rfl rfl blk_l2 (of_decide_eq_true rfl) rfl ?_ | refine WO.ldc rfl rfl blk_l3 rfl rfl ?_ | refine WO.lda rfl rfl blk_l3 (of_decide_eq_true rfl) rfl ?_) | (refine WO.isStore ?_; first | refine WO.st rfl rfl ?_ | refine WO.stB rfl rfl rfl rfl rfl blk_l1 (of_decide_eq_true rfl) rfl set_l1 ?_ | refine WO.stB rfl rfl rfl rfl rfl blk_l2 (of_decide_eq_true rfl) rfl set_l2 ?_ | refine WO.stB rfl rfl rfl rfl rfl blk_l3 (of_decide_eq_true rfl) rfl set_l3 ?_) | (refine WO.isIaddr ?_; first | refine WO.idxL rfl rfl rfl rfl hrow ?_ | refine WO.go rfl rfl ?_) | (refine WO.isLen ?_; first | refine WO.lenL rfl rfl lR ?_ | refine WO.go rfl rfl ?_) | refine WO.go rfl rfl ?_ | refine WO.st rfl rfl ?_ | refine W.skip ?_ | refine W.condT rfl ?_ | refine W.condF rfl ?_ | (refine W.fork rfl ?_ ?_ <;> intro hc <;> (fail_if_success (exfalso; cases hc; done)) <;> (first | subst hc | (simp at hc; try omega) | skip)) | refine W.ret ?_ | refine W.block ?_ | refine W.exit ?_)
      exact IH (i + 1) _ _ (by omega) ⟨hlt, hinv⟩ ⟨rfl, rfl, rfl, rfl, rfl, trivial⟩ rfl
  · obtain rfl : i = R.length := by omega
    rw [List.drop_length] at hinv
    repeat' (first | refine W.seq ?_ | refine W.region ?_ | refine WO.nil ?_ | refine WO.onG rfl ?_ | refine WO.offG rfl ?_ | (refine WO.fork rfl ?_ ?_ <;> intro hc <;> (fail_if_success (exfalso; cases hc; done)) <;> (first | subst hc | (simp at hc; try omega) | skip)) | (refine WO.isMv ?_; first | refine WO.go rfl rfl ?_ | refine WO.mvR rfl ?_) | (refine WO.isBin ?_; first | refine WO.add64 rfl rfl rfl (by omega) (by omega) ?_ | refine WO.addU32 rfl rfl rfl (by omega) (by omega) ?_ | refine WO.addU64 rfl rfl rfl (by omega) (by omega) ?_ | refine WO.addU8 rfl rfl rfl (by omega) (by omega) ?_ | refine WO.testT rfl rfl ?_ | refine WO.testF rfl rfl ?_ | (refine WO.tlss rfl rfl rfl (fun hc => ?_) (fun hc => ?_) <;> try omega) | (refine WO.teql rfl rfl rfl (fun hc => ?_) (fun hc => ?_) <;> try omega) | refine WO.tseql rfl rfl rfl (fun hc => ?_) (fun hc => ?_) | refine WO.go rfl rfl ?_) | (refine WO.isLoad ?_; first | refine WO.ldc rfl rfl (hb' _) rfl sh_ap1 ?_ | refine WO.go rfl rfl ?_ | refine WO.ldc rfl rfl blk_l1 rfl rfl ?_ | refine WO.lda rfl rfl blk_l1 (of_decide_eq_true rfl) rfl ?_ | refine WO.ldc rfl rfl blk_l2 rfl rfl ?_ | refine WO.lda rfl rfl blk_l2 (of_decide_eq_true rfl) rfl ?_ | refine WO.ldc rfl rfl blk_l3 rfl rfl ?_ | refine WO.lda rfl rfl blk_l3 (of_decide_eq_true rfl) rfl ?_) | (refine WO.isStore ?_; first | refine WO.st rfl rfl ?_ | refine WO.stB rfl rfl rfl rfl rfl blk_l1 (of_decide_eq_true rfl) rfl set_l1 ?_ | refine WO.stB rfl rfl rfl rfl rfl blk_l2 (of_decide_eq_true rfl) rfl set_l2 ?_ | refine WO.stB rfl rfl rfl rfl rfl blk_l3 (of_decide_eq_true rfl) rfl set_l3 ?_) | (refine WO.isIaddr ?_; first | refine WO.go rfl rfl ?_) | (refine WO.isLen ?_; first | refine WO.lenL rfl rfl lR ?_ | refine WO.go rfl rfl ?_) | refine WO.go rfl rfl ?_ | refine WO.st rfl rfl ?_ | refine W.skip ?_ | refine W.condT rfl ?_ | refine W.condF rfl ?_ | (refine W.fork rfl ?_ ?_ <;> intro hc <;> (fail_if_success (exfalso; cases hc; done)) <;> (first | subst hc | (simp at hc; try omega) | skip)) | refine W.ret ?_ | refine W.block ?_ | refine W.exit ?_)
    exact ⟨.inr rfl, _, rfl, fin rfl (by rw [hinv]; rfl) rfl⟩
set_option maxRecDepth 8000 in
set_option maxHeartbeats 4000000 in
theorem c_rValue (L : List Cmd) (R : List Reply) (t1 t2 lv b : Nat) (hL : L.length ≤ 1000000) (M : Mem) (hb : blk? M lv b = some (.cells (rsC L R t1 t2))) (k : ByteArray) :
    E0 39 [.ptr lv b 0, .str k] M (valueV (valueR L k)) M := by
  refine EvF.by (nf := nf39) (args := [.ptr lv b 0, .str k]) rfl (of_decide_eq_true rfl) rfl ?_
  have hb' : ∀ fr : Fr, blk? (fr :: M) (lv + 1) b = some (.cells (rsC L R t1 t2)) := fun _ => hb
  have lL : (L.map Cmd.c).length = L.length := List.length_map ..
  repeat' (first | refine W.seq ?_ | refine W.region ?_ | refine W.drawn ?_ | refine WH.nil ?_ | refine WO.nil ?_ | refine WO.onG rfl ?_ | refine WO.offG rfl ?_ | (refine WO.fork rfl ?_ ?_ <;> intro hc <;> (fail_if_success (exfalso; cases hc; done)) <;> (first | subst hc | (simp at hc; try omega) | skip)) | (refine WO.isMv ?_; first | refine WO.go rfl rfl ?_ | refine WO.mvR rfl ?_) | (refine WO.isBin ?_; first | refine WO.sub64 rfl rfl rfl (by omega) (by omega) ?_ | refine WO.subU64 rfl rfl rfl (by omega) (by omega) ?_ | refine WO.subU32 rfl rfl rfl (by omega) (by omega) ?_ | refine WO.testT rfl rfl ?_ | refine WO.testF rfl rfl ?_ | (refine WO.tgeq rfl rfl rfl (fun hc => ?_) (fun hc => ?_) <;> try omega) | (refine WO.teql rfl rfl rfl (fun hc => ?_) (fun hc => ?_) <;> try omega) | (refine WO.tneq rfl rfl rfl (fun hc => ?_) (fun hc => ?_) <;> try omega) | refine WO.tseql rfl rfl rfl (fun hc => ?_) (fun hc => ?_) | refine WO.tsneq rfl rfl rfl (fun hc => ?_) (fun hc => ?_) | refine WO.go rfl rfl ?_) | (refine WO.isLoad ?_; first | refine WO.ldc rfl rfl (hb' _) rfl sh_ap1 ?_ | refine WO.go rfl rfl ?_ | refine WO.ldc rfl rfl blk_l1 rfl rfl ?_ | refine WO.lda rfl rfl blk_l1 (of_decide_eq_true rfl) rfl ?_ | refine WO.ldc rfl rfl blk_l2 rfl rfl ?_ | refine WO.lda rfl rfl blk_l2 (of_decide_eq_true rfl) rfl ?_ | refine WO.ldc rfl rfl blk_l3 rfl rfl ?_ | refine WO.lda rfl rfl blk_l3 (of_decide_eq_true rfl) rfl ?_) | (refine WO.isIaddr ?_; first | refine WO.go rfl rfl ?_) | (refine WO.isLen ?_; first | refine WO.lenL rfl rfl lL ?_ | refine WO.go rfl rfl ?_) | refine WO.go rfl rfl ?_ | (refine WH.isMv ?_; first | refine WH.go rfl rfl rfl ?_ | refine WH.mvR rfl ?_) | (refine WH.isBin ?_; first | refine WH.testT rfl rfl ?_ | refine WH.testF rfl rfl ?_ | (refine WH.teql rfl rfl rfl (fun hc => ?_) (fun hc => ?_) <;> try omega) | refine WH.tseql rfl rfl rfl (fun hc => ?_) (fun hc => ?_) | refine WH.go rfl rfl rfl ?_) | (refine WH.isLoad ?_; first | refine WH.ldc rfl rfl (hb' _) rfl sh_ap1 rfl ?_ | refine WH.go rfl rfl rfl ?_ | refine WH.ldc rfl rfl blk_l1 rfl rfl rfl ?_ | refine WH.lda rfl rfl blk_l1 (of_decide_eq_true rfl) rfl rfl ?_ | refine WH.ldc rfl rfl blk_l2 rfl rfl rfl ?_ | refine WH.lda rfl rfl blk_l2 (of_decide_eq_true rfl) rfl rfl ?_ | refine WH.ldc rfl rfl blk_l3 rfl rfl rfl ?_ | refine WH.lda rfl rfl blk_l3 (of_decide_eq_true rfl) rfl rfl ?_) | (refine WH.isIaddr ?_; first | refine WH.go rfl rfl rfl ?_) | refine WH.go rfl rfl rfl ?_ | refine W.skip ?_ | refine W.condT rfl ?_ | refine W.condF rfl ?_ | (refine W.fork rfl ?_ ?_ <;> intro hc <;> (fail_if_success (exfalso; cases hc; done)) <;> (first | subst hc | (simp at hc; try omega) | skip)) | refine W.ret ?_ | refine W.block ?_ | refine W.exit ?_)
  refine W.ind (σ := Nat) (fun i => [(0, .ptr (lv + 1) b 0), (1, .str k), (6, .int .i64 ((i : Int) - 1))]) (fun _ => ⟨[], []⟩ :: M) (fun i => i ≤ L.length ∧ valueR L k = valueR (L.take i) k) (fun i => i) L.length ⟨Nat.le_refl _, by rw [List.take_length]⟩ ⟨rfl, rfl, rfl, trivial⟩ rfl ?_
  rintro i e ⟨hi, hinv⟩ IH
  refine W.round ?_
  cases i with
  | succ i =>
    obtain ⟨c, hget⟩ := get_lt (show i < L.length by omega)
    have hrow := map_get (f := Cmd.c) hget
    have hidx : ((i + 1 : Nat) : Int) - 1 = (i : Int) := by omega
    obtain ⟨hlt, hcg⟩ := List.getElem?_eq_some_iff.1 hget
    rw [List.take_succ_eq_append_getElem hlt, hcg, valueR_snoc] at hinv
    by_cases h1 : c.key = k
    · by_cases h2 : c.op = 2
      · have hq : isV k c = false := by unfold isV; rw [decide_eq_true h1, decide_eq_true h2]; rfl
        rw [hq] at hinv
        repeat' (first | refine W.seq ?_ | refine W.region ?_ | refine W.drawn ?_ | refine WH.nil ?_ | refine WO.nil ?_ | refine WO.onG rfl ?_ | refine WO.offG rfl ?_ | (refine WO.fork rfl ?_ ?_ <;> intro hc <;> (fail_if_success (exfalso; cases hc; done)) <;> (first | subst hc | (simp at hc; try omega) | skip)) | (refine WO.isMv ?_; first | refine WO.go rfl rfl ?_ | refine WO.mvR rfl ?_) | (refine WO.isBin ?_; first | refine WO.seqT rfl rfl rfl h1 ?_ | refine WO.neF rfl rfl rfl h2 ?_ | refine WO.sub64 rfl rfl rfl (by omega) (by omega) ?_ | refine WO.subU64 rfl rfl rfl (by omega) (by omega) ?_ | refine WO.subU32 rfl rfl rfl (by omega) (by omega) ?_ | refine WO.testT rfl rfl ?_ | refine WO.testF rfl rfl ?_ | (refine WO.tgeq rfl rfl rfl (fun hc => ?_) (fun hc => ?_) <;> try omega) | (refine WO.teql rfl rfl rfl (fun hc => ?_) (fun hc => ?_) <;> try omega) | (refine WO.tneq rfl rfl rfl (fun hc => ?_) (fun hc => ?_) <;> try omega) | refine WO.tseql rfl rfl rfl (fun hc => ?_) (fun hc => ?_) | refine WO.tsneq rfl rfl rfl (fun hc => ?_) (fun hc => ?_) | refine WO.go rfl rfl ?_) | (refine WO.isLoad ?_; first | refine WO.ldc rfl rfl (hb' _) rfl sh_ap1 ?_ | refine WO.go rfl rfl ?_ | refine WO.ldc rfl rfl blk_l1 rfl rfl ?_ | refine WO.lda rfl rfl blk_l1 (of_decide_eq_true rfl) rfl ?_ | refine WO.ldc rfl rfl blk_l2 rfl rfl ?_ | refine WO.lda rfl rfl blk_l2 (of_decide_eq_true rfl) rfl ?_ | refine WO.ldc rfl rfl blk_l3 rfl rfl ?_ | refine WO.lda rfl rfl blk_l3 (of_decide_eq_true rfl) rfl ?_) | (refine WO.isIaddr ?_; first | refine WO.idxL rfl rfl rfl hidx hrow ?_ | refine WO.go rfl rfl ?_) | (refine WO.isLen ?_; first | refine WO.go rfl rfl ?_) | refine WO.go rfl rfl ?_ | (refine WH.isMv ?_; first | refine WH.go rfl rfl rfl ?_ | refine WH.mvR rfl ?_) | (refine WH.isBin ?_; first | refine WH.seqT rfl rfl rfl h1 ?_ | refine WH.testT rfl rfl ?_ | refine WH.testF rfl rfl ?_ | (refine WH.teql rfl rfl rfl (fun hc => ?_) (fun hc => ?_) <;> try omega) | refine WH.tseql rfl rfl rfl (fun hc => ?_) (fun hc => ?_) | refine WH.go rfl rfl rfl ?_) | (refine WH.isLoad ?_; first | refine WH.ldc rfl rfl (hb' _) rfl sh_ap1 rfl ?_ | refine WH.go rfl rfl rfl ?_ | refine WH.ldc rfl rfl blk_l1 rfl rfl rfl ?_ | refine WH.lda rfl rfl blk_l1 (of_decide_eq_true rfl) rfl rfl ?_ | refine WH.ldc rfl rfl blk_l2 rfl rfl rfl ?_ | refine WH.lda rfl rfl blk_l2 (of_decide_eq_true rfl) rfl rfl ?_ | refine WH.ldc rfl rfl blk_l3 rfl rfl rfl ?_ | refine WH.lda rfl rfl blk_l3 (of_decide_eq_true rfl) rfl rfl ?_) | (refine WH.isIaddr ?_; first | refine WH.idxL rfl rfl rfl hidx hrow ?_ | refine WH.go rfl rfl rfl ?_) | refine WH.go rfl rfl rfl ?_ | refine W.skip ?_ | refine W.condT rfl ?_ | refine W.condF rfl ?_ | (refine W.fork rfl ?_ ?_ <;> intro hc <;> (fail_if_success (exfalso; cases hc; done)) <;> (first | subst hc | (simp at hc; try omega) | skip)) | refine W.ret ?_ | refine W.block ?_ | refine W.exit ?_)
        exact IH i _ _ (by omega) ⟨by omega, hinv⟩ ⟨rfl, rfl, by rw [← hidx]; rfl, trivial⟩ rfl
      · have hq : isV k c = true := by unfold isV; rw [decide_eq_true h1, decide_eq_false h2]; rfl
        rw [hq, if_pos rfl] at hinv
        by_cases h3 : c.op = 1
        · repeat' (first | refine W.seq ?_ | refine W.region ?_ | refine W.drawn ?_ | refine WH.nil ?_ | refine WO.nil ?_ | refine WO.onG rfl ?_ | refine WO.offG rfl ?_ | (refine WO.fork rfl ?_ ?_ <;> intro hc <;> (fail_if_success (exfalso; cases hc; done)) <;> (first | subst hc | (simp at hc; try omega) | skip)) | (refine WO.isMv ?_; first | refine WO.go rfl rfl ?_ | refine WO.mvR rfl ?_) | (refine WO.isBin ?_; first | refine WO.seqT rfl rfl rfl h1 ?_ | refine WO.neT rfl rfl rfl h2 ?_ | refine WO.eqT rfl rfl rfl h3 ?_ | refine WO.sub64 rfl rfl rfl (by omega) (by omega) ?_ | refine WO.subU64 rfl rfl rfl (by omega) (by omega) ?_ | refine WO.subU32 rfl rfl rfl (by omega) (by omega) ?_ | refine WO.testT rfl rfl ?_ | refine WO.testF rfl rfl ?_ | (refine WO.tgeq rfl rfl rfl (fun hc => ?_) (fun hc => ?_) <;> try omega) | (refine WO.teql rfl rfl rfl (fun hc => ?_) (fun hc => ?_) <;> try omega) | (refine WO.tneq rfl rfl rfl (fun hc => ?_) (fun hc => ?_) <;> try omega) | refine WO.tseql rfl rfl rfl (fun hc => ?_) (fun hc => ?_) | refine WO.tsneq rfl rfl rfl (fun hc => ?_) (fun hc => ?_) | refine WO.go rfl rfl ?_) | (refine WO.isLoad ?_; first | refine WO.ldc rfl rfl (hb' _) rfl sh_ap1 ?_ | refine WO.go rfl rfl ?_ | refine WO.ldc rfl rfl blk_l1 rfl rfl ?_ | refine WO.lda rfl rfl blk_l1 (of_decide_eq_true rfl) rfl ?_ | refine WO.ldc rfl rfl blk_l2 rfl rfl ?_ | refine WO.lda rfl rfl blk_l2 (of_decide_eq_true rfl) rfl ?_ | refine WO.ldc rfl rfl blk_l3 rfl rfl ?_ | refine WO.lda rfl rfl blk_l3 (of_decide_eq_true rfl) rfl ?_) | (refine WO.isIaddr ?_; first | refine WO.idxL rfl rfl rfl hidx hrow ?_ | refine WO.go rfl rfl ?_) | (refine WO.isLen ?_; first | refine WO.go rfl rfl ?_) | refine WO.go rfl rfl ?_ | (refine WH.isMv ?_; first | refine WH.go rfl rfl rfl ?_ | refine WH.mvR rfl ?_) | (refine WH.isBin ?_; first | refine WH.seqT rfl rfl rfl h1 ?_ | refine WH.eqT rfl rfl rfl h3 ?_ | refine WH.testT rfl rfl ?_ | refine WH.testF rfl rfl ?_ | (refine WH.teql rfl rfl rfl (fun hc => ?_) (fun hc => ?_) <;> try omega) | refine WH.tseql rfl rfl rfl (fun hc => ?_) (fun hc => ?_) | refine WH.go rfl rfl rfl ?_) | (refine WH.isLoad ?_; first | refine WH.ldc rfl rfl (hb' _) rfl sh_ap1 rfl ?_ | refine WH.go rfl rfl rfl ?_ | refine WH.ldc rfl rfl blk_l1 rfl rfl rfl ?_ | refine WH.lda rfl rfl blk_l1 (of_decide_eq_true rfl) rfl rfl ?_ | refine WH.ldc rfl rfl blk_l2 rfl rfl rfl ?_ | refine WH.lda rfl rfl blk_l2 (of_decide_eq_true rfl) rfl rfl ?_ | refine WH.ldc rfl rfl blk_l3 rfl rfl rfl ?_ | refine WH.lda rfl rfl blk_l3 (of_decide_eq_true rfl) rfl rfl ?_) | (refine WH.isIaddr ?_; first | refine WH.idxL rfl rfl rfl hidx hrow ?_ | refine WH.go rfl rfl rfl ?_) | refine WH.go rfl rfl rfl ?_ | refine W.skip ?_ | refine W.condT rfl ?_ | refine W.condF rfl ?_ | (refine W.fork rfl ?_ ?_ <;> intro hc <;> (fail_if_success (exfalso; cases hc; done)) <;> (first | subst hc | (simp at hc; try omega) | skip)) | refine W.ret ?_ | refine W.block ?_ | refine W.exit ?_)
          exact ⟨.inr rfl, _, rfl, fin rfl (by rw [hinv]; show _ = NV.tup [.str c.value, .bool (decide (c.op = 1))]; rw [decide_eq_true h3]) rfl⟩
        · repeat' (first | refine W.seq ?_ | refine W.region ?_ | refine W.drawn ?_ | refine WH.nil ?_ | refine WO.nil ?_ | refine WO.onG rfl ?_ | refine WO.offG rfl ?_ | (refine WO.fork rfl ?_ ?_ <;> intro hc <;> (fail_if_success (exfalso; cases hc; done)) <;> (first | subst hc | (simp at hc; try omega) | skip)) | (refine WO.isMv ?_; first | refine WO.go rfl rfl ?_ | refine WO.mvR rfl ?_) | (refine WO.isBin ?_; first | refine WO.seqT rfl rfl rfl h1 ?_ | refine WO.neT rfl rfl rfl h2 ?_ | refine WO.eqF rfl rfl rfl h3 ?_ | refine WO.sub64 rfl rfl rfl (by omega) (by omega) ?_ | refine WO.subU64 rfl rfl rfl (by omega) (by omega) ?_ | refine WO.subU32 rfl rfl rfl (by omega) (by omega) ?_ | refine WO.testT rfl rfl ?_ | refine WO.testF rfl rfl ?_ | (refine WO.tgeq rfl rfl rfl (fun hc => ?_) (fun hc => ?_) <;> try omega) | (refine WO.teql rfl rfl rfl (fun hc => ?_) (fun hc => ?_) <;> try omega) | (refine WO.tneq rfl rfl rfl (fun hc => ?_) (fun hc => ?_) <;> try omega) | refine WO.tseql rfl rfl rfl (fun hc => ?_) (fun hc => ?_) | refine WO.tsneq rfl rfl rfl (fun hc => ?_) (fun hc => ?_) | refine WO.go rfl rfl ?_) | (refine WO.isLoad ?_; first | refine WO.ldc rfl rfl (hb' _) rfl sh_ap1 ?_ | refine WO.go rfl rfl ?_ | refine WO.ldc rfl rfl blk_l1 rfl rfl ?_ | refine WO.lda rfl rfl blk_l1 (of_decide_eq_true rfl) rfl ?_ | refine WO.ldc rfl rfl blk_l2 rfl rfl ?_ | refine WO.lda rfl rfl blk_l2 (of_decide_eq_true rfl) rfl ?_ | refine WO.ldc rfl rfl blk_l3 rfl rfl ?_ | refine WO.lda rfl rfl blk_l3 (of_decide_eq_true rfl) rfl ?_) | (refine WO.isIaddr ?_; first | refine WO.idxL rfl rfl rfl hidx hrow ?_ | refine WO.go rfl rfl ?_) | (refine WO.isLen ?_; first | refine WO.go rfl rfl ?_) | refine WO.go rfl rfl ?_ | (refine WH.isMv ?_; first | refine WH.go rfl rfl rfl ?_ | refine WH.mvR rfl ?_) | (refine WH.isBin ?_; first | refine WH.seqT rfl rfl rfl h1 ?_ | refine WH.eqF rfl rfl rfl h3 ?_ | refine WH.testT rfl rfl ?_ | refine WH.testF rfl rfl ?_ | (refine WH.teql rfl rfl rfl (fun hc => ?_) (fun hc => ?_) <;> try omega) | refine WH.tseql rfl rfl rfl (fun hc => ?_) (fun hc => ?_) | refine WH.go rfl rfl rfl ?_) | (refine WH.isLoad ?_; first | refine WH.ldc rfl rfl (hb' _) rfl sh_ap1 rfl ?_ | refine WH.go rfl rfl rfl ?_ | refine WH.ldc rfl rfl blk_l1 rfl rfl rfl ?_ | refine WH.lda rfl rfl blk_l1 (of_decide_eq_true rfl) rfl rfl ?_ | refine WH.ldc rfl rfl blk_l2 rfl rfl rfl ?_ | refine WH.lda rfl rfl blk_l2 (of_decide_eq_true rfl) rfl rfl ?_ | refine WH.ldc rfl rfl blk_l3 rfl rfl rfl ?_ | refine WH.lda rfl rfl blk_l3 (of_decide_eq_true rfl) rfl rfl ?_) | (refine WH.isIaddr ?_; first | refine WH.idxL rfl rfl rfl hidx hrow ?_ | refine WH.go rfl rfl rfl ?_) | refine WH.go rfl rfl rfl ?_ | refine W.skip ?_ | refine W.condT rfl ?_ | refine W.condF rfl ?_ | (refine W.fork rfl ?_ ?_ <;> intro hc <;> (fail_if_success (exfalso; cases hc; done)) <;> (first | subst hc | (simp at hc; try omega) | skip)) | refine W.ret ?_ | refine W.block ?_ | refine W.exit ?_)
          exact ⟨.inr rfl, _, rfl, fin rfl (by rw [hinv]; show _ = NV.tup [.str c.value, .bool (decide (c.op = 1))]; rw [decide_eq_false h3]) rfl⟩
    · have hq : isV k c = false := by unfold isV; rw [decide_eq_false h1]; rfl
      rw [hq] at hinv
      repeat' (first | refine W.seq ?_ | refine W.region ?_ | refine W.drawn ?_ | refine WH.nil ?_ | refine WO.nil ?_ | refine WO.onG rfl ?_ | refine WO.offG rfl ?_ | (refine WO.fork rfl ?_ ?_ <;> intro hc <;> (fail_if_success (exfalso; cases hc; done)) <;> (first | subst hc | (simp at hc; try omega) | skip)) | (refine WO.isMv ?_; first | refine WO.go rfl rfl ?_ | refine WO.mvR rfl ?_) | (refine WO.isBin ?_; first | refine WO.seqF rfl rfl rfl h1 ?_ | refine WO.sub64 rfl rfl rfl (by omega) (by omega) ?_ | refine WO.subU64 rfl rfl rfl (by omega) (by omega) ?_ | refine WO.subU32 rfl rfl rfl (by omega) (by omega) ?_ | refine WO.testT rfl rfl ?_ | refine WO.testF rfl rfl ?_ | (refine WO.tgeq rfl rfl rfl (fun hc => ?_) (fun hc => ?_) <;> try omega) | (refine WO.teql rfl rfl rfl (fun hc => ?_) (fun hc => ?_) <;> try omega) | (refine WO.tneq rfl rfl rfl (fun hc => ?_) (fun hc => ?_) <;> try omega) | refine WO.tseql rfl rfl rfl (fun hc => ?_) (fun hc => ?_) | refine WO.tsneq rfl rfl rfl (fun hc => ?_) (fun hc => ?_) | refine WO.go rfl rfl ?_) | (refine WO.isLoad ?_; first | refine WO.ldc rfl rfl (hb' _) rfl sh_ap1 ?_ | refine WO.go rfl rfl ?_ | refine WO.ldc rfl rfl blk_l1 rfl rfl ?_ | refine WO.lda rfl rfl blk_l1 (of_decide_eq_true rfl) rfl ?_ | refine WO.ldc rfl rfl blk_l2 rfl rfl ?_ | refine WO.lda rfl rfl blk_l2 (of_decide_eq_true rfl) rfl ?_ | refine WO.ldc rfl rfl blk_l3 rfl rfl ?_ | refine WO.lda rfl rfl blk_l3 (of_decide_eq_true rfl) rfl ?_) | (refine WO.isIaddr ?_; first | refine WO.idxL rfl rfl rfl hidx hrow ?_ | refine WO.go rfl rfl ?_) | (refine WO.isLen ?_; first | refine WO.go rfl rfl ?_) | refine WO.go rfl rfl ?_ | (refine WH.isMv ?_; first | refine WH.go rfl rfl rfl ?_ | refine WH.mvR rfl ?_) | (refine WH.isBin ?_; first | refine WH.seqF rfl rfl rfl h1 ?_ | refine WH.testT rfl rfl ?_ | refine WH.testF rfl rfl ?_ | (refine WH.teql rfl rfl rfl (fun hc => ?_) (fun hc => ?_) <;> try omega) | refine WH.tseql rfl rfl rfl (fun hc => ?_) (fun hc => ?_) | refine WH.go rfl rfl rfl ?_) | (refine WH.isLoad ?_; first | refine WH.ldc rfl rfl (hb' _) rfl sh_ap1 rfl ?_ | refine WH.go rfl rfl rfl ?_ | refine WH.ldc rfl rfl blk_l1 rfl rfl rfl ?_ | refine WH.lda rfl rfl blk_l1 (of_decide_eq_true rfl) rfl rfl ?_ | refine WH.ldc rfl rfl blk_l2 rfl rfl rfl ?_ | refine WH.lda rfl rfl blk_l2 (of_decide_eq_true rfl) rfl rfl ?_ | refine WH.ldc rfl rfl blk_l3 rfl rfl rfl ?_ | refine WH.lda rfl rfl blk_l3 (of_decide_eq_true rfl) rfl rfl ?_) | (refine WH.isIaddr ?_; first | refine WH.idxL rfl rfl rfl hidx hrow ?_ | refine WH.go rfl rfl rfl ?_) | refine WH.go rfl rfl rfl ?_ | refine W.skip ?_ | refine W.condT rfl ?_ | refine W.condF rfl ?_ | (refine W.fork rfl ?_ ?_ <;> intro hc <;> (fail_if_success (exfalso; cases hc; done)) <;> (first | subst hc | (simp at hc; try omega) | skip)) | refine W.ret ?_ | refine W.block ?_ | refine W.exit ?_)
      exact IH i _ _ (by omega) ⟨by omega, hinv⟩ ⟨rfl, rfl, by rw [← hidx]; rfl, trivial⟩ rfl
  | zero =>
    repeat' (first | refine W.seq ?_ | refine W.region ?_ | refine W.drawn ?_ | refine WH.nil ?_ | refine WO.nil ?_ | refine WO.onG rfl ?_ | refine WO.offG rfl ?_ | (refine WO.fork rfl ?_ ?_ <;> intro hc <;> (fail_if_success (exfalso; cases hc; done)) <;> (first | subst hc | (simp at hc; try omega) | skip)) | (refine WO.isMv ?_; first | refine WO.go rfl rfl ?_ | refine WO.mvR rfl ?_) | (refine WO.isBin ?_; first | refine WO.sub64 rfl rfl rfl (by omega) (by omega) ?_ | refine WO.subU64 rfl rfl rfl (by omega) (by omega) ?_ | refine WO.subU32 rfl rfl rfl (by omega) (by omega) ?_ | refine WO.testT rfl rfl ?_ | refine WO.testF rfl rfl ?_ | (refine WO.tgeq rfl rfl rfl (fun hc => ?_) (fun hc => ?_) <;> try omega) | (refine WO.teql rfl rfl rfl (fun hc => ?_) (fun hc => ?_) <;> try omega) | (refine WO.tneq rfl rfl rfl (fun hc => ?_) (fun hc => ?_) <;> try omega) | refine WO.tseql rfl rfl rfl (fun hc => ?_) (fun hc => ?_) | refine WO.tsneq rfl rfl rfl (fun hc => ?_) (fun hc => ?_) | refine WO.go rfl rfl ?_) | (refine WO.isLoad ?_; first | refine WO.go rfl rfl ?_ | refine WO.ldc rfl rfl blk_l1 rfl rfl ?_ | refine WO.lda rfl rfl blk_l1 (of_decide_eq_true rfl) rfl ?_ | refine WO.ldc rfl rfl blk_l2 rfl rfl ?_ | refine WO.lda rfl rfl blk_l2 (of_decide_eq_true rfl) rfl ?_ | refine WO.ldc rfl rfl blk_l3 rfl rfl ?_ | refine WO.lda rfl rfl blk_l3 (of_decide_eq_true rfl) rfl ?_) | (refine WO.isIaddr ?_; first | refine WO.go rfl rfl ?_) | (refine WO.isLen ?_; first | refine WO.go rfl rfl ?_) | refine WO.go rfl rfl ?_ | (refine WH.isMv ?_; first | refine WH.go rfl rfl rfl ?_ | refine WH.mvR rfl ?_) | (refine WH.isBin ?_; first | refine WH.testT rfl rfl ?_ | refine WH.testF rfl rfl ?_ | (refine WH.teql rfl rfl rfl (fun hc => ?_) (fun hc => ?_) <;> try omega) | refine WH.tseql rfl rfl rfl (fun hc => ?_) (fun hc => ?_) | refine WH.go rfl rfl rfl ?_) | (refine WH.isLoad ?_; first | refine WH.go rfl rfl rfl ?_ | refine WH.ldc rfl rfl blk_l1 rfl rfl rfl ?_ | refine WH.lda rfl rfl blk_l1 (of_decide_eq_true rfl) rfl rfl ?_ | refine WH.ldc rfl rfl blk_l2 rfl rfl rfl ?_ | refine WH.lda rfl rfl blk_l2 (of_decide_eq_true rfl) rfl rfl ?_ | refine WH.ldc rfl rfl blk_l3 rfl rfl rfl ?_ | refine WH.lda rfl rfl blk_l3 (of_decide_eq_true rfl) rfl rfl ?_) | (refine WH.isIaddr ?_; first | refine WH.go rfl rfl rfl ?_) | refine WH.go rfl rfl rfl ?_ | refine W.skip ?_ | refine W.condT rfl ?_ | refine W.condF rfl ?_ | (refine W.fork rfl ?_ ?_ <;> intro hc <;> (fail_if_success (exfalso; cases hc; done)) <;> (first | subst hc | (simp at hc; try omega) | skip)) | refine W.ret ?_ | refine W.block ?_ | refine W.exit ?_)
    exact ⟨.inr rfl, _, rfl, fin rfl (by rw [hinv]; rfl) rfl⟩
def refOk (R : List Reply) (c : Cmd) : Bool := rightCmd c && (!decide (c.op = 0) && (knownR R c.client c.seq).isNone)
def refReply (L : List Cmd) (c : Cmd) : Reply := match valueR L c.key with
  | some d => ⟨c.client, c.seq, decide (d.op = 1), d.value⟩
  | none => ⟨c.client, c.seq, false, ByteArray.empty⟩
set_option maxRecDepth 8000 in
set_option maxHeartbeats 8000000 in
theorem c_rApplyNo (L : List Cmd) (R : List Reply) (t1 t2 b : Nat) (hR : R.length ≤ 1000000) (bs : List NObj) (ts : List Bool) (M : Mem) (hb : bs[b]? = some (.cells (rsC L R t1 t2))) (c : Cmd) (h : refOk R c = false) :
    E0 27 [.ptr 0 b 0, .agg c.c] (⟨bs, ts⟩ :: M) (.tup [.agg reply0.c, .bool false]) (⟨bs, ts⟩ :: M) := by
  refine EvF.by (nf := nf27) (args := [.ptr 0 b 0, .agg c.c]) rfl (of_decide_eq_true rfl) rfl ?_
  have hr := c_refCmdRight c
  have hk := fun fr : Fr => c_rKnown L R t1 t2 1 b hR (fr :: ⟨bs, ts⟩ :: M) hb c.client c.seq
  unfold refOk at h
  cases hR : rightCmd c
  · rw [hR] at hr
    cases hkn : knownR R c.client c.seq with
    | none =>
      rw [hkn] at hk
      repeat' (first | refine W.seq ?_ | refine W.region ?_ | refine W.drawn ?_ | refine WH.nil ?_ | refine WO.nil ?_ | refine WO.onG rfl ?_ | refine WO.offG rfl ?_ | (refine WO.fork rfl ?_ ?_ <;> intro hc <;> (fail_if_success (exfalso; cases hc; done)) <;> (first | subst hc | (simp at hc; try omega) | skip)) | (refine WO.isMv ?_; first | refine WO.go rfl rfl ?_ | refine WO.mvR rfl ?_) | (refine WO.isBin ?_; first | refine WO.testT rfl rfl ?_ | refine WO.testF rfl rfl ?_ | (refine WO.teql rfl rfl rfl (fun hc => ?_) (fun hc => ?_) <;> try omega) | refine WO.tseql rfl rfl rfl (fun hc => ?_) (fun hc => ?_) | refine WO.go rfl rfl ?_) | (refine WO.isUn ?_; first | refine WO.go rfl rfl ?_) | (refine WO.isCall ?_; first | refine WO.ask rfl rfl (hr _) ?_ | refine WO.ask' rfl rfl (hr _) ?_ | refine WO.ask rfl rfl (hk _) ?_ | refine WO.ask' rfl rfl (hk _) ?_) | (refine WO.isLoad ?_; first | refine WO.go rfl rfl ?_) | (refine WO.isStore ?_; first | refine WO.st rfl rfl ?_) | refine WO.go rfl rfl ?_ | refine WO.st rfl rfl ?_ | (refine WH.isMv ?_; first | refine WH.go rfl rfl rfl ?_ | refine WH.mvR rfl ?_) | (refine WH.isLoad ?_; first | refine WH.go rfl rfl rfl ?_) | (refine WH.isApp ?_; first | refine WH.go rfl rfl rfl ?_) | refine WH.go rfl rfl rfl ?_ | refine W.skip ?_ | refine W.condT rfl ?_ | refine W.condF rfl ?_ | (refine W.fork rfl ?_ ?_ <;> intro hc <;> (fail_if_success (exfalso; cases hc; done)) <;> (first | subst hc | (simp at hc; try omega) | skip)) | refine W.ret ?_)
      exact ⟨.inr rfl, _, rfl, fin rfl rfl rfl⟩
    | some r =>
      rw [hkn] at hk
      repeat' (first | refine W.seq ?_ | refine W.region ?_ | refine W.drawn ?_ | refine WH.nil ?_ | refine WO.nil ?_ | refine WO.onG rfl ?_ | refine WO.offG rfl ?_ | (refine WO.fork rfl ?_ ?_ <;> intro hc <;> (fail_if_success (exfalso; cases hc; done)) <;> (first | subst hc | (simp at hc; try omega) | skip)) | (refine WO.isMv ?_; first | refine WO.go rfl rfl ?_ | refine WO.mvR rfl ?_) | (refine WO.isBin ?_; first | refine WO.testT rfl rfl ?_ | refine WO.testF rfl rfl ?_ | (refine WO.teql rfl rfl rfl (fun hc => ?_) (fun hc => ?_) <;> try omega) | refine WO.tseql rfl rfl rfl (fun hc => ?_) (fun hc => ?_) | refine WO.go rfl rfl ?_) | (refine WO.isUn ?_; first | refine WO.go rfl rfl ?_) | (refine WO.isCall ?_; first | refine WO.ask rfl rfl (hr _) ?_ | refine WO.ask' rfl rfl (hr _) ?_ | refine WO.ask rfl rfl (hk _) ?_ | refine WO.ask' rfl rfl (hk _) ?_) | (refine WO.isLoad ?_; first | refine WO.go rfl rfl ?_) | (refine WO.isStore ?_; first | refine WO.st rfl rfl ?_) | refine WO.go rfl rfl ?_ | refine WO.st rfl rfl ?_ | (refine WH.isMv ?_; first | refine WH.go rfl rfl rfl ?_ | refine WH.mvR rfl ?_) | (refine WH.isLoad ?_; first | refine WH.go rfl rfl rfl ?_) | (refine WH.isApp ?_; first | refine WH.go rfl rfl rfl ?_) | refine WH.go rfl rfl rfl ?_ | refine W.skip ?_ | refine W.condT rfl ?_ | refine W.condF rfl ?_ | (refine W.fork rfl ?_ ?_ <;> intro hc <;> (fail_if_success (exfalso; cases hc; done)) <;> (first | subst hc | (simp at hc; try omega) | skip)) | refine W.ret ?_)
      exact ⟨.inr rfl, _, rfl, fin rfl rfl rfl⟩
  · rw [hR] at hr h
    by_cases hop : c.op = 0
    · cases hkn : knownR R c.client c.seq with
      | none =>
        rw [hkn] at hk
        repeat' (first | refine W.seq ?_ | refine W.region ?_ | refine W.drawn ?_ | refine WH.nil ?_ | refine WO.nil ?_ | refine WO.onG rfl ?_ | refine WO.offG rfl ?_ | (refine WO.fork rfl ?_ ?_ <;> intro hc <;> (fail_if_success (exfalso; cases hc; done)) <;> (first | subst hc | (simp at hc; try omega) | skip)) | (refine WO.isMv ?_; first | refine WO.go rfl rfl ?_ | refine WO.mvR rfl ?_) | (refine WO.isBin ?_; first | refine WO.eqT rfl rfl rfl hop ?_ | refine WO.testT rfl rfl ?_ | refine WO.testF rfl rfl ?_ | (refine WO.teql rfl rfl rfl (fun hc => ?_) (fun hc => ?_) <;> try omega) | refine WO.tseql rfl rfl rfl (fun hc => ?_) (fun hc => ?_) | refine WO.go rfl rfl ?_) | (refine WO.isUn ?_; first | refine WO.go rfl rfl ?_) | (refine WO.isCall ?_; first | refine WO.ask rfl rfl (hr _) ?_ | refine WO.ask' rfl rfl (hr _) ?_ | refine WO.ask rfl rfl (hk _) ?_ | refine WO.ask' rfl rfl (hk _) ?_) | (refine WO.isLoad ?_; first | refine WO.go rfl rfl ?_) | (refine WO.isStore ?_; first | refine WO.st rfl rfl ?_) | refine WO.go rfl rfl ?_ | refine WO.st rfl rfl ?_ | (refine WH.isMv ?_; first | refine WH.go rfl rfl rfl ?_ | refine WH.mvR rfl ?_) | (refine WH.isLoad ?_; first | refine WH.go rfl rfl rfl ?_) | (refine WH.isApp ?_; first | refine WH.go rfl rfl rfl ?_) | refine WH.go rfl rfl rfl ?_ | refine W.skip ?_ | refine W.condT rfl ?_ | refine W.condF rfl ?_ | (refine W.fork rfl ?_ ?_ <;> intro hc <;> (fail_if_success (exfalso; cases hc; done)) <;> (first | subst hc | (simp at hc; try omega) | skip)) | refine W.ret ?_)
        exact ⟨.inr rfl, _, rfl, fin rfl rfl rfl⟩
      | some r =>
        rw [hkn] at hk
        repeat' (first | refine W.seq ?_ | refine W.region ?_ | refine W.drawn ?_ | refine WH.nil ?_ | refine WO.nil ?_ | refine WO.onG rfl ?_ | refine WO.offG rfl ?_ | (refine WO.fork rfl ?_ ?_ <;> intro hc <;> (fail_if_success (exfalso; cases hc; done)) <;> (first | subst hc | (simp at hc; try omega) | skip)) | (refine WO.isMv ?_; first | refine WO.go rfl rfl ?_ | refine WO.mvR rfl ?_) | (refine WO.isBin ?_; first | refine WO.eqT rfl rfl rfl hop ?_ | refine WO.testT rfl rfl ?_ | refine WO.testF rfl rfl ?_ | (refine WO.teql rfl rfl rfl (fun hc => ?_) (fun hc => ?_) <;> try omega) | refine WO.tseql rfl rfl rfl (fun hc => ?_) (fun hc => ?_) | refine WO.go rfl rfl ?_) | (refine WO.isUn ?_; first | refine WO.go rfl rfl ?_) | (refine WO.isCall ?_; first | refine WO.ask rfl rfl (hr _) ?_ | refine WO.ask' rfl rfl (hr _) ?_ | refine WO.ask rfl rfl (hk _) ?_ | refine WO.ask' rfl rfl (hk _) ?_) | (refine WO.isLoad ?_; first | refine WO.go rfl rfl ?_) | (refine WO.isStore ?_; first | refine WO.st rfl rfl ?_) | refine WO.go rfl rfl ?_ | refine WO.st rfl rfl ?_ | (refine WH.isMv ?_; first | refine WH.go rfl rfl rfl ?_ | refine WH.mvR rfl ?_) | (refine WH.isLoad ?_; first | refine WH.go rfl rfl rfl ?_) | (refine WH.isApp ?_; first | refine WH.go rfl rfl rfl ?_) | refine WH.go rfl rfl rfl ?_ | refine W.skip ?_ | refine W.condT rfl ?_ | refine W.condF rfl ?_ | (refine W.fork rfl ?_ ?_ <;> intro hc <;> (fail_if_success (exfalso; cases hc; done)) <;> (first | subst hc | (simp at hc; try omega) | skip)) | refine W.ret ?_)
        exact ⟨.inr rfl, _, rfl, fin rfl rfl rfl⟩
    · rw [decide_eq_false hop] at h
      cases hkn : knownR R c.client c.seq with
      | none => rw [hkn] at h; cases h
      | some r =>
        rw [hkn] at hk
        repeat' (first | refine W.seq ?_ | refine W.region ?_ | refine W.drawn ?_ | refine WH.nil ?_ | refine WO.nil ?_ | refine WO.onG rfl ?_ | refine WO.offG rfl ?_ | (refine WO.fork rfl ?_ ?_ <;> intro hc <;> (fail_if_success (exfalso; cases hc; done)) <;> (first | subst hc | (simp at hc; try omega) | skip)) | (refine WO.isMv ?_; first | refine WO.go rfl rfl ?_ | refine WO.mvR rfl ?_) | (refine WO.isBin ?_; first | refine WO.eqF rfl rfl rfl hop ?_ | refine WO.testT rfl rfl ?_ | refine WO.testF rfl rfl ?_ | (refine WO.teql rfl rfl rfl (fun hc => ?_) (fun hc => ?_) <;> try omega) | refine WO.tseql rfl rfl rfl (fun hc => ?_) (fun hc => ?_) | refine WO.go rfl rfl ?_) | (refine WO.isUn ?_; first | refine WO.go rfl rfl ?_) | (refine WO.isCall ?_; first | refine WO.ask rfl rfl (hr _) ?_ | refine WO.ask' rfl rfl (hr _) ?_ | refine WO.ask rfl rfl (hk _) ?_ | refine WO.ask' rfl rfl (hk _) ?_) | (refine WO.isLoad ?_; first | refine WO.go rfl rfl ?_) | (refine WO.isStore ?_; first | refine WO.st rfl rfl ?_) | refine WO.go rfl rfl ?_ | refine WO.st rfl rfl ?_ | (refine WH.isMv ?_; first | refine WH.go rfl rfl rfl ?_ | refine WH.mvR rfl ?_) | (refine WH.isLoad ?_; first | refine WH.go rfl rfl rfl ?_) | (refine WH.isApp ?_; first | refine WH.go rfl rfl rfl ?_) | refine WH.go rfl rfl rfl ?_ | refine W.skip ?_ | refine W.condT rfl ?_ | refine W.condF rfl ?_ | (refine W.fork rfl ?_ ?_ <;> intro hc <;> (fail_if_success (exfalso; cases hc; done)) <;> (first | subst hc | (simp at hc; try omega) | skip)) | refine W.ret ?_)
        exact ⟨.inr rfl, _, rfl, fin rfl rfl rfl⟩
set_option maxRecDepth 8000 in
set_option maxHeartbeats 8000000 in
theorem c_rApplyYes (L : List Cmd) (R : List Reply) (t1 t2 b : Nat) (hL : L.length ≤ 1000000) (hR : R.length ≤ 1000000) (bs : List NObj) (ts : List Bool) (M : Mem) (hb : bs[b]? = some (.cells (rsC L R t1 t2))) (c : Cmd) (h : refOk R c = true) :
    E0 27 [.ptr 0 b 0, .agg c.c] (⟨bs, ts⟩ :: M) (.tup [.agg (refReply L c).c, .bool true]) (⟨bs.set b (.cells (rsC (L ++ [c]) (R ++ [refReply L c]) ts.length (ts.length + 1))), ts ++ [true] ++ [true]⟩ :: M) := by
  refine EvF.by (nf := nf27) (args := [.ptr 0 b 0, .agg c.c]) rfl (of_decide_eq_true rfl) rfl ?_
  have hr := c_refCmdRight c
  have hk := fun fr : Fr => c_rKnown L R t1 t2 1 b hR (fr :: ⟨bs, ts⟩ :: M) hb c.client c.seq
  have hv := fun fr : Fr => c_rValue L R t1 t2 1 b hL (fr :: ⟨bs, ts⟩ :: M) hb c.key
  have lL : (L.map Cmd.c).length = L.length := List.length_map ..
  have lR : (R.map Reply.c).length = R.length := List.length_map ..
  unfold refOk at h
  rw [Bool.and_eq_true, Bool.and_eq_true] at h
  obtain ⟨hri, hop', hno⟩ := h
  have hop : ¬ c.op = 0 := by simpa using hop'
  rw [hri] at hr
  have hkn : knownR R c.client c.seq = none := by cases hq : knownR R c.client c.seq <;> simp [hq] at hno ⊢
  rw [hkn] at hk
  have fin' : ∀ r : Reply, bs.set b (.cells (rsC (L ++ [c]) (R ++ [r]) ts.length (ts.length + 1))) = (bs.set b (.cells ((rsC L R t1 t2).set 0 (apV 5 (L.map Cmd.c ++ [c.c]) ts.length)))).set b (.cells (((rsC L R t1 t2).set 0 (apV 5 (L.map Cmd.c ++ [c.c]) ts.length)).set 1 (apV 4 (R.map Reply.c ++ [r.c]) (ts ++ [true]).length))) := fun r => by
    rw [List.set_set]
    unfold rsC
    rw [List.map_append, List.map_append, List.length_append]
    rfl
  unfold refReply
  cases hvv : valueR L c.key with
  | none =>
    rw [hvv] at hv
    repeat' (first | refine W.seq ?_ | refine W.region ?_ | refine W.drawn ?_ | refine WH.nil ?_ | refine WO.nil ?_ | refine WH.appN rfl rfl rfl (by rw [lL]; omega) (by rw [lL]; omega) fun ts' ht => ?_ | refine WH.appN rfl rfl rfl (by rw [lR]; omega) (by rw [lR]; omega) fun ts' ht => ?_ | refine WH.app rfl rfl rfl rfl rfl ht (by rw [lL]; show (_ + 1) * _ ≤ _; omega) (by rw [lL]; show _ + 1 ≤ _; omega) fun ts' t' ht => ?_ | refine WH.app rfl rfl rfl rfl rfl ht (by rw [lR]; show (_ + 1) * _ ≤ _; omega) (by rw [lR]; show _ + 1 ≤ _; omega) fun ts' t' ht => ?_ | refine WO.stO rfl rfl rfl app_ne ht hb (of_decide_eq_true rfl) fun hb => ?_ | refine WO.onG rfl ?_ | refine WO.offG rfl ?_ | (refine WO.fork rfl ?_ ?_ <;> intro hc <;> (fail_if_success (exfalso; cases hc; done)) <;> (first | subst hc | (simp at hc; try omega) | skip)) | (refine WO.isMv ?_; first | refine WO.go rfl rfl ?_ | refine WO.mvR rfl ?_) | (refine WO.isBin ?_; first | refine WO.eqF rfl rfl rfl hop ?_ | refine WO.testT rfl rfl ?_ | refine WO.testF rfl rfl ?_ | (refine WO.teql rfl rfl rfl (fun hc => ?_) (fun hc => ?_) <;> try omega) | refine WO.tseql rfl rfl rfl (fun hc => ?_) (fun hc => ?_) | refine WO.go rfl rfl ?_) | (refine WO.isUn ?_; first | refine WO.go rfl rfl ?_) | (refine WO.isCall ?_; first | refine WO.ask rfl rfl (hr _) ?_ | refine WO.ask' rfl rfl (hr _) ?_ | refine WO.ask rfl rfl (hk _) ?_ | refine WO.ask' rfl rfl (hk _) ?_ | refine WO.ask rfl rfl (hv _) ?_ | refine WO.ask' rfl rfl (hv _) ?_) | (refine WO.isLoad ?_; first | refine WO.ldc rfl rfl hb rfl sh_ap1 ?_ | refine WO.go rfl rfl ?_) | (refine WO.isStore ?_; first | refine WO.st rfl rfl ?_) | refine WO.go rfl rfl ?_ | refine WO.st rfl rfl ?_ | (refine WH.isMv ?_; first | refine WH.go rfl rfl rfl ?_ | refine WH.mvR rfl ?_) | (refine WH.isLoad ?_; first | refine WH.ldc rfl rfl hb rfl sh_ap1 rfl ?_ | refine WH.go rfl rfl rfl ?_) | (refine WH.isApp ?_; first | refine WH.go rfl rfl rfl ?_) | refine WH.go rfl rfl rfl ?_ | refine W.skip ?_ | refine W.condT rfl ?_ | refine W.condF rfl ?_ | (refine W.fork rfl ?_ ?_ <;> intro hc <;> (fail_if_success (exfalso; cases hc; done)) <;> (first | subst hc | (simp at hc; try omega) | skip)) | refine W.ret ?_)
    exact ⟨.inr rfl, _, rfl, fin rfl rfl (by rw [fin']; rfl)⟩
  | some d =>
    rw [hvv] at hv
    repeat' (first | refine W.seq ?_ | refine W.region ?_ | refine W.drawn ?_ | refine WH.nil ?_ | refine WO.nil ?_ | refine WH.appN rfl rfl rfl (by rw [lL]; omega) (by rw [lL]; omega) fun ts' ht => ?_ | refine WH.appN rfl rfl rfl (by rw [lR]; omega) (by rw [lR]; omega) fun ts' ht => ?_ | refine WH.app rfl rfl rfl rfl rfl ht (by rw [lL]; show (_ + 1) * _ ≤ _; omega) (by rw [lL]; show _ + 1 ≤ _; omega) fun ts' t' ht => ?_ | refine WH.app rfl rfl rfl rfl rfl ht (by rw [lR]; show (_ + 1) * _ ≤ _; omega) (by rw [lR]; show _ + 1 ≤ _; omega) fun ts' t' ht => ?_ | refine WO.stO rfl rfl rfl app_ne ht hb (of_decide_eq_true rfl) fun hb => ?_ | refine WO.onG rfl ?_ | refine WO.offG rfl ?_ | (refine WO.fork rfl ?_ ?_ <;> intro hc <;> (fail_if_success (exfalso; cases hc; done)) <;> (first | subst hc | (simp at hc; try omega) | skip)) | (refine WO.isMv ?_; first | refine WO.go rfl rfl ?_ | refine WO.mvR rfl ?_) | (refine WO.isBin ?_; first | refine WO.eqF rfl rfl rfl hop ?_ | refine WO.testT rfl rfl ?_ | refine WO.testF rfl rfl ?_ | (refine WO.teql rfl rfl rfl (fun hc => ?_) (fun hc => ?_) <;> try omega) | refine WO.tseql rfl rfl rfl (fun hc => ?_) (fun hc => ?_) | refine WO.go rfl rfl ?_) | (refine WO.isUn ?_; first | refine WO.go rfl rfl ?_) | (refine WO.isCall ?_; first | refine WO.ask rfl rfl (hr _) ?_ | refine WO.ask' rfl rfl (hr _) ?_ | refine WO.ask rfl rfl (hk _) ?_ | refine WO.ask' rfl rfl (hk _) ?_ | refine WO.ask rfl rfl (hv _) ?_ | refine WO.ask' rfl rfl (hv _) ?_) | (refine WO.isLoad ?_; first | refine WO.ldc rfl rfl hb rfl sh_ap1 ?_ | refine WO.go rfl rfl ?_) | (refine WO.isStore ?_; first | refine WO.st rfl rfl ?_) | refine WO.go rfl rfl ?_ | refine WO.st rfl rfl ?_ | (refine WH.isMv ?_; first | refine WH.go rfl rfl rfl ?_ | refine WH.mvR rfl ?_) | (refine WH.isLoad ?_; first | refine WH.ldc rfl rfl hb rfl sh_ap1 rfl ?_ | refine WH.go rfl rfl rfl ?_) | (refine WH.isApp ?_; first | refine WH.go rfl rfl rfl ?_) | refine WH.go rfl rfl rfl ?_ | refine W.skip ?_ | refine W.condT rfl ?_ | refine W.condF rfl ?_ | (refine W.fork rfl ?_ ?_ <;> intro hc <;> (fail_if_success (exfalso; cases hc; done)) <;> (first | subst hc | (simp at hc; try omega) | skip)) | refine W.ret ?_)
    exact ⟨.inr rfl, _, rfl, fin rfl rfl (by rw [fin']; rfl)⟩
/-- What the document's store replies, in all. -/
def refRun : List Cmd → List Reply → List Cmd → List Reply
  | _, R, [] => R
  | L, R, c :: l => if refOk R c then refRun (L ++ [c]) (R ++ [refReply L c]) l else refRun L R l
structure Same (V : Vals) (D : Dones) (L : List Cmd) (R : List Reply) : Prop where
  v : ∀ k : ByteArray, valueV (valueR L k) = .tup [.str ((alook k V).getD ByteArray.empty), .bool (alook k V).isSome]
  d : ∀ c s : Int, (alook (c, s) D).isSome = (knownR R c s).isSome
theorem same_ok {V : Vals} {D : Dones} {L : List Cmd} {R : List Reply} (h : Same V D L R) (c : Cmd) : refOk R c = applyOk D c := by
  unfold refOk applyOk
  have := h.d c.client c.seq
  have h1 : (knownR R c.client c.seq).isNone = (alook (c.client, c.seq) D).isNone := by
    cases h1 : knownR R c.client c.seq <;> cases h2 : alook (c.client, c.seq) D <;> rw [h1, h2] at this <;> simp at this ⊢
  rw [h1]
  congr 1
  by_cases h0 : c.op = 0 <;> simp [h0]
theorem same_reply {V : Vals} {D : Dones} {L : List Cmd} {R : List Reply} (h : Same V D L R) (c : Cmd) : refReply L c = replyOf V c := by
  have := h.v c.key
  unfold refReply replyOf
  cases hq : valueR L c.key with
  | none =>
    rw [hq] at this
    simp only [valueV, NV.tup.injEq, List.cons.injEq, NV.str.injEq, NV.bool.injEq, and_true] at this
    rw [← this.1, ← this.2]
  | some d =>
    rw [hq] at this
    simp only [valueV, NV.tup.injEq, List.cons.injEq, NV.str.injEq, NV.bool.injEq, and_true] at this
    rw [← this.1, ← this.2]
theorem right_op {c : Cmd} (h : rightCmd c = true) (h0 : ¬ c.op = 0) : (c.op = 1 ∨ c.op = 2 ∨ c.op = 3) ∧ (¬ c.op = 1 → c.value = ByteArray.empty) := by
  rcases rightCmd_iff.1 h with q | q
  · rw [q] at h0; exact absurd rfl h0
  · refine ⟨by omega, fun h1 => ?_⟩
    rcases q.2.2.2.2.2.2.2.2 with q | q
    · exact absurd q h1
    · exact empty_iff.2 (by first | exact q | (rw [q]; rfl))
theorem ref_run : ∀ (l : List Cmd) (V : Vals) (D : Dones) (L : List Cmd) (R : List Reply), (keys V).Nodup → Same V D L R → refRun L R l = R ++ runS V D l
  | [], V, D, L, R, _, _ => by simp [refRun, runS]
  | c :: l, V, D, L, R, hV, h => by
    unfold refRun runS
    rw [same_ok h c]
    cases hok : applyOk D c
    · exact ref_run l V D L R hV h
    · rw [if_pos rfl, if_pos rfl, same_reply h c]
      have hok' := hok
      unfold applyOk at hok'
      rw [Bool.and_eq_true, Bool.and_eq_true, decide_eq_true_eq] at hok'
      obtain ⟨hr, h0, _⟩ := hok'
      obtain ⟨hop, hval⟩ := right_op hr h0
      have hV' : (keys (putV V c)).Nodup := by
        unfold putV
        split
        · exact nodup_put hV
        · split
          · exact nodup_del hV
          · exact hV
      have hs : Same (putV V c) (aput (c.client, c.seq) (replyOf V c) D) (L ++ [c]) (R ++ [replyOf V c]) := by
        refine ⟨fun k => ?_, fun a s => ?_⟩
        · have hk := h.v k
          rw [valueR_snoc]
          unfold isV putV
          by_cases h1 : c.key = k
          · subst h1
            rcases hop with h2 | h2 | h2
            · rw [if_pos h2, alook_put, if_pos rfl]
              simp [h2, valueV]
            · have h3 : ¬ c.op = 1 := by omega
              have h4 : ¬ c.op = 3 := by omega
              rw [if_neg h3, if_neg h4]
              simp [h2]
              exact hk
            · have h3 : ¬ c.op = 1 := by omega
              have h4 : ¬ c.op = 2 := by omega
              rw [if_neg h3, if_pos h2, alook_del _ _ hV, if_pos rfl]
              simp [h4, h3, valueV, hval h3]
          · rw [decide_eq_false h1, Bool.false_and, if_neg (by simp)]
            have h1' : ¬ k = c.key := fun q => h1 q.symm
            rw [hk]
            split
            · rw [alook_put, if_neg h1']
            · split
              · rw [alook_del _ _ hV, if_neg h1']
              · rfl
        · rw [alook_put]
          unfold knownR
          rw [List.find?_append]
          have hd := h.d a s
          unfold knownR at hd
          by_cases hk : (a, s) = (c.client, c.seq)
          · rw [if_pos hk]
            have hk' := Prod.mk.inj hk
            have : isR a s (replyOf V c) = true := by unfold isR replyOf; simp [hk'.1, hk'.2]
            simp [List.find?_cons, this]
          · rw [if_neg hk, hd]
            have : isR a s (replyOf V c) = false := by
              cases hq : isR a s (replyOf V c)
              · rfl
              · unfold isR replyOf at hq
                rw [Bool.and_eq_true, decide_eq_true_eq, decide_eq_true_eq] at hq
                exact absurd (Prod.ext hq.1.symm hq.2.symm) hk
            simp [List.find?_cons, this]
      rw [ref_run l _ _ _ _ hV' hs, List.append_assoc]
      rfl
theorem ref_replay (l : List Cmd) : refRun [] [] l = replay l := by
  have := ref_run l [] [] [] [] List.nodup_nil ⟨fun k => rfl, fun c s => rfl⟩
  rw [List.nil_append] at this
  exact this
theorem refRun_len : ∀ (l L : List Cmd) (R : List Reply), (refRun L R l).length ≤ R.length + l.length
  | [], L, R => Nat.le_refl _
  | c :: l, L, R => by
    unfold refRun
    split
    · have := refRun_len l (L ++ [c]) (R ++ [refReply L c])
      rw [List.length_append] at this
      simp only [List.length_cons, List.length_nil] at this ⊢
      omega
    · have := refRun_len l L R
      simp only [List.length_cons]
      omega
structure Rr where
  i : Nat
  L : List Cmd
  R : List Reply
  t1 : Nat
  t2 : Nat
  ts : List Bool
set_option maxRecDepth 8000 in
set_option maxHeartbeats 8000000 in
theorem c_refReplay (l : List Cmd) (z : Nat) (f : Bool) (hz : z = 5 ∨ l = []) (hl : l.length ≤ 100000) (m : Mem) : E0 13 [.slc z f (l.map Cmd.c)] m (mkS 4 ((replay l).map Reply.c)) m := by
  refine EvF.by (nf := nf13) (args := [.slc z f (l.map Cmd.c)]) rfl (of_decide_eq_true rfl) rfl ?_
  have ll : (l.map Cmd.c).length = l.length := List.length_map ..
  rw [← ref_replay]
  repeat' (first | refine W.seq ?_ | refine W.region ?_ | refine WO.nil ?_ | (refine WO.isMv ?_; first | refine WO.go rfl rfl ?_ | refine WO.mvR rfl ?_) | (refine WO.isBin ?_; first | refine WO.add64 rfl rfl rfl (by omega) (by omega) ?_ | refine WO.addU32 rfl rfl rfl (by omega) (by omega) ?_ | refine WO.addU64 rfl rfl rfl (by omega) (by omega) ?_ | refine WO.addU8 rfl rfl rfl (by omega) (by omega) ?_ | refine WO.testT rfl rfl ?_ | refine WO.testF rfl rfl ?_ | (refine WO.tlss rfl rfl rfl (fun hc => ?_) (fun hc => ?_) <;> try omega) | refine WO.go rfl rfl ?_) | (refine WO.isLoad ?_; first | refine WO.go rfl rfl ?_ | refine WO.ldc rfl rfl blk_l1 rfl rfl ?_ | refine WO.lda rfl rfl blk_l1 (of_decide_eq_true rfl) rfl ?_ | refine WO.ldc rfl rfl blk_l2 rfl rfl ?_ | refine WO.lda rfl rfl blk_l2 (of_decide_eq_true rfl) rfl ?_ | refine WO.ldc rfl rfl blk_l3 rfl rfl ?_ | refine WO.lda rfl rfl blk_l3 (of_decide_eq_true rfl) rfl ?_) | (refine WO.isIaddr ?_; first | refine WO.go rfl rfl ?_) | (refine WO.isLen ?_; first | refine WO.go rfl rfl ?_) | refine WO.go rfl rfl ?_ | refine W.skip ?_ | refine W.condT rfl ?_ | refine W.condF rfl ?_ | (refine W.fork rfl ?_ ?_ <;> intro hc <;> (fail_if_success (exfalso; cases hc; done)) <;> (first | subst hc | (simp at hc; try omega) | skip)) | refine W.ret ?_ | refine W.block ?_ | refine W.exit ?_)
  refine W.ind (σ := Rr) (fun s => [(0, .slc z f (l.map Cmd.c)), (3, .ptr 0 0 0), (4, .int .i64 s.i)]) (fun s => ⟨[.cells (rsC s.L s.R s.t1 s.t2)], s.ts⟩ :: m) (fun s => s.i ≤ l.length ∧ s.L.length ≤ s.i ∧ s.R.length ≤ s.i ∧ refRun [] [] l = refRun s.L s.R (l.drop s.i)) (fun s => l.length - s.i)
    ⟨0, [], [], 0, 0, []⟩ ⟨Nat.zero_le _, Nat.zero_le _, Nat.zero_le _, rfl⟩ ⟨rfl, rfl, rfl, trivial⟩ rfl ?_
  rintro ⟨i, L, R, t1, t2, ts⟩ e ⟨hi, hL, hR, hinv⟩ IH
  dsimp only at hi hL hR hinv ⊢
  refine W.round ?_
  by_cases hlt : i < l.length
  · obtain ⟨c, hc⟩ := get_lt hlt
    have hrow := map_get (f := Cmd.c) hc
    have hz' : z = 5 := hz.resolve_right (by rintro rfl; simp at hlt)
    rw [List.drop_eq_getElem_cons hlt, show l[i] = c from (List.getElem?_eq_some_iff.1 hc).2, refRun] at hinv
    cases hok : refOk R c
    · rw [hok] at hinv
      repeat' (first | refine W.seq ?_ | refine W.region ?_ | refine WO.nil ?_ | (refine WO.isMv ?_; first | refine WO.go rfl rfl ?_ | refine WO.mvR rfl ?_) | (refine WO.isBin ?_; first | refine WO.add64 rfl rfl rfl (by omega) (by omega) ?_ | refine WO.addU32 rfl rfl rfl (by omega) (by omega) ?_ | refine WO.addU64 rfl rfl rfl (by omega) (by omega) ?_ | refine WO.addU8 rfl rfl rfl (by omega) (by omega) ?_ | refine WO.testT rfl rfl ?_ | refine WO.testF rfl rfl ?_ | (refine WO.tlss rfl rfl rfl (fun hc => ?_) (fun hc => ?_) <;> try omega) | refine WO.go rfl rfl ?_) | (refine WO.isCall ?_; first | refine WO.ask rfl rfl (c_rApplyNo L R t1 t2 0 (by omega) _ _ _ rfl c hok) ?_) | (refine WO.isLoad ?_; first | refine WO.go rfl rfl ?_ | refine WO.ldc rfl rfl blk_l1 rfl rfl ?_ | refine WO.lda rfl rfl blk_l1 (of_decide_eq_true rfl) rfl ?_ | refine WO.ldc rfl rfl blk_l2 rfl rfl ?_ | refine WO.lda rfl rfl blk_l2 (of_decide_eq_true rfl) rfl ?_ | refine WO.ldc rfl rfl blk_l3 rfl rfl ?_ | refine WO.lda rfl rfl blk_l3 (of_decide_eq_true rfl) rfl ?_) | (refine WO.isIaddr ?_; first | refine WO.slidx rfl rfl rfl rfl hz' hrow ?_ | refine WO.go rfl rfl ?_) | (refine WO.isLen ?_; first | refine WO.lenS rfl rfl ll ?_ | refine WO.go rfl rfl ?_) | refine WO.go rfl rfl ?_ | refine W.skip ?_ | refine W.condT rfl ?_ | refine W.condF rfl ?_ | (refine W.fork rfl ?_ ?_ <;> intro hc <;> (fail_if_success (exfalso; cases hc; done)) <;> (first | subst hc | (simp at hc; try omega) | skip)) | refine W.ret ?_ | refine W.block ?_ | refine W.exit ?_)
      exact IH ⟨i + 1, L, R, t1, t2, ts⟩ _ _ (by show l.length - (i + 1) < l.length - i; omega) ⟨hlt, by show L.length ≤ i + 1; omega, by show R.length ≤ i + 1; omega, hinv⟩ ⟨rfl, rfl, rfl, trivial⟩ rfl
    · rw [hok, if_pos rfl] at hinv
      repeat' (first | refine W.seq ?_ | refine W.region ?_ | refine WO.nil ?_ | (refine WO.isMv ?_; first | refine WO.go rfl rfl ?_ | refine WO.mvR rfl ?_) | (refine WO.isBin ?_; first | refine WO.add64 rfl rfl rfl (by omega) (by omega) ?_ | refine WO.addU32 rfl rfl rfl (by omega) (by omega) ?_ | refine WO.addU64 rfl rfl rfl (by omega) (by omega) ?_ | refine WO.addU8 rfl rfl rfl (by omega) (by omega) ?_ | refine WO.testT rfl rfl ?_ | refine WO.testF rfl rfl ?_ | (refine WO.tlss rfl rfl rfl (fun hc => ?_) (fun hc => ?_) <;> try omega) | refine WO.go rfl rfl ?_) | (refine WO.isCall ?_; first | refine WO.ask rfl rfl (c_rApplyYes L R t1 t2 0 (by omega) (by omega) _ _ _ rfl c hok) ?_) | (refine WO.isLoad ?_; first | refine WO.go rfl rfl ?_ | refine WO.ldc rfl rfl blk_l1 rfl rfl ?_ | refine WO.lda rfl rfl blk_l1 (of_decide_eq_true rfl) rfl ?_ | refine WO.ldc rfl rfl blk_l2 rfl rfl ?_ | refine WO.lda rfl rfl blk_l2 (of_decide_eq_true rfl) rfl ?_ | refine WO.ldc rfl rfl blk_l3 rfl rfl ?_ | refine WO.lda rfl rfl blk_l3 (of_decide_eq_true rfl) rfl ?_) | (refine WO.isIaddr ?_; first | refine WO.slidx rfl rfl rfl rfl hz' hrow ?_ | refine WO.go rfl rfl ?_) | (refine WO.isLen ?_; first | refine WO.lenS rfl rfl ll ?_ | refine WO.go rfl rfl ?_) | refine WO.go rfl rfl ?_ | refine W.skip ?_ | refine W.condT rfl ?_ | refine W.condF rfl ?_ | (refine W.fork rfl ?_ ?_ <;> intro hc <;> (fail_if_success (exfalso; cases hc; done)) <;> (first | subst hc | (simp at hc; try omega) | skip)) | refine W.ret ?_ | refine W.block ?_ | refine W.exit ?_)
      exact IH ⟨i + 1, L ++ [c], R ++ [refReply L c], ts.length, ts.length + 1, ts ++ [true] ++ [true]⟩ _ _ (by show l.length - (i + 1) < l.length - i; omega) ⟨hlt, by show (L ++ [c]).length ≤ i + 1; rw [List.length_append]; exact Nat.succ_le_succ hL, by show (R ++ [refReply L c]).length ≤ i + 1; rw [List.length_append]; exact Nat.succ_le_succ hR, hinv⟩ ⟨rfl, rfl, rfl, trivial⟩ rfl
  · obtain rfl : i = l.length := by omega
    rw [List.drop_length] at hinv
    repeat' (first | refine W.seq ?_ | refine W.region ?_ | refine WO.nil ?_ | (refine WO.isMv ?_; first | refine WO.go rfl rfl ?_ | refine WO.mvR rfl ?_) | (refine WO.isBin ?_; first | refine WO.add64 rfl rfl rfl (by omega) (by omega) ?_ | refine WO.addU32 rfl rfl rfl (by omega) (by omega) ?_ | refine WO.addU64 rfl rfl rfl (by omega) (by omega) ?_ | refine WO.addU8 rfl rfl rfl (by omega) (by omega) ?_ | refine WO.testT rfl rfl ?_ | refine WO.testF rfl rfl ?_ | (refine WO.tlss rfl rfl rfl (fun hc => ?_) (fun hc => ?_) <;> try omega) | refine WO.go rfl rfl ?_) | (refine WO.isLoad ?_; first | refine WO.ldc rfl rfl rfl rfl sh_ap1 ?_ | refine WO.go rfl rfl ?_ | refine WO.ldc rfl rfl blk_l1 rfl rfl ?_ | refine WO.lda rfl rfl blk_l1 (of_decide_eq_true rfl) rfl ?_ | refine WO.ldc rfl rfl blk_l2 rfl rfl ?_ | refine WO.lda rfl rfl blk_l2 (of_decide_eq_true rfl) rfl ?_ | refine WO.ldc rfl rfl blk_l3 rfl rfl ?_ | refine WO.lda rfl rfl blk_l3 (of_decide_eq_true rfl) rfl ?_) | (refine WO.isIaddr ?_; first | refine WO.go rfl rfl ?_) | (refine WO.isLen ?_; first | refine WO.lenS rfl rfl ll ?_ | refine WO.go rfl rfl ?_) | refine WO.go rfl rfl ?_ | refine W.skip ?_ | refine W.condT rfl ?_ | refine W.condF rfl ?_ | (refine W.fork rfl ?_ ?_ <;> intro hc <;> (fail_if_success (exfalso; cases hc; done)) <;> (first | subst hc | (simp at hc; try omega) | skip)) | refine W.ret ?_ | refine W.block ?_ | refine W.exit ?_)
    exact ⟨.inr rfl, _, rfl, fin pop_apl (by rw [hinv]; rfl) rfl⟩
end Go.Proofs.Ytehkfdicaiehcaa.Nv
