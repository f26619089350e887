/- Replies, which of them count. -/
import Derived.Test.YthecdihimfddgaaChoose1
namespace Go.Proofs.Ythecdihimfddgaa.Nv
open Go
structure Rp where
  who : Int
  x : Ix
def Rp.c (r : Rp) : List NV := [.int .i64 r.who, .int .i64 r.x.id.o, .int .i64 r.x.id.n, .int .i64 r.x.st, .int .i64 r.x.cmd.op, .int .i64 r.x.cmd.client, .int .u32 r.x.cmd.seq, .str r.x.cmd.key, .str r.x.cmd.value, .int .u32 r.x.seq, .slc r.x.dz r.x.df (r.x.deps.map ID.c), .int .u32 r.x.bal.r, .int .i64 r.x.bal.w, .int .u32 r.x.vote.r, .int .i64 r.x.vote.w, .bool r.x.own]
def posF {α : Type} (p : α → Bool) : List α → Int → Int
  | [], _ => -1
  | c :: x, s => if p c then s else posF p x (s + 1)
theorem posF_iff {α : Type} (p : α → Bool) : ∀ (x : List α) (s : Int), 0 ≤ s → (0 ≤ posF p x s ↔ x.any p = true)
  | [], s, _ => by simp [posF]
  | c :: x, s, h => by
    unfold posF
    rw [List.any_cons]
    cases p c
    · rw [if_neg (by simp), Bool.false_or]
      exact posF_iff p x (s + 1) (by omega)
    · simp [h]
set_option maxRecDepth 8000 in
set_option maxHeartbeats 4000000 in
theorem c_IndexRp (x : List Rp) (z : Nat) (f : Bool) (hz : z = 16 ∨ x = []) (hx : x.length ≤ 281474976710656) (g l i : Nat) (B : NObj) (p : Rp → Bool) (hg : ∀ c : Rp, ∀ (l' : Nat) (M' : Mem), blk? M' l' i = some B → E0 g [.agg c.c, .ptr l' i 0] M' (.bool (p c)) M') (M : Mem) (hb : blk? M l i = some B) :
    E0 58 [.slc z f (x.map Rp.c), .fn g [.ptr l i 0]] M (.int .i64 (posF p x 0)) M := by
  refine EvF.by (nf := nf58) (args := [.slc z f (x.map Rp.c), .fn g [.ptr l i 0]]) rfl (of_decide_eq_true rfl) rfl ?_
  have hb' : ∀ fr, blk? (fr :: M) (l + 1) i = some B := fun fr => hb
  repeat' (first | refine W.seq ?_ | refine W.region ?_ | refine WO.nil ?_ | (refine WO.isMv ?_; first | refine WO.go rfl rfl ?_ | refine WO.mvR rfl ?_) | (refine WO.isBin ?_; first | refine WO.add64 rfl rfl rfl (by omega) (by omega) ?_ | refine WO.addU32 rfl rfl rfl (by omega) (by omega) ?_ | refine WO.addU64 rfl rfl rfl (by omega) (by omega) ?_ | refine WO.addU8 rfl rfl rfl (by omega) (by omega) ?_ | refine WO.testT rfl rfl ?_ | refine WO.testF rfl rfl ?_ | (refine WO.tlss rfl rfl rfl (fun hc => ?_) (fun hc => ?_) <;> try omega) | refine WO.go rfl rfl ?_) | (refine WO.isLoad ?_; first | refine WO.go rfl rfl ?_ | refine WO.ldc rfl rfl blk_l1 rfl rfl ?_ | refine WO.lda rfl rfl blk_l1 (of_decide_eq_true rfl) rfl ?_ | refine WO.ldc rfl rfl blk_l2 rfl rfl ?_ | refine WO.lda rfl rfl blk_l2 (of_decide_eq_true rfl) rfl ?_ | refine WO.ldc rfl rfl blk_l3 rfl rfl ?_ | refine WO.lda rfl rfl blk_l3 (of_decide_eq_true rfl) rfl ?_) | (refine WO.isIaddr ?_; first | refine WO.go rfl rfl ?_) | (refine WO.isLen ?_; first | refine WO.lenS rfl rfl (List.length_map ..) ?_ | refine WO.go rfl rfl ?_) | refine WO.go rfl rfl ?_ | refine W.skip ?_ | refine W.condT rfl ?_ | refine W.condF rfl ?_ | (refine W.fork rfl ?_ ?_ <;> intro hc <;> (fail_if_success (exfalso; cases hc; done)) <;> (first | subst hc | (simp at hc; try omega) | skip)) | refine W.ret ?_ | refine W.block ?_ | refine W.exit ?_)
  refine W.ind (σ := Nat) (fun k => [(0, .slc z f (x.map Rp.c)), (1, .fn g [.ptr (l + 1) i 0]), (7, .int .i64 x.length), (8, .int .i64 k)]) (fun _ => ⟨[], []⟩ :: M) (fun k => k ≤ x.length ∧ posF p x 0 = posF p (x.drop k) k) (fun k => x.length - k) 0 ⟨Nat.zero_le _, rfl⟩ ⟨rfl, rfl, rfl, rfl, trivial⟩ rfl ?_
  rintro k e ⟨hk, hinv⟩ IH
  refine W.round ?_
  by_cases hlt : k < x.length
  · obtain ⟨c, hc⟩ := get_lt hlt
    have hrow := map_get (f := Rp.c) hc
    have hz' : z = 16 := hz.resolve_right (by rintro rfl; simp at hlt)
    rw [List.drop_eq_getElem_cons hlt, show x[k] = c from (List.getElem?_eq_some_iff.1 hc).2, posF] at hinv
    have hq := hg c
    cases hp : p c
    · rw [hp] at hinv hq
      repeat' (first | refine W.seq ?_ | refine W.region ?_ | refine WO.nil ?_ | (refine WO.isMv ?_; first | refine WO.go rfl rfl ?_ | refine WO.mvR rfl ?_) | (refine WO.isBin ?_; first | refine WO.add64 rfl rfl rfl (by omega) (by omega) ?_ | refine WO.addU32 rfl rfl rfl (by omega) (by omega) ?_ | refine WO.addU64 rfl rfl rfl (by omega) (by omega) ?_ | refine WO.addU8 rfl rfl rfl (by omega) (by omega) ?_ | refine WO.testT rfl rfl ?_ | refine WO.testF rfl rfl ?_ | (refine WO.tlss rfl rfl rfl (fun hc => ?_) (fun hc => ?_) <;> try omega) | refine WO.go rfl rfl ?_) | (refine WO.isDyn ?_; first | refine WO.ask rfl rfl (hq _ _ (hb' _)) ?_) | (refine WO.isLoad ?_; first | refine WO.go rfl rfl ?_ | refine WO.ldc rfl rfl blk_l1 rfl rfl ?_ | refine WO.lda rfl rfl blk_l1 (of_decide_eq_true rfl) rfl ?_ | refine WO.ldc rfl rfl blk_l2 rfl rfl ?_ | refine WO.lda rfl rfl blk_l2 (of_decide_eq_true rfl) rfl ?_ | refine WO.ldc rfl rfl blk_l3 rfl rfl ?_ | refine WO.lda rfl rfl blk_l3 (of_decide_eq_true rfl) rfl ?_) | (refine WO.isIaddr ?_; first | refine WO.slidx rfl rfl rfl rfl hz' hrow ?_ | refine WO.go rfl rfl ?_) | (refine WO.isLen ?_; first | refine WO.go rfl rfl ?_) | refine WO.go rfl rfl ?_ | refine W.skip ?_ | refine W.condT rfl ?_ | refine W.condF rfl ?_ | (refine W.fork rfl ?_ ?_ <;> intro hc <;> (fail_if_success (exfalso; cases hc; done)) <;> (first | subst hc | (simp at hc; try omega) | skip)) | refine W.ret ?_ | refine W.block ?_ | refine W.exit ?_)
      exact IH (k + 1) _ _ (by omega) ⟨hlt, hinv⟩ ⟨rfl, rfl, rfl, rfl, trivial⟩ rfl
    · rw [hp] at hinv hq
      repeat' (first | refine W.seq ?_ | refine W.region ?_ | refine WO.nil ?_ | (refine WO.isMv ?_; first | refine WO.go rfl rfl ?_ | refine WO.mvR rfl ?_) | (refine WO.isBin ?_; first | refine WO.add64 rfl rfl rfl (by omega) (by omega) ?_ | refine WO.addU32 rfl rfl rfl (by omega) (by omega) ?_ | refine WO.addU64 rfl rfl rfl (by omega) (by omega) ?_ | refine WO.addU8 rfl rfl rfl (by omega) (by omega) ?_ | refine WO.testT rfl rfl ?_ | refine WO.testF rfl rfl ?_ | (refine WO.tlss rfl rfl rfl (fun hc => ?_) (fun hc => ?_) <;> try omega) | refine WO.go rfl rfl ?_) | (refine WO.isDyn ?_; first | refine WO.ask rfl rfl (hq _ _ (hb' _)) ?_) | (refine WO.isLoad ?_; first | refine WO.go rfl rfl ?_ | refine WO.ldc rfl rfl blk_l1 rfl rfl ?_ | refine WO.lda rfl rfl blk_l1 (of_decide_eq_true rfl) rfl ?_ | refine WO.ldc rfl rfl blk_l2 rfl rfl ?_ | refine WO.lda rfl rfl blk_l2 (of_decide_eq_true rfl) rfl ?_ | refine WO.ldc rfl rfl blk_l3 rfl rfl ?_ | refine WO.lda rfl rfl blk_l3 (of_decide_eq_true rfl) rfl ?_) | (refine WO.isIaddr ?_; first | refine WO.slidx rfl rfl rfl rfl hz' hrow ?_ | refine WO.go rfl rfl ?_) | (refine WO.isLen ?_; first | refine WO.go rfl rfl ?_) | refine WO.go rfl rfl ?_ | refine W.skip ?_ | refine W.condT rfl ?_ | refine W.condF rfl ?_ | (refine W.fork rfl ?_ ?_ <;> intro hc <;> (fail_if_success (exfalso; cases hc; done)) <;> (first | subst hc | (simp at hc; try omega) | skip)) | refine W.ret ?_ | refine W.block ?_ | refine W.exit ?_)
      exact ⟨.inr rfl, _, rfl, fin rfl (by rw [hinv]; rfl) rfl⟩
  · obtain rfl : k = x.length := by omega
    rw [List.drop_length] at hinv
    repeat' (first | refine W.seq ?_ | refine W.region ?_ | refine WO.nil ?_ | (refine WO.isMv ?_; first | refine WO.go rfl rfl ?_ | refine WO.mvR rfl ?_) | (refine WO.isBin ?_; first | refine WO.add64 rfl rfl rfl (by omega) (by omega) ?_ | refine WO.addU32 rfl rfl rfl (by omega) (by omega) ?_ | refine WO.addU64 rfl rfl rfl (by omega) (by omega) ?_ | refine WO.addU8 rfl rfl rfl (by omega) (by omega) ?_ | refine WO.testT rfl rfl ?_ | refine WO.testF rfl rfl ?_ | (refine WO.tlss rfl rfl rfl (fun hc => ?_) (fun hc => ?_) <;> try omega) | refine WO.go rfl rfl ?_) | (refine WO.isLoad ?_; first | refine WO.go rfl rfl ?_ | refine WO.ldc rfl rfl blk_l1 rfl rfl ?_ | refine WO.lda rfl rfl blk_l1 (of_decide_eq_true rfl) rfl ?_ | refine WO.ldc rfl rfl blk_l2 rfl rfl ?_ | refine WO.lda rfl rfl blk_l2 (of_decide_eq_true rfl) rfl ?_ | refine WO.ldc rfl rfl blk_l3 rfl rfl ?_ | refine WO.lda rfl rfl blk_l3 (of_decide_eq_true rfl) rfl ?_) | (refine WO.isIaddr ?_; first | refine WO.go rfl rfl ?_) | (refine WO.isLen ?_; first | refine WO.go rfl rfl ?_) | refine WO.go rfl rfl ?_ | refine W.skip ?_ | refine W.condT rfl ?_ | refine W.condF rfl ?_ | (refine W.fork rfl ?_ ?_ <;> intro hc <;> (fail_if_success (exfalso; cases hc; done)) <;> (first | subst hc | (simp at hc; try omega) | skip)) | refine W.ret ?_ | refine W.block ?_ | refine W.exit ?_)
    exact ⟨.inr rfl, _, rfl, fin rfl (by rw [hinv]; rfl) rfl⟩
set_option maxRecDepth 8000 in
theorem c_ContainsRp (x : List Rp) (z : Nat) (f : Bool) (hz : z = 16 ∨ x = []) (hx : x.length ≤ 281474976710656) (g l i : Nat) (B : NObj) (p : Rp → Bool) (hg : ∀ c : Rp, ∀ (l' : Nat) (M' : Mem), blk? M' l' i = some B → E0 g [.agg c.c, .ptr l' i 0] M' (.bool (p c)) M') (M : Mem) (hb : blk? M l i = some B) :
    E0 49 [.slc z f (x.map Rp.c), .fn g [.ptr l i 0]] M (.bool (x.any p)) M := by
  refine EvF.by (nf := nf49) (args := [.slc z f (x.map Rp.c), .fn g [.ptr l i 0]]) rfl (of_decide_eq_true rfl) rfl ?_
  have hb' : ∀ fr, blk? (fr :: M) (l + 1) i = some B := fun fr => hb
  have hi := c_IndexRp x z f hz hx g (l + 1) i B p hg
  have hq := posF_iff p x 0 (Int.le_refl 0)
  cases ha : x.any p
  · have hn : ¬ 0 ≤ posF p x 0 := fun q => by rw [hq.1 q] at ha; cases ha
    repeat' (first | refine W.seq ?_ | refine W.region ?_ | refine WO.nil ?_ | (refine WO.isMv ?_; first | refine WO.go rfl rfl ?_ | refine WO.mvR rfl ?_) | (refine WO.isBin ?_; first | refine WO.testT rfl rfl ?_ | refine WO.testF rfl rfl ?_ | (refine WO.tgeq rfl rfl rfl (fun hc => ?_) (fun hc => ?_) <;> try omega) | refine WO.go rfl rfl ?_) | (refine WO.isCall ?_; first | refine WO.ask rfl rfl (hi _ (hb' _)) ?_) | refine WO.go rfl rfl ?_ | refine W.ret ?_)
    exact ⟨.inr rfl, _, rfl, fin rfl rfl rfl⟩
  · have hn : 0 ≤ posF p x 0 := hq.2 ha
    repeat' (first | refine W.seq ?_ | refine W.region ?_ | refine WO.nil ?_ | (refine WO.isMv ?_; first | refine WO.go rfl rfl ?_ | refine WO.mvR rfl ?_) | (refine WO.isBin ?_; first | refine WO.testT rfl rfl ?_ | refine WO.testF rfl rfl ?_ | (refine WO.tgeq rfl rfl rfl (fun hc => ?_) (fun hc => ?_) <;> try omega) | refine WO.go rfl rfl ?_) | (refine WO.isCall ?_; first | refine WO.ask rfl rfl (hi _ (hb' _)) ?_) | refine WO.go rfl rfl ?_ | refine W.ret ?_)
    exact ⟨.inr rfl, _, rfl, fin rfl rfl rfl⟩
theorem E0.args {f : FuncId} {l l' : List NV} {m m' : Mem} {v : NV} (h : shArgs l = shArgs l') (H : E0 f l' m v m') : E0 f l m v m' := by
  obtain ⟨n, H⟩ := H
  cases n with
  | zero => exact H.elim
  | succ n =>
    rcases H with ⟨hx, _⟩ | ⟨nf, a0, x, e1, m1, v1, a, b, c, d⟩
    · exact hx.elim
    · exact ⟨n + 1, .inr ⟨nf, a0, x, e1, m1, v1, a, b, h.trans c, d⟩⟩
set_option maxRecDepth 8000 in
theorem c_counted1 (r : Rp) (i : Nat) (c : Rp) (l : Nat) (M : Mem) (hb : blk? M l i = some (.cells r.c)) : E0 50 [.agg c.c, .ptr l i 0] M (.bool (decide (c.who = r.who))) M := by
  have hb' : ∀ fr, blk? (fr :: M) (l + 1) i = some (.cells r.c) := fun fr => hb
  refine EvF.by (nf := nf50) (args := [.agg c.c, .ptr l i 0]) rfl (of_decide_eq_true rfl) rfl ?_
  repeat' (first | refine W.seq ?_ | refine W.region ?_ | refine WO.nil ?_ | (refine WO.isMv ?_; first | refine WO.go rfl rfl ?_ | refine WO.mvR rfl ?_) | (refine WO.isBin ?_; first | refine WO.testT rfl rfl ?_ | refine WO.testF rfl rfl ?_ | (refine WO.teql rfl rfl rfl (fun hc => ?_) (fun hc => ?_) <;> try omega) | refine WO.tseql rfl rfl rfl (fun hc => ?_) (fun hc => ?_) | refine WO.go rfl rfl ?_) | (refine WO.isLoad ?_; first | refine WO.ldc rfl rfl (hb' _) rfl rfl ?_ | refine WO.go rfl rfl ?_) | refine WO.go rfl rfl ?_ | refine W.ret ?_)
  all_goals first
    | exact ⟨.inr rfl, _, rfl, fin rfl (congrArg NV.bool (decide_eq_true (by assumption)).symm) rfl⟩
    | exact ⟨.inr rfl, _, rfl, fin rfl (congrArg NV.bool (decide_eq_false (by assumption)).symm) rfl⟩
def cntP (n : Int) (out : List Rp) (r : Rp) : Bool := !(out.any fun o => decide (o.who = r.who)) && decide (1 ≤ r.who ∧ r.who ≤ n)
def cntd (n : Int) (l : List Rp) : List Rp := l.foldl (fun out r => if cntP n out r then out ++ [r] else out) []
theorem cntd_take {n : Int} {l : List Rp} {k : Nat} {r : Rp} (h : l[k]? = some r) : cntd n (l.take (k + 1)) = if cntP n (cntd n (l.take k)) r then cntd n (l.take k) ++ [r] else cntd n (l.take k) := by
  unfold cntd
  rw [List.take_add_one, h, List.foldl_append]
  rfl
theorem cntd_len (n : Int) (l : List Rp) : ∀ k, k ≤ l.length → (cntd n (l.take k)).length ≤ k
  | 0, _ => by simp [cntd]
  | k + 1, h => by
    have ih := cntd_len n l k (by omega)
    obtain ⟨r, hr⟩ := get_lt (l := l) (i := k) (by omega)
    rw [cntd_take hr]
    split
    · rw [List.length_append, List.length_singleton]; omega
    · omega
theorem sh_apF {R : List (List NV)} {t : Nat} {g i : Nat} : shArgs [apV 16 R t, .fn g [.ptr 0 i 0]] = shArgs [mkS 16 R, .fn g [.ptr 0 i 0]] := by cases R <;> rfl
structure Cw where
  k : Nat
  t : Nat
  ts : List Bool
  junk : List NObj
set_option maxRecDepth 8000 in
set_option maxHeartbeats 16000000 in
theorem c_counted (n : Int) (l : List Rp) (z : Nat) (f : Bool) (hz : z = 16 ∨ l = []) (hl : l.length ≤ 100000) (M : Mem) :
    E0 34 [.int .i64 n, .slc z f (l.map Rp.c)] M (mkS 16 ((cntd n l).map Rp.c)) M := by
  refine EvF.by (nf := nf34) (args := [.int .i64 n, .slc z f (l.map Rp.c)]) rfl (of_decide_eq_true rfl) rfl ?_
  have ll : (l.map Rp.c).length = l.length := List.length_map ..
  repeat' (first | refine W.seq ?_ | refine W.region ?_ | refine WO.nil ?_ | refine WO.onG rfl ?_ | refine WO.offG rfl ?_ | (refine WO.fork rfl ?_ ?_ <;> intro hc <;> (fail_if_success (exfalso; cases hc; done)) <;> (first | subst hc | (simp at hc; try omega) | skip)) | (refine WO.isMv ?_; first | refine WO.go rfl rfl ?_ | refine WO.mvR rfl ?_) | (refine WO.isBin ?_; first | refine WO.add64 rfl rfl rfl (by omega) (by omega) ?_ | refine WO.addU32 rfl rfl rfl (by omega) (by omega) ?_ | refine WO.addU64 rfl rfl rfl (by omega) (by omega) ?_ | refine WO.addU8 rfl rfl rfl (by omega) (by omega) ?_ | refine WO.testT rfl rfl ?_ | refine WO.testF rfl rfl ?_ | (refine WO.tlss rfl rfl rfl (fun hc => ?_) (fun hc => ?_) <;> try omega) | (refine WO.tleq rfl rfl rfl (fun hc => ?_) (fun hc => ?_) <;> try omega) | (refine WO.tgeq rfl rfl rfl (fun hc => ?_) (fun hc => ?_) <;> try omega) | refine WO.go rfl rfl ?_) | (refine WO.isUn ?_; first | refine WO.go rfl rfl ?_) | (refine WO.isLoad ?_; first | refine WO.go rfl rfl ?_ | refine WO.ldc rfl rfl blk_l1 rfl rfl ?_ | refine WO.lda rfl rfl blk_l1 (of_decide_eq_true rfl) rfl ?_ | refine WO.ldc rfl rfl blk_l2 rfl rfl ?_ | refine WO.lda rfl rfl blk_l2 (of_decide_eq_true rfl) rfl ?_ | refine WO.ldc rfl rfl blk_l3 rfl rfl ?_ | refine WO.lda rfl rfl blk_l3 (of_decide_eq_true rfl) rfl ?_) | (refine WO.isStore ?_; first | refine WO.st rfl rfl ?_ | refine WO.stB rfl rfl rfl rfl rfl blk_l1 (of_decide_eq_true rfl) rfl set_l1 ?_ | refine WO.stB rfl rfl rfl rfl rfl blk_l2 (of_decide_eq_true rfl) rfl set_l2 ?_ | refine WO.stB rfl rfl rfl rfl rfl blk_l3 (of_decide_eq_true rfl) rfl set_l3 ?_) | (refine WO.isIaddr ?_; first | refine WO.go rfl rfl ?_) | (refine WO.isLen ?_; first | refine WO.lenS rfl rfl ll ?_ | refine WO.go rfl rfl ?_) | (refine WO.isApp ?_; first | refine WO.go rfl rfl ?_) | refine WO.go rfl rfl ?_ | refine WO.st rfl rfl ?_ | refine W.skip ?_ | refine W.condT rfl ?_ | refine W.condF rfl ?_ | (refine W.fork rfl ?_ ?_ <;> intro hc <;> (fail_if_success (exfalso; cases hc; done)) <;> (first | subst hc | (simp at hc; try omega) | skip)) | refine W.ret ?_ | refine W.block ?_ | refine W.exit ?_)
  refine W.ind (σ := Cw) (fun s => [(0, .int .i64 n), (5, apV 16 ((cntd n (l.take s.k)).map Rp.c) s.t), (9, .slc z f (l.map Rp.c)), (10, .int .i64 l.length), (11, .int .i64 s.k)]) (fun s => ⟨s.junk, s.ts⟩ :: M) (fun s => s.k ≤ l.length ∧ tokOf ((cntd n (l.take s.k)).map Rp.c) s.ts s.t) (fun s => l.length - s.k) ⟨0, 0, [], []⟩ ⟨Nat.zero_le _, .inl rfl⟩ ⟨rfl, rfl, rfl, rfl, rfl, trivial⟩ rfl ?_
  rintro ⟨k, t, ts, junk⟩ e ⟨hk, ht⟩ IH
  dsimp only at hk ht ⊢
  refine W.round ?_
  by_cases hlt : k < l.length
  · obtain ⟨r, hr⟩ := get_lt hlt
    have hrow := map_get (f := Rp.c) hr
    have hz' : z = 16 := hz.resolve_right (by rintro rfl; simp at hlt)
    have hcl := cntd_len n l k hk
    have hcon : ∀ (B : List NObj) (T : List Bool), E0 49 [apV 16 ((cntd n (l.take k)).map Rp.c) t, .fn 50 [.ptr 0 B.length 0]] (⟨B ++ [.cells r.c], T⟩ :: M) (.bool ((cntd n (l.take k)).any fun o => decide (o.who = r.who))) (⟨B ++ [.cells r.c], T⟩ :: M) := fun B T =>
      E0.args sh_apF (c_ContainsRp (cntd n (l.take k)) (mz 16 ((cntd n (l.take k)).map Rp.c)) ((cntd n (l.take k)).map Rp.c).isEmpty ((mz_or _ _).imp id map_nil.1) (by omega) 50 0 B.length (.cells r.c) (fun o => decide (o.who = r.who)) (fun c l' M' h => c_counted1 r B.length c l' M' h) _ (by show (B ++ [NObj.cells r.c])[B.length]? = _; rw [List.getElem?_append_right (Nat.le_refl _), Nat.sub_self]; rfl))
    have hlen : ((cntd n (l.take k)).map Rp.c).length ≤ k := by rw [List.length_map]; exact hcl
    have htk := cntd_take (n := n) hr
    unfold cntP at htk
    cases ha : (cntd n (l.take k)).any fun o => decide (o.who = r.who)
    · rw [ha] at htk
      rw [ha] at hcon
      repeat' (first | refine W.seq ?_ | refine W.region ?_ | refine WO.nil ?_ | refine WO.app (rows := (cntd n (l.take k)).map Rp.c) (t := t) rfl rfl rfl rfl rfl ht (by show (_ + 1) * _ ≤ _; omega) (by show _ + 1 ≤ _; omega) fun ts t ht => ?_ | refine WO.onG rfl ?_ | refine WO.offG rfl ?_ | (refine WO.fork rfl ?_ ?_ <;> intro hc <;> (fail_if_success (exfalso; cases hc; done)) <;> (first | subst hc | (simp at hc; try omega) | skip)) | (refine WO.isMv ?_; first | refine WO.go rfl rfl ?_ | refine WO.mvR rfl ?_) | (refine WO.isBin ?_; first | refine WO.add64 rfl rfl rfl (by omega) (by omega) ?_ | refine WO.addU32 rfl rfl rfl (by omega) (by omega) ?_ | refine WO.addU64 rfl rfl rfl (by omega) (by omega) ?_ | refine WO.addU8 rfl rfl rfl (by omega) (by omega) ?_ | refine WO.testT rfl rfl ?_ | refine WO.testF rfl rfl ?_ | (refine WO.tlss rfl rfl rfl (fun hc => ?_) (fun hc => ?_) <;> try omega) | (refine WO.tleq rfl rfl rfl (fun hc => ?_) (fun hc => ?_) <;> try omega) | (refine WO.tgeq rfl rfl rfl (fun hc => ?_) (fun hc => ?_) <;> try omega) | refine WO.go rfl rfl ?_) | (refine WO.isUn ?_; first | refine WO.go rfl rfl ?_) | (refine WO.isCall ?_; first | refine WO.ask rfl rfl (hcon _ _) ?_ | refine WO.ask' rfl rfl (hcon _ _) ?_) | (refine WO.isLoad ?_; first | refine WO.go rfl rfl ?_ | refine WO.ldc rfl rfl blk_l1 rfl rfl ?_ | refine WO.lda rfl rfl blk_l1 (of_decide_eq_true rfl) rfl ?_ | refine WO.ldc rfl rfl blk_l2 rfl rfl ?_ | refine WO.lda rfl rfl blk_l2 (of_decide_eq_true rfl) rfl ?_ | refine WO.ldc rfl rfl blk_l3 rfl rfl ?_ | refine WO.lda rfl rfl blk_l3 (of_decide_eq_true rfl) rfl ?_) | (refine WO.isStore ?_; first | refine WO.st rfl rfl ?_ | refine WO.stB rfl rfl rfl rfl rfl blk_l1 (of_decide_eq_true rfl) rfl set_l1 ?_ | refine WO.stB rfl rfl rfl rfl rfl blk_l2 (of_decide_eq_true rfl) rfl set_l2 ?_ | refine WO.stB rfl rfl rfl rfl rfl blk_l3 (of_decide_eq_true rfl) rfl set_l3 ?_) | (refine WO.isIaddr ?_; first | refine WO.slidx rfl rfl rfl rfl hz' hrow ?_ | refine WO.go rfl rfl ?_) | (refine WO.isLen ?_; first | refine WO.lenS rfl rfl ll ?_ | refine WO.go rfl rfl ?_) | (refine WO.isApp ?_; first | refine WO.go rfl rfl ?_) | refine WO.go rfl rfl ?_ | refine WO.st rfl rfl ?_ | refine W.skip ?_ | refine W.condT rfl ?_ | refine W.condF rfl ?_ | (refine W.fork rfl ?_ ?_ <;> intro hc <;> (fail_if_success (exfalso; cases hc; done)) <;> (first | subst hc | (simp at hc; try omega) | skip)) | refine W.ret ?_ | refine W.block ?_ | refine W.exit ?_)
      · rw [if_pos (by simp; omega)] at htk
        refine IH ⟨k + 1, t, ts, _⟩ _ _ (by show l.length - (k + 1) < l.length - k; omega) ⟨hlt, ?_⟩ ⟨rfl, ?_, rfl, rfl, rfl, trivial⟩ rfl
        · rw [htk, List.map_append]; exact ht
        · rw [htk, List.map_append]; rfl
      all_goals
        rw [if_neg (by simp; omega)] at htk
        refine IH ⟨k + 1, t, ts, _⟩ _ _ (by show l.length - (k + 1) < l.length - k; omega) ⟨hlt, ?_⟩ ⟨rfl, ?_, rfl, rfl, rfl, trivial⟩ rfl
        · rw [htk]; exact ht
        · rw [htk]; rfl
    · rw [ha] at htk
      rw [ha] at hcon
      rw [if_neg (by simp)] at htk
      repeat' (first | refine W.seq ?_ | refine W.region ?_ | refine WO.nil ?_ | refine WO.onG rfl ?_ | refine WO.offG rfl ?_ | (refine WO.fork rfl ?_ ?_ <;> intro hc <;> (fail_if_success (exfalso; cases hc; done)) <;> (first | subst hc | (simp at hc; try omega) | skip)) | (refine WO.isMv ?_; first | refine WO.go rfl rfl ?_ | refine WO.mvR rfl ?_) | (refine WO.isBin ?_; first | refine WO.add64 rfl rfl rfl (by omega) (by omega) ?_ | refine WO.addU32 rfl rfl rfl (by omega) (by omega) ?_ | refine WO.addU64 rfl rfl rfl (by omega) (by omega) ?_ | refine WO.addU8 rfl rfl rfl (by omega) (by omega) ?_ | refine WO.testT rfl rfl ?_ | refine WO.testF rfl rfl ?_ | (refine WO.tlss rfl rfl rfl (fun hc => ?_) (fun hc => ?_) <;> try omega) | (refine WO.tleq rfl rfl rfl (fun hc => ?_) (fun hc => ?_) <;> try omega) | (refine WO.tgeq rfl rfl rfl (fun hc => ?_) (fun hc => ?_) <;> try omega) | refine WO.go rfl rfl ?_) | (refine WO.isUn ?_; first | refine WO.go rfl rfl ?_) | (refine WO.isCall ?_; first | refine WO.ask rfl rfl (hcon _ _) ?_ | refine WO.ask' rfl rfl (hcon _ _) ?_) | (refine WO.isLoad ?_; first | refine WO.go rfl rfl ?_ | refine WO.ldc rfl rfl blk_l1 rfl rfl ?_ | refine WO.lda rfl rfl blk_l1 (of_decide_eq_true rfl) rfl ?_ | refine WO.ldc rfl rfl blk_l2 rfl rfl ?_ | refine WO.lda rfl rfl blk_l2 (of_decide_eq_true rfl) rfl ?_ | refine WO.ldc rfl rfl blk_l3 rfl rfl ?_ | refine WO.lda rfl rfl blk_l3 (of_decide_eq_true rfl) rfl ?_) | (refine WO.isStore ?_; first | refine WO.st rfl rfl ?_ | refine WO.stB rfl rfl rfl rfl rfl blk_l1 (of_decide_eq_true rfl) rfl set_l1 ?_ | refine WO.stB rfl rfl rfl rfl rfl blk_l2 (of_decide_eq_true rfl) rfl set_l2 ?_ | refine WO.stB rfl rfl rfl rfl rfl blk_l3 (of_decide_eq_true rfl) rfl set_l3 ?_) | (refine WO.isIaddr ?_; first | refine WO.slidx rfl rfl rfl rfl hz' hrow ?_ | refine WO.go rfl rfl ?_) | (refine WO.isLen ?_; first | refine WO.lenS rfl rfl ll ?_ | refine WO.go rfl rfl ?_) | (refine WO.isApp ?_; first | refine WO.go rfl rfl ?_) | refine WO.go rfl rfl ?_ | refine WO.st rfl rfl ?_ | refine W.skip ?_ | refine W.condT rfl ?_ | refine W.condF rfl ?_ | (refine W.fork rfl ?_ ?_ <;> intro hc <;> (fail_if_success (exfalso; cases hc; done)) <;> (first | subst hc | (simp at hc; try omega) | skip)) | refine W.ret ?_ | refine W.block ?_ | refine W.exit ?_)
      all_goals
        refine IH ⟨k + 1, t, ts, _⟩ _ _ (by show l.length - (k + 1) < l.length - k; omega) ⟨hlt, ?_⟩ ⟨rfl, ?_, rfl, rfl, rfl, trivial⟩ rfl
        · rw [htk]; exact ht
        · rw [htk]; rfl
  · obtain rfl : k = l.length := by omega
    rw [List.take_length] at ht
    repeat' (first | refine W.seq ?_ | refine W.region ?_ | refine WO.nil ?_ | refine WO.onG rfl ?_ | refine WO.offG rfl ?_ | (refine WO.fork rfl ?_ ?_ <;> intro hc <;> (fail_if_success (exfalso; cases hc; done)) <;> (first | subst hc | (simp at hc; try omega) | skip)) | (refine WO.isMv ?_; first | refine WO.go rfl rfl ?_ | refine WO.mvR rfl ?_) | (refine WO.isBin ?_; first | refine WO.add64 rfl rfl rfl (by omega) (by omega) ?_ | refine WO.addU32 rfl rfl rfl (by omega) (by omega) ?_ | refine WO.addU64 rfl rfl rfl (by omega) (by omega) ?_ | refine WO.addU8 rfl rfl rfl (by omega) (by omega) ?_ | refine WO.testT rfl rfl ?_ | refine WO.testF rfl rfl ?_ | (refine WO.tlss rfl rfl rfl (fun hc => ?_) (fun hc => ?_) <;> try omega) | (refine WO.tleq rfl rfl rfl (fun hc => ?_) (fun hc => ?_) <;> try omega) | (refine WO.tgeq rfl rfl rfl (fun hc => ?_) (fun hc => ?_) <;> try omega) | refine WO.go rfl rfl ?_) | (refine WO.isUn ?_; first | refine WO.go rfl rfl ?_) | (refine WO.isLoad ?_; first | refine WO.go rfl rfl ?_ | refine WO.ldc rfl rfl blk_l1 rfl rfl ?_ | refine WO.lda rfl rfl blk_l1 (of_decide_eq_true rfl) rfl ?_ | refine WO.ldc rfl rfl blk_l2 rfl rfl ?_ | refine WO.lda rfl rfl blk_l2 (of_decide_eq_true rfl) rfl ?_ | refine WO.ldc rfl rfl blk_l3 rfl rfl ?_ | refine WO.lda rfl rfl blk_l3 (of_decide_eq_true rfl) rfl ?_) | (refine WO.isStore ?_; first | refine WO.st rfl rfl ?_ | refine WO.stB rfl rfl rfl rfl rfl blk_l1 (of_decide_eq_true rfl) rfl set_l1 ?_ | refine WO.stB rfl rfl rfl rfl rfl blk_l2 (of_decide_eq_true rfl) rfl set_l2 ?_ | refine WO.stB rfl rfl rfl rfl rfl blk_l3 (of_decide_eq_true rfl) rfl set_l3 ?_) | (refine WO.isIaddr ?_; first | refine WO.go rfl rfl ?_) | (refine WO.isLen ?_; first | refine WO.go rfl rfl ?_) | (refine WO.isApp ?_; first | refine WO.go rfl rfl ?_) | refine WO.go rfl rfl ?_ | refine WO.st rfl rfl ?_ | refine W.skip ?_ | refine W.condT rfl ?_ | refine W.condF rfl ?_ | (refine W.fork rfl ?_ ?_ <;> intro hc <;> (fail_if_success (exfalso; cases hc; done)) <;> (first | subst hc | (simp at hc; try omega) | skip)) | refine W.ret ?_ | refine W.block ?_ | refine W.exit ?_)
    exact ⟨.inr rfl, _, rfl, fin pop_ap (by rw [List.take_length]) rfl⟩
end Go.Proofs.Ythecdihimfddgaa.Nv
