/- Commands: wishes. -/
import Derived.Test.YtehkfdicaiehcaaCmd1
namespace Go.Proofs.Ytehkfdicaiehcaa.Nv
open Go
theorem map_get {α β : Type} {f : α → β} {l : List α} {i : Nat} {x : α} (h : l[i]? = some x) : (l.map f)[i]? = some (f x) := by rw [List.getElem?_map, h]; rfl
theorem map_nil {α β : Type} {f : α → β} {l : List α} : l.map f = [] ↔ l = [] := List.map_eq_nil_iff
theorem get_lt {α : Type} {l : List α} {i : Nat} (h : i < l.length) : ∃ x, l[i]? = some x := ⟨_, List.getElem?_eq_getElem h⟩
/-- A wish, by its parts. -/
def wishKey (s : Int) : ByteArray := ⟨[UInt8.ofNat (97 + Int.fdiv s (2 ^ (min (Int.toNat 8) IntKind.u32.bits)) % 3).toNat].toArray⟩
def wishOwn (x : Cmd) : Cmd :=
  if IntKind.u64.wrap x.op % 5 = 0 then cmd0 else
    ⟨if IntKind.u64.wrap x.op % 5 = 4 then 1 else IntKind.u64.wrap x.op % 5, 1 + IntKind.u64.wrap x.client % 4, 1 + x.seq % 5, wishKey x.seq,
      if IntKind.u64.wrap x.op % 5 = 1 then x.value.extract 0 (min x.value.size 8) else ByteArray.empty⟩
def wishF (x : Cmd) (own : Bool) : Cmd := if own then wishOwn x else x
def wishC (x : Cmd) (own : Bool) : List NV := [.int .i64 x.op, .int .i64 x.client, .int .u32 x.seq, .str x.key, .str x.value, .bool own]
/-- What kinds a command's parts are of. -/
def okCmd (x : Cmd) : Prop := (-9223372036854775808 ≤ x.op ∧ x.op ≤ 9223372036854775807) ∧ (-9223372036854775808 ≤ x.client ∧ x.client ≤ 9223372036854775807) ∧ (0 ≤ x.seq ∧ x.seq ≤ 4294967295) ∧ x.key.size ≤ 140737488351232 ∧ x.value.size ≤ 140737488351232
theorem fdiv_nonneg {s : Int} (h : 0 ≤ s) : 0 ≤ Int.fdiv s (2 ^ (min (Int.toNat 8) IntKind.u32.bits)) := Int.fdiv_nonneg h (by decide)
theorem wrapU64_nonneg (x : Int) : 0 ≤ IntKind.u64.wrap x := by rw [wrapU64]; omega
set_option maxRecDepth 8000 in
set_option maxHeartbeats 4000000 in
theorem c_wish (x : Cmd) (own : Bool) (hx : okCmd x) (m : Mem) : E0 24 [.agg (wishC x own)] m (.agg (wishF x own).c) m := by
  refine EvF.by (nf := nf24) (args := [.agg (wishC x own)]) rfl (of_decide_eq_true rfl) rfl ?_
  obtain ⟨k1, k2, k3, k4, k5⟩ := hx
  cases own
  · repeat' (first | refine W.seq ?_ | refine W.region ?_ | refine W.drawn ?_ | refine WH.nil ?_ | refine WO.nil ?_ | (refine WO.isBin ?_; first | refine WO.testT rfl rfl ?_ | refine WO.testF rfl rfl ?_ | (refine WO.teql rfl rfl rfl (fun hc => ?_) (fun hc => ?_) <;> try omega) | (refine WO.tneq rfl rfl rfl (fun hc => ?_) (fun hc => ?_) <;> try omega) | refine WO.tseql rfl rfl rfl (fun hc => ?_) (fun hc => ?_) | refine WO.tsneq rfl rfl rfl (fun hc => ?_) (fun hc => ?_) | refine WO.go rfl rfl ?_) | (refine WO.isUn ?_; first | refine WO.go rfl rfl ?_) | (refine WO.isLoad ?_; first | refine WO.go rfl rfl ?_) | (refine WO.isStore ?_; first | refine WO.st rfl rfl ?_) | refine WO.go rfl rfl ?_ | refine WO.st rfl rfl ?_ | (refine WH.isBin ?_; first | refine WH.add64 rfl rfl rfl (by omega) (by omega) ?_ | refine WH.rem rfl rfl rfl (by omega) (by omega) ?_ | refine WH.addU32 rfl rfl rfl (by omega) (by omega) ?_ | refine WH.addU64 rfl rfl rfl (by omega) (by omega) ?_ | refine WH.addU8 rfl rfl rfl (by omega) (by omega) ?_ | refine WH.shr rfl rfl rfl (by omega) ?_ | refine WH.go rfl rfl rfl ?_) | (refine WH.isI2i ?_; first | refine WH.toI64 rfl rfl (by omega) (by omega) ?_ | refine WH.toU64 rfl rfl (by omega) (by omega) ?_ | refine WH.toU8 rfl rfl (by omega) (by omega) ?_ | refine WH.go rfl rfl rfl ?_) | (refine WH.isLoad ?_; first | refine WH.go rfl rfl rfl ?_) | (refine WH.isSlice ?_; first | refine WH.go rfl rfl rfl ?_) | (refine WH.isLen ?_; first | refine WH.go rfl rfl rfl ?_) | refine WH.go rfl rfl rfl ?_ | refine W.skip ?_ | refine W.condT rfl ?_ | refine W.condF rfl ?_ | (refine W.fork rfl ?_ ?_ <;> intro hc <;> (fail_if_success (exfalso; cases hc; done)) <;> (first | subst hc | (simp at hc; try omega) | skip)) | refine W.ret ?_)
    exact ⟨.inr rfl, _, rfl, fin rfl rfl rfl⟩
  · have p1 := wrapU64_nonneg x.op
    have p2 := wrapU64_nonneg x.client
    have p3 := fdiv_nonneg k3.1
    have hmin : min (x.value.size : Int) 8 = ((min x.value.size 8 : Nat) : Int) := by omega
    generalize hop : IntKind.u64.wrap x.op = op at p1
    have key : wishF x true = (if op % 5 = 0 then cmd0 else ⟨if op % 5 = 4 then 1 else op % 5, 1 + IntKind.u64.wrap x.client % 4, 1 + x.seq % 5, wishKey x.seq, if op % 5 = 1 then x.value.extract 0 (min x.value.size 8) else ByteArray.empty⟩) := by
      unfold wishF wishOwn; rw [hop]; rfl
    repeat' (first | refine W.seq ?_ | refine W.region ?_ | refine W.drawn ?_ | refine WH.nil ?_ | refine WO.nil ?_ | refine WH.min2 rfl rfl rfl hmin ?_ | (refine WO.isBin ?_; first | refine WO.testT rfl rfl ?_ | refine WO.testF rfl rfl ?_ | (refine WO.teql rfl rfl rfl (fun hc => ?_) (fun hc => ?_) <;> try omega) | (refine WO.tneq rfl rfl rfl (fun hc => ?_) (fun hc => ?_) <;> try omega) | refine WO.tseql rfl rfl rfl (fun hc => ?_) (fun hc => ?_) | refine WO.tsneq rfl rfl rfl (fun hc => ?_) (fun hc => ?_) | refine WO.go rfl rfl ?_) | (refine WO.isUn ?_; first | refine WO.go rfl rfl ?_) | (refine WO.isLoad ?_; first | refine WO.go rfl rfl ?_) | (refine WO.isStore ?_; first | refine WO.st rfl rfl ?_) | refine WO.go rfl rfl ?_ | refine WO.st rfl rfl ?_ | (refine WH.isBin ?_; first | refine WH.add64 rfl rfl rfl (by omega) (by omega) ?_ | refine WH.rem rfl rfl rfl (by omega) (by omega) ?_ | refine WH.addU32 rfl rfl rfl (by omega) (by omega) ?_ | refine WH.addU64 rfl rfl rfl (by omega) (by omega) ?_ | refine WH.addU8 rfl rfl rfl (by omega) (by omega) ?_ | refine WH.shr rfl rfl rfl (by omega) ?_ | refine WH.go rfl rfl rfl ?_) | (refine WH.isI2i ?_; first | refine WH.i2iE rfl rfl hop ?_ | refine WH.toI64 rfl rfl (by omega) (by omega) ?_ | refine WH.toU64 rfl rfl (by omega) (by omega) ?_ | refine WH.toU8 rfl rfl (by omega) (by omega) ?_ | refine WH.go rfl rfl rfl ?_) | (refine WH.isLoad ?_; first | refine WH.go rfl rfl rfl ?_) | (refine WH.isSlice ?_; first | refine WH.strhi rfl rfl rfl rfl (by omega) ?_ | refine WH.go rfl rfl rfl ?_) | (refine WH.isLen ?_; first | refine WH.go rfl rfl rfl ?_) | refine WH.go rfl rfl rfl ?_ | refine W.skip ?_ | refine W.condT rfl ?_ | refine W.condF rfl ?_ | (refine W.fork rfl ?_ ?_ <;> intro hc <;> (fail_if_success (exfalso; cases hc; done)) <;> (first | subst hc | (simp at hc; try omega) | skip)) | refine W.ret ?_)
    all_goals refine ⟨.inr rfl, _, rfl, fin rfl ?_ rfl⟩
    all_goals rw [key]
    all_goals first
      | (rw [if_pos (show op % 5 = 0 by omega)]; rfl)
      | (rw [if_neg (show ¬ op % 5 = 0 by omega), if_pos (show op % 5 = 4 by omega), if_neg (show ¬ op % 5 = 1 by omega)]; rfl)
      | (rw [if_neg (show ¬ op % 5 = 0 by omega), if_neg (show ¬ op % 5 = 4 by omega), if_pos (show op % 5 = 1 by omega), ← (show op % 5 = 1 by omega)]; rfl)
      | (rw [if_neg (show ¬ op % 5 = 0 by omega), if_neg (show ¬ op % 5 = 4 by omega), if_neg (show ¬ op % 5 = 1 by omega)]; rfl)
set_option maxRecDepth 8000 in
theorem c_refCmd (x : Cmd) (m : Mem) : E0 11 [.agg x.c] m (.agg x.c) m := by
  refine EvF.by (nf := nf11) (args := [.agg x.c]) rfl (of_decide_eq_true rfl) rfl ?_
  repeat' (first | refine W.seq ?_ | refine W.region ?_ | refine WO.nil ?_ | (refine WO.isLoad ?_; first | refine WO.go rfl rfl ?_) | (refine WO.isStore ?_; first | refine WO.st rfl rfl ?_) | refine WO.go rfl rfl ?_ | refine WO.st rfl rfl ?_ | refine W.ret ?_)
  exact ⟨.inr rfl, _, rfl, fin rfl rfl rfl⟩
def wishP (x : Cmd × Bool) : List NV := wishC x.1 x.2
def wishQ (x : Cmd × Bool) : Cmd := wishF x.1 x.2
/-- Rows that are made one by one. -/
structure Rw where
  i : Nat
  R : List (List NV)
  t : Nat
  ts : List Bool
theorem take_succ_map {α β : Type} {f : α → β} {l : List α} {i : Nat} {x : α} (h : l[i]? = some x) : (l.take (i + 1)).map f = (l.take i).map f ++ [f x] := by
  obtain ⟨hi, rfl⟩ := List.getElem?_eq_some_iff.1 h
  rw [List.take_succ_eq_append_getElem hi, List.map_append]
  rfl
set_option maxRecDepth 8000 in
set_option maxHeartbeats 4000000 in
theorem c_wishes (l : List (Cmd × Bool)) (f : Bool) (hl : l.length ≤ 140737488351232) (hok : ∀ x ∈ l, okCmd x.1) (m : Mem) :
    E0 9 [.slc 6 f (l.map wishP)] m (mkS 5 (((l.take 12).map wishQ).map Cmd.c)) m := by
  refine EvF.by (nf := nf9) (args := [.slc 6 f (l.map wishP)]) rfl (of_decide_eq_true rfl) rfl ?_
  repeat' (first | refine W.seq ?_ | refine W.region ?_ | refine WO.nil ?_ | refine WO.onG rfl ?_ | refine WO.offG rfl ?_ | (refine WO.fork rfl ?_ ?_ <;> intro hc <;> (fail_if_success (exfalso; cases hc; done)) <;> (first | subst hc | (simp at hc; try omega) | skip)) | (refine WO.isMv ?_; first | refine WO.go rfl rfl ?_ | refine WO.mvR rfl ?_) | (refine WO.isBin ?_; first | refine WO.add64 rfl rfl rfl (by omega) (by omega) ?_ | refine WO.addU32 rfl rfl rfl (by omega) (by omega) ?_ | refine WO.addU64 rfl rfl rfl (by omega) (by omega) ?_ | refine WO.addU8 rfl rfl rfl (by omega) (by omega) ?_ | refine WO.testT rfl rfl ?_ | refine WO.testF rfl rfl ?_ | (refine WO.tlss rfl rfl rfl (fun hc => ?_) (fun hc => ?_) <;> try omega) | refine WO.go rfl rfl ?_) | (refine WO.isLoad ?_; first | refine WO.go rfl rfl ?_ | refine WO.ldc rfl rfl blk_l1 rfl rfl ?_ | refine WO.lda rfl rfl blk_l1 (of_decide_eq_true rfl) rfl ?_ | refine WO.ldc rfl rfl blk_l2 rfl rfl ?_ | refine WO.lda rfl rfl blk_l2 (of_decide_eq_true rfl) rfl ?_ | refine WO.ldc rfl rfl blk_l3 rfl rfl ?_ | refine WO.lda rfl rfl blk_l3 (of_decide_eq_true rfl) rfl ?_) | (refine WO.isIaddr ?_; first | refine WO.go rfl rfl ?_) | (refine WO.isLen ?_; first | refine WO.go rfl rfl ?_) | (refine WO.isApp ?_; first | refine WO.go rfl rfl ?_) | refine WO.go rfl rfl ?_ | refine W.skip ?_ | refine W.condT rfl ?_ | refine W.condF rfl ?_ | (refine W.fork rfl ?_ ?_ <;> intro hc <;> (fail_if_success (exfalso; cases hc; done)) <;> (first | subst hc | (simp at hc; try omega) | skip)) | refine W.ret ?_ | refine W.block ?_ | refine W.exit ?_)
  refine W.ind (σ := Rw) (fun s => [(0, .slc 6 f (l.map wishP)), (3, apV 5 s.R s.t), (4, .int .i64 s.i)]) (fun s => ⟨[], s.ts⟩ :: m) (fun s => s.i ≤ l.length ∧ s.i ≤ 12 ∧ tokOf s.R s.ts s.t ∧ s.R = ((l.take s.i).map wishQ).map Cmd.c) (fun s => 12 - s.i) ⟨0, [], 0, []⟩ ⟨by simp, by simp, .inl rfl, rfl⟩ ⟨rfl, rfl, rfl, trivial⟩ rfl ?_
  rintro ⟨i, R, t, ts⟩ e ⟨h1, h2, ht, hR⟩ IH
  dsimp only at h1 h2 ht hR ⊢
  refine W.round ?_
  by_cases h : i < l.length ∧ i < 12
  · obtain ⟨h3, h4⟩ := h
    obtain ⟨x, hx⟩ := get_lt h3
    have hr := map_get (f := wishP) hx
    have hw := c_wish x.1 x.2 (hok x (List.mem_of_getElem? hx))
    have hlen : R.length = i := by rw [hR, List.length_map, List.length_map, List.length_take]; omega
    repeat' (first | refine W.seq ?_ | refine W.region ?_ | refine WO.nil ?_ | refine WO.app (rows := R) (t := t) rfl rfl rfl rfl rfl ht (by show (_ + 1) * _ ≤ _; omega) (by show _ + 1 ≤ _; omega) fun ts t ht => ?_ | refine WO.onG rfl ?_ | refine WO.offG rfl ?_ | (refine WO.fork rfl ?_ ?_ <;> intro hc <;> (fail_if_success (exfalso; cases hc; done)) <;> (first | subst hc | (simp at hc; try omega) | skip)) | (refine WO.isMv ?_; first | refine WO.go rfl rfl ?_ | refine WO.mvR rfl ?_) | (refine WO.isBin ?_; first | refine WO.add64 rfl rfl rfl (by omega) (by omega) ?_ | refine WO.addU32 rfl rfl rfl (by omega) (by omega) ?_ | refine WO.addU64 rfl rfl rfl (by omega) (by omega) ?_ | refine WO.addU8 rfl rfl rfl (by omega) (by omega) ?_ | refine WO.testT rfl rfl ?_ | refine WO.testF rfl rfl ?_ | (refine WO.tlss rfl rfl rfl (fun hc => ?_) (fun hc => ?_) <;> try omega) | refine WO.go rfl rfl ?_) | (refine WO.isCall ?_; first | refine WO.ask rfl rfl (hw _) ?_) | (refine WO.isLoad ?_; first | refine WO.go rfl rfl ?_ | refine WO.ldc rfl rfl blk_l1 rfl rfl ?_ | refine WO.lda rfl rfl blk_l1 (of_decide_eq_true rfl) rfl ?_ | refine WO.ldc rfl rfl blk_l2 rfl rfl ?_ | refine WO.lda rfl rfl blk_l2 (of_decide_eq_true rfl) rfl ?_ | refine WO.ldc rfl rfl blk_l3 rfl rfl ?_ | refine WO.lda rfl rfl blk_l3 (of_decide_eq_true rfl) rfl ?_) | (refine WO.isIaddr ?_; first | refine WO.slidx rfl rfl rfl rfl rfl hr ?_ | refine WO.go rfl rfl ?_) | (refine WO.isLen ?_; first | refine WO.lenS rfl rfl (List.length_map ..) ?_ | refine WO.go rfl rfl ?_) | (refine WO.isApp ?_; first | refine WO.go rfl rfl ?_) | refine WO.go rfl rfl ?_ | refine W.skip ?_ | refine W.condT rfl ?_ | refine W.condF rfl ?_ | (refine W.fork rfl ?_ ?_ <;> intro hc <;> (fail_if_success (exfalso; cases hc; done)) <;> (first | subst hc | (simp at hc; try omega) | skip)) | refine W.ret ?_ | refine W.block ?_ | refine W.exit ?_)
    refine IH ⟨i + 1, _, _, _⟩ _ _ ?_ ⟨?_, ?_, ht, ?_⟩ ⟨rfl, rfl, rfl, trivial⟩ rfl
    · simp only; omega
    · simp only; omega
    · simp only; omega
    · rw [hR]
      show ((l.take i).map wishQ).map Cmd.c ++ [(wishQ x).c] = ((l.take (i + 1)).map wishQ).map Cmd.c
      rw [take_succ_map (f := wishQ) hx, List.map_append]
      rfl
  · have hi : i = min l.length 12 := by omega
    have hfin : R = ((l.take 12).map wishQ).map Cmd.c := by
      rw [hR]
      congr 2
      rcases Nat.le_total l.length 12 with q | q
      · rw [show i = l.length by omega, List.take_length, List.take_of_length_le q]
      · rw [show i = 12 by omega]
    repeat' (first | refine W.seq ?_ | refine W.region ?_ | refine WO.nil ?_ | refine WO.onG rfl ?_ | refine WO.offG rfl ?_ | (refine WO.fork rfl ?_ ?_ <;> intro hc <;> (fail_if_success (exfalso; cases hc; done)) <;> (first | subst hc | (simp at hc; try omega) | skip)) | (refine WO.isMv ?_; first | refine WO.go rfl rfl ?_ | refine WO.mvR rfl ?_) | (refine WO.isBin ?_; first | refine WO.add64 rfl rfl rfl (by omega) (by omega) ?_ | refine WO.addU32 rfl rfl rfl (by omega) (by omega) ?_ | refine WO.addU64 rfl rfl rfl (by omega) (by omega) ?_ | refine WO.addU8 rfl rfl rfl (by omega) (by omega) ?_ | refine WO.testT rfl rfl ?_ | refine WO.testF rfl rfl ?_ | (refine WO.tlss rfl rfl rfl (fun hc => ?_) (fun hc => ?_) <;> try omega) | refine WO.go rfl rfl ?_) | (refine WO.isLoad ?_; first | refine WO.go rfl rfl ?_ | refine WO.ldc rfl rfl blk_l1 rfl rfl ?_ | refine WO.lda rfl rfl blk_l1 (of_decide_eq_true rfl) rfl ?_ | refine WO.ldc rfl rfl blk_l2 rfl rfl ?_ | refine WO.lda rfl rfl blk_l2 (of_decide_eq_true rfl) rfl ?_ | refine WO.ldc rfl rfl blk_l3 rfl rfl ?_ | refine WO.lda rfl rfl blk_l3 (of_decide_eq_true rfl) rfl ?_) | (refine WO.isIaddr ?_; first | refine WO.go rfl rfl ?_) | (refine WO.isLen ?_; first | refine WO.lenS rfl rfl (List.length_map ..) ?_ | refine WO.go rfl rfl ?_) | (refine WO.isApp ?_; first | refine WO.go rfl rfl ?_) | refine WO.go rfl rfl ?_ | refine W.skip ?_ | refine W.condT rfl ?_ | refine W.condF rfl ?_ | (refine W.fork rfl ?_ ?_ <;> intro hc <;> (fail_if_success (exfalso; cases hc; done)) <;> (first | subst hc | (simp at hc; try omega) | skip)) | refine W.ret ?_ | refine W.block ?_ | refine W.exit ?_)
    all_goals exact ⟨.inr rfl, _, rfl, fin pop_ap (by rw [hfin]) rfl⟩
set_option maxRecDepth 8000 in
set_option maxHeartbeats 4000000 in
theorem c_refs (l : List Cmd) (z : Nat) (f : Bool) (hz : z = 5 ∨ l = []) (hl : l.length ≤ 1000000) (m : Mem) :
    E0 14 [.slc z f (l.map Cmd.c)] m (mkS 5 (l.map Cmd.c)) m := by
  refine EvF.by (nf := nf14) (args := [.slc z f (l.map Cmd.c)]) rfl (of_decide_eq_true rfl) rfl ?_
  repeat' (first | refine W.seq ?_ | refine W.region ?_ | refine WO.nil ?_ | (refine WO.isMv ?_; first | refine WO.go rfl rfl ?_ | refine WO.mvR rfl ?_) | (refine WO.isBin ?_; first | refine WO.add64 rfl rfl rfl (by omega) (by omega) ?_ | refine WO.addU32 rfl rfl rfl (by omega) (by omega) ?_ | refine WO.addU64 rfl rfl rfl (by omega) (by omega) ?_ | refine WO.addU8 rfl rfl rfl (by omega) (by omega) ?_ | refine WO.testT rfl rfl ?_ | refine WO.testF rfl rfl ?_ | (refine WO.tlss rfl rfl rfl (fun hc => ?_) (fun hc => ?_) <;> try omega) | refine WO.go rfl rfl ?_) | (refine WO.isLoad ?_; first | refine WO.go rfl rfl ?_ | refine WO.ldc rfl rfl blk_l1 rfl rfl ?_ | refine WO.lda rfl rfl blk_l1 (of_decide_eq_true rfl) rfl ?_ | refine WO.ldc rfl rfl blk_l2 rfl rfl ?_ | refine WO.lda rfl rfl blk_l2 (of_decide_eq_true rfl) rfl ?_ | refine WO.ldc rfl rfl blk_l3 rfl rfl ?_ | refine WO.lda rfl rfl blk_l3 (of_decide_eq_true rfl) rfl ?_) | (refine WO.isIaddr ?_; first | refine WO.go rfl rfl ?_) | (refine WO.isLen ?_; first | refine WO.go rfl rfl ?_) | (refine WO.isApp ?_; first | refine WO.go rfl rfl ?_) | refine WO.go rfl rfl ?_ | refine W.skip ?_ | refine W.condT rfl ?_ | refine W.condF rfl ?_ | (refine W.fork rfl ?_ ?_ <;> intro hc <;> (fail_if_success (exfalso; cases hc; done)) <;> (first | subst hc | (simp at hc; try omega) | skip)) | refine W.ret ?_ | refine W.block ?_ | refine W.exit ?_)
  refine W.ind (σ := Rw) (fun s => [(0, .slc z f (l.map Cmd.c)), (3, apV 5 s.R s.t), (4, .int .i64 s.i)]) (fun s => ⟨[], s.ts⟩ :: m) (fun s => s.i ≤ l.length ∧ tokOf s.R s.ts s.t ∧ s.R = (l.take s.i).map Cmd.c) (fun s => l.length - s.i) ⟨0, [], 0, []⟩ ⟨by simp, .inl rfl, rfl⟩ ⟨rfl, rfl, rfl, trivial⟩ rfl ?_
  rintro ⟨i, R, t, ts⟩ e ⟨h1, ht, hR⟩ IH
  dsimp only at h1 ht hR ⊢
  refine W.round ?_
  by_cases h3 : i < l.length
  · obtain ⟨x, hx⟩ := get_lt h3
    have hr := map_get (f := Cmd.c) hx
    have hz' : z = 5 := hz.resolve_right (by rintro rfl; simp at h3)
    have hlen : R.length = i := by rw [hR, List.length_map, List.length_take]; omega
    repeat' (first | refine W.seq ?_ | refine W.region ?_ | refine WO.nil ?_ | refine WO.app (rows := R) (t := t) rfl rfl rfl rfl rfl ht (by show (_ + 1) * _ ≤ _; omega) (by show _ + 1 ≤ _; omega) fun ts t ht => ?_ | (refine WO.isMv ?_; first | refine WO.go rfl rfl ?_ | refine WO.mvR rfl ?_) | (refine WO.isBin ?_; first | refine WO.add64 rfl rfl rfl (by omega) (by omega) ?_ | refine WO.addU32 rfl rfl rfl (by omega) (by omega) ?_ | refine WO.addU64 rfl rfl rfl (by omega) (by omega) ?_ | refine WO.addU8 rfl rfl rfl (by omega) (by omega) ?_ | refine WO.testT rfl rfl ?_ | refine WO.testF rfl rfl ?_ | (refine WO.tlss rfl rfl rfl (fun hc => ?_) (fun hc => ?_) <;> try omega) | refine WO.go rfl rfl ?_) | (refine WO.isCall ?_; first | refine WO.ask rfl rfl (c_refCmd x _) ?_) | (refine WO.isLoad ?_; first | refine WO.go rfl rfl ?_ | refine WO.ldc rfl rfl blk_l1 rfl rfl ?_ | refine WO.lda rfl rfl blk_l1 (of_decide_eq_true rfl) rfl ?_ | refine WO.ldc rfl rfl blk_l2 rfl rfl ?_ | refine WO.lda rfl rfl blk_l2 (of_decide_eq_true rfl) rfl ?_ | refine WO.ldc rfl rfl blk_l3 rfl rfl ?_ | refine WO.lda rfl rfl blk_l3 (of_decide_eq_true rfl) rfl ?_) | (refine WO.isIaddr ?_; first | refine WO.slidx rfl rfl rfl rfl hz' hr ?_ | refine WO.go rfl rfl ?_) | (refine WO.isLen ?_; first | refine WO.lenS rfl rfl (List.length_map ..) ?_ | refine WO.go rfl rfl ?_) | (refine WO.isApp ?_; first | refine WO.go rfl rfl ?_) | refine WO.go rfl rfl ?_ | refine W.skip ?_ | refine W.condT rfl ?_ | refine W.condF rfl ?_ | (refine W.fork rfl ?_ ?_ <;> intro hc <;> (fail_if_success (exfalso; cases hc; done)) <;> (first | subst hc | (simp at hc; try omega) | skip)) | refine W.ret ?_ | refine W.block ?_ | refine W.exit ?_)
    refine IH ⟨i + 1, _, _, _⟩ _ _ ?_ ⟨?_, ht, ?_⟩ ⟨rfl, rfl, rfl, trivial⟩ rfl
    · simp only; omega
    · simp only; omega
    · rw [hR]
      exact (take_succ_map (f := Cmd.c) hx).symm
  · obtain rfl : i = l.length := by omega
    rw [List.take_length] at hR
    repeat' (first | refine W.seq ?_ | refine W.region ?_ | refine WO.nil ?_ | (refine WO.isMv ?_; first | refine WO.go rfl rfl ?_ | refine WO.mvR rfl ?_) | (refine WO.isBin ?_; first | refine WO.add64 rfl rfl rfl (by omega) (by omega) ?_ | refine WO.addU32 rfl rfl rfl (by omega) (by omega) ?_ | refine WO.addU64 rfl rfl rfl (by omega) (by omega) ?_ | refine WO.addU8 rfl rfl rfl (by omega) (by omega) ?_ | refine WO.testT rfl rfl ?_ | refine WO.testF rfl rfl ?_ | (refine WO.tlss rfl rfl rfl (fun hc => ?_) (fun hc => ?_) <;> try omega) | refine WO.go rfl rfl ?_) | (refine WO.isLoad ?_; first | refine WO.go rfl rfl ?_ | refine WO.ldc rfl rfl blk_l1 rfl rfl ?_ | refine WO.lda rfl rfl blk_l1 (of_decide_eq_true rfl) rfl ?_ | refine WO.ldc rfl rfl blk_l2 rfl rfl ?_ | refine WO.lda rfl rfl blk_l2 (of_decide_eq_true rfl) rfl ?_ | refine WO.ldc rfl rfl blk_l3 rfl rfl ?_ | refine WO.lda rfl rfl blk_l3 (of_decide_eq_true rfl) rfl ?_) | (refine WO.isIaddr ?_; first | refine WO.go rfl rfl ?_) | (refine WO.isLen ?_; first | refine WO.lenS rfl rfl (List.length_map ..) ?_ | refine WO.go rfl rfl ?_) | (refine WO.isApp ?_; first | refine WO.go rfl rfl ?_) | refine WO.go rfl rfl ?_ | refine W.skip ?_ | refine W.condT rfl ?_ | refine W.condF rfl ?_ | (refine W.fork rfl ?_ ?_ <;> intro hc <;> (fail_if_success (exfalso; cases hc; done)) <;> (first | subst hc | (simp at hc; try omega) | skip)) | refine W.ret ?_ | refine W.block ?_ | refine W.exit ?_)
    exact ⟨.inr rfl, _, rfl, fin pop_ap (by rw [hR]) rfl⟩
end Go.Proofs.Ytehkfdicaiehcaa.Nv
