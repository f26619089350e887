/- Commands: wishes. -/
import Derived.Test.YthecdihimfddgaaCmd1
namespace Go.Proofs.Ythecdihimfddgaa.Nv
open Go
/-- A wish, by its parts. -/
def wishKey (s : Int) : ByteArray := ⟨[UInt8.ofNat (97 + Int.fdiv s (2 ^ (min (Int.toNat 8) IntKind.u32.bits)) % 3).toNat].toArray⟩
def wishOwn (x : Cmd) : Cmd :=
  if IntKind.u64.wrap x.op % 5 = 0 then cmd0 else
    ⟨if IntKind.u64.wrap x.op % 5 = 4 then 1 else IntKind.u64.wrap x.op % 5, 1 + IntKind.u64.wrap x.client % 4, 1 + x.seq % 5, wishKey x.seq,
      if IntKind.u64.wrap x.op % 5 = 1 then x.value.extract 0 (min x.value.size 8) else ByteArray.empty⟩
def wishF (x : Cmd) (own : Bool) : Cmd := if own then wishOwn x else x
def wishC (x : Cmd) (own : Bool) : List NV := [.int .i64 x.op, .int .i64 x.client, .int .u32 x.seq, .str x.key, .str x.value, .bool own]
/-- What kinds a command's parts are of. -/
def okCmd (x : Cmd) : Prop := (-9223372036854775808 ≤ x.op ∧ x.op ≤ 9223372036854775807) ∧ (-9223372036854775808 ≤ x.client ∧ x.client ≤ 9223372036854775807) ∧ (0 ≤ x.seq ∧ x.seq ≤ 4294967295) ∧ x.key.size ≤ 140737488351232 ∧ x.value.size ≤ 140737488351232
theorem fdiv_nonneg {s : Int} (h : 0 ≤ s) : 0 ≤ Int.fdiv s (2 ^ (min (Int.toNat 8) IntKind.u32.bits)) := Int.fdiv_nonneg h (by decide)
theorem wrapU64_nonneg (x : Int) : 0 ≤ IntKind.u64.wrap x := by rw [wrapU64]; omega
set_option maxRecDepth 8000 in
set_option maxHeartbeats 4000000 in
theorem c_wish (x : Cmd) (own : Bool) (hx : okCmd x) (m : Mem) : E0 42 [.agg (wishC x own)] m (.agg (wishF x own).c) m := by
  refine EvF.by (nf := nf42) (args := [.agg (wishC x own)]) rfl (of_decide_eq_true rfl) rfl ?_
  obtain ⟨k1, k2, k3, k4, k5⟩ := hx
  cases own
  · repeat' (first | refine W.seq ?_ | refine W.region ?_ | refine W.drawn ?_ | refine WH.nil ?_ | refine WO.nil ?_ | (refine WO.isBin ?_; first | refine WO.testT rfl rfl ?_ | refine WO.testF rfl rfl ?_ | (refine WO.teql rfl rfl rfl (fun hc => ?_) (fun hc => ?_) <;> try omega) | (refine WO.tneq rfl rfl rfl (fun hc => ?_) (fun hc => ?_) <;> try omega) | refine WO.tseql rfl rfl rfl (fun hc => ?_) (fun hc => ?_) | refine WO.tsneq rfl rfl rfl (fun hc => ?_) (fun hc => ?_) | refine WO.go rfl rfl ?_) | (refine WO.isUn ?_; first | refine WO.go rfl rfl ?_) | (refine WO.isLoad ?_; first | refine WO.go rfl rfl ?_) | (refine WO.isStore ?_; first | refine WO.st rfl rfl ?_) | refine WO.go rfl rfl ?_ | refine WO.st rfl rfl ?_ | (refine WH.isBin ?_; first | refine WH.add64 rfl rfl rfl (by omega) (by omega) ?_ | refine WH.rem rfl rfl rfl (by omega) (by omega) ?_ | refine WH.addU32 rfl rfl rfl (by omega) (by omega) ?_ | refine WH.addU64 rfl rfl rfl (by omega) (by omega) ?_ | refine WH.addU8 rfl rfl rfl (by omega) (by omega) ?_ | refine WH.shr rfl rfl rfl (by omega) ?_ | refine WH.go rfl rfl rfl ?_) | (refine WH.isI2i ?_; first | refine WH.toI64 rfl rfl (by omega) (by omega) ?_ | refine WH.toU64 rfl rfl (by omega) (by omega) ?_ | refine WH.toU8 rfl rfl (by omega) (by omega) ?_ | refine WH.go rfl rfl rfl ?_) | (refine WH.isLoad ?_; first | refine WH.go rfl rfl rfl ?_) | (refine WH.isSlice ?_; first | refine WH.go rfl rfl rfl ?_) | (refine WH.isLen ?_; first | refine WH.go rfl rfl rfl ?_) | refine WH.go rfl rfl rfl ?_ | refine W.skip ?_ | refine W.condT rfl ?_ | refine W.condF rfl ?_ | (refine W.fork rfl ?_ ?_ <;> intro hc <;> (fail_if_success (exfalso; cases hc; done)) <;> (first | subst hc | (simp at hc; try omega) | skip)) | refine W.ret ?_)
    exact ⟨.inr rfl, _, rfl, fin rfl rfl rfl⟩
  · have p1 := wrapU64_nonneg x.op
    have p2 := wrapU64_nonneg x.client
    have p3 := fdiv_nonneg k3.1
    have hmin : min (x.value.size : Int) 8 = ((min x.value.size 8 : Nat) : Int) := by omega
    generalize hop : IntKind.u64.wrap x.op = op at p1
    have key : wishF x true = (if op % 5 = 0 then cmd0 else ⟨if op % 5 = 4 then 1 else op % 5, 1 + IntKind.u64.wrap x.client % 4, 1 + x.seq % 5, wishKey x.seq, if op % 5 = 1 then x.value.extract 0 (min x.value.size 8) else ByteArray.empty⟩) := by
      unfold wishF wishOwn; rw [hop]; rfl
    repeat' (first | refine W.seq ?_ | refine W.region ?_ | refine W.drawn ?_ | refine WH.nil ?_ | refine WO.nil ?_ | refine WH.min2 rfl rfl rfl hmin ?_ | (refine WO.isBin ?_; first | refine WO.testT rfl rfl ?_ | refine WO.testF rfl rfl ?_ | (refine WO.teql rfl rfl rfl (fun hc => ?_) (fun hc => ?_) <;> try omega) | (refine WO.tneq rfl rfl rfl (fun hc => ?_) (fun hc => ?_) <;> try omega) | refine WO.tseql rfl rfl rfl (fun hc => ?_) (fun hc => ?_) | refine WO.tsneq rfl rfl rfl (fun hc => ?_) (fun hc => ?_) | refine WO.go rfl rfl ?_) | (refine WO.isUn ?_; first | refine WO.go rfl rfl ?_) | (refine WO.isLoad ?_; first | refine WO.go rfl rfl ?_) | (refine WO.isStore ?_; first | refine WO.st rfl rfl ?_) | refine WO.go rfl rfl ?_ | refine WO.st rfl rfl ?_ | (refine WH.isBin ?_; first | refine WH.add64 rfl rfl rfl (by omega) (by omega) ?_ | refine WH.rem rfl rfl rfl (by omega) (by omega) ?_ | refine WH.addU32 rfl rfl rfl (by omega) (by omega) ?_ | refine WH.addU64 rfl rfl rfl (by omega) (by omega) ?_ | refine WH.addU8 rfl rfl rfl (by omega) (by omega) ?_ | refine WH.shr rfl rfl rfl (by omega) ?_ | refine WH.go rfl rfl rfl ?_) | (refine WH.isI2i ?_; first | refine WH.i2iE rfl rfl hop ?_ | refine WH.toI64 rfl rfl (by omega) (by omega) ?_ | refine WH.toU64 rfl rfl (by omega) (by omega) ?_ | refine WH.toU8 rfl rfl (by omega) (by omega) ?_ | refine WH.go rfl rfl rfl ?_) | (refine WH.isLoad ?_; first | refine WH.go rfl rfl rfl ?_) | (refine WH.isSlice ?_; first | refine WH.strhi rfl rfl rfl rfl (by omega) ?_ | refine WH.go rfl rfl rfl ?_) | (refine WH.isLen ?_; first | refine WH.go rfl rfl rfl ?_) | refine WH.go rfl rfl rfl ?_ | refine W.skip ?_ | refine W.condT rfl ?_ | refine W.condF rfl ?_ | (refine W.fork rfl ?_ ?_ <;> intro hc <;> (fail_if_success (exfalso; cases hc; done)) <;> (first | subst hc | (simp at hc; try omega) | skip)) | refine W.ret ?_)
    all_goals refine ⟨.inr rfl, _, rfl, fin rfl ?_ rfl⟩
    all_goals rw [key]
    all_goals first
      | (rw [if_pos (show op % 5 = 0 by omega)]; rfl)
      | (rw [if_neg (show ¬ op % 5 = 0 by omega), if_pos (show op % 5 = 4 by omega), if_neg (show ¬ op % 5 = 1 by omega)]; rfl)
      | (rw [if_neg (show ¬ op % 5 = 0 by omega), if_neg (show ¬ op % 5 = 4 by omega), if_pos (show op % 5 = 1 by omega), ← (show op % 5 = 1 by omega)]; rfl)
      | (rw [if_neg (show ¬ op % 5 = 0 by omega), if_neg (show ¬ op % 5 = 4 by omega), if_neg (show ¬ op % 5 = 1 by omega)]; rfl)
set_option maxRecDepth 8000 in
theorem c_refCmd (x : Cmd) (m : Mem) : E0 17 [.agg x.c] m (.agg x.c) m := by
  refine EvF.by (nf := nf17) (args := [.agg x.c]) rfl (of_decide_eq_true rfl) rfl ?_
  repeat' (first | refine W.seq ?_ | refine W.region ?_ | refine WO.nil ?_ | (refine WO.isLoad ?_; first | refine WO.go rfl rfl ?_) | (refine WO.isStore ?_; first | refine WO.st rfl rfl ?_) | refine WO.go rfl rfl ?_ | refine WO.st rfl rfl ?_ | refine W.ret ?_)
  exact ⟨.inr rfl, _, rfl, fin rfl rfl rfl⟩
def wishP (x : Cmd × Bool) : List NV := wishC x.1 x.2
def wishQ (x : Cmd × Bool) : Cmd := wishF x.1 x.2
/-- Rows that are made one by one. -/
structure Rw where
  i : Nat
  R : List (List NV)
  t : Nat
  ts : List Bool
theorem take_succ_map {α β : Type} {f : α → β} {l : List α} {i : Nat} {x : α} (h : l[i]? = some x) : (l.take (i + 1)).map f = (l.take i).map f ++ [f x] := by
  obtain ⟨hi, rfl⟩ := List.getElem?_eq_some_iff.1 h
  rw [List.take_succ_eq_append_getElem hi, List.map_append]
  rfl
end Go.Proofs.Ythecdihimfddgaa.Nv
