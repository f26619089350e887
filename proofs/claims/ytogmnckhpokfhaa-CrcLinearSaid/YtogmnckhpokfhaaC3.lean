/- The checksum's laws: parts, bursts, that it is linear. -/
import Derived.Test.YtogmnckhpokfhaaC2
import Derived.Test.YtogmnckhpokfhaaNvB
namespace Go.Proofs.Ytogmnckhpokfhaa.Nv
open Go Go.Proofs.Ytogmnckhpokfhaa.CrcMath
theorem examples_ev : evF F 2000 7 [] [] = some (.bool true, []) := by kernel_rfl
theorem f7 (m : Mem) : E0 7 [] m (.bool true) m := EvF.any (EvF.ev 2000 examples_ev) m
set_option maxRecDepth 4000 in
theorem f9 (s : ByteArray) (hs : s.size ≤ 281474976710656) (m : Mem) : E0 9 [.str s] m (.int .u32 (CrcMath.e (add 0#32 (L s)))) m := by
  refine EvF.by (nf := nf9) (args := [.str s]) rfl (of_decide_eq_true rfl) rfl ?_
  repeat' (first
    | refine W.seq ?_
    | refine W.region ?_
    | refine W.drawn ?_
    | refine WO.nil ?_
    | refine WH.nil ?_
    | refine WO.onG rfl ?_
    | refine WO.offG rfl ?_
    | refine WO.offG' rfl ?_
    | (refine WO.fork rfl ?_ ?_ <;> intro hc <;> (fail_if_success (exfalso; cases hc; done)) <;> (try subst hc))
    | (refine WO.isMv ?_; first | refine WO.go rfl rfl ?_ | refine WO.st rfl rfl ?_)
    | (refine WO.isBin ?_; first | refine WO.add64 rfl rfl rfl (by omega) (by omega) ?_ | refine WO.sub64 rfl rfl rfl (by omega) (by omega) ?_ | refine WO.rem rfl rfl rfl (by omega) (by omega) ?_ | refine WO.quoI64 rfl rfl rfl (by omega) (by omega) (by omega) ?_ | refine WO.quoU8 rfl rfl rfl (by omega) (by omega) (by omega) ?_ | refine WO.quoU32 rfl rfl rfl (by omega) (by omega) (by omega) ?_ | refine WO.quoU64 rfl rfl rfl (by omega) (by omega) (by omega) ?_ | refine WO.mul64 rfl rfl rfl (by omega) (by omega) ?_ | refine WO.addU32 rfl rfl rfl (by omega) (by omega) ?_ | refine WO.addU64 rfl rfl rfl (by omega) (by omega) ?_ | refine WO.addU8 rfl rfl rfl (by omega) (by omega) ?_ | refine WO.subU64 rfl rfl rfl (by omega) (by omega) ?_ | refine WO.subU32 rfl rfl rfl (by omega) (by omega) ?_ | refine WO.shl rfl rfl rfl (by omega) ?_ | refine WO.shr rfl rfl rfl (by omega) ?_ | refine WO.testT rfl rfl ?_ | refine WO.testF rfl rfl ?_ | (refine WO.test rfl rfl ?_ ?_ <;> intro hc <;> (try simp only [decide_eq_true_eq, decide_eq_false_iff_not, beq_iff_eq, beq_eq_false_iff_ne, bne_iff_ne, bne_eq_false_iff_eq, ne_eq, gt_iff_lt, ge_iff_le, Int.not_lt, Int.not_le, not_true_eq_false, not_false_eq_true] at hc) <;> (try omega)) | refine WO.go rfl rfl ?_ | refine WO.st rfl rfl ?_)
    | (refine WO.isUn ?_; first | refine WO.go rfl rfl ?_ | refine WO.st rfl rfl ?_)
    | (refine WO.isI2i ?_; first | refine WO.toI64 rfl rfl (by omega) (by omega) ?_ | refine WO.toU64 rfl rfl (by omega) (by omega) ?_ | refine WO.toU32 rfl rfl (by omega) (by omega) ?_ | refine WO.toU8 rfl rfl (by omega) (by omega) ?_ | refine WO.go rfl rfl ?_ | refine WO.st rfl rfl ?_)
    | (refine WO.isCall ?_; first | refine WO.ask rfl rfl (f10 0#32 _ hs _) ?_ | refine WO.ask' rfl rfl (f10 0#32 _ hs _) ?_)
    | (refine WO.isDyn ?_; first | refine WO.ask rfl rfl (f10 0#32 _ hs _) ?_ | refine WO.ask' rfl rfl (f10 0#32 _ hs _) ?_)
    | (refine WO.isLoad ?_; first | refine WO.go rfl rfl ?_ | refine WO.st rfl rfl ?_)
    | (refine WO.isStore ?_; first | refine WO.go rfl rfl ?_ | refine WO.st rfl rfl ?_)
    | (refine WO.isIaddr ?_; first | refine WO.go rfl rfl ?_ | refine WO.st rfl rfl ?_)
    | (refine WO.isIndex ?_; first | refine WO.go rfl rfl ?_ | refine WO.st rfl rfl ?_)
    | (refine WO.isSlice ?_; first | refine WO.go rfl rfl ?_ | refine WO.st rfl rfl ?_)
    | (refine WO.isLen ?_; first | refine WO.go rfl rfl ?_ | refine WO.st rfl rfl ?_)
    | (refine WO.isApp ?_; first | refine WO.go rfl rfl ?_ | refine WO.st rfl rfl ?_)
    | (refine WO.isEq ?_; first | refine WO.go rfl rfl ?_ | refine WO.st rfl rfl ?_)
    | refine WO.go rfl rfl ?_
    | refine WO.st rfl rfl ?_
    | refine WH.onG rfl ?_
    | refine WH.offG rfl ?_
    | refine WH.offG' rfl ?_
    | (refine WH.fork rfl ?_ ?_ <;> intro hc <;> (fail_if_success (exfalso; cases hc; done)) <;> (try subst hc))
    | (refine WH.isMv ?_; first | refine WH.go rfl rfl rfl ?_ | refine WH.st rfl rfl rfl ?_)
    | (refine WH.isBin ?_; first | refine WH.add64 rfl rfl rfl (by omega) (by omega) ?_ | refine WH.sub64 rfl rfl rfl (by omega) (by omega) ?_ | refine WH.rem rfl rfl rfl (by omega) (by omega) ?_ | refine WH.quoI64 rfl rfl rfl (by omega) (by omega) (by omega) ?_ | refine WH.quoU8 rfl rfl rfl (by omega) (by omega) (by omega) ?_ | refine WH.quoU32 rfl rfl rfl (by omega) (by omega) (by omega) ?_ | refine WH.quoU64 rfl rfl rfl (by omega) (by omega) (by omega) ?_ | refine WH.mul64 rfl rfl rfl (by omega) (by omega) ?_ | refine WH.addU32 rfl rfl rfl (by omega) (by omega) ?_ | refine WH.addU64 rfl rfl rfl (by omega) (by omega) ?_ | refine WH.addU8 rfl rfl rfl (by omega) (by omega) ?_ | refine WH.subU64 rfl rfl rfl (by omega) (by omega) ?_ | refine WH.subU32 rfl rfl rfl (by omega) (by omega) ?_ | refine WH.shl rfl rfl rfl (by omega) ?_ | refine WH.shr rfl rfl rfl (by omega) ?_ | refine WH.testT rfl rfl ?_ | refine WH.testF rfl rfl ?_ | (refine WH.test rfl rfl ?_ ?_ <;> intro hc <;> (try simp only [decide_eq_true_eq, decide_eq_false_iff_not, beq_iff_eq, beq_eq_false_iff_ne, bne_iff_ne, bne_eq_false_iff_eq, ne_eq, gt_iff_lt, ge_iff_le, Int.not_lt, Int.not_le, not_true_eq_false, not_false_eq_true] at hc) <;> (try omega)) | refine WH.go rfl rfl rfl ?_ | refine WH.st rfl rfl rfl ?_)
    | (refine WH.isUn ?_; first | refine WH.go rfl rfl rfl ?_ | refine WH.st rfl rfl rfl ?_)
    | (refine WH.isI2i ?_; first | refine WH.toI64 rfl rfl (by omega) (by omega) ?_ | refine WH.toU64 rfl rfl (by omega) (by omega) ?_ | refine WH.toU32 rfl rfl (by omega) (by omega) ?_ | refine WH.toU8 rfl rfl (by omega) (by omega) ?_ | refine WH.go rfl rfl rfl ?_ | refine WH.st rfl rfl rfl ?_)
    | (refine WH.isCall ?_; first | refine WH.ask rfl rfl rfl (f10 0#32 _ hs _) ?_)
    | (refine WH.isDyn ?_; first | refine WH.ask rfl rfl rfl (f10 0#32 _ hs _) ?_)
    | (refine WH.isLoad ?_; first | refine WH.go rfl rfl rfl ?_ | refine WH.st rfl rfl rfl ?_)
    | (refine WH.isStore ?_; first | refine WH.go rfl rfl rfl ?_ | refine WH.st rfl rfl rfl ?_)
    | (refine WH.isIaddr ?_; first | refine WH.go rfl rfl rfl ?_ | refine WH.st rfl rfl rfl ?_)
    | (refine WH.isIndex ?_; first | refine WH.go rfl rfl rfl ?_ | refine WH.st rfl rfl rfl ?_)
    | (refine WH.isSlice ?_; first | refine WH.go rfl rfl rfl ?_ | refine WH.st rfl rfl rfl ?_)
    | (refine WH.isLen ?_; first | refine WH.go rfl rfl rfl ?_ | refine WH.st rfl rfl rfl ?_)
    | (refine WH.isApp ?_; first | refine WH.go rfl rfl rfl ?_ | refine WH.st rfl rfl rfl ?_)
    | (refine WH.isEq ?_; first | refine WH.go rfl rfl rfl ?_ | refine WH.st rfl rfl rfl ?_)
    | refine WH.go rfl rfl rfl ?_
    | refine WH.st rfl rfl rfl ?_
    | refine W.skip ?_
    | refine W.condT rfl ?_
    | refine W.condF rfl ?_
    | (refine W.fork rfl ?_ ?_ <;> intro hc <;> (fail_if_success (exfalso; cases hc; done)) <;> (try subst hc))
    | refine W.ret ?_
    | refine W.block ?_
    | refine W.exit ?_)
  exact ⟨.inr rfl, _, rfl, fin rfl rfl rfl⟩
set_option maxRecDepth 4000 in
theorem f12 (s : ByteArray) (hs : s.size ≤ 281474976710656) (c : B32) (m : Mem) (h : add 0#32 (L s) ≠ c) : E0 12 [.str s, .int .u32 (CrcMath.e c)] m (.bool false) m := by
  refine EvF.by (nf := nf12) (args := [.str s, .int .u32 (CrcMath.e c)]) rfl (of_decide_eq_true rfl) rfl ?_
  have hn : CrcMath.e (add 0#32 (L s)) ≠ CrcMath.e c := fun q => h (e_inj q)
  repeat' (first
    | refine W.seq ?_
    | refine W.region ?_
    | refine W.drawn ?_
    | refine WO.nil ?_
    | refine WH.nil ?_
    | refine WO.onG rfl ?_
    | refine WO.offG rfl ?_
    | refine WO.offG' rfl ?_
    | (refine WO.fork rfl ?_ ?_ <;> intro hc <;> (fail_if_success (exfalso; cases hc; done)) <;> (try subst hc))
    | (refine WO.isMv ?_; first | refine WO.go rfl rfl ?_ | refine WO.st rfl rfl ?_)
    | (refine WO.isBin ?_; first | refine WO.eqF rfl rfl rfl hn ?_ | refine WO.add64 rfl rfl rfl (by omega) (by omega) ?_ | refine WO.sub64 rfl rfl rfl (by omega) (by omega) ?_ | refine WO.rem rfl rfl rfl (by omega) (by omega) ?_ | refine WO.quoI64 rfl rfl rfl (by omega) (by omega) (by omega) ?_ | refine WO.quoU8 rfl rfl rfl (by omega) (by omega) (by omega) ?_ | refine WO.quoU32 rfl rfl rfl (by omega) (by omega) (by omega) ?_ | refine WO.quoU64 rfl rfl rfl (by omega) (by omega) (by omega) ?_ | refine WO.mul64 rfl rfl rfl (by omega) (by omega) ?_ | refine WO.addU32 rfl rfl rfl (by omega) (by omega) ?_ | refine WO.addU64 rfl rfl rfl (by omega) (by omega) ?_ | refine WO.addU8 rfl rfl rfl (by omega) (by omega) ?_ | refine WO.subU64 rfl rfl rfl (by omega) (by omega) ?_ | refine WO.subU32 rfl rfl rfl (by omega) (by omega) ?_ | refine WO.shl rfl rfl rfl (by omega) ?_ | refine WO.shr rfl rfl rfl (by omega) ?_ | refine WO.testT rfl rfl ?_ | refine WO.testF rfl rfl ?_ | (refine WO.test rfl rfl ?_ ?_ <;> intro hc <;> (try simp only [decide_eq_true_eq, decide_eq_false_iff_not, beq_iff_eq, beq_eq_false_iff_ne, bne_iff_ne, bne_eq_false_iff_eq, ne_eq, gt_iff_lt, ge_iff_le, Int.not_lt, Int.not_le, not_true_eq_false, not_false_eq_true] at hc) <;> (try omega)) | refine WO.go rfl rfl ?_ | refine WO.st rfl rfl ?_)
    | (refine WO.isUn ?_; first | refine WO.go rfl rfl ?_ | refine WO.st rfl rfl ?_)
    | (refine WO.isI2i ?_; first | refine WO.toI64 rfl rfl (by omega) (by omega) ?_ | refine WO.toU64 rfl rfl (by omega) (by omega) ?_ | refine WO.toU32 rfl rfl (by omega) (by omega) ?_ | refine WO.toU8 rfl rfl (by omega) (by omega) ?_ | refine WO.go rfl rfl ?_ | refine WO.st rfl rfl ?_)
    | (refine WO.isCall ?_; first | refine WO.ask rfl rfl (f9 _ hs _) ?_ | refine WO.ask' rfl rfl (f9 _ hs _) ?_)
    | (refine WO.isDyn ?_; first | refine WO.ask rfl rfl (f9 _ hs _) ?_ | refine WO.ask' rfl rfl (f9 _ hs _) ?_)
    | (refine WO.isLoad ?_; first | refine WO.go rfl rfl ?_ | refine WO.st rfl rfl ?_)
    | (refine WO.isStore ?_; first | refine WO.go rfl rfl ?_ | refine WO.st rfl rfl ?_)
    | (refine WO.isIaddr ?_; first | refine WO.go rfl rfl ?_ | refine WO.st rfl rfl ?_)
    | (refine WO.isIndex ?_; first | refine WO.go rfl rfl ?_ | refine WO.st rfl rfl ?_)
    | (refine WO.isSlice ?_; first | refine WO.go rfl rfl ?_ | refine WO.st rfl rfl ?_)
    | (refine WO.isLen ?_; first | refine WO.go rfl rfl ?_ | refine WO.st rfl rfl ?_)
    | (refine WO.isApp ?_; first | refine WO.go rfl rfl ?_ | refine WO.st rfl rfl ?_)
    | (refine WO.isEq ?_; first | refine WO.go rfl rfl ?_ | refine WO.st rfl rfl ?_)
    | refine WO.go rfl rfl ?_
    | refine WO.st rfl rfl ?_
    | refine WH.onG rfl ?_
    | refine WH.offG rfl ?_
    | refine WH.offG' rfl ?_
    | (refine WH.fork rfl ?_ ?_ <;> intro hc <;> (fail_if_success (exfalso; cases hc; done)) <;> (try subst hc))
    | (refine WH.isMv ?_; first | refine WH.go rfl rfl rfl ?_ | refine WH.st rfl rfl rfl ?_)
    | (refine WH.isBin ?_; first | refine WH.eqF rfl rfl rfl hn ?_ | refine WH.add64 rfl rfl rfl (by omega) (by omega) ?_ | refine WH.sub64 rfl rfl rfl (by omega) (by omega) ?_ | refine WH.rem rfl rfl rfl (by omega) (by omega) ?_ | refine WH.quoI64 rfl rfl rfl (by omega) (by omega) (by omega) ?_ | refine WH.quoU8 rfl rfl rfl (by omega) (by omega) (by omega) ?_ | refine WH.quoU32 rfl rfl rfl (by omega) (by omega) (by omega) ?_ | refine WH.quoU64 rfl rfl rfl (by omega) (by omega) (by omega) ?_ | refine WH.mul64 rfl rfl rfl (by omega) (by omega) ?_ | refine WH.addU32 rfl rfl rfl (by omega) (by omega) ?_ | refine WH.addU64 rfl rfl rfl (by omega) (by omega) ?_ | refine WH.addU8 rfl rfl rfl (by omega) (by omega) ?_ | refine WH.subU64 rfl rfl rfl (by omega) (by omega) ?_ | refine WH.subU32 rfl rfl rfl (by omega) (by omega) ?_ | refine WH.shl rfl rfl rfl (by omega) ?_ | refine WH.shr rfl rfl rfl (by omega) ?_ | refine WH.testT rfl rfl ?_ | refine WH.testF rfl rfl ?_ | (refine WH.test rfl rfl ?_ ?_ <;> intro hc <;> (try simp only [decide_eq_true_eq, decide_eq_false_iff_not, beq_iff_eq, beq_eq_false_iff_ne, bne_iff_ne, bne_eq_false_iff_eq, ne_eq, gt_iff_lt, ge_iff_le, Int.not_lt, Int.not_le, not_true_eq_false, not_false_eq_true] at hc) <;> (try omega)) | refine WH.go rfl rfl rfl ?_ | refine WH.st rfl rfl rfl ?_)
    | (refine WH.isUn ?_; first | refine WH.go rfl rfl rfl ?_ | refine WH.st rfl rfl rfl ?_)
    | (refine WH.isI2i ?_; first | refine WH.toI64 rfl rfl (by omega) (by omega) ?_ | refine WH.toU64 rfl rfl (by omega) (by omega) ?_ | refine WH.toU32 rfl rfl (by omega) (by omega) ?_ | refine WH.toU8 rfl rfl (by omega) (by omega) ?_ | refine WH.go rfl rfl rfl ?_ | refine WH.st rfl rfl rfl ?_)
    | (refine WH.isCall ?_; first | refine WH.ask rfl rfl rfl (f9 _ hs _) ?_)
    | (refine WH.isDyn ?_; first | refine WH.ask rfl rfl rfl (f9 _ hs _) ?_)
    | (refine WH.isLoad ?_; first | refine WH.go rfl rfl rfl ?_ | refine WH.st rfl rfl rfl ?_)
    | (refine WH.isStore ?_; first | refine WH.go rfl rfl rfl ?_ | refine WH.st rfl rfl rfl ?_)
    | (refine WH.isIaddr ?_; first | refine WH.go rfl rfl rfl ?_ | refine WH.st rfl rfl rfl ?_)
    | (refine WH.isIndex ?_; first | refine WH.go rfl rfl rfl ?_ | refine WH.st rfl rfl rfl ?_)
    | (refine WH.isSlice ?_; first | refine WH.go rfl rfl rfl ?_ | refine WH.st rfl rfl rfl ?_)
    | (refine WH.isLen ?_; first | refine WH.go rfl rfl rfl ?_ | refine WH.st rfl rfl rfl ?_)
    | (refine WH.isApp ?_; first | refine WH.go rfl rfl rfl ?_ | refine WH.st rfl rfl rfl ?_)
    | (refine WH.isEq ?_; first | refine WH.go rfl rfl rfl ?_ | refine WH.st rfl rfl rfl ?_)
    | refine WH.go rfl rfl rfl ?_
    | refine WH.st rfl rfl rfl ?_
    | refine W.skip ?_
    | refine W.condT rfl ?_
    | refine W.condF rfl ?_
    | (refine W.fork rfl ?_ ?_ <;> intro hc <;> (fail_if_success (exfalso; cases hc; done)) <;> (try subst hc))
    | refine W.ret ?_
    | refine W.block ?_
    | refine W.exit ?_)
  exact ⟨.inr rfl, _, rfl, fin rfl rfl rfl⟩
theorem L_mk (l : List UInt8) : L ⟨l.toArray⟩ = l.map UInt8.toNat := by
  unfold L
  simp
theorem L_app (s t : ByteArray) : L (s ++ t) = L s ++ L t := by
  unfold L
  simp
theorem add_app (c : B32) (l m : List Nat) : add (add c l) m = add c (l ++ m) := by
  unfold add
  rw [fold_append, BitVec.not_not]
theorem add_nil (c : B32) : add c [] = c := by unfold add fold; simp
/-- One byte another one: another sum. -/
theorem fold_set {c : B32} {l : List Nat} {i : Nat} {v : Nat} (hi : i < l.length) (hv : v < 4294967296) (hl : l[i] < 4294967296) (h : fold c (l.set i v) = fold c l) : v = l[i] := by
  have e1 : l.set i v = l.take i ++ v :: l.drop (i + 1) := by rw [List.set_eq_take_append_cons_drop, if_pos hi]
  have e2 : l = l.take i ++ l[i] :: l.drop (i + 1) := by rw [List.getElem_cons_drop]; exact (List.take_append_drop i l).symm
  rw [e1] at h
  conv at h => rhs; rw [e2]
  rw [fold_append, fold_append] at h
  have h2 : byt (fold c (l.take i)) v = byt (fold c (l.take i)) l[i] := fold_inj _ h
  have h3 := st8_inj h2
  have h4 : fold c (l.take i) ^^^ (fold c (l.take i) ^^^ BitVec.ofNat 32 v) = fold c (l.take i) ^^^ (fold c (l.take i) ^^^ BitVec.ofNat 32 l[i]) := by rw [h3]
  rw [← BitVec.xor_assoc, ← BitVec.xor_assoc, BitVec.xor_self, BitVec.zero_xor, BitVec.zero_xor] at h4
  have h5 := congrArg BitVec.toNat h4
  rw [BitVec.toNat_ofNat, BitVec.toNat_ofNat, Nat.mod_eq_of_lt (by omega), Nat.mod_eq_of_lt (by omega)] at h5
  exact h5
theorem u8_xor_ne {a b : UInt8} (h : b ≠ 0) : a ^^^ b ≠ a := by
  intro q
  apply h
  have : a ^^^ (a ^^^ b) = a ^^^ a := by rw [q]
  rw [← UInt8.xor_assoc, UInt8.xor_self, UInt8.zero_xor] at this
  exact this
theorem add_set {c : B32} {l : List UInt8} {i : Nat} {b v : UInt8} (hi : l[i]? = some b) (hv : v ≠ b) : add c ((l.set i v).map UInt8.toNat) ≠ add c (l.map UInt8.toNat) := by
  intro h
  obtain ⟨hl, hb⟩ := List.getElem?_eq_some_iff.1 hi
  unfold add at h
  have h1 : fold (~~~c) ((l.map UInt8.toNat).set i v.toNat) = fold (~~~c) (l.map UInt8.toNat) := by
    rw [← List.map_set]
    have := congrArg (fun x : B32 => ~~~x) h
    simpa using this
  have h2 := fold_set (by simpa using hl) (by have := v.toNat_lt; omega) (by rw [List.getElem_map]; have := (l[i]).toNat_lt; omega) h1
  rw [List.getElem_map, hb] at h2
  exact hv (UInt8.toNat_inj.1 h2)
set_option maxRecDepth 8000 in
set_option maxHeartbeats 4000000 in
theorem law4 (s t : ByteArray) (a b : Int) (hs : s.size ≤ 140737488351232) (ht : t.size ≤ 140737488351232) (ha : 0 ≤ a ∧ a ≤ 65535) (hb : 0 ≤ b ∧ b ≤ 255) : E0 4 [.str s, .str t, .int .u16 a, .int .u8 b] [] (.bool true) [] := by
  refine EvF.by (nf := nf4) (args := [.str s, .str t, .int .u16 a, .int .u8 b]) rfl (of_decide_eq_true rfl) rfl ?_
  have hst : (s ++ t).size = s.size + t.size := ByteArray.size_append
  have h9 := f9 (s ++ t) (by omega)
  have h9s := f9 s (by omega)
  have h10 : ∀ m, E0 10 [.int .u32 (CrcMath.e (add 0#32 (L s))), .str t] m (.int .u32 (CrcMath.e (add 0#32 (L (s ++ t))))) m := fun m => by
    have := f10 (add 0#32 (L s)) t (by omega) m
    rwa [add_app, ← L_app] at this
  have h10e : ∀ m, E0 10 [.int .u32 (CrcMath.e (add 0#32 (L (s ++ t)))), .str ByteArray.empty] m (.int .u32 (CrcMath.e (add 0#32 (L (s ++ t))))) m := fun m => by
    have := f10 (add 0#32 (L (s ++ t))) ByteArray.empty (by simp) m
    rwa [show L ByteArray.empty = [] from rfl, add_nil] at this
  by_cases h0 : s ++ t = ByteArray.empty
  · repeat' (first
      | refine W.seq ?_
      | refine W.region ?_
      | refine W.drawn ?_
      | refine WO.nil ?_
      | refine WH.nil ?_
      | refine WO.onG rfl ?_
      | refine WO.offG rfl ?_
      | refine WO.offG' rfl ?_
      | (refine WO.fork rfl ?_ ?_ <;> intro hc <;> (fail_if_success (exfalso; cases hc; done)) <;> (try subst hc))
      | (refine WO.isMv ?_; first | refine WO.go rfl rfl ?_ | refine WO.st rfl rfl ?_)
      | (refine WO.isBin ?_; first | refine WO.neF rfl rfl rfl rfl ?_ | refine WO.cat rfl rfl rfl (by omega) ?_ | refine WO.seqT rfl rfl rfl h0 ?_ | refine WO.add64 rfl rfl rfl (by omega) (by omega) ?_ | refine WO.sub64 rfl rfl rfl (by omega) (by omega) ?_ | refine WO.rem rfl rfl rfl (by omega) (by omega) ?_ | refine WO.quoI64 rfl rfl rfl (by omega) (by omega) (by omega) ?_ | refine WO.quoU8 rfl rfl rfl (by omega) (by omega) (by omega) ?_ | refine WO.quoU32 rfl rfl rfl (by omega) (by omega) (by omega) ?_ | refine WO.quoU64 rfl rfl rfl (by omega) (by omega) (by omega) ?_ | refine WO.mul64 rfl rfl rfl (by omega) (by omega) ?_ | refine WO.addU32 rfl rfl rfl (by omega) (by omega) ?_ | refine WO.addU64 rfl rfl rfl (by omega) (by omega) ?_ | refine WO.addU8 rfl rfl rfl (by omega) (by omega) ?_ | refine WO.subU64 rfl rfl rfl (by omega) (by omega) ?_ | refine WO.subU32 rfl rfl rfl (by omega) (by omega) ?_ | refine WO.shl rfl rfl rfl (by omega) ?_ | refine WO.shr rfl rfl rfl (by omega) ?_ | refine WO.testT rfl rfl ?_ | refine WO.testF rfl rfl ?_ | (refine WO.test rfl rfl ?_ ?_ <;> intro hc <;> (try simp only [decide_eq_true_eq, decide_eq_false_iff_not, beq_iff_eq, beq_eq_false_iff_ne, bne_iff_ne, bne_eq_false_iff_eq, ne_eq, gt_iff_lt, ge_iff_le, Int.not_lt, Int.not_le, not_true_eq_false, not_false_eq_true] at hc) <;> (try omega)) | refine WO.go rfl rfl ?_ | refine WO.st rfl rfl ?_)
      | (refine WO.isUn ?_; first | refine WO.go rfl rfl ?_ | refine WO.st rfl rfl ?_)
      | (refine WO.isI2i ?_; first | refine WO.toI64 rfl rfl (by omega) (by omega) ?_ | refine WO.toU64 rfl rfl (by omega) (by omega) ?_ | refine WO.toU32 rfl rfl (by omega) (by omega) ?_ | refine WO.toU8 rfl rfl (by omega) (by omega) ?_ | refine WO.go rfl rfl ?_ | refine WO.st rfl rfl ?_)
      | (refine WO.isCall ?_; first | refine WO.ask rfl rfl (f7 _) ?_ | refine WO.ask' rfl rfl (f7 _) ?_ | refine WO.ask rfl rfl (h9 _) ?_ | refine WO.ask' rfl rfl (h9 _) ?_ | refine WO.ask rfl rfl (h9s _) ?_ | refine WO.ask' rfl rfl (h9s _) ?_ | refine WO.ask rfl rfl (h10 _) ?_ | refine WO.ask' rfl rfl (h10 _) ?_ | refine WO.ask rfl rfl (h10e _) ?_ | refine WO.ask' rfl rfl (h10e _) ?_)
      | (refine WO.isDyn ?_; first | refine WO.ask rfl rfl (f7 _) ?_ | refine WO.ask' rfl rfl (f7 _) ?_ | refine WO.ask rfl rfl (h9 _) ?_ | refine WO.ask' rfl rfl (h9 _) ?_ | refine WO.ask rfl rfl (h9s _) ?_ | refine WO.ask' rfl rfl (h9s _) ?_ | refine WO.ask rfl rfl (h10 _) ?_ | refine WO.ask' rfl rfl (h10 _) ?_ | refine WO.ask rfl rfl (h10e _) ?_ | refine WO.ask' rfl rfl (h10e _) ?_)
      | (refine WO.isLoad ?_; first | refine WO.go rfl rfl ?_ | refine WO.st rfl rfl ?_)
      | (refine WO.isStore ?_; first | refine WO.go rfl rfl ?_ | refine WO.st rfl rfl ?_)
      | (refine WO.isIaddr ?_; first | refine WO.go rfl rfl ?_ | refine WO.st rfl rfl ?_)
      | (refine WO.isIndex ?_; first | refine WO.go rfl rfl ?_ | refine WO.st rfl rfl ?_)
      | (refine WO.isSlice ?_; first | refine WO.go rfl rfl ?_ | refine WO.st rfl rfl ?_)
      | (refine WO.isLen ?_; first | refine WO.go rfl rfl ?_ | refine WO.st rfl rfl ?_)
      | (refine WO.isApp ?_; first | refine WO.go rfl rfl ?_ | refine WO.st rfl rfl ?_)
      | (refine WO.isEq ?_; first | refine WO.go rfl rfl ?_ | refine WO.st rfl rfl ?_)
      | refine WO.go rfl rfl ?_
      | refine WO.st rfl rfl ?_
      | refine WH.onG rfl ?_
      | refine WH.offG rfl ?_
      | refine WH.offG' rfl ?_
      | (refine WH.fork rfl ?_ ?_ <;> intro hc <;> (fail_if_success (exfalso; cases hc; done)) <;> (try subst hc))
      | (refine WH.isMv ?_; first | refine WH.go rfl rfl rfl ?_ | refine WH.st rfl rfl rfl ?_)
      | (refine WH.isBin ?_; first | refine WH.neF rfl rfl rfl rfl ?_ | refine WH.cat rfl rfl rfl (by omega) ?_ | refine WH.seqT rfl rfl rfl h0 ?_ | refine WH.add64 rfl rfl rfl (by omega) (by omega) ?_ | refine WH.sub64 rfl rfl rfl (by omega) (by omega) ?_ | refine WH.rem rfl rfl rfl (by omega) (by omega) ?_ | refine WH.quoI64 rfl rfl rfl (by omega) (by omega) (by omega) ?_ | refine WH.quoU8 rfl rfl rfl (by omega) (by omega) (by omega) ?_ | refine WH.quoU32 rfl rfl rfl (by omega) (by omega) (by omega) ?_ | refine WH.quoU64 rfl rfl rfl (by omega) (by omega) (by omega) ?_ | refine WH.mul64 rfl rfl rfl (by omega) (by omega) ?_ | refine WH.addU32 rfl rfl rfl (by omega) (by omega) ?_ | refine WH.addU64 rfl rfl rfl (by omega) (by omega) ?_ | refine WH.addU8 rfl rfl rfl (by omega) (by omega) ?_ | refine WH.subU64 rfl rfl rfl (by omega) (by omega) ?_ | refine WH.subU32 rfl rfl rfl (by omega) (by omega) ?_ | refine WH.shl rfl rfl rfl (by omega) ?_ | refine WH.shr rfl rfl rfl (by omega) ?_ | refine WH.testT rfl rfl ?_ | refine WH.testF rfl rfl ?_ | (refine WH.test rfl rfl ?_ ?_ <;> intro hc <;> (try simp only [decide_eq_true_eq, decide_eq_false_iff_not, beq_iff_eq, beq_eq_false_iff_ne, bne_iff_ne, bne_eq_false_iff_eq, ne_eq, gt_iff_lt, ge_iff_le, Int.not_lt, Int.not_le, not_true_eq_false, not_false_eq_true] at hc) <;> (try omega)) | refine WH.go rfl rfl rfl ?_ | refine WH.st rfl rfl rfl ?_)
      | (refine WH.isUn ?_; first | refine WH.go rfl rfl rfl ?_ | refine WH.st rfl rfl rfl ?_)
      | (refine WH.isI2i ?_; first | refine WH.toI64 rfl rfl (by omega) (by omega) ?_ | refine WH.toU64 rfl rfl (by omega) (by omega) ?_ | refine WH.toU32 rfl rfl (by omega) (by omega) ?_ | refine WH.toU8 rfl rfl (by omega) (by omega) ?_ | refine WH.go rfl rfl rfl ?_ | refine WH.st rfl rfl rfl ?_)
      | (refine WH.isCall ?_; first | refine WH.ask rfl rfl rfl (f7 _) ?_ | refine WH.ask rfl rfl rfl (h9 _) ?_ | refine WH.ask rfl rfl rfl (h9s _) ?_ | refine WH.ask rfl rfl rfl (h10 _) ?_ | refine WH.ask rfl rfl rfl (h10e _) ?_)
      | (refine WH.isDyn ?_; first | refine WH.ask rfl rfl rfl (f7 _) ?_ | refine WH.ask rfl rfl rfl (h9 _) ?_ | refine WH.ask rfl rfl rfl (h9s _) ?_ | refine WH.ask rfl rfl rfl (h10 _) ?_ | refine WH.ask rfl rfl rfl (h10e _) ?_)
      | (refine WH.isLoad ?_; first | refine WH.go rfl rfl rfl ?_ | refine WH.st rfl rfl rfl ?_)
      | (refine WH.isStore ?_; first | refine WH.go rfl rfl rfl ?_ | refine WH.st rfl rfl rfl ?_)
      | (refine WH.isIaddr ?_; first | refine WH.go rfl rfl rfl ?_ | refine WH.st rfl rfl rfl ?_)
      | (refine WH.isIndex ?_; first | refine WH.go rfl rfl rfl ?_ | refine WH.st rfl rfl rfl ?_)
      | (refine WH.isSlice ?_; first | refine WH.go rfl rfl rfl ?_ | refine WH.st rfl rfl rfl ?_)
      | (refine WH.isLen ?_; first | refine WH.go rfl rfl rfl ?_ | refine WH.st rfl rfl rfl ?_)
      | (refine WH.isApp ?_; first | refine WH.go rfl rfl rfl ?_ | refine WH.st rfl rfl rfl ?_)
      | (refine WH.isEq ?_; first | refine WH.go rfl rfl rfl ?_ | refine WH.st rfl rfl rfl ?_)
      | refine WH.go rfl rfl rfl ?_
      | refine WH.st rfl rfl rfl ?_
      | refine W.skip ?_
      | refine W.condT rfl ?_
      | refine W.condF rfl ?_
      | (refine W.fork rfl ?_ ?_ <;> intro hc <;> (fail_if_success (exfalso; cases hc; done)) <;> (try subst hc))
      | refine W.ret ?_
      | refine W.block ?_
      | refine W.exit ?_)
    exact ⟨.inr rfl, _, rfl, fin rfl rfl rfl⟩
  · have hpos : 0 < (s ++ t).size := by
      rcases Nat.eq_zero_or_pos (s ++ t).size with h | h
      · exact absurd (ByteArray.size_eq_zero_iff.1 h) h0
      · exact h
    obtain ⟨k, hk⟩ : ∃ k : Nat, a % ((s ++ t).size : Int) = k := ⟨(a % ((s ++ t).size : Int)).toNat, by have := Int.emod_nonneg a (b := ((s ++ t).size : Int)) (by omega); omega⟩
    have hlt : k < (s ++ t).size := by have := Int.emod_lt_of_pos a (b := ((s ++ t).size : Int)) (by omega); omega
    have hlen : (s ++ t).data.toList.length = (s ++ t).size := by rw [Array.length_toList]; rfl
    obtain ⟨x, hx⟩ : ∃ x, (s ++ t).data.toList[0 + k]? = some x := ⟨_, List.getElem?_eq_getElem (by omega)⟩
    obtain ⟨u, hu, hu0⟩ : ∃ u : UInt8, IntKind.u8.wrap (1 * 2 ^ (min (b % 8).toNat IntKind.u8.bits)) = (u.toNat : Int) ∧ u ≠ 0 := by
      have : b % 8 = 0 ∨ b % 8 = 1 ∨ b % 8 = 2 ∨ b % 8 = 3 ∨ b % 8 = 4 ∨ b % 8 = 5 ∨ b % 8 = 6 ∨ b % 8 = 7 := by omega
      rcases this with h | h | h | h | h | h | h | h <;> rw [h]
      · exact ⟨1, by decide, by decide⟩
      · exact ⟨2, by decide, by decide⟩
      · exact ⟨4, by decide, by decide⟩
      · exact ⟨8, by decide, by decide⟩
      · exact ⟨16, by decide, by decide⟩
      · exact ⟨32, by decide, by decide⟩
      · exact ⟨64, by decide, by decide⟩
      · exact ⟨128, by decide, by decide⟩
    have hne : add 0#32 (L ⟨((s ++ t).data.toList.set (0 + k) (x ^^^ u)).toArray⟩) ≠ add 0#32 (L (s ++ t)) := by
      rw [L_mk, show L (s ++ t) = (s ++ t).data.toList.map UInt8.toNat from rfl]
      exact add_set hx (u8_xor_ne hu0)
    have hne' : CrcMath.e (add 0#32 (L ⟨((s ++ t).data.toList.set (0 + k) (x ^^^ u)).toArray⟩)) ≠ CrcMath.e (add 0#32 (L (s ++ t))) := fun q => hne (e_inj q)
    have hsz : (⟨((s ++ t).data.toList.set (0 + k) (x ^^^ u)).toArray⟩ : ByteArray).size ≤ 281474976710656 := by
      show (((s ++ t).data.toList.set (0 + k) (x ^^^ u)).toArray).size ≤ _
      simp only [List.size_toArray, List.length_set]
      omega
    have hl2 : (s ++ t).size = ((s ++ t).data.toList.set (0 + k) (x ^^^ u)).length := by rw [List.length_set]; exact hlen.symm
    have h12 := fun m => f12 _ hsz _ m hne
    have h9n := f9 _ hsz
    repeat' (first
      | refine W.seq ?_
      | refine W.region ?_
      | refine W.drawn ?_
      | refine WO.nil ?_
      | refine WH.nil ?_
      | refine WO.s2bE rfl rfl (by omega) ?_
      | refine WO.bstore rfl rfl rfl rfl (by omega) ?_
      | refine WO.b2sE rfl rfl rfl hl2 ?_
      | refine WH.b2sE rfl rfl rfl hl2 rfl ?_
      | refine WO.onG rfl ?_
      | refine WO.offG rfl ?_
      | refine WO.offG' rfl ?_
      | (refine WO.fork rfl ?_ ?_ <;> intro hc <;> (fail_if_success (exfalso; cases hc; done)) <;> (try subst hc))
      | (refine WO.isMv ?_; first | refine WO.go rfl rfl ?_ | refine WO.st rfl rfl ?_)
      | (refine WO.isBin ?_; first | refine WO.neF rfl rfl rfl rfl ?_ | refine WO.neT rfl rfl rfl hne' ?_ | refine WO.cat rfl rfl rfl (by omega) ?_ | refine WO.seqF rfl rfl rfl h0 ?_ | refine WO.bxorZ rfl rfl rfl hu ?_ | refine WO.add64 rfl rfl rfl (by omega) (by omega) ?_ | refine WO.sub64 rfl rfl rfl (by omega) (by omega) ?_ | refine WO.rem rfl rfl rfl (by omega) (by omega) ?_ | refine WO.quoI64 rfl rfl rfl (by omega) (by omega) (by omega) ?_ | refine WO.quoU8 rfl rfl rfl (by omega) (by omega) (by omega) ?_ | refine WO.quoU32 rfl rfl rfl (by omega) (by omega) (by omega) ?_ | refine WO.quoU64 rfl rfl rfl (by omega) (by omega) (by omega) ?_ | refine WO.mul64 rfl rfl rfl (by omega) (by omega) ?_ | refine WO.addU32 rfl rfl rfl (by omega) (by omega) ?_ | refine WO.addU64 rfl rfl rfl (by omega) (by omega) ?_ | refine WO.addU8 rfl rfl rfl (by omega) (by omega) ?_ | refine WO.subU64 rfl rfl rfl (by omega) (by omega) ?_ | refine WO.subU32 rfl rfl rfl (by omega) (by omega) ?_ | refine WO.shl rfl rfl rfl (by omega) ?_ | refine WO.shr rfl rfl rfl (by omega) ?_ | refine WO.testT rfl rfl ?_ | refine WO.testF rfl rfl ?_ | (refine WO.test rfl rfl ?_ ?_ <;> intro hc <;> (try simp only [decide_eq_true_eq, decide_eq_false_iff_not, beq_iff_eq, beq_eq_false_iff_ne, bne_iff_ne, bne_eq_false_iff_eq, ne_eq, gt_iff_lt, ge_iff_le, Int.not_lt, Int.not_le, not_true_eq_false, not_false_eq_true] at hc) <;> (try omega)) | refine WO.go rfl rfl ?_ | refine WO.st rfl rfl ?_)
      | (refine WO.isUn ?_; first | refine WO.go rfl rfl ?_ | refine WO.st rfl rfl ?_)
      | (refine WO.isI2i ?_; first | refine WO.toI64 rfl rfl (by omega) (by omega) ?_ | refine WO.toU64 rfl rfl (by omega) (by omega) ?_ | refine WO.toU32 rfl rfl (by omega) (by omega) ?_ | refine WO.toU8 rfl rfl (by omega) (by omega) ?_ | refine WO.go rfl rfl ?_ | refine WO.st rfl rfl ?_)
      | (refine WO.isCall ?_; first | refine WO.ask rfl rfl (f7 _) ?_ | refine WO.ask' rfl rfl (f7 _) ?_ | refine WO.ask rfl rfl (h9 _) ?_ | refine WO.ask' rfl rfl (h9 _) ?_ | refine WO.ask rfl rfl (h9s _) ?_ | refine WO.ask' rfl rfl (h9s _) ?_ | refine WO.ask rfl rfl (h10 _) ?_ | refine WO.ask' rfl rfl (h10 _) ?_ | refine WO.ask rfl rfl (h10e _) ?_ | refine WO.ask' rfl rfl (h10e _) ?_ | refine WO.ask rfl rfl (h9n _) ?_ | refine WO.ask' rfl rfl (h9n _) ?_ | refine WO.ask rfl rfl (h12 _) ?_ | refine WO.ask' rfl rfl (h12 _) ?_)
      | (refine WO.isDyn ?_; first | refine WO.ask rfl rfl (f7 _) ?_ | refine WO.ask' rfl rfl (f7 _) ?_ | refine WO.ask rfl rfl (h9 _) ?_ | refine WO.ask' rfl rfl (h9 _) ?_ | refine WO.ask rfl rfl (h9s _) ?_ | refine WO.ask' rfl rfl (h9s _) ?_ | refine WO.ask rfl rfl (h10 _) ?_ | refine WO.ask' rfl rfl (h10 _) ?_ | refine WO.ask rfl rfl (h10e _) ?_ | refine WO.ask' rfl rfl (h10e _) ?_ | refine WO.ask rfl rfl (h9n _) ?_ | refine WO.ask' rfl rfl (h9n _) ?_ | refine WO.ask rfl rfl (h12 _) ?_ | refine WO.ask' rfl rfl (h12 _) ?_)
      | (refine WO.isLoad ?_; first | refine WO.bload rfl rfl rfl hx ?_ | refine WO.go rfl rfl ?_ | refine WO.st rfl rfl ?_)
      | (refine WO.isStore ?_; first | refine WO.go rfl rfl ?_ | refine WO.st rfl rfl ?_)
      | (refine WO.isIaddr ?_; first | refine WO.bidx rfl rfl rfl hk hlt ?_ | refine WO.go rfl rfl ?_ | refine WO.st rfl rfl ?_)
      | (refine WO.isIndex ?_; first | refine WO.go rfl rfl ?_ | refine WO.st rfl rfl ?_)
      | (refine WO.isSlice ?_; first | refine WO.go rfl rfl ?_ | refine WO.st rfl rfl ?_)
      | (refine WO.isLen ?_; first | refine WO.go rfl rfl ?_ | refine WO.st rfl rfl ?_)
      | (refine WO.isApp ?_; first | refine WO.go rfl rfl ?_ | refine WO.st rfl rfl ?_)
      | (refine WO.isEq ?_; first | refine WO.go rfl rfl ?_ | refine WO.st rfl rfl ?_)
      | refine WO.go rfl rfl ?_
      | refine WO.st rfl rfl ?_
      | refine WH.onG rfl ?_
      | refine WH.offG rfl ?_
      | refine WH.offG' rfl ?_
      | (refine WH.fork rfl ?_ ?_ <;> intro hc <;> (fail_if_success (exfalso; cases hc; done)) <;> (try subst hc))
      | (refine WH.isMv ?_; first | refine WH.go rfl rfl rfl ?_ | refine WH.st rfl rfl rfl ?_)
      | (refine WH.isBin ?_; first | refine WH.neF rfl rfl rfl rfl ?_ | refine WH.neT rfl rfl rfl hne' ?_ | refine WH.cat rfl rfl rfl (by omega) ?_ | refine WH.seqF rfl rfl rfl h0 ?_ | refine WH.bxorZ rfl rfl rfl hu ?_ | refine WH.add64 rfl rfl rfl (by omega) (by omega) ?_ | refine WH.sub64 rfl rfl rfl (by omega) (by omega) ?_ | refine WH.rem rfl rfl rfl (by omega) (by omega) ?_ | refine WH.quoI64 rfl rfl rfl (by omega) (by omega) (by omega) ?_ | refine WH.quoU8 rfl rfl rfl (by omega) (by omega) (by omega) ?_ | refine WH.quoU32 rfl rfl rfl (by omega) (by omega) (by omega) ?_ | refine WH.quoU64 rfl rfl rfl (by omega) (by omega) (by omega) ?_ | refine WH.mul64 rfl rfl rfl (by omega) (by omega) ?_ | refine WH.addU32 rfl rfl rfl (by omega) (by omega) ?_ | refine WH.addU64 rfl rfl rfl (by omega) (by omega) ?_ | refine WH.addU8 rfl rfl rfl (by omega) (by omega) ?_ | refine WH.subU64 rfl rfl rfl (by omega) (by omega) ?_ | refine WH.subU32 rfl rfl rfl (by omega) (by omega) ?_ | refine WH.shl rfl rfl rfl (by omega) ?_ | refine WH.shr rfl rfl rfl (by omega) ?_ | refine WH.testT rfl rfl ?_ | refine WH.testF rfl rfl ?_ | (refine WH.test rfl rfl ?_ ?_ <;> intro hc <;> (try simp only [decide_eq_true_eq, decide_eq_false_iff_not, beq_iff_eq, beq_eq_false_iff_ne, bne_iff_ne, bne_eq_false_iff_eq, ne_eq, gt_iff_lt, ge_iff_le, Int.not_lt, Int.not_le, not_true_eq_false, not_false_eq_true] at hc) <;> (try omega)) | refine WH.go rfl rfl rfl ?_ | refine WH.st rfl rfl rfl ?_)
      | (refine WH.isUn ?_; first | refine WH.go rfl rfl rfl ?_ | refine WH.st rfl rfl rfl ?_)
      | (refine WH.isI2i ?_; first | refine WH.toI64 rfl rfl (by omega) (by omega) ?_ | refine WH.toU64 rfl rfl (by omega) (by omega) ?_ | refine WH.toU32 rfl rfl (by omega) (by omega) ?_ | refine WH.toU8 rfl rfl (by omega) (by omega) ?_ | refine WH.go rfl rfl rfl ?_ | refine WH.st rfl rfl rfl ?_)
      | (refine WH.isCall ?_; first | refine WH.ask rfl rfl rfl (f7 _) ?_ | refine WH.ask rfl rfl rfl (h9 _) ?_ | refine WH.ask rfl rfl rfl (h9s _) ?_ | refine WH.ask rfl rfl rfl (h10 _) ?_ | refine WH.ask rfl rfl rfl (h10e _) ?_ | refine WH.ask rfl rfl rfl (h9n _) ?_ | refine WH.ask rfl rfl rfl (h12 _) ?_)
      | (refine WH.isDyn ?_; first | refine WH.ask rfl rfl rfl (f7 _) ?_ | refine WH.ask rfl rfl rfl (h9 _) ?_ | refine WH.ask rfl rfl rfl (h9s _) ?_ | refine WH.ask rfl rfl rfl (h10 _) ?_ | refine WH.ask rfl rfl rfl (h10e _) ?_ | refine WH.ask rfl rfl rfl (h9n _) ?_ | refine WH.ask rfl rfl rfl (h12 _) ?_)
      | (refine WH.isLoad ?_; first | refine WH.bload rfl rfl rfl hx rfl ?_ | refine WH.go rfl rfl rfl ?_ | refine WH.st rfl rfl rfl ?_)
      | (refine WH.isStore ?_; first | refine WH.go rfl rfl rfl ?_ | refine WH.st rfl rfl rfl ?_)
      | (refine WH.isIaddr ?_; first | refine WH.bidx rfl rfl rfl hk hlt ?_ | refine WH.go rfl rfl rfl ?_ | refine WH.st rfl rfl rfl ?_)
      | (refine WH.isIndex ?_; first | refine WH.go rfl rfl rfl ?_ | refine WH.st rfl rfl rfl ?_)
      | (refine WH.isSlice ?_; first | refine WH.go rfl rfl rfl ?_ | refine WH.st rfl rfl rfl ?_)
      | (refine WH.isLen ?_; first | refine WH.go rfl rfl rfl ?_ | refine WH.st rfl rfl rfl ?_)
      | (refine WH.isApp ?_; first | refine WH.go rfl rfl rfl ?_ | refine WH.st rfl rfl rfl ?_)
      | (refine WH.isEq ?_; first | refine WH.go rfl rfl rfl ?_ | refine WH.st rfl rfl rfl ?_)
      | refine WH.go rfl rfl rfl ?_
      | refine WH.st rfl rfl rfl ?_
      | refine W.skip ?_
      | refine W.condT rfl ?_
      | refine W.condF rfl ?_
      | (refine W.fork rfl ?_ ?_ <;> intro hc <;> (fail_if_success (exfalso; cases hc; done)) <;> (try subst hc))
      | refine W.ret ?_
      | refine W.block ?_
      | refine W.exit ?_)
    exact ⟨.inr rfl, _, rfl, fin rfl rfl rfl⟩
end Go.Proofs.Ytogmnckhpokfhaa.Nv
