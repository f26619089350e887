/- The checksum's laws: bursts, that it is linear: the runs. -/
import Derived.Test.YtogmnckhpokfhaaC5
namespace Go.Proofs.Ytogmnckhpokfhaa.Nv
open Go Go.Proofs.Ytogmnckhpokfhaa.CrcMath
theorem f9L (l : List UInt8) (h : l.length ≤ 281474976710656) (m : Mem) : E0 9 [.str ⟨l.toArray⟩] m (.int .u32 (CrcMath.e (add 0#32 (l.map UInt8.toNat)))) m := by
  have := f9 ⟨l.toArray⟩ (by rw [size_mk]; exact h) m
  rwa [L_mk] at this
theorem e_iff {a b : B32} : CrcMath.e a = CrcMath.e b ↔ a = b := ⟨e_inj, fun h => by rw [h]⟩
set_option maxRecDepth 8000 in
set_option maxHeartbeats 4000000 in
theorem law5 (s : ByteArray) (a w : Int) (hs : s.size ≤ 140737488351232) (ha : 0 ≤ a ∧ a ≤ 65535) (hw : 0 ≤ w ∧ w ≤ 4294967295) : E0 5 [.str s, .int .u16 a, .int .u32 w] [] (.bool true) [] := by
  refine EvF.by (nf := nf5) (args := [.str s, .int .u16 a, .int .u32 w]) rfl (of_decide_eq_true rfl) rfl ?_
  have hst : (s ++ tail8).size = s.size + 8 := ByteArray.size_append
  have ht8 : tail8.size = 8 := rfl
  have hlen := L_len (s ++ tail8)
  generalize hls : (s ++ tail8).data.toList = ls at hlen
  obtain ⟨k, hk⟩ : ∃ k : Nat, a % (((s ++ tail8).size : Int) - 4) = k := ⟨(a % (((s ++ tail8).size : Int) - 4)).toNat, by have := Int.emod_nonneg a (b := ((s ++ tail8).size : Int) - 4) (by omega); omega⟩
  have hlt : k + 4 < ls.length := by have := Int.emod_lt_of_pos a (b := ((s ++ tail8).size : Int) - 4) (by omega); omega
  have h9 := f9L ls (by omega)
  have h9b := f9L (bend4 ls k (ub w) 4) (by rw [bend4_len]; omega)
  have h9s := f9L (swap2 ls k) (by unfold swap2; simp; omega)
  have hb : CrcMath.e (add 0#32 ((bend4 ls k (ub w) 4).map UInt8.toNat)) = CrcMath.e (add 0#32 (ls.map UInt8.toNat)) ↔ w = 0 := by rw [e_iff, burst_eq (by omega), ub_zero hw]
  have hc : CrcMath.e (add 0#32 ((swap2 ls k).map UInt8.toNat)) = CrcMath.e (add 0#32 (ls.map UInt8.toNat)) ↔ ((ls.getD (k + 1) 0).toNat : Int) = ((ls.getD k 0).toNat : Int) := by
    rw [e_iff, swap_eq (by omega)]
    constructor
    · intro h; rw [h]
    · intro h; apply UInt8.toNat_inj.1; omega
  have hlw : (s ++ tail8).size = (swap2 ls k).length := by unfold swap2; simp; omega
  have hlb : (s ++ tail8).size = (bend4 ls k (ub w) 4).length := by rw [bend4_len]; omega
  have gd : ∀ j, k + j < ls.length → ls[k + j]? = some (ls.getD (k + j) 0) := fun j hj => by simp [List.getD_eq_getElem?_getD, List.getElem?_eq_getElem hj]
  have g0 : ls[k]? = some (ls.getD k 0) := gd 0 (by omega)
  have g1 := gd 1 (by omega)
  have g1' : (ls.set k (ls.getD (k + 1) 0))[k]? = some (ls.getD (k + 1) 0) := by rw [List.getElem?_set_self (by omega)]
  have s0 : (swap2 ls k)[k]? = some (ls.getD (k + 1) 0) := by unfold swap2; rw [List.getElem?_set_ne (by omega)]; exact g1'
  have s1 : (swap2 ls k)[k + 1]? = some (ls.getD k 0) := by unfold swap2; rw [List.getElem?_set_self (by simp; omega)]
  repeat' (first
    | refine W.seq ?_
    | refine W.region ?_
    | refine W.drawn ?_
    | refine WO.nil ?_
    | refine WH.nil ?_
    | refine WO.s2bL rfl rfl (by omega) hls ?_
    | refine WO.b2sE rfl rfl rfl (by omega) ?_
    | refine WH.b2sE rfl rfl rfl (by omega) rfl ?_
    | refine WO.onG rfl ?_
    | refine WO.offG rfl ?_
    | refine WO.offG' rfl ?_
    | (refine WO.fork rfl ?_ ?_ <;> intro hc <;> (fail_if_success (exfalso; cases hc; done)) <;> (try subst hc))
    | (refine WO.isMv ?_; first | refine WO.go rfl rfl ?_ | refine WO.st rfl rfl ?_)
    | (refine WO.isBin ?_; first | refine WO.cat rfl rfl rfl (t := tail8) (by omega) ?_ | refine WO.remE rfl rfl rfl (by omega) (by omega) hk ?_ | refine WO.add64 rfl rfl rfl (by omega) (by omega) ?_ | refine WO.sub64 rfl rfl rfl (by omega) (by omega) ?_ | refine WO.rem rfl rfl rfl (by omega) (by omega) ?_ | refine WO.quoI64 rfl rfl rfl (by omega) (by omega) (by omega) ?_ | refine WO.quoU8 rfl rfl rfl (by omega) (by omega) (by omega) ?_ | refine WO.quoU32 rfl rfl rfl (by omega) (by omega) (by omega) ?_ | refine WO.quoU64 rfl rfl rfl (by omega) (by omega) (by omega) ?_ | refine WO.mul64 rfl rfl rfl (by omega) (by omega) ?_ | refine WO.addU32 rfl rfl rfl (by omega) (by omega) ?_ | refine WO.addU64 rfl rfl rfl (by omega) (by omega) ?_ | refine WO.addU8 rfl rfl rfl (by omega) (by omega) ?_ | refine WO.subU64 rfl rfl rfl (by omega) (by omega) ?_ | refine WO.subU32 rfl rfl rfl (by omega) (by omega) ?_ | refine WO.shl rfl rfl rfl (by omega) ?_ | refine WO.shr rfl rfl rfl (by omega) ?_ | refine WO.testT rfl rfl ?_ | refine WO.testF rfl rfl ?_ | (refine WO.test rfl rfl ?_ ?_ <;> intro hc <;> (try simp only [decide_eq_true_eq, decide_eq_false_iff_not, beq_iff_eq, beq_eq_false_iff_ne, bne_iff_ne, bne_eq_false_iff_eq, ne_eq, gt_iff_lt, ge_iff_le, Int.not_lt, Int.not_le, not_true_eq_false, not_false_eq_true] at hc) <;> (try omega)) | refine WO.go rfl rfl ?_ | refine WO.st rfl rfl ?_)
    | (refine WO.isUn ?_; first | refine WO.go rfl rfl ?_ | refine WO.st rfl rfl ?_)
    | (refine WO.isI2i ?_; first | refine WO.toI64 rfl rfl (by omega) (by omega) ?_ | refine WO.toU64 rfl rfl (by omega) (by omega) ?_ | refine WO.toU32 rfl rfl (by omega) (by omega) ?_ | refine WO.toU8 rfl rfl (by omega) (by omega) ?_ | refine WO.go rfl rfl ?_ | refine WO.st rfl rfl ?_)
    | (refine WO.isCall ?_; first | refine WO.ask rfl rfl (f7 _) ?_ | refine WO.ask' rfl rfl (f7 _) ?_ | refine WO.ask rfl rfl (h9 _) ?_ | refine WO.ask' rfl rfl (h9 _) ?_)
    | (refine WO.isDyn ?_; first | refine WO.ask rfl rfl (f7 _) ?_ | refine WO.ask' rfl rfl (f7 _) ?_ | refine WO.ask rfl rfl (h9 _) ?_ | refine WO.ask' rfl rfl (h9 _) ?_)
    | (refine WO.isLoad ?_; first | refine WO.go rfl rfl ?_ | refine WO.st rfl rfl ?_)
    | (refine WO.isStore ?_; first | refine WO.go rfl rfl ?_ | refine WO.st rfl rfl ?_)
    | (refine WO.isIaddr ?_; first | refine WO.go rfl rfl ?_ | refine WO.st rfl rfl ?_)
    | (refine WO.isIndex ?_; first | refine WO.go rfl rfl ?_ | refine WO.st rfl rfl ?_)
    | (refine WO.isSlice ?_; first | refine WO.go rfl rfl ?_ | refine WO.st rfl rfl ?_)
    | (refine WO.isLen ?_; first | refine WO.go rfl rfl ?_ | refine WO.st rfl rfl ?_)
    | (refine WO.isApp ?_; first | refine WO.go rfl rfl ?_ | refine WO.st rfl rfl ?_)
    | (refine WO.isEq ?_; first | refine WO.go rfl rfl ?_ | refine WO.st rfl rfl ?_)
    | refine WO.go rfl rfl ?_
    | refine WO.st rfl rfl ?_
    | refine WH.onG rfl ?_
    | refine WH.offG rfl ?_
    | refine WH.offG' rfl ?_
    | (refine WH.fork rfl ?_ ?_ <;> intro hc <;> (fail_if_success (exfalso; cases hc; done)) <;> (try subst hc))
    | (refine WH.isMv ?_; first | refine WH.go rfl rfl rfl ?_ | refine WH.st rfl rfl rfl ?_)
    | (refine WH.isBin ?_; first | refine WH.cat rfl rfl rfl (t := tail8) (by omega) ?_ | refine WH.remE rfl rfl rfl (by omega) (by omega) hk ?_ | refine WH.add64 rfl rfl rfl (by omega) (by omega) ?_ | refine WH.sub64 rfl rfl rfl (by omega) (by omega) ?_ | refine WH.rem rfl rfl rfl (by omega) (by omega) ?_ | refine WH.quoI64 rfl rfl rfl (by omega) (by omega) (by omega) ?_ | refine WH.quoU8 rfl rfl rfl (by omega) (by omega) (by omega) ?_ | refine WH.quoU32 rfl rfl rfl (by omega) (by omega) (by omega) ?_ | refine WH.quoU64 rfl rfl rfl (by omega) (by omega) (by omega) ?_ | refine WH.mul64 rfl rfl rfl (by omega) (by omega) ?_ | refine WH.addU32 rfl rfl rfl (by omega) (by omega) ?_ | refine WH.addU64 rfl rfl rfl (by omega) (by omega) ?_ | refine WH.addU8 rfl rfl rfl (by omega) (by omega) ?_ | refine WH.subU64 rfl rfl rfl (by omega) (by omega) ?_ | refine WH.subU32 rfl rfl rfl (by omega) (by omega) ?_ | refine WH.shl rfl rfl rfl (by omega) ?_ | refine WH.shr rfl rfl rfl (by omega) ?_ | refine WH.testT rfl rfl ?_ | refine WH.testF rfl rfl ?_ | (refine WH.test rfl rfl ?_ ?_ <;> intro hc <;> (try simp only [decide_eq_true_eq, decide_eq_false_iff_not, beq_iff_eq, beq_eq_false_iff_ne, bne_iff_ne, bne_eq_false_iff_eq, ne_eq, gt_iff_lt, ge_iff_le, Int.not_lt, Int.not_le, not_true_eq_false, not_false_eq_true] at hc) <;> (try omega)) | refine WH.go rfl rfl rfl ?_ | refine WH.st rfl rfl rfl ?_)
    | (refine WH.isUn ?_; first | refine WH.go rfl rfl rfl ?_ | refine WH.st rfl rfl rfl ?_)
    | (refine WH.isI2i ?_; first | refine WH.toI64 rfl rfl (by omega) (by omega) ?_ | refine WH.toU64 rfl rfl (by omega) (by omega) ?_ | refine WH.toU32 rfl rfl (by omega) (by omega) ?_ | refine WH.toU8 rfl rfl (by omega) (by omega) ?_ | refine WH.go rfl rfl rfl ?_ | refine WH.st rfl rfl rfl ?_)
    | (refine WH.isCall ?_; first | refine WH.ask rfl rfl rfl (f7 _) ?_ | refine WH.ask rfl rfl rfl (h9 _) ?_)
    | (refine WH.isDyn ?_; first | refine WH.ask rfl rfl rfl (f7 _) ?_ | refine WH.ask rfl rfl rfl (h9 _) ?_)
    | (refine WH.isLoad ?_; first | refine WH.go rfl rfl rfl ?_ | refine WH.st rfl rfl rfl ?_)
    | (refine WH.isStore ?_; first | refine WH.go rfl rfl rfl ?_ | refine WH.st rfl rfl rfl ?_)
    | (refine WH.isIaddr ?_; first | refine WH.go rfl rfl rfl ?_ | refine WH.st rfl rfl rfl ?_)
    | (refine WH.isIndex ?_; first | refine WH.go rfl rfl rfl ?_ | refine WH.st rfl rfl rfl ?_)
    | (refine WH.isSlice ?_; first | refine WH.go rfl rfl rfl ?_ | refine WH.st rfl rfl rfl ?_)
    | (refine WH.isLen ?_; first | refine WH.go rfl rfl rfl ?_ | refine WH.st rfl rfl rfl ?_)
    | (refine WH.isApp ?_; first | refine WH.go rfl rfl rfl ?_ | refine WH.st rfl rfl rfl ?_)
    | (refine WH.isEq ?_; first | refine WH.go rfl rfl rfl ?_ | refine WH.st rfl rfl rfl ?_)
    | refine WH.go rfl rfl rfl ?_
    | refine WH.st rfl rfl rfl ?_
    | refine W.skip ?_
    | refine W.condT rfl ?_
    | refine W.condF rfl ?_
    | (refine W.fork rfl ?_ ?_ <;> intro hc <;> (fail_if_success (exfalso; cases hc; done)) <;> (try subst hc))
    | refine W.ret ?_
    | refine W.block ?_
    | refine W.exit ?_)
  refine W.ind (σ := Nat) (fun i => [(0, .str s), (2, .int .u32 w), (7, .bool true), (8, .msl 0 0 0 (s ++ tail8).size 1), (9, .int .u32 (CrcMath.e (add 0#32 (ls.map UInt8.toNat)))), (10, .int .i64 k), (11, .int .i64 i)])
    (fun i => [⟨[] ++ [.cells (bcells (bend4 ls k (ub w) i))], []⟩]) (fun i => i ≤ 4) (fun i => 4 - i) 0 (by omega) ⟨rfl, rfl, rfl, rfl, rfl, rfl, rfl, trivial⟩ rfl ?_
  intro i b hi IH
  refine W.round ?_
  by_cases h4 : i < 4
  · have far := bend4_far ls k (ub w) i i (by omega)
    rw [gd i (by omega)] at far
    repeat' (first
      | refine W.seq ?_
      | refine W.region ?_
      | refine W.drawn ?_
      | refine WO.nil ?_
      | refine WH.nil ?_
      | refine WO.bstore rfl rfl rfl rfl (by rw [bend4_len]; omega) ?_
      | refine WO.onG rfl ?_
      | refine WO.offG rfl ?_
      | refine WO.offG' rfl ?_
      | (refine WO.fork rfl ?_ ?_ <;> intro hc <;> (fail_if_success (exfalso; cases hc; done)) <;> (try subst hc))
      | (refine WO.isMv ?_; first | refine WO.go rfl rfl ?_ | refine WO.st rfl rfl ?_)
      | (refine WO.isBin ?_; first | refine WO.bxorZ rfl rfl rfl (ub_eq w i) ?_ | refine WO.add64 rfl rfl rfl (by omega) (by omega) ?_ | refine WO.sub64 rfl rfl rfl (by omega) (by omega) ?_ | refine WO.rem rfl rfl rfl (by omega) (by omega) ?_ | refine WO.quoI64 rfl rfl rfl (by omega) (by omega) (by omega) ?_ | refine WO.quoU8 rfl rfl rfl (by omega) (by omega) (by omega) ?_ | refine WO.quoU32 rfl rfl rfl (by omega) (by omega) (by omega) ?_ | refine WO.quoU64 rfl rfl rfl (by omega) (by omega) (by omega) ?_ | refine WO.mul64 rfl rfl rfl (by omega) (by omega) ?_ | refine WO.addU32 rfl rfl rfl (by omega) (by omega) ?_ | refine WO.addU64 rfl rfl rfl (by omega) (by omega) ?_ | refine WO.addU8 rfl rfl rfl (by omega) (by omega) ?_ | refine WO.subU64 rfl rfl rfl (by omega) (by omega) ?_ | refine WO.subU32 rfl rfl rfl (by omega) (by omega) ?_ | refine WO.shl rfl rfl rfl (by omega) ?_ | refine WO.shr rfl rfl rfl (by omega) ?_ | refine WO.testT rfl rfl ?_ | refine WO.testF rfl rfl ?_ | (refine WO.test rfl rfl ?_ ?_ <;> intro hc <;> (try simp only [decide_eq_true_eq, decide_eq_false_iff_not, beq_iff_eq, beq_eq_false_iff_ne, bne_iff_ne, bne_eq_false_iff_eq, ne_eq, gt_iff_lt, ge_iff_le, Int.not_lt, Int.not_le, not_true_eq_false, not_false_eq_true] at hc) <;> (try omega)) | refine WO.go rfl rfl ?_ | refine WO.st rfl rfl ?_)
      | (refine WO.isUn ?_; first | refine WO.go rfl rfl ?_ | refine WO.st rfl rfl ?_)
      | (refine WO.isI2i ?_; first | refine WO.toI64 rfl rfl (by omega) (by omega) ?_ | refine WO.toU64 rfl rfl (by omega) (by omega) ?_ | refine WO.toU32 rfl rfl (by omega) (by omega) ?_ | refine WO.toU8 rfl rfl (by omega) (by omega) ?_ | refine WO.go rfl rfl ?_ | refine WO.st rfl rfl ?_)
      | (refine WO.isLoad ?_; first | refine WO.bload rfl rfl rfl far ?_ | refine WO.go rfl rfl ?_ | refine WO.st rfl rfl ?_)
      | (refine WO.isStore ?_; first | refine WO.go rfl rfl ?_ | refine WO.st rfl rfl ?_)
      | (refine WO.isIaddr ?_; first | refine WO.bidx0 rfl rfl rfl (n := k + i) (by omega) (by omega) ?_ | refine WO.go rfl rfl ?_ | refine WO.st rfl rfl ?_)
      | (refine WO.isIndex ?_; first | refine WO.go rfl rfl ?_ | refine WO.st rfl rfl ?_)
      | (refine WO.isSlice ?_; first | refine WO.go rfl rfl ?_ | refine WO.st rfl rfl ?_)
      | (refine WO.isLen ?_; first | refine WO.go rfl rfl ?_ | refine WO.st rfl rfl ?_)
      | (refine WO.isApp ?_; first | refine WO.go rfl rfl ?_ | refine WO.st rfl rfl ?_)
      | (refine WO.isEq ?_; first | refine WO.go rfl rfl ?_ | refine WO.st rfl rfl ?_)
      | refine WO.go rfl rfl ?_
      | refine WO.st rfl rfl ?_
      | refine WH.onG rfl ?_
      | refine WH.offG rfl ?_
      | refine WH.offG' rfl ?_
      | (refine WH.fork rfl ?_ ?_ <;> intro hc <;> (fail_if_success (exfalso; cases hc; done)) <;> (try subst hc))
      | (refine WH.isMv ?_; first | refine WH.go rfl rfl rfl ?_ | refine WH.st rfl rfl rfl ?_)
      | (refine WH.isBin ?_; first | refine WH.bxorZ rfl rfl rfl (ub_eq w i) ?_ | refine WH.add64 rfl rfl rfl (by omega) (by omega) ?_ | refine WH.sub64 rfl rfl rfl (by omega) (by omega) ?_ | refine WH.rem rfl rfl rfl (by omega) (by omega) ?_ | refine WH.quoI64 rfl rfl rfl (by omega) (by omega) (by omega) ?_ | refine WH.quoU8 rfl rfl rfl (by omega) (by omega) (by omega) ?_ | refine WH.quoU32 rfl rfl rfl (by omega) (by omega) (by omega) ?_ | refine WH.quoU64 rfl rfl rfl (by omega) (by omega) (by omega) ?_ | refine WH.mul64 rfl rfl rfl (by omega) (by omega) ?_ | refine WH.addU32 rfl rfl rfl (by omega) (by omega) ?_ | refine WH.addU64 rfl rfl rfl (by omega) (by omega) ?_ | refine WH.addU8 rfl rfl rfl (by omega) (by omega) ?_ | refine WH.subU64 rfl rfl rfl (by omega) (by omega) ?_ | refine WH.subU32 rfl rfl rfl (by omega) (by omega) ?_ | refine WH.shl rfl rfl rfl (by omega) ?_ | refine WH.shr rfl rfl rfl (by omega) ?_ | refine WH.testT rfl rfl ?_ | refine WH.testF rfl rfl ?_ | (refine WH.test rfl rfl ?_ ?_ <;> intro hc <;> (try simp only [decide_eq_true_eq, decide_eq_false_iff_not, beq_iff_eq, beq_eq_false_iff_ne, bne_iff_ne, bne_eq_false_iff_eq, ne_eq, gt_iff_lt, ge_iff_le, Int.not_lt, Int.not_le, not_true_eq_false, not_false_eq_true] at hc) <;> (try omega)) | refine WH.go rfl rfl rfl ?_ | refine WH.st rfl rfl rfl ?_)
      | (refine WH.isUn ?_; first | refine WH.go rfl rfl rfl ?_ | refine WH.st rfl rfl rfl ?_)
      | (refine WH.isI2i ?_; first | refine WH.toI64 rfl rfl (by omega) (by omega) ?_ | refine WH.toU64 rfl rfl (by omega) (by omega) ?_ | refine WH.toU32 rfl rfl (by omega) (by omega) ?_ | refine WH.toU8 rfl rfl (by omega) (by omega) ?_ | refine WH.go rfl rfl rfl ?_ | refine WH.st rfl rfl rfl ?_)
      | (refine WH.isLoad ?_; first | refine WH.bload rfl rfl rfl far rfl ?_ | refine WH.go rfl rfl rfl ?_ | refine WH.st rfl rfl rfl ?_)
      | (refine WH.isStore ?_; first | refine WH.go rfl rfl rfl ?_ | refine WH.st rfl rfl rfl ?_)
      | (refine WH.isIaddr ?_; first | refine WH.bidx0 rfl rfl rfl (n := k + i) (by omega) (by omega) ?_ | refine WH.go rfl rfl rfl ?_ | refine WH.st rfl rfl rfl ?_)
      | (refine WH.isIndex ?_; first | refine WH.go rfl rfl rfl ?_ | refine WH.st rfl rfl rfl ?_)
      | (refine WH.isSlice ?_; first | refine WH.go rfl rfl rfl ?_ | refine WH.st rfl rfl rfl ?_)
      | (refine WH.isLen ?_; first | refine WH.go rfl rfl rfl ?_ | refine WH.st rfl rfl rfl ?_)
      | (refine WH.isApp ?_; first | refine WH.go rfl rfl rfl ?_ | refine WH.st rfl rfl rfl ?_)
      | (refine WH.isEq ?_; first | refine WH.go rfl rfl rfl ?_ | refine WH.st rfl rfl rfl ?_)
      | refine WH.go rfl rfl rfl ?_
      | refine WH.st rfl rfl rfl ?_
      | refine W.skip ?_
      | refine W.condT rfl ?_
      | refine W.condF rfl ?_
      | (refine W.fork rfl ?_ ?_ <;> intro hc <;> (fail_if_success (exfalso; cases hc; done)) <;> (try subst hc))
      | refine W.ret ?_
      | refine W.block ?_
      | refine W.exit ?_)
    exact IH (i + 1) _ _ (by omega) (by omega) ⟨rfl, rfl, rfl, rfl, rfl, rfl, rfl, trivial⟩ rfl
  · obtain rfl : i = 4 := by omega
    by_cases hw0 : w = 0
    · have hbt := hb.2 hw0
      by_cases hx : ((ls.getD (k + 1) 0).toNat : Int) = ((ls.getD k 0).toNat : Int)
      · have hct := hc.2 hx
        repeat' (first
          | refine W.seq ?_
          | refine W.region ?_
          | refine W.drawn ?_
          | refine WO.nil ?_
          | refine WH.nil ?_
          | refine WO.s2bL rfl rfl (by omega) hls ?_
          | refine WO.b2sE rfl rfl rfl (hn := hlw) ?_
          | refine WH.b2sE rfl rfl rfl (hn := hlw) rfl ?_
          | refine WO.b2sE rfl rfl rfl (hn := hlb) ?_
          | refine WH.b2sE rfl rfl rfl (hn := hlb) rfl ?_
          | refine WO.bstore rfl rfl rfl rfl (by omega) ?_
          | refine WO.bstore rfl rfl rfl rfl (by simp; omega) ?_
          | refine WO.onG rfl ?_
          | refine WO.offG rfl ?_
          | refine WO.offG' rfl ?_
          | (refine WO.fork rfl ?_ ?_ <;> intro hc <;> (fail_if_success (exfalso; cases hc; done)) <;> (try subst hc))
          | (refine WO.isMv ?_; first | refine WO.go rfl rfl ?_ | refine WO.st rfl rfl ?_)
          | (refine WO.isBin ?_; first | refine WO.cat rfl rfl rfl (t := tail8) (by omega) ?_ | refine WO.eqT rfl rfl rfl hbt ?_ | refine WO.eqT rfl rfl rfl hct ?_ | refine WO.eqT rfl rfl rfl hw0 ?_ | refine WO.eqT rfl rfl rfl hx ?_ | refine WO.add64 rfl rfl rfl (by omega) (by omega) ?_ | refine WO.sub64 rfl rfl rfl (by omega) (by omega) ?_ | refine WO.rem rfl rfl rfl (by omega) (by omega) ?_ | refine WO.quoI64 rfl rfl rfl (by omega) (by omega) (by omega) ?_ | refine WO.quoU8 rfl rfl rfl (by omega) (by omega) (by omega) ?_ | refine WO.quoU32 rfl rfl rfl (by omega) (by omega) (by omega) ?_ | refine WO.quoU64 rfl rfl rfl (by omega) (by omega) (by omega) ?_ | refine WO.mul64 rfl rfl rfl (by omega) (by omega) ?_ | refine WO.addU32 rfl rfl rfl (by omega) (by omega) ?_ | refine WO.addU64 rfl rfl rfl (by omega) (by omega) ?_ | refine WO.addU8 rfl rfl rfl (by omega) (by omega) ?_ | refine WO.subU64 rfl rfl rfl (by omega) (by omega) ?_ | refine WO.subU32 rfl rfl rfl (by omega) (by omega) ?_ | refine WO.shl rfl rfl rfl (by omega) ?_ | refine WO.shr rfl rfl rfl (by omega) ?_ | refine WO.testT rfl rfl ?_ | refine WO.testF rfl rfl ?_ | (refine WO.test rfl rfl ?_ ?_ <;> intro hc <;> (try simp only [decide_eq_true_eq, decide_eq_false_iff_not, beq_iff_eq, beq_eq_false_iff_ne, bne_iff_ne, bne_eq_false_iff_eq, ne_eq, gt_iff_lt, ge_iff_le, Int.not_lt, Int.not_le, not_true_eq_false, not_false_eq_true] at hc) <;> (try omega)) | refine WO.go rfl rfl ?_ | refine WO.st rfl rfl ?_)
          | (refine WO.isUn ?_; first | refine WO.go rfl rfl ?_ | refine WO.st rfl rfl ?_)
          | (refine WO.isI2i ?_; first | refine WO.toI64 rfl rfl (by omega) (by omega) ?_ | refine WO.toU64 rfl rfl (by omega) (by omega) ?_ | refine WO.toU32 rfl rfl (by omega) (by omega) ?_ | refine WO.toU8 rfl rfl (by omega) (by omega) ?_ | refine WO.go rfl rfl ?_ | refine WO.st rfl rfl ?_)
          | (refine WO.isCall ?_; first | refine WO.ask rfl rfl (h9b _) ?_ | refine WO.ask' rfl rfl (h9b _) ?_ | refine WO.ask rfl rfl (h9s _) ?_ | refine WO.ask' rfl rfl (h9s _) ?_)
          | (refine WO.isDyn ?_; first | refine WO.ask rfl rfl (h9b _) ?_ | refine WO.ask' rfl rfl (h9b _) ?_ | refine WO.ask rfl rfl (h9s _) ?_ | refine WO.ask' rfl rfl (h9s _) ?_)
          | (refine WO.isLoad ?_; first | refine WO.bload rfl rfl rfl g0 ?_ | refine WO.bload rfl rfl rfl g1 ?_ | refine WO.bload rfl rfl rfl s0 ?_ | refine WO.bload rfl rfl rfl s1 ?_ | refine WO.go rfl rfl ?_ | refine WO.st rfl rfl ?_)
          | (refine WO.isStore ?_; first | refine WO.go rfl rfl ?_ | refine WO.st rfl rfl ?_)
          | (refine WO.isIaddr ?_; first | refine WO.bidx0 rfl rfl rfl (n := k) (by omega) (by omega) ?_ | refine WO.bidx0 rfl rfl rfl (n := k + 1) (by omega) (by omega) ?_ | refine WO.go rfl rfl ?_ | refine WO.st rfl rfl ?_)
          | (refine WO.isIndex ?_; first | refine WO.go rfl rfl ?_ | refine WO.st rfl rfl ?_)
          | (refine WO.isSlice ?_; first | refine WO.go rfl rfl ?_ | refine WO.st rfl rfl ?_)
          | (refine WO.isLen ?_; first | refine WO.go rfl rfl ?_ | refine WO.st rfl rfl ?_)
          | (refine WO.isApp ?_; first | refine WO.go rfl rfl ?_ | refine WO.st rfl rfl ?_)
          | (refine WO.isEq ?_; first | refine WO.go rfl rfl ?_ | refine WO.st rfl rfl ?_)
          | refine WO.go rfl rfl ?_
          | refine WO.st rfl rfl ?_
          | refine WH.onG rfl ?_
          | refine WH.offG rfl ?_
          | refine WH.offG' rfl ?_
          | (refine WH.fork rfl ?_ ?_ <;> intro hc <;> (fail_if_success (exfalso; cases hc; done)) <;> (try subst hc))
          | (refine WH.isMv ?_; first | refine WH.go rfl rfl rfl ?_ | refine WH.st rfl rfl rfl ?_)
          | (refine WH.isBin ?_; first | refine WH.cat rfl rfl rfl (t := tail8) (by omega) ?_ | refine WH.eqT rfl rfl rfl hbt ?_ | refine WH.eqT rfl rfl rfl hct ?_ | refine WH.eqT rfl rfl rfl hw0 ?_ | refine WH.eqT rfl rfl rfl hx ?_ | refine WH.add64 rfl rfl rfl (by omega) (by omega) ?_ | refine WH.sub64 rfl rfl rfl (by omega) (by omega) ?_ | refine WH.rem rfl rfl rfl (by omega) (by omega) ?_ | refine WH.quoI64 rfl rfl rfl (by omega) (by omega) (by omega) ?_ | refine WH.quoU8 rfl rfl rfl (by omega) (by omega) (by omega) ?_ | refine WH.quoU32 rfl rfl rfl (by omega) (by omega) (by omega) ?_ | refine WH.quoU64 rfl rfl rfl (by omega) (by omega) (by omega) ?_ | refine WH.mul64 rfl rfl rfl (by omega) (by omega) ?_ | refine WH.addU32 rfl rfl rfl (by omega) (by omega) ?_ | refine WH.addU64 rfl rfl rfl (by omega) (by omega) ?_ | refine WH.addU8 rfl rfl rfl (by omega) (by omega) ?_ | refine WH.subU64 rfl rfl rfl (by omega) (by omega) ?_ | refine WH.subU32 rfl rfl rfl (by omega) (by omega) ?_ | refine WH.shl rfl rfl rfl (by omega) ?_ | refine WH.shr rfl rfl rfl (by omega) ?_ | refine WH.testT rfl rfl ?_ | refine WH.testF rfl rfl ?_ | (refine WH.test rfl rfl ?_ ?_ <;> intro hc <;> (try simp only [decide_eq_true_eq, decide_eq_false_iff_not, beq_iff_eq, beq_eq_false_iff_ne, bne_iff_ne, bne_eq_false_iff_eq, ne_eq, gt_iff_lt, ge_iff_le, Int.not_lt, Int.not_le, not_true_eq_false, not_false_eq_true] at hc) <;> (try omega)) | refine WH.go rfl rfl rfl ?_ | refine WH.st rfl rfl rfl ?_)
          | (refine WH.isUn ?_; first | refine WH.go rfl rfl rfl ?_ | refine WH.st rfl rfl rfl ?_)
          | (refine WH.isI2i ?_; first | refine WH.toI64 rfl rfl (by omega) (by omega) ?_ | refine WH.toU64 rfl rfl (by omega) (by omega) ?_ | refine WH.toU32 rfl rfl (by omega) (by omega) ?_ | refine WH.toU8 rfl rfl (by omega) (by omega) ?_ | refine WH.go rfl rfl rfl ?_ | refine WH.st rfl rfl rfl ?_)
          | (refine WH.isCall ?_; first | refine WH.ask rfl rfl rfl (h9b _) ?_ | refine WH.ask rfl rfl rfl (h9s _) ?_)
          | (refine WH.isDyn ?_; first | refine WH.ask rfl rfl rfl (h9b _) ?_ | refine WH.ask rfl rfl rfl (h9s _) ?_)
          | (refine WH.isLoad ?_; first | refine WH.bload rfl rfl rfl g0 rfl ?_ | refine WH.bload rfl rfl rfl g1 rfl ?_ | refine WH.bload rfl rfl rfl s0 rfl ?_ | refine WH.bload rfl rfl rfl s1 rfl ?_ | refine WH.go rfl rfl rfl ?_ | refine WH.st rfl rfl rfl ?_)
          | (refine WH.isStore ?_; first | refine WH.go rfl rfl rfl ?_ | refine WH.st rfl rfl rfl ?_)
          | (refine WH.isIaddr ?_; first | refine WH.bidx0 rfl rfl rfl (n := k) (by omega) (by omega) ?_ | refine WH.bidx0 rfl rfl rfl (n := k + 1) (by omega) (by omega) ?_ | refine WH.go rfl rfl rfl ?_ | refine WH.st rfl rfl rfl ?_)
          | (refine WH.isIndex ?_; first | refine WH.go rfl rfl rfl ?_ | refine WH.st rfl rfl rfl ?_)
          | (refine WH.isSlice ?_; first | refine WH.go rfl rfl rfl ?_ | refine WH.st rfl rfl rfl ?_)
          | (refine WH.isLen ?_; first | refine WH.go rfl rfl rfl ?_ | refine WH.st rfl rfl rfl ?_)
          | (refine WH.isApp ?_; first | refine WH.go rfl rfl rfl ?_ | refine WH.st rfl rfl rfl ?_)
          | (refine WH.isEq ?_; first | refine WH.go rfl rfl rfl ?_ | refine WH.st rfl rfl rfl ?_)
          | refine WH.go rfl rfl rfl ?_
          | refine WH.st rfl rfl rfl ?_
          | refine W.skip ?_
          | refine W.condT rfl ?_
          | refine W.condF rfl ?_
          | (refine W.fork rfl ?_ ?_ <;> intro hc <;> (fail_if_success (exfalso; cases hc; done)) <;> (try subst hc))
          | refine W.ret ?_
          | refine W.block ?_
          | refine W.exit ?_)
        exact ⟨.inr rfl, _, rfl, fin rfl rfl rfl⟩
      · have hct := fun h => hx (hc.1 h)
        repeat' (first
          | refine W.seq ?_
          | refine W.region ?_
          | refine W.drawn ?_
          | refine WO.nil ?_
          | refine WH.nil ?_
          | refine WO.s2bL rfl rfl (by omega) hls ?_
          | refine WO.b2sE rfl rfl rfl (hn := hlw) ?_
          | refine WH.b2sE rfl rfl rfl (hn := hlw) rfl ?_
          | refine WO.b2sE rfl rfl rfl (hn := hlb) ?_
          | refine WH.b2sE rfl rfl rfl (hn := hlb) rfl ?_
          | refine WO.bstore rfl rfl rfl rfl (by omega) ?_
          | refine WO.bstore rfl rfl rfl rfl (by simp; omega) ?_
          | refine WO.onG rfl ?_
          | refine WO.offG rfl ?_
          | refine WO.offG' rfl ?_
          | (refine WO.fork rfl ?_ ?_ <;> intro hc <;> (fail_if_success (exfalso; cases hc; done)) <;> (try subst hc))
          | (refine WO.isMv ?_; first | refine WO.go rfl rfl ?_ | refine WO.st rfl rfl ?_)
          | (refine WO.isBin ?_; first | refine WO.cat rfl rfl rfl (t := tail8) (by omega) ?_ | refine WO.eqT rfl rfl rfl hbt ?_ | refine WO.eqF rfl rfl rfl hct ?_ | refine WO.eqT rfl rfl rfl hw0 ?_ | refine WO.eqF rfl rfl rfl hx ?_ | refine WO.add64 rfl rfl rfl (by omega) (by omega) ?_ | refine WO.sub64 rfl rfl rfl (by omega) (by omega) ?_ | refine WO.rem rfl rfl rfl (by omega) (by omega) ?_ | refine WO.quoI64 rfl rfl rfl (by omega) (by omega) (by omega) ?_ | refine WO.quoU8 rfl rfl rfl (by omega) (by omega) (by omega) ?_ | refine WO.quoU32 rfl rfl rfl (by omega) (by omega) (by omega) ?_ | refine WO.quoU64 rfl rfl rfl (by omega) (by omega) (by omega) ?_ | refine WO.mul64 rfl rfl rfl (by omega) (by omega) ?_ | refine WO.addU32 rfl rfl rfl (by omega) (by omega) ?_ | refine WO.addU64 rfl rfl rfl (by omega) (by omega) ?_ | refine WO.addU8 rfl rfl rfl (by omega) (by omega) ?_ | refine WO.subU64 rfl rfl rfl (by omega) (by omega) ?_ | refine WO.subU32 rfl rfl rfl (by omega) (by omega) ?_ | refine WO.shl rfl rfl rfl (by omega) ?_ | refine WO.shr rfl rfl rfl (by omega) ?_ | refine WO.testT rfl rfl ?_ | refine WO.testF rfl rfl ?_ | (refine WO.test rfl rfl ?_ ?_ <;> intro hc <;> (try simp only [decide_eq_true_eq, decide_eq_false_iff_not, beq_iff_eq, beq_eq_false_iff_ne, bne_iff_ne, bne_eq_false_iff_eq, ne_eq, gt_iff_lt, ge_iff_le, Int.not_lt, Int.not_le, not_true_eq_false, not_false_eq_true] at hc) <;> (try omega)) | refine WO.go rfl rfl ?_ | refine WO.st rfl rfl ?_)
          | (refine WO.isUn ?_; first | refine WO.go rfl rfl ?_ | refine WO.st rfl rfl ?_)
          | (refine WO.isI2i ?_; first | refine WO.toI64 rfl rfl (by omega) (by omega) ?_ | refine WO.toU64 rfl rfl (by omega) (by omega) ?_ | refine WO.toU32 rfl rfl (by omega) (by omega) ?_ | refine WO.toU8 rfl rfl (by omega) (by omega) ?_ | refine WO.go rfl rfl ?_ | refine WO.st rfl rfl ?_)
          | (refine WO.isCall ?_; first | refine WO.ask rfl rfl (h9b _) ?_ | refine WO.ask' rfl rfl (h9b _) ?_ | refine WO.ask rfl rfl (h9s _) ?_ | refine WO.ask' rfl rfl (h9s _) ?_)
          | (refine WO.isDyn ?_; first | refine WO.ask rfl rfl (h9b _) ?_ | refine WO.ask' rfl rfl (h9b _) ?_ | refine WO.ask rfl rfl (h9s _) ?_ | refine WO.ask' rfl rfl (h9s _) ?_)
          | (refine WO.isLoad ?_; first | refine WO.bload rfl rfl rfl g0 ?_ | refine WO.bload rfl rfl rfl g1 ?_ | refine WO.bload rfl rfl rfl s0 ?_ | refine WO.bload rfl rfl rfl s1 ?_ | refine WO.go rfl rfl ?_ | refine WO.st rfl rfl ?_)
          | (refine WO.isStore ?_; first | refine WO.go rfl rfl ?_ | refine WO.st rfl rfl ?_)
          | (refine WO.isIaddr ?_; first | refine WO.bidx0 rfl rfl rfl (n := k) (by omega) (by omega) ?_ | refine WO.bidx0 rfl rfl rfl (n := k + 1) (by omega) (by omega) ?_ | refine WO.go rfl rfl ?_ | refine WO.st rfl rfl ?_)
          | (refine WO.isIndex ?_; first | refine WO.go rfl rfl ?_ | refine WO.st rfl rfl ?_)
          | (refine WO.isSlice ?_; first | refine WO.go rfl rfl ?_ | refine WO.st rfl rfl ?_)
          | (refine WO.isLen ?_; first | refine WO.go rfl rfl ?_ | refine WO.st rfl rfl ?_)
          | (refine WO.isApp ?_; first | refine WO.go rfl rfl ?_ | refine WO.st rfl rfl ?_)
          | (refine WO.isEq ?_; first | refine WO.go rfl rfl ?_ | refine WO.st rfl rfl ?_)
          | refine WO.go rfl rfl ?_
          | refine WO.st rfl rfl ?_
          | refine WH.onG rfl ?_
          | refine WH.offG rfl ?_
          | refine WH.offG' rfl ?_
          | (refine WH.fork rfl ?_ ?_ <;> intro hc <;> (fail_if_success (exfalso; cases hc; done)) <;> (try subst hc))
          | (refine WH.isMv ?_; first | refine WH.go rfl rfl rfl ?_ | refine WH.st rfl rfl rfl ?_)
          | (refine WH.isBin ?_; first | refine WH.cat rfl rfl rfl (t := tail8) (by omega) ?_ | refine WH.eqT rfl rfl rfl hbt ?_ | refine WH.eqF rfl rfl rfl hct ?_ | refine WH.eqT rfl rfl rfl hw0 ?_ | refine WH.eqF rfl rfl rfl hx ?_ | refine WH.add64 rfl rfl rfl (by omega) (by omega) ?_ | refine WH.sub64 rfl rfl rfl (by omega) (by omega) ?_ | refine WH.rem rfl rfl rfl (by omega) (by omega) ?_ | refine WH.quoI64 rfl rfl rfl (by omega) (by omega) (by omega) ?_ | refine WH.quoU8 rfl rfl rfl (by omega) (by omega) (by omega) ?_ | refine WH.quoU32 rfl rfl rfl (by omega) (by omega) (by omega) ?_ | refine WH.quoU64 rfl rfl rfl (by omega) (by omega) (by omega) ?_ | refine WH.mul64 rfl rfl rfl (by omega) (by omega) ?_ | refine WH.addU32 rfl rfl rfl (by omega) (by omega) ?_ | refine WH.addU64 rfl rfl rfl (by omega) (by omega) ?_ | refine WH.addU8 rfl rfl rfl (by omega) (by omega) ?_ | refine WH.subU64 rfl rfl rfl (by omega) (by omega) ?_ | refine WH.subU32 rfl rfl rfl (by omega) (by omega) ?_ | refine WH.shl rfl rfl rfl (by omega) ?_ | refine WH.shr rfl rfl rfl (by omega) ?_ | refine WH.testT rfl rfl ?_ | refine WH.testF rfl rfl ?_ | (refine WH.test rfl rfl ?_ ?_ <;> intro hc <;> (try simp only [decide_eq_true_eq, decide_eq_false_iff_not, beq_iff_eq, beq_eq_false_iff_ne, bne_iff_ne, bne_eq_false_iff_eq, ne_eq, gt_iff_lt, ge_iff_le, Int.not_lt, Int.not_le, not_true_eq_false, not_false_eq_true] at hc) <;> (try omega)) | refine WH.go rfl rfl rfl ?_ | refine WH.st rfl rfl rfl ?_)
          | (refine WH.isUn ?_; first | refine WH.go rfl rfl rfl ?_ | refine WH.st rfl rfl rfl ?_)
          | (refine WH.isI2i ?_; first | refine WH.toI64 rfl rfl (by omega) (by omega) ?_ | refine WH.toU64 rfl rfl (by omega) (by omega) ?_ | refine WH.toU32 rfl rfl (by omega) (by omega) ?_ | refine WH.toU8 rfl rfl (by omega) (by omega) ?_ | refine WH.go rfl rfl rfl ?_ | refine WH.st rfl rfl rfl ?_)
          | (refine WH.isCall ?_; first | refine WH.ask rfl rfl rfl (h9b _) ?_ | refine WH.ask rfl rfl rfl (h9s _) ?_)
          | (refine WH.isDyn ?_; first | refine WH.ask rfl rfl rfl (h9b _) ?_ | refine WH.ask rfl rfl rfl (h9s _) ?_)
          | (refine WH.isLoad ?_; first | refine WH.bload rfl rfl rfl g0 rfl ?_ | refine WH.bload rfl rfl rfl g1 rfl ?_ | refine WH.bload rfl rfl rfl s0 rfl ?_ | refine WH.bload rfl rfl rfl s1 rfl ?_ | refine WH.go rfl rfl rfl ?_ | refine WH.st rfl rfl rfl ?_)
          | (refine WH.isStore ?_; first | refine WH.go rfl rfl rfl ?_ | refine WH.st rfl rfl rfl ?_)
          | (refine WH.isIaddr ?_; first | refine WH.bidx0 rfl rfl rfl (n := k) (by omega) (by omega) ?_ | refine WH.bidx0 rfl rfl rfl (n := k + 1) (by omega) (by omega) ?_ | refine WH.go rfl rfl rfl ?_ | refine WH.st rfl rfl rfl ?_)
          | (refine WH.isIndex ?_; first | refine WH.go rfl rfl rfl ?_ | refine WH.st rfl rfl rfl ?_)
          | (refine WH.isSlice ?_; first | refine WH.go rfl rfl rfl ?_ | refine WH.st rfl rfl rfl ?_)
          | (refine WH.isLen ?_; first | refine WH.go rfl rfl rfl ?_ | refine WH.st rfl rfl rfl ?_)
          | (refine WH.isApp ?_; first | refine WH.go rfl rfl rfl ?_ | refine WH.st rfl rfl rfl ?_)
          | (refine WH.isEq ?_; first | refine WH.go rfl rfl rfl ?_ | refine WH.st rfl rfl rfl ?_)
          | refine WH.go rfl rfl rfl ?_
          | refine WH.st rfl rfl rfl ?_
          | refine W.skip ?_
          | refine W.condT rfl ?_
          | refine W.condF rfl ?_
          | (refine W.fork rfl ?_ ?_ <;> intro hc <;> (fail_if_success (exfalso; cases hc; done)) <;> (try subst hc))
          | refine W.ret ?_
          | refine W.block ?_
          | refine W.exit ?_)
        exact ⟨.inr rfl, _, rfl, fin rfl rfl rfl⟩
    · have hbf := fun h => hw0 (hb.1 h)
      by_cases hx : ((ls.getD (k + 1) 0).toNat : Int) = ((ls.getD k 0).toNat : Int)
      · have hct := hc.2 hx
        repeat' (first
          | refine W.seq ?_
          | refine W.region ?_
          | refine W.drawn ?_
          | refine WO.nil ?_
          | refine WH.nil ?_
          | refine WO.s2bL rfl rfl (by omega) hls ?_
          | refine WO.b2sE rfl rfl rfl (hn := hlw) ?_
          | refine WH.b2sE rfl rfl rfl (hn := hlw) rfl ?_
          | refine WO.b2sE rfl rfl rfl (hn := hlb) ?_
          | refine WH.b2sE rfl rfl rfl (hn := hlb) rfl ?_
          | refine WO.bstore rfl rfl rfl rfl (by omega) ?_
          | refine WO.bstore rfl rfl rfl rfl (by simp; omega) ?_
          | refine WO.onG rfl ?_
          | refine WO.offG rfl ?_
          | refine WO.offG' rfl ?_
          | (refine WO.fork rfl ?_ ?_ <;> intro hc <;> (fail_if_success (exfalso; cases hc; done)) <;> (try subst hc))
          | (refine WO.isMv ?_; first | refine WO.go rfl rfl ?_ | refine WO.st rfl rfl ?_)
          | (refine WO.isBin ?_; first | refine WO.cat rfl rfl rfl (t := tail8) (by omega) ?_ | refine WO.eqF rfl rfl rfl hbf ?_ | refine WO.eqT rfl rfl rfl hct ?_ | refine WO.eqF rfl rfl rfl hw0 ?_ | refine WO.eqT rfl rfl rfl hx ?_ | refine WO.add64 rfl rfl rfl (by omega) (by omega) ?_ | refine WO.sub64 rfl rfl rfl (by omega) (by omega) ?_ | refine WO.rem rfl rfl rfl (by omega) (by omega) ?_ | refine WO.quoI64 rfl rfl rfl (by omega) (by omega) (by omega) ?_ | refine WO.quoU8 rfl rfl rfl (by omega) (by omega) (by omega) ?_ | refine WO.quoU32 rfl rfl rfl (by omega) (by omega) (by omega) ?_ | refine WO.quoU64 rfl rfl rfl (by omega) (by omega) (by omega) ?_ | refine WO.mul64 rfl rfl rfl (by omega) (by omega) ?_ | refine WO.addU32 rfl rfl rfl (by omega) (by omega) ?_ | refine WO.addU64 rfl rfl rfl (by omega) (by omega) ?_ | refine WO.addU8 rfl rfl rfl (by omega) (by omega) ?_ | refine WO.subU64 rfl rfl rfl (by omega) (by omega) ?_ | refine WO.subU32 rfl rfl rfl (by omega) (by omega) ?_ | refine WO.shl rfl rfl rfl (by omega) ?_ | refine WO.shr rfl rfl rfl (by omega) ?_ | refine WO.testT rfl rfl ?_ | refine WO.testF rfl rfl ?_ | (refine WO.test rfl rfl ?_ ?_ <;> intro hc <;> (try simp only [decide_eq_true_eq, decide_eq_false_iff_not, beq_iff_eq, beq_eq_false_iff_ne, bne_iff_ne, bne_eq_false_iff_eq, ne_eq, gt_iff_lt, ge_iff_le, Int.not_lt, Int.not_le, not_true_eq_false, not_false_eq_true] at hc) <;> (try omega)) | refine WO.go rfl rfl ?_ | refine WO.st rfl rfl ?_)
          | (refine WO.isUn ?_; first | refine WO.go rfl rfl ?_ | refine WO.st rfl rfl ?_)
          | (refine WO.isI2i ?_; first | refine WO.toI64 rfl rfl (by omega) (by omega) ?_ | refine WO.toU64 rfl rfl (by omega) (by omega) ?_ | refine WO.toU32 rfl rfl (by omega) (by omega) ?_ | refine WO.toU8 rfl rfl (by omega) (by omega) ?_ | refine WO.go rfl rfl ?_ | refine WO.st rfl rfl ?_)
          | (refine WO.isCall ?_; first | refine WO.ask rfl rfl (h9b _) ?_ | refine WO.ask' rfl rfl (h9b _) ?_ | refine WO.ask rfl rfl (h9s _) ?_ | refine WO.ask' rfl rfl (h9s _) ?_)
          | (refine WO.isDyn ?_; first | refine WO.ask rfl rfl (h9b _) ?_ | refine WO.ask' rfl rfl (h9b _) ?_ | refine WO.ask rfl rfl (h9s _) ?_ | refine WO.ask' rfl rfl (h9s _) ?_)
          | (refine WO.isLoad ?_; first | refine WO.bload rfl rfl rfl g0 ?_ | refine WO.bload rfl rfl rfl g1 ?_ | refine WO.bload rfl rfl rfl s0 ?_ | refine WO.bload rfl rfl rfl s1 ?_ | refine WO.go rfl rfl ?_ | refine WO.st rfl rfl ?_)
          | (refine WO.isStore ?_; first | refine WO.go rfl rfl ?_ | refine WO.st rfl rfl ?_)
          | (refine WO.isIaddr ?_; first | refine WO.bidx0 rfl rfl rfl (n := k) (by omega) (by omega) ?_ | refine WO.bidx0 rfl rfl rfl (n := k + 1) (by omega) (by omega) ?_ | refine WO.go rfl rfl ?_ | refine WO.st rfl rfl ?_)
          | (refine WO.isIndex ?_; first | refine WO.go rfl rfl ?_ | refine WO.st rfl rfl ?_)
          | (refine WO.isSlice ?_; first | refine WO.go rfl rfl ?_ | refine WO.st rfl rfl ?_)
          | (refine WO.isLen ?_; first | refine WO.go rfl rfl ?_ | refine WO.st rfl rfl ?_)
          | (refine WO.isApp ?_; first | refine WO.go rfl rfl ?_ | refine WO.st rfl rfl ?_)
          | (refine WO.isEq ?_; first | refine WO.go rfl rfl ?_ | refine WO.st rfl rfl ?_)
          | refine WO.go rfl rfl ?_
          | refine WO.st rfl rfl ?_
          | refine WH.onG rfl ?_
          | refine WH.offG rfl ?_
          | refine WH.offG' rfl ?_
          | (refine WH.fork rfl ?_ ?_ <;> intro hc <;> (fail_if_success (exfalso; cases hc; done)) <;> (try subst hc))
          | (refine WH.isMv ?_; first | refine WH.go rfl rfl rfl ?_ | refine WH.st rfl rfl rfl ?_)
          | (refine WH.isBin ?_; first | refine WH.cat rfl rfl rfl (t := tail8) (by omega) ?_ | refine WH.eqF rfl rfl rfl hbf ?_ | refine WH.eqT rfl rfl rfl hct ?_ | refine WH.eqF rfl rfl rfl hw0 ?_ | refine WH.eqT rfl rfl rfl hx ?_ | refine WH.add64 rfl rfl rfl (by omega) (by omega) ?_ | refine WH.sub64 rfl rfl rfl (by omega) (by omega) ?_ | refine WH.rem rfl rfl rfl (by omega) (by omega) ?_ | refine WH.quoI64 rfl rfl rfl (by omega) (by omega) (by omega) ?_ | refine WH.quoU8 rfl rfl rfl (by omega) (by omega) (by omega) ?_ | refine WH.quoU32 rfl rfl rfl (by omega) (by omega) (by omega) ?_ | refine WH.quoU64 rfl rfl rfl (by omega) (by omega) (by omega) ?_ | refine WH.mul64 rfl rfl rfl (by omega) (by omega) ?_ | refine WH.addU32 rfl rfl rfl (by omega) (by omega) ?_ | refine WH.addU64 rfl rfl rfl (by omega) (by omega) ?_ | refine WH.addU8 rfl rfl rfl (by omega) (by omega) ?_ | refine WH.subU64 rfl rfl rfl (by omega) (by omega) ?_ | refine WH.subU32 rfl rfl rfl (by omega) (by omega) ?_ | refine WH.shl rfl rfl rfl (by omega) ?_ | refine WH.shr rfl rfl rfl (by omega) ?_ | refine WH.testT rfl rfl ?_ | refine WH.testF rfl rfl ?_ | (refine WH.test rfl rfl ?_ ?_ <;> intro hc <;> (try simp only [decide_eq_true_eq, decide_eq_false_iff_not, beq_iff_eq, beq_eq_false_iff_ne, bne_iff_ne, bne_eq_false_iff_eq, ne_eq, gt_iff_lt, ge_iff_le, Int.not_lt, Int.not_le, not_true_eq_false, not_false_eq_true] at hc) <;> (try omega)) | refine WH.go rfl rfl rfl ?_ | refine WH.st rfl rfl rfl ?_)
          | (refine WH.isUn ?_; first | refine WH.go rfl rfl rfl ?_ | refine WH.st rfl rfl rfl ?_)
          | (refine WH.isI2i ?_; first | refine WH.toI64 rfl rfl (by omega) (by omega) ?_ | refine WH.toU64 rfl rfl (by omega) (by omega) ?_ | refine WH.toU32 rfl rfl (by omega) (by omega) ?_ | refine WH.toU8 rfl rfl (by omega) (by omega) ?_ | refine WH.go rfl rfl rfl ?_ | refine WH.st rfl rfl rfl ?_)
          | (refine WH.isCall ?_; first | refine WH.ask rfl rfl rfl (h9b _) ?_ | refine WH.ask rfl rfl rfl (h9s _) ?_)
          | (refine WH.isDyn ?_; first | refine WH.ask rfl rfl rfl (h9b _) ?_ | refine WH.ask rfl rfl rfl (h9s _) ?_)
          | (refine WH.isLoad ?_; first | refine WH.bload rfl rfl rfl g0 rfl ?_ | refine WH.bload rfl rfl rfl g1 rfl ?_ | refine WH.bload rfl rfl rfl s0 rfl ?_ | refine WH.bload rfl rfl rfl s1 rfl ?_ | refine WH.go rfl rfl rfl ?_ | refine WH.st rfl rfl rfl ?_)
          | (refine WH.isStore ?_; first | refine WH.go rfl rfl rfl ?_ | refine WH.st rfl rfl rfl ?_)
          | (refine WH.isIaddr ?_; first | refine WH.bidx0 rfl rfl rfl (n := k) (by omega) (by omega) ?_ | refine WH.bidx0 rfl rfl rfl (n := k + 1) (by omega) (by omega) ?_ | refine WH.go rfl rfl rfl ?_ | refine WH.st rfl rfl rfl ?_)
          | (refine WH.isIndex ?_; first | refine WH.go rfl rfl rfl ?_ | refine WH.st rfl rfl rfl ?_)
          | (refine WH.isSlice ?_; first | refine WH.go rfl rfl rfl ?_ | refine WH.st rfl rfl rfl ?_)
          | (refine WH.isLen ?_; first | refine WH.go rfl rfl rfl ?_ | refine WH.st rfl rfl rfl ?_)
          | (refine WH.isApp ?_; first | refine WH.go rfl rfl rfl ?_ | refine WH.st rfl rfl rfl ?_)
          | (refine WH.isEq ?_; first | refine WH.go rfl rfl rfl ?_ | refine WH.st rfl rfl rfl ?_)
          | refine WH.go rfl rfl rfl ?_
          | refine WH.st rfl rfl rfl ?_
          | refine W.skip ?_
          | refine W.condT rfl ?_
          | refine W.condF rfl ?_
          | (refine W.fork rfl ?_ ?_ <;> intro hc <;> (fail_if_success (exfalso; cases hc; done)) <;> (try subst hc))
          | refine W.ret ?_
          | refine W.block ?_
          | refine W.exit ?_)
        exact ⟨.inr rfl, _, rfl, fin rfl rfl rfl⟩
      · have hct := fun h => hx (hc.1 h)
        repeat' (first
          | refine W.seq ?_
          | refine W.region ?_
          | refine W.drawn ?_
          | refine WO.nil ?_
          | refine WH.nil ?_
          | refine WO.s2bL rfl rfl (by omega) hls ?_
          | refine WO.b2sE rfl rfl rfl (hn := hlw) ?_
          | refine WH.b2sE rfl rfl rfl (hn := hlw) rfl ?_
          | refine WO.b2sE rfl rfl rfl (hn := hlb) ?_
          | refine WH.b2sE rfl rfl rfl (hn := hlb) rfl ?_
          | refine WO.bstore rfl rfl rfl rfl (by omega) ?_
          | refine WO.bstore rfl rfl rfl rfl (by simp; omega) ?_
          | refine WO.onG rfl ?_
          | refine WO.offG rfl ?_
          | refine WO.offG' rfl ?_
          | (refine WO.fork rfl ?_ ?_ <;> intro hc <;> (fail_if_success (exfalso; cases hc; done)) <;> (try subst hc))
          | (refine WO.isMv ?_; first | refine WO.go rfl rfl ?_ | refine WO.st rfl rfl ?_)
          | (refine WO.isBin ?_; first | refine WO.cat rfl rfl rfl (t := tail8) (by omega) ?_ | refine WO.eqF rfl rfl rfl hbf ?_ | refine WO.eqF rfl rfl rfl hct ?_ | refine WO.eqF rfl rfl rfl hw0 ?_ | refine WO.eqF rfl rfl rfl hx ?_ | refine WO.add64 rfl rfl rfl (by omega) (by omega) ?_ | refine WO.sub64 rfl rfl rfl (by omega) (by omega) ?_ | refine WO.rem rfl rfl rfl (by omega) (by omega) ?_ | refine WO.quoI64 rfl rfl rfl (by omega) (by omega) (by omega) ?_ | refine WO.quoU8 rfl rfl rfl (by omega) (by omega) (by omega) ?_ | refine WO.quoU32 rfl rfl rfl (by omega) (by omega) (by omega) ?_ | refine WO.quoU64 rfl rfl rfl (by omega) (by omega) (by omega) ?_ | refine WO.mul64 rfl rfl rfl (by omega) (by omega) ?_ | refine WO.addU32 rfl rfl rfl (by omega) (by omega) ?_ | refine WO.addU64 rfl rfl rfl (by omega) (by omega) ?_ | refine WO.addU8 rfl rfl rfl (by omega) (by omega) ?_ | refine WO.subU64 rfl rfl rfl (by omega) (by omega) ?_ | refine WO.subU32 rfl rfl rfl (by omega) (by omega) ?_ | refine WO.shl rfl rfl rfl (by omega) ?_ | refine WO.shr rfl rfl rfl (by omega) ?_ | refine WO.testT rfl rfl ?_ | refine WO.testF rfl rfl ?_ | (refine WO.test rfl rfl ?_ ?_ <;> intro hc <;> (try simp only [decide_eq_true_eq, decide_eq_false_iff_not, beq_iff_eq, beq_eq_false_iff_ne, bne_iff_ne, bne_eq_false_iff_eq, ne_eq, gt_iff_lt, ge_iff_le, Int.not_lt, Int.not_le, not_true_eq_false, not_false_eq_true] at hc) <;> (try omega)) | refine WO.go rfl rfl ?_ | refine WO.st rfl rfl ?_)
          | (refine WO.isUn ?_; first | refine WO.go rfl rfl ?_ | refine WO.st rfl rfl ?_)
          | (refine WO.isI2i ?_; first | refine WO.toI64 rfl rfl (by omega) (by omega) ?_ | refine WO.toU64 rfl rfl (by omega) (by omega) ?_ | refine WO.toU32 rfl rfl (by omega) (by omega) ?_ | refine WO.toU8 rfl rfl (by omega) (by omega) ?_ | refine WO.go rfl rfl ?_ | refine WO.st rfl rfl ?_)
          | (refine WO.isCall ?_; first | refine WO.ask rfl rfl (h9b _) ?_ | refine WO.ask' rfl rfl (h9b _) ?_ | refine WO.ask rfl rfl (h9s _) ?_ | refine WO.ask' rfl rfl (h9s _) ?_)
          | (refine WO.isDyn ?_; first | refine WO.ask rfl rfl (h9b _) ?_ | refine WO.ask' rfl rfl (h9b _) ?_ | refine WO.ask rfl rfl (h9s _) ?_ | refine WO.ask' rfl rfl (h9s _) ?_)
          | (refine WO.isLoad ?_; first | refine WO.bload rfl rfl rfl g0 ?_ | refine WO.bload rfl rfl rfl g1 ?_ | refine WO.bload rfl rfl rfl s0 ?_ | refine WO.bload rfl rfl rfl s1 ?_ | refine WO.go rfl rfl ?_ | refine WO.st rfl rfl ?_)
          | (refine WO.isStore ?_; first | refine WO.go rfl rfl ?_ | refine WO.st rfl rfl ?_)
          | (refine WO.isIaddr ?_; first | refine WO.bidx0 rfl rfl rfl (n := k) (by omega) (by omega) ?_ | refine WO.bidx0 rfl rfl rfl (n := k + 1) (by omega) (by omega) ?_ | refine WO.go rfl rfl ?_ | refine WO.st rfl rfl ?_)
          | (refine WO.isIndex ?_; first | refine WO.go rfl rfl ?_ | refine WO.st rfl rfl ?_)
          | (refine WO.isSlice ?_; first | refine WO.go rfl rfl ?_ | refine WO.st rfl rfl ?_)
          | (refine WO.isLen ?_; first | refine WO.go rfl rfl ?_ | refine WO.st rfl rfl ?_)
          | (refine WO.isApp ?_; first | refine WO.go rfl rfl ?_ | refine WO.st rfl rfl ?_)
          | (refine WO.isEq ?_; first | refine WO.go rfl rfl ?_ | refine WO.st rfl rfl ?_)
          | refine WO.go rfl rfl ?_
          | refine WO.st rfl rfl ?_
          | refine WH.onG rfl ?_
          | refine WH.offG rfl ?_
          | refine WH.offG' rfl ?_
          | (refine WH.fork rfl ?_ ?_ <;> intro hc <;> (fail_if_success (exfalso; cases hc; done)) <;> (try subst hc))
          | (refine WH.isMv ?_; first | refine WH.go rfl rfl rfl ?_ | refine WH.st rfl rfl rfl ?_)
          | (refine WH.isBin ?_; first | refine WH.cat rfl rfl rfl (t := tail8) (by omega) ?_ | refine WH.eqF rfl rfl rfl hbf ?_ | refine WH.eqF rfl rfl rfl hct ?_ | refine WH.eqF rfl rfl rfl hw0 ?_ | refine WH.eqF rfl rfl rfl hx ?_ | refine WH.add64 rfl rfl rfl (by omega) (by omega) ?_ | refine WH.sub64 rfl rfl rfl (by omega) (by omega) ?_ | refine WH.rem rfl rfl rfl (by omega) (by omega) ?_ | refine WH.quoI64 rfl rfl rfl (by omega) (by omega) (by omega) ?_ | refine WH.quoU8 rfl rfl rfl (by omega) (by omega) (by omega) ?_ | refine WH.quoU32 rfl rfl rfl (by omega) (by omega) (by omega) ?_ | refine WH.quoU64 rfl rfl rfl (by omega) (by omega) (by omega) ?_ | refine WH.mul64 rfl rfl rfl (by omega) (by omega) ?_ | refine WH.addU32 rfl rfl rfl (by omega) (by omega) ?_ | refine WH.addU64 rfl rfl rfl (by omega) (by omega) ?_ | refine WH.addU8 rfl rfl rfl (by omega) (by omega) ?_ | refine WH.subU64 rfl rfl rfl (by omega) (by omega) ?_ | refine WH.subU32 rfl rfl rfl (by omega) (by omega) ?_ | refine WH.shl rfl rfl rfl (by omega) ?_ | refine WH.shr rfl rfl rfl (by omega) ?_ | refine WH.testT rfl rfl ?_ | refine WH.testF rfl rfl ?_ | (refine WH.test rfl rfl ?_ ?_ <;> intro hc <;> (try simp only [decide_eq_true_eq, decide_eq_false_iff_not, beq_iff_eq, beq_eq_false_iff_ne, bne_iff_ne, bne_eq_false_iff_eq, ne_eq, gt_iff_lt, ge_iff_le, Int.not_lt, Int.not_le, not_true_eq_false, not_false_eq_true] at hc) <;> (try omega)) | refine WH.go rfl rfl rfl ?_ | refine WH.st rfl rfl rfl ?_)
          | (refine WH.isUn ?_; first | refine WH.go rfl rfl rfl ?_ | refine WH.st rfl rfl rfl ?_)
          | (refine WH.isI2i ?_; first | refine WH.toI64 rfl rfl (by omega) (by omega) ?_ | refine WH.toU64 rfl rfl (by omega) (by omega) ?_ | refine WH.toU32 rfl rfl (by omega) (by omega) ?_ | refine WH.toU8 rfl rfl (by omega) (by omega) ?_ | refine WH.go rfl rfl rfl ?_ | refine WH.st rfl rfl rfl ?_)
          | (refine WH.isCall ?_; first | refine WH.ask rfl rfl rfl (h9b _) ?_ | refine WH.ask rfl rfl rfl (h9s _) ?_)
          | (refine WH.isDyn ?_; first | refine WH.ask rfl rfl rfl (h9b _) ?_ | refine WH.ask rfl rfl rfl (h9s _) ?_)
          | (refine WH.isLoad ?_; first | refine WH.bload rfl rfl rfl g0 rfl ?_ | refine WH.bload rfl rfl rfl g1 rfl ?_ | refine WH.bload rfl rfl rfl s0 rfl ?_ | refine WH.bload rfl rfl rfl s1 rfl ?_ | refine WH.go rfl rfl rfl ?_ | refine WH.st rfl rfl rfl ?_)
          | (refine WH.isStore ?_; first | refine WH.go rfl rfl rfl ?_ | refine WH.st rfl rfl rfl ?_)
          | (refine WH.isIaddr ?_; first | refine WH.bidx0 rfl rfl rfl (n := k) (by omega) (by omega) ?_ | refine WH.bidx0 rfl rfl rfl (n := k + 1) (by omega) (by omega) ?_ | refine WH.go rfl rfl rfl ?_ | refine WH.st rfl rfl rfl ?_)
          | (refine WH.isIndex ?_; first | refine WH.go rfl rfl rfl ?_ | refine WH.st rfl rfl rfl ?_)
          | (refine WH.isSlice ?_; first | refine WH.go rfl rfl rfl ?_ | refine WH.st rfl rfl rfl ?_)
          | (refine WH.isLen ?_; first | refine WH.go rfl rfl rfl ?_ | refine WH.st rfl rfl rfl ?_)
          | (refine WH.isApp ?_; first | refine WH.go rfl rfl rfl ?_ | refine WH.st rfl rfl rfl ?_)
          | (refine WH.isEq ?_; first | refine WH.go rfl rfl rfl ?_ | refine WH.st rfl rfl rfl ?_)
          | refine WH.go rfl rfl rfl ?_
          | refine WH.st rfl rfl rfl ?_
          | refine W.skip ?_
          | refine W.condT rfl ?_
          | refine W.condF rfl ?_
          | (refine W.fork rfl ?_ ?_ <;> intro hc <;> (fail_if_success (exfalso; cases hc; done)) <;> (try subst hc))
          | refine W.ret ?_
          | refine W.block ?_
          | refine W.exit ?_)
        exact ⟨.inr rfl, _, rfl, fin rfl rfl rfl⟩
theorem WH.xorE {K : Rel4} {e : Env} {m : Mem} {R : Env → Mem → Prop} {d : Nat} {g : Option (Nat × Bool)} {l : List Ins} {x y : Opd} {c c' : B32} {bs : List Nat} {j : Nat} {wr rd : List (Nat × Nat × Nat)} (hg : wantedN e g = true) (hx : x.ev e = .int .u32 (CrcMath.e c)) (hy : y.ev e = .int .u32 (CrcMath.e c')) (h : WH K bs l (j + 1) wr rd (upd e d (.int .u32 (CrcMath.e (c ^^^ c')))) m R) : WH K bs (⟨some d, g, .bin .xor x y⟩ :: l) j wr rd e m R := WH.go hg (Nv.xorE hx hy) rfl h
/-- What the two are, between rounds. -/
structure Two where
  i : Nat
  a : List UInt8
  b : List UInt8
set_option maxRecDepth 8000 in
set_option maxHeartbeats 4000000 in
theorem law6 (s t w : ByteArray) (hs : s.size ≤ 140737488351232) (ht : t.size ≤ 140737488351232) (hw : w.size ≤ 140737488351232) : E0 6 [.str s, .str t, .str w] [] (.bool true) [] := by
  refine EvF.by (nf := nf6) (args := [.str s, .str t, .str w]) rfl (of_decide_eq_true rfl) rfl ?_
  obtain ⟨n, hn⟩ : ∃ n : Nat, min (min (s.size : Int) (t.size : Int)) (w.size : Int) = (n : Int) := ⟨(min (min (s.size : Int) (t.size : Int)) (w.size : Int)).toNat, by omega⟩
  have hla := L_len (s.extract 0 n)
  have hlb := L_len (t.extract 0 n)
  have hsa : (s.extract 0 n).size = n := by rw [ByteArray.size_extract]; omega
  have hsb : (t.extract 0 n).size = n := by rw [ByteArray.size_extract]; omega
  generalize hA : (s.extract 0 n).data.toList = A at hla
  generalize hB : (t.extract 0 n).data.toList = B at hlb
  have h9A := f9L A (by omega)
  have h9B := f9L B (by omega)
  have lA : (s.extract 0 n).size = A.length := hla.symm
  have lB : (t.extract 0 n).size = B.length := hlb.symm
  repeat' (first
    | refine W.seq ?_
    | refine W.region ?_
    | refine W.drawn ?_
    | refine WO.nil ?_
    | refine WH.nil ?_
    | refine WO.s2bL rfl rfl (by omega) hA ?_
    | refine WO.s2bL rfl rfl (by omega) hB ?_
    | refine WO.b2sE rfl rfl rfl (hn := lA) ?_
    | refine WH.b2sE rfl rfl rfl (hn := lA) rfl ?_
    | refine WO.b2sE rfl rfl rfl (hn := lB) ?_
    | refine WH.b2sE rfl rfl rfl (hn := lB) rfl ?_
    | refine WO.min3 rfl rfl rfl rfl hn ?_
    | refine WH.min3 rfl rfl rfl rfl hn ?_
    | refine WO.xorE rfl rfl rfl ?_
    | refine WH.xorE rfl rfl rfl ?_
    | refine WO.onG rfl ?_
    | refine WO.offG rfl ?_
    | refine WO.offG' rfl ?_
    | (refine WO.fork rfl ?_ ?_ <;> intro hc <;> (fail_if_success (exfalso; cases hc; done)) <;> (try subst hc))
    | (refine WO.isMv ?_; first | refine WO.go rfl rfl ?_ | refine WO.st rfl rfl ?_)
    | (refine WO.isBin ?_; first | refine WO.add64 rfl rfl rfl (by omega) (by omega) ?_ | refine WO.sub64 rfl rfl rfl (by omega) (by omega) ?_ | refine WO.rem rfl rfl rfl (by omega) (by omega) ?_ | refine WO.quoI64 rfl rfl rfl (by omega) (by omega) (by omega) ?_ | refine WO.quoU8 rfl rfl rfl (by omega) (by omega) (by omega) ?_ | refine WO.quoU32 rfl rfl rfl (by omega) (by omega) (by omega) ?_ | refine WO.quoU64 rfl rfl rfl (by omega) (by omega) (by omega) ?_ | refine WO.mul64 rfl rfl rfl (by omega) (by omega) ?_ | refine WO.addU32 rfl rfl rfl (by omega) (by omega) ?_ | refine WO.addU64 rfl rfl rfl (by omega) (by omega) ?_ | refine WO.addU8 rfl rfl rfl (by omega) (by omega) ?_ | refine WO.subU64 rfl rfl rfl (by omega) (by omega) ?_ | refine WO.subU32 rfl rfl rfl (by omega) (by omega) ?_ | refine WO.shl rfl rfl rfl (by omega) ?_ | refine WO.shr rfl rfl rfl (by omega) ?_ | refine WO.testT rfl rfl ?_ | refine WO.testF rfl rfl ?_ | (refine WO.test rfl rfl ?_ ?_ <;> intro hc <;> (try simp only [decide_eq_true_eq, decide_eq_false_iff_not, beq_iff_eq, beq_eq_false_iff_ne, bne_iff_ne, bne_eq_false_iff_eq, ne_eq, gt_iff_lt, ge_iff_le, Int.not_lt, Int.not_le, not_true_eq_false, not_false_eq_true] at hc) <;> (try omega)) | refine WO.go rfl rfl ?_ | refine WO.st rfl rfl ?_)
    | (refine WO.isUn ?_; first | refine WO.go rfl rfl ?_ | refine WO.st rfl rfl ?_)
    | (refine WO.isI2i ?_; first | refine WO.toI64 rfl rfl (by omega) (by omega) ?_ | refine WO.toU64 rfl rfl (by omega) (by omega) ?_ | refine WO.toU32 rfl rfl (by omega) (by omega) ?_ | refine WO.toU8 rfl rfl (by omega) (by omega) ?_ | refine WO.go rfl rfl ?_ | refine WO.st rfl rfl ?_)
    | (refine WO.isCall ?_; first | refine WO.ask rfl rfl (f7 _) ?_ | refine WO.ask' rfl rfl (f7 _) ?_ | refine WO.ask rfl rfl (h9A _) ?_ | refine WO.ask' rfl rfl (h9A _) ?_ | refine WO.ask rfl rfl (h9B _) ?_ | refine WO.ask' rfl rfl (h9B _) ?_)
    | (refine WO.isDyn ?_; first | refine WO.ask rfl rfl (f7 _) ?_ | refine WO.ask' rfl rfl (f7 _) ?_ | refine WO.ask rfl rfl (h9A _) ?_ | refine WO.ask' rfl rfl (h9A _) ?_ | refine WO.ask rfl rfl (h9B _) ?_ | refine WO.ask' rfl rfl (h9B _) ?_)
    | (refine WO.isLoad ?_; first | refine WO.go rfl rfl ?_ | refine WO.st rfl rfl ?_)
    | (refine WO.isStore ?_; first | refine WO.go rfl rfl ?_ | refine WO.st rfl rfl ?_)
    | (refine WO.isIaddr ?_; first | refine WO.go rfl rfl ?_ | refine WO.st rfl rfl ?_)
    | (refine WO.isIndex ?_; first | refine WO.go rfl rfl ?_ | refine WO.st rfl rfl ?_)
    | (refine WO.isSlice ?_; first | refine WO.strhi rfl rfl rfl rfl (by omega) ?_ | refine WO.go rfl rfl ?_ | refine WO.st rfl rfl ?_)
    | (refine WO.isLen ?_; first | refine WO.go rfl rfl ?_ | refine WO.st rfl rfl ?_)
    | (refine WO.isApp ?_; first | refine WO.go rfl rfl ?_ | refine WO.st rfl rfl ?_)
    | (refine WO.isEq ?_; first | refine WO.go rfl rfl ?_ | refine WO.st rfl rfl ?_)
    | refine WO.go rfl rfl ?_
    | refine WO.st rfl rfl ?_
    | refine WH.onG rfl ?_
    | refine WH.offG rfl ?_
    | refine WH.offG' rfl ?_
    | (refine WH.fork rfl ?_ ?_ <;> intro hc <;> (fail_if_success (exfalso; cases hc; done)) <;> (try subst hc))
    | (refine WH.isMv ?_; first | refine WH.go rfl rfl rfl ?_ | refine WH.st rfl rfl rfl ?_)
    | (refine WH.isBin ?_; first | refine WH.add64 rfl rfl rfl (by omega) (by omega) ?_ | refine WH.sub64 rfl rfl rfl (by omega) (by omega) ?_ | refine WH.rem rfl rfl rfl (by omega) (by omega) ?_ | refine WH.quoI64 rfl rfl rfl (by omega) (by omega) (by omega) ?_ | refine WH.quoU8 rfl rfl rfl (by omega) (by omega) (by omega) ?_ | refine WH.quoU32 rfl rfl rfl (by omega) (by omega) (by omega) ?_ | refine WH.quoU64 rfl rfl rfl (by omega) (by omega) (by omega) ?_ | refine WH.mul64 rfl rfl rfl (by omega) (by omega) ?_ | refine WH.addU32 rfl rfl rfl (by omega) (by omega) ?_ | refine WH.addU64 rfl rfl rfl (by omega) (by omega) ?_ | refine WH.addU8 rfl rfl rfl (by omega) (by omega) ?_ | refine WH.subU64 rfl rfl rfl (by omega) (by omega) ?_ | refine WH.subU32 rfl rfl rfl (by omega) (by omega) ?_ | refine WH.shl rfl rfl rfl (by omega) ?_ | refine WH.shr rfl rfl rfl (by omega) ?_ | refine WH.testT rfl rfl ?_ | refine WH.testF rfl rfl ?_ | (refine WH.test rfl rfl ?_ ?_ <;> intro hc <;> (try simp only [decide_eq_true_eq, decide_eq_false_iff_not, beq_iff_eq, beq_eq_false_iff_ne, bne_iff_ne, bne_eq_false_iff_eq, ne_eq, gt_iff_lt, ge_iff_le, Int.not_lt, Int.not_le, not_true_eq_false, not_false_eq_true] at hc) <;> (try omega)) | refine WH.go rfl rfl rfl ?_ | refine WH.st rfl rfl rfl ?_)
    | (refine WH.isUn ?_; first | refine WH.go rfl rfl rfl ?_ | refine WH.st rfl rfl rfl ?_)
    | (refine WH.isI2i ?_; first | refine WH.toI64 rfl rfl (by omega) (by omega) ?_ | refine WH.toU64 rfl rfl (by omega) (by omega) ?_ | refine WH.toU32 rfl rfl (by omega) (by omega) ?_ | refine WH.toU8 rfl rfl (by omega) (by omega) ?_ | refine WH.go rfl rfl rfl ?_ | refine WH.st rfl rfl rfl ?_)
    | (refine WH.isCall ?_; first | refine WH.ask rfl rfl rfl (f7 _) ?_ | refine WH.ask rfl rfl rfl (h9A _) ?_ | refine WH.ask rfl rfl rfl (h9B _) ?_)
    | (refine WH.isDyn ?_; first | refine WH.ask rfl rfl rfl (f7 _) ?_ | refine WH.ask rfl rfl rfl (h9A _) ?_ | refine WH.ask rfl rfl rfl (h9B _) ?_)
    | (refine WH.isLoad ?_; first | refine WH.go rfl rfl rfl ?_ | refine WH.st rfl rfl rfl ?_)
    | (refine WH.isStore ?_; first | refine WH.go rfl rfl rfl ?_ | refine WH.st rfl rfl rfl ?_)
    | (refine WH.isIaddr ?_; first | refine WH.go rfl rfl rfl ?_ | refine WH.st rfl rfl rfl ?_)
    | (refine WH.isIndex ?_; first | refine WH.go rfl rfl rfl ?_ | refine WH.st rfl rfl rfl ?_)
    | (refine WH.isSlice ?_; first | refine WH.strhi rfl rfl rfl rfl (by omega) ?_ | refine WH.go rfl rfl rfl ?_ | refine WH.st rfl rfl rfl ?_)
    | (refine WH.isLen ?_; first | refine WH.go rfl rfl rfl ?_ | refine WH.st rfl rfl rfl ?_)
    | (refine WH.isApp ?_; first | refine WH.go rfl rfl rfl ?_ | refine WH.st rfl rfl rfl ?_)
    | (refine WH.isEq ?_; first | refine WH.go rfl rfl rfl ?_ | refine WH.st rfl rfl rfl ?_)
    | refine WH.go rfl rfl rfl ?_
    | refine WH.st rfl rfl rfl ?_
    | refine W.skip ?_
    | refine W.condT rfl ?_
    | refine W.condF rfl ?_
    | (refine W.fork rfl ?_ ?_ <;> intro hc <;> (fail_if_success (exfalso; cases hc; done)) <;> (try subst hc))
    | refine W.ret ?_
    | refine W.block ?_
    | refine W.exit ?_)
  refine W.ind (σ := Two) (fun z => [(2, .str w), (7, .bool true), (8, .int .i64 n), (9, .msl 0 0 0 (s.extract 0 n).size 1), (10, .msl 0 1 0 (t.extract 0 n).size 1), (11, .int .u32 (CrcMath.e (add 0#32 (A.map UInt8.toNat) ^^^ add 0#32 (B.map UInt8.toNat)))), (12, .int .i64 z.i)])
    (fun z => [⟨[] ++ [.cells (bcells z.a)] ++ [.cells (bcells z.b)], []⟩])
    (fun z => z.i ≤ n ∧ z.a.length = n ∧ z.b.length = n ∧ fold (~~~0#32) (z.a.map UInt8.toNat) ^^^ fold (~~~0#32) (z.b.map UInt8.toNat) = fold (~~~0#32) (A.map UInt8.toNat) ^^^ fold (~~~0#32) (B.map UInt8.toNat)) (fun z => n - z.i) ⟨0, A, B⟩
    ⟨by simp, by show A.length = n; omega, by show B.length = n; omega, rfl⟩ ⟨rfl, rfl, rfl, rfl, rfl, rfl, rfl, trivial⟩ rfl ?_
  rintro ⟨i, a, b⟩ bb ⟨hi, ha, hb, hx⟩ IH
  simp only at hi ha hb hx
  dsimp only
  refine W.round ?_
  by_cases h4 : i < n
  · have ga : a[i]? = some a[i] := List.getElem?_eq_getElem (by omega)
    have gb : b[i]? = some b[i] := List.getElem?_eq_getElem (by omega)
    have hiw : i < w.size := by omega
    have gw : w[i]? = some w[i] := getElem?_pos w i hiw
    repeat' (first
      | refine W.seq ?_
      | refine W.region ?_
      | refine W.drawn ?_
      | refine WO.nil ?_
      | refine WH.nil ?_
      | refine WO.bstore rfl rfl rfl rfl (by omega) ?_
      | refine WO.onG rfl ?_
      | refine WO.offG rfl ?_
      | refine WO.offG' rfl ?_
      | (refine WO.fork rfl ?_ ?_ <;> intro hc <;> (fail_if_success (exfalso; cases hc; done)) <;> (try subst hc))
      | (refine WO.isMv ?_; first | refine WO.go rfl rfl ?_ | refine WO.st rfl rfl ?_)
      | (refine WO.isBin ?_; first | refine WO.bxor rfl rfl rfl ?_ | refine WO.add64 rfl rfl rfl (by omega) (by omega) ?_ | refine WO.sub64 rfl rfl rfl (by omega) (by omega) ?_ | refine WO.rem rfl rfl rfl (by omega) (by omega) ?_ | refine WO.quoI64 rfl rfl rfl (by omega) (by omega) (by omega) ?_ | refine WO.quoU8 rfl rfl rfl (by omega) (by omega) (by omega) ?_ | refine WO.quoU32 rfl rfl rfl (by omega) (by omega) (by omega) ?_ | refine WO.quoU64 rfl rfl rfl (by omega) (by omega) (by omega) ?_ | refine WO.mul64 rfl rfl rfl (by omega) (by omega) ?_ | refine WO.addU32 rfl rfl rfl (by omega) (by omega) ?_ | refine WO.addU64 rfl rfl rfl (by omega) (by omega) ?_ | refine WO.addU8 rfl rfl rfl (by omega) (by omega) ?_ | refine WO.subU64 rfl rfl rfl (by omega) (by omega) ?_ | refine WO.subU32 rfl rfl rfl (by omega) (by omega) ?_ | refine WO.shl rfl rfl rfl (by omega) ?_ | refine WO.shr rfl rfl rfl (by omega) ?_ | refine WO.testT rfl rfl ?_ | refine WO.testF rfl rfl ?_ | (refine WO.test rfl rfl ?_ ?_ <;> intro hc <;> (try simp only [decide_eq_true_eq, decide_eq_false_iff_not, beq_iff_eq, beq_eq_false_iff_ne, bne_iff_ne, bne_eq_false_iff_eq, ne_eq, gt_iff_lt, ge_iff_le, Int.not_lt, Int.not_le, not_true_eq_false, not_false_eq_true] at hc) <;> (try omega)) | refine WO.go rfl rfl ?_ | refine WO.st rfl rfl ?_)
      | (refine WO.isUn ?_; first | refine WO.go rfl rfl ?_ | refine WO.st rfl rfl ?_)
      | (refine WO.isI2i ?_; first | refine WO.toI64 rfl rfl (by omega) (by omega) ?_ | refine WO.toU64 rfl rfl (by omega) (by omega) ?_ | refine WO.toU32 rfl rfl (by omega) (by omega) ?_ | refine WO.toU8 rfl rfl (by omega) (by omega) ?_ | refine WO.go rfl rfl ?_ | refine WO.st rfl rfl ?_)
      | (refine WO.isLoad ?_; first | refine WO.bload rfl rfl rfl ga ?_ | refine WO.bload rfl rfl rfl gb ?_ | refine WO.go rfl rfl ?_ | refine WO.st rfl rfl ?_)
      | (refine WO.isStore ?_; first | refine WO.go rfl rfl ?_ | refine WO.st rfl rfl ?_)
      | (refine WO.isIaddr ?_; first | refine WO.bidx0 rfl rfl rfl (n := i) rfl (by omega) ?_ | refine WO.go rfl rfl ?_ | refine WO.st rfl rfl ?_)
      | (refine WO.isIndex ?_; first | refine WO.stridx rfl rfl rfl rfl gw ?_ | refine WO.go rfl rfl ?_ | refine WO.st rfl rfl ?_)
      | (refine WO.isSlice ?_; first | refine WO.go rfl rfl ?_ | refine WO.st rfl rfl ?_)
      | (refine WO.isLen ?_; first | refine WO.go rfl rfl ?_ | refine WO.st rfl rfl ?_)
      | (refine WO.isApp ?_; first | refine WO.go rfl rfl ?_ | refine WO.st rfl rfl ?_)
      | (refine WO.isEq ?_; first | refine WO.go rfl rfl ?_ | refine WO.st rfl rfl ?_)
      | refine WO.go rfl rfl ?_
      | refine WO.st rfl rfl ?_
      | refine WH.onG rfl ?_
      | refine WH.offG rfl ?_
      | refine WH.offG' rfl ?_
      | (refine WH.fork rfl ?_ ?_ <;> intro hc <;> (fail_if_success (exfalso; cases hc; done)) <;> (try subst hc))
      | (refine WH.isMv ?_; first | refine WH.go rfl rfl rfl ?_ | refine WH.st rfl rfl rfl ?_)
      | (refine WH.isBin ?_; first | refine WH.bxor rfl rfl rfl ?_ | refine WH.add64 rfl rfl rfl (by omega) (by omega) ?_ | refine WH.sub64 rfl rfl rfl (by omega) (by omega) ?_ | refine WH.rem rfl rfl rfl (by omega) (by omega) ?_ | refine WH.quoI64 rfl rfl rfl (by omega) (by omega) (by omega) ?_ | refine WH.quoU8 rfl rfl rfl (by omega) (by omega) (by omega) ?_ | refine WH.quoU32 rfl rfl rfl (by omega) (by omega) (by omega) ?_ | refine WH.quoU64 rfl rfl rfl (by omega) (by omega) (by omega) ?_ | refine WH.mul64 rfl rfl rfl (by omega) (by omega) ?_ | refine WH.addU32 rfl rfl rfl (by omega) (by omega) ?_ | refine WH.addU64 rfl rfl rfl (by omega) (by omega) ?_ | refine WH.addU8 rfl rfl rfl (by omega) (by omega) ?_ | refine WH.subU64 rfl rfl rfl (by omega) (by omega) ?_ | refine WH.subU32 rfl rfl rfl (by omega) (by omega) ?_ | refine WH.shl rfl rfl rfl (by omega) ?_ | refine WH.shr rfl rfl rfl (by omega) ?_ | refine WH.testT rfl rfl ?_ | refine WH.testF rfl rfl ?_ | (refine WH.test rfl rfl ?_ ?_ <;> intro hc <;> (try simp only [decide_eq_true_eq, decide_eq_false_iff_not, beq_iff_eq, beq_eq_false_iff_ne, bne_iff_ne, bne_eq_false_iff_eq, ne_eq, gt_iff_lt, ge_iff_le, Int.not_lt, Int.not_le, not_true_eq_false, not_false_eq_true] at hc) <;> (try omega)) | refine WH.go rfl rfl rfl ?_ | refine WH.st rfl rfl rfl ?_)
      | (refine WH.isUn ?_; first | refine WH.go rfl rfl rfl ?_ | refine WH.st rfl rfl rfl ?_)
      | (refine WH.isI2i ?_; first | refine WH.toI64 rfl rfl (by omega) (by omega) ?_ | refine WH.toU64 rfl rfl (by omega) (by omega) ?_ | refine WH.toU32 rfl rfl (by omega) (by omega) ?_ | refine WH.toU8 rfl rfl (by omega) (by omega) ?_ | refine WH.go rfl rfl rfl ?_ | refine WH.st rfl rfl rfl ?_)
      | (refine WH.isLoad ?_; first | refine WH.bload rfl rfl rfl ga rfl ?_ | refine WH.bload rfl rfl rfl gb rfl ?_ | refine WH.go rfl rfl rfl ?_ | refine WH.st rfl rfl rfl ?_)
      | (refine WH.isStore ?_; first | refine WH.go rfl rfl rfl ?_ | refine WH.st rfl rfl rfl ?_)
      | (refine WH.isIaddr ?_; first | refine WH.bidx0 rfl rfl rfl (n := i) rfl (by omega) ?_ | refine WH.go rfl rfl rfl ?_ | refine WH.st rfl rfl rfl ?_)
      | (refine WH.isIndex ?_; first | refine WH.stridx rfl rfl rfl rfl gw ?_ | refine WH.go rfl rfl rfl ?_ | refine WH.st rfl rfl rfl ?_)
      | (refine WH.isSlice ?_; first | refine WH.go rfl rfl rfl ?_ | refine WH.st rfl rfl rfl ?_)
      | (refine WH.isLen ?_; first | refine WH.go rfl rfl rfl ?_ | refine WH.st rfl rfl rfl ?_)
      | (refine WH.isApp ?_; first | refine WH.go rfl rfl rfl ?_ | refine WH.st rfl rfl rfl ?_)
      | (refine WH.isEq ?_; first | refine WH.go rfl rfl rfl ?_ | refine WH.st rfl rfl rfl ?_)
      | refine WH.go rfl rfl rfl ?_
      | refine WH.st rfl rfl rfl ?_
      | refine W.skip ?_
      | refine W.condT rfl ?_
      | refine W.condF rfl ?_
      | (refine W.fork rfl ?_ ?_ <;> intro hc <;> (fail_if_success (exfalso; cases hc; done)) <;> (try subst hc))
      | refine W.ret ?_
      | refine W.block ?_
      | refine W.exit ?_)
    have hP : fold (~~~0#32) ((a.set i (a[i] ^^^ w[i])).map UInt8.toNat) ^^^ fold (~~~0#32) ((b.set i (b[i] ^^^ w[i])).map UInt8.toNat) = fold (~~~0#32) (A.map UInt8.toNat) ^^^ fold (~~~0#32) (B.map UInt8.toNat) := by
      rw [← hx, List.map_set, List.map_set, UInt8.toNat_xor, UInt8.toNat_xor]
      have := bent_alike (c := ~~~0#32) (l := a.map UInt8.toNat) (m := b.map UInt8.toNat) (i := i) (v := w[i].toNat) (by simp; omega) (by simp; omega)
      simpa using this
    refine IH ⟨i + 1, a.set i (a[i] ^^^ w[i]), b.set i (b[i] ^^^ w[i])⟩ _ _ ?_ ?_ ?_ ?_
    · simp only; omega
    · exact ⟨by simp only; omega, by simpa using ha, by simpa using hb, hP⟩
    · exact ⟨rfl, rfl, rfl, rfl, rfl, rfl, rfl, trivial⟩
    · rfl
  · obtain rfl : i = n := by omega
    have h9a := f9L a (by omega)
    have h9b := f9L b (by omega)
    have ka : (s.extract 0 i).size = a.length := by omega
    have kb : (t.extract 0 i).size = b.length := by omega
    have hq : CrcMath.e (add 0#32 (a.map UInt8.toNat) ^^^ add 0#32 (b.map UInt8.toNat)) = CrcMath.e (add 0#32 (A.map UInt8.toNat) ^^^ add 0#32 (B.map UInt8.toNat)) := congrArg _ (add_alike hx)
    repeat' (first
      | refine W.seq ?_
      | refine W.region ?_
      | refine W.drawn ?_
      | refine WO.nil ?_
      | refine WH.nil ?_
      | refine WO.b2sE rfl rfl rfl (hn := ka) ?_
      | refine WH.b2sE rfl rfl rfl (hn := ka) rfl ?_
      | refine WO.b2sE rfl rfl rfl (hn := kb) ?_
      | refine WH.b2sE rfl rfl rfl (hn := kb) rfl ?_
      | refine WO.xorE rfl rfl rfl ?_
      | refine WH.xorE rfl rfl rfl ?_
      | refine WO.onG rfl ?_
      | refine WO.offG rfl ?_
      | refine WO.offG' rfl ?_
      | (refine WO.fork rfl ?_ ?_ <;> intro hc <;> (fail_if_success (exfalso; cases hc; done)) <;> (try subst hc))
      | (refine WO.isMv ?_; first | refine WO.go rfl rfl ?_ | refine WO.st rfl rfl ?_)
      | (refine WO.isBin ?_; first | refine WO.eqT rfl rfl rfl hq ?_ | refine WO.add64 rfl rfl rfl (by omega) (by omega) ?_ | refine WO.sub64 rfl rfl rfl (by omega) (by omega) ?_ | refine WO.rem rfl rfl rfl (by omega) (by omega) ?_ | refine WO.quoI64 rfl rfl rfl (by omega) (by omega) (by omega) ?_ | refine WO.quoU8 rfl rfl rfl (by omega) (by omega) (by omega) ?_ | refine WO.quoU32 rfl rfl rfl (by omega) (by omega) (by omega) ?_ | refine WO.quoU64 rfl rfl rfl (by omega) (by omega) (by omega) ?_ | refine WO.mul64 rfl rfl rfl (by omega) (by omega) ?_ | refine WO.addU32 rfl rfl rfl (by omega) (by omega) ?_ | refine WO.addU64 rfl rfl rfl (by omega) (by omega) ?_ | refine WO.addU8 rfl rfl rfl (by omega) (by omega) ?_ | refine WO.subU64 rfl rfl rfl (by omega) (by omega) ?_ | refine WO.subU32 rfl rfl rfl (by omega) (by omega) ?_ | refine WO.shl rfl rfl rfl (by omega) ?_ | refine WO.shr rfl rfl rfl (by omega) ?_ | refine WO.testT rfl rfl ?_ | refine WO.testF rfl rfl ?_ | (refine WO.test rfl rfl ?_ ?_ <;> intro hc <;> (try simp only [decide_eq_true_eq, decide_eq_false_iff_not, beq_iff_eq, beq_eq_false_iff_ne, bne_iff_ne, bne_eq_false_iff_eq, ne_eq, gt_iff_lt, ge_iff_le, Int.not_lt, Int.not_le, not_true_eq_false, not_false_eq_true] at hc) <;> (try omega)) | refine WO.go rfl rfl ?_ | refine WO.st rfl rfl ?_)
      | (refine WO.isUn ?_; first | refine WO.go rfl rfl ?_ | refine WO.st rfl rfl ?_)
      | (refine WO.isI2i ?_; first | refine WO.toI64 rfl rfl (by omega) (by omega) ?_ | refine WO.toU64 rfl rfl (by omega) (by omega) ?_ | refine WO.toU32 rfl rfl (by omega) (by omega) ?_ | refine WO.toU8 rfl rfl (by omega) (by omega) ?_ | refine WO.go rfl rfl ?_ | refine WO.st rfl rfl ?_)
      | (refine WO.isCall ?_; first | refine WO.ask rfl rfl (h9a _) ?_ | refine WO.ask' rfl rfl (h9a _) ?_ | refine WO.ask rfl rfl (h9b _) ?_ | refine WO.ask' rfl rfl (h9b _) ?_)
      | (refine WO.isDyn ?_; first | refine WO.ask rfl rfl (h9a _) ?_ | refine WO.ask' rfl rfl (h9a _) ?_ | refine WO.ask rfl rfl (h9b _) ?_ | refine WO.ask' rfl rfl (h9b _) ?_)
      | (refine WO.isLoad ?_; first | refine WO.go rfl rfl ?_ | refine WO.st rfl rfl ?_)
      | (refine WO.isStore ?_; first | refine WO.go rfl rfl ?_ | refine WO.st rfl rfl ?_)
      | (refine WO.isIaddr ?_; first | refine WO.go rfl rfl ?_ | refine WO.st rfl rfl ?_)
      | (refine WO.isIndex ?_; first | refine WO.go rfl rfl ?_ | refine WO.st rfl rfl ?_)
      | (refine WO.isSlice ?_; first | refine WO.go rfl rfl ?_ | refine WO.st rfl rfl ?_)
      | (refine WO.isLen ?_; first | refine WO.go rfl rfl ?_ | refine WO.st rfl rfl ?_)
      | (refine WO.isApp ?_; first | refine WO.go rfl rfl ?_ | refine WO.st rfl rfl ?_)
      | (refine WO.isEq ?_; first | refine WO.go rfl rfl ?_ | refine WO.st rfl rfl ?_)
      | refine WO.go rfl rfl ?_
      | refine WO.st rfl rfl ?_
      | refine WH.onG rfl ?_
      | refine WH.offG rfl ?_
      | refine WH.offG' rfl ?_
      | (refine WH.fork rfl ?_ ?_ <;> intro hc <;> (fail_if_success (exfalso; cases hc; done)) <;> (try subst hc))
      | (refine WH.isMv ?_; first | refine WH.go rfl rfl rfl ?_ | refine WH.st rfl rfl rfl ?_)
      | (refine WH.isBin ?_; first | refine WH.eqT rfl rfl rfl hq ?_ | refine WH.add64 rfl rfl rfl (by omega) (by omega) ?_ | refine WH.sub64 rfl rfl rfl (by omega) (by omega) ?_ | refine WH.rem rfl rfl rfl (by omega) (by omega) ?_ | refine WH.quoI64 rfl rfl rfl (by omega) (by omega) (by omega) ?_ | refine WH.quoU8 rfl rfl rfl (by omega) (by omega) (by omega) ?_ | refine WH.quoU32 rfl rfl rfl (by omega) (by omega) (by omega) ?_ | refine WH.quoU64 rfl rfl rfl (by omega) (by omega) (by omega) ?_ | refine WH.mul64 rfl rfl rfl (by omega) (by omega) ?_ | refine WH.addU32 rfl rfl rfl (by omega) (by omega) ?_ | refine WH.addU64 rfl rfl rfl (by omega) (by omega) ?_ | refine WH.addU8 rfl rfl rfl (by omega) (by omega) ?_ | refine WH.subU64 rfl rfl rfl (by omega) (by omega) ?_ | refine WH.subU32 rfl rfl rfl (by omega) (by omega) ?_ | refine WH.shl rfl rfl rfl (by omega) ?_ | refine WH.shr rfl rfl rfl (by omega) ?_ | refine WH.testT rfl rfl ?_ | refine WH.testF rfl rfl ?_ | (refine WH.test rfl rfl ?_ ?_ <;> intro hc <;> (try simp only [decide_eq_true_eq, decide_eq_false_iff_not, beq_iff_eq, beq_eq_false_iff_ne, bne_iff_ne, bne_eq_false_iff_eq, ne_eq, gt_iff_lt, ge_iff_le, Int.not_lt, Int.not_le, not_true_eq_false, not_false_eq_true] at hc) <;> (try omega)) | refine WH.go rfl rfl rfl ?_ | refine WH.st rfl rfl rfl ?_)
      | (refine WH.isUn ?_; first | refine WH.go rfl rfl rfl ?_ | refine WH.st rfl rfl rfl ?_)
      | (refine WH.isI2i ?_; first | refine WH.toI64 rfl rfl (by omega) (by omega) ?_ | refine WH.toU64 rfl rfl (by omega) (by omega) ?_ | refine WH.toU32 rfl rfl (by omega) (by omega) ?_ | refine WH.toU8 rfl rfl (by omega) (by omega) ?_ | refine WH.go rfl rfl rfl ?_ | refine WH.st rfl rfl rfl ?_)
      | (refine WH.isCall ?_; first | refine WH.ask rfl rfl rfl (h9a _) ?_ | refine WH.ask rfl rfl rfl (h9b _) ?_)
      | (refine WH.isDyn ?_; first | refine WH.ask rfl rfl rfl (h9a _) ?_ | refine WH.ask rfl rfl rfl (h9b _) ?_)
      | (refine WH.isLoad ?_; first | refine WH.go rfl rfl rfl ?_ | refine WH.st rfl rfl rfl ?_)
      | (refine WH.isStore ?_; first | refine WH.go rfl rfl rfl ?_ | refine WH.st rfl rfl rfl ?_)
      | (refine WH.isIaddr ?_; first | refine WH.go rfl rfl rfl ?_ | refine WH.st rfl rfl rfl ?_)
      | (refine WH.isIndex ?_; first | refine WH.go rfl rfl rfl ?_ | refine WH.st rfl rfl rfl ?_)
      | (refine WH.isSlice ?_; first | refine WH.go rfl rfl rfl ?_ | refine WH.st rfl rfl rfl ?_)
      | (refine WH.isLen ?_; first | refine WH.go rfl rfl rfl ?_ | refine WH.st rfl rfl rfl ?_)
      | (refine WH.isApp ?_; first | refine WH.go rfl rfl rfl ?_ | refine WH.st rfl rfl rfl ?_)
      | (refine WH.isEq ?_; first | refine WH.go rfl rfl rfl ?_ | refine WH.st rfl rfl rfl ?_)
      | refine WH.go rfl rfl rfl ?_
      | refine WH.st rfl rfl rfl ?_
      | refine W.skip ?_
      | refine W.condT rfl ?_
      | refine W.condF rfl ?_
      | (refine W.fork rfl ?_ ?_ <;> intro hc <;> (fail_if_success (exfalso; cases hc; done)) <;> (try subst hc))
      | refine W.ret ?_
      | refine W.block ?_
      | refine W.exit ?_)
    exact ⟨.inr rfl, _, rfl, fin rfl rfl rfl⟩
end Go.Proofs.Ytogmnckhpokfhaa.Nv
