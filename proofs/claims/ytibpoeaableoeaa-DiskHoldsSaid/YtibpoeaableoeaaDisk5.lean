/- DiskHolds. -/
import Derived.Test.YtibpoeaableoeaaDisk3
namespace Go.Proofs.Ytibpoeaableoeaa.Nv
open Go
abbrev h1 (x : ByteArray) : Dk := (dk0 1048576).append x
abbrev h2 (x : ByteArray) : Dk := (h1 x).sync
abbrev h3 (x : ByteArray) : Dk := (h2 x).hold
abbrev h4 (x y : ByteArray) : Dk := (h3 x).append y
abbrev h5 (x y : ByteArray) : Dk := (h4 x y).sync
abbrev h6 (x y : ByteArray) (k : Int) : Dk := (h5 x y).crash k
abbrev h7 (x y : ByteArray) (k : Int) (z : ByteArray) : Dk := (h6 x y k).append z
abbrev h8 (x y : ByteArray) (k : Int) (z : ByteArray) : Dk := (h7 x y k z).sync
theorem cat_one (y : ByteArray) : cat [y] = y := by
  have := cat_snoc [] y
  rw [List.nil_append] at this
  rw [this, cat_nil, empty_app]
theorem h1_all (x : ByteArray) : (h1 x).all = x := by rw [Dk.all_append, Dk.all_0, empty_app]
theorem h5_s (x y : ByteArray) : (h5 x y).s = x := h1_all x
theorem h5_tl (x y : ByteArray) : (h5 x y).tl = [y] := rfl
theorem h5_all (x y : ByteArray) : (h5 x y).all = x ++ y := by
  show (h5 x y).s ++ cat (h5 x y).tl = _
  rw [h5_s, h5_tl, cat_one]
theorem h6_s (x y : ByteArray) (k : Int) (m : Nat) (hm : min k (y.size : Int) = (m : Int)) : (h6 x y k).s = x ++ y.extract 0 m := by
  show (h5 x y).s ++ (cat (h5 x y).tl).extract 0 (leftOf k (h5 x y)) = _
  have : leftOf k (h5 x y) = m := by
    unfold leftOf
    rw [h5_tl, cat_one, hm]
    omega
  rw [this, h5_s, h5_tl, cat_one]
theorem h6_all (x y : ByteArray) (k : Int) (m : Nat) (hm : min k (y.size : Int) = (m : Int)) : (h6 x y k).all = x ++ y.extract 0 m := by
  rw [Dk.all_crash]; exact h6_s x y k m hm
theorem h7_all (x y : ByteArray) (k : Int) (z : ByteArray) : (h7 x y k z).all = (h6 x y k).all ++ z := Dk.all_append _ _
theorem h8_all (x y : ByteArray) (k : Int) (z : ByteArray) : (h8 x y k z).all = (h6 x y k).all ++ z := by rw [Dk.all_sync, h7_all]
theorem h8_s (x y : ByteArray) (k : Int) (z : ByteArray) : (h8 x y k z).s = (h6 x y k).all ++ z := h7_all x y k z
set_option maxRecDepth 8000 in
set_option maxHeartbeats 8000000 in
theorem lawHolds (a0 a1 a2 : ByteArray) (a3 : Int) (g0 : a0.size ≤ 140737488351232) (g1 : a1.size ≤ 140737488351232) (g2 : a2.size ≤ 140737488351232) (b3 : (0 : Int) ≤ a3 ∧ a3 ≤ 255) :
    E0 8 [.str a0, .str a1, .str a2, .int .u8 a3] [] (.bool true) [] := by
  refine EvF.by (nf := nf8) (args := [.str a0, .str a1, .str a2, .int .u8 a3]) rfl (of_decide_eq_true rfl) rfl ?_
  have r1 : (1 : Int) ≤ 1048576 ∧ (1048576 : Int) ≤ 16777216 := by omega
  have hm0 : min (a0.size : Int) 200 = ((min a0.size 200 : Nat) : Int) := by omega
  have hm1 : min (a1.size : Int) 200 = ((min a1.size 200 : Nat) : Int) := by omega
  have hm2 : min (a2.size : Int) 200 = ((min a2.size 200 : Nat) : Int) := by omega
  have hx : (a0.extract 0 (min a0.size 200)).size = min a0.size 200 := ext_size (by omega)
  generalize hxx : a0.extract 0 (min a0.size 200) = x at hx
  have hy : (a1.extract 0 (min a1.size 200)).size = min a1.size 200 := ext_size (by omega)
  generalize hyy : a1.extract 0 (min a1.size 200) = y at hy
  have hz : (a2.extract 0 (min a2.size 200)).size = min a2.size 200 := ext_size (by omega)
  generalize hzz : a2.extract 0 (min a2.size 200) = z at hz
  obtain ⟨m, hm⟩ : ∃ m : Nat, min a3 (y.size : Int) = (m : Int) := ⟨(min a3 (y.size : Int)).toNat, by omega⟩
  have hmy : m ≤ y.size := by omega
  have d0 := ok_0 1048576 r1
  have p1 : x.size ≤ (dk0 1048576).room - (dk0 1048576).n := by show (x.size : Int) ≤ 1048576 - ((0 : Nat) : Int); omega
  have d1 : DkOk (h1 x) := ok_append d0 p1 (Nat.zero_lt_succ _)
  have d2 : DkOk (h2 x) := ok_sync d1
  have d3 : DkOk (h3 x) := ok_hold d2
  have n3 : (h3 x).n = x.size := by rw [← Dk.all_size]; show (h2 x).all.size = _; rw [Dk.all_sync, h1_all]
  have p4 : y.size ≤ (h3 x).room - (h3 x).n := by rw [n3]; show (y.size : Int) ≤ 1048576 - (x.size : Int); omega
  have d4 : DkOk (h4 x y) := ok_append d3 p4 (Nat.zero_lt_succ _)
  have d5 : DkOk (h5 x y) := ok_sync d4
  have d6 : DkOk (h6 x y a3) := ok_crash d5 a3
  have hym : (y.extract 0 m).size = m := ext_size hmy
  have e6 := h6_all x y a3 m hm
  have n6 : (h6 x y a3).n = x.size + m := by rw [← Dk.all_size, e6, ByteArray.size_append, hym]
  have p7 : z.size ≤ (h6 x y a3).room - (h6 x y a3).n := by rw [n6]; show (z.size : Int) ≤ 1048576 - ((x.size + m : Nat) : Int); omega
  have d7 : DkOk (h7 x y a3 z) := ok_append d6 p7 (Nat.zero_lt_succ _)
  have d8 : DkOk (h8 x y a3 z) := ok_sync d7
  have q5 : (h5 x y).s.size = x.size := by rw [h5_s]
  have q6 := h5_all x y
  have q8 : (h8 x y a3 z).s.size = x.size + m + z.size := by rw [h8_s, ByteArray.size_append, Dk.all_size, n6]
  have q9 : (h8 x y a3 z).all = (x ++ y.extract 0 m) ++ z := by rw [h8_all, e6]
  have q10 : (x ++ y.extract 0 m).size = x.size + m := by rw [ByteArray.size_append, hym]
  repeat' (first | refine W.seq ?_ | refine W.region ?_ | refine WO.nil ?_ | refine WO.min2 rfl rfl rfl hm0 ?_ | refine WO.min2 rfl rfl rfl hm1 ?_ | refine WO.min2 rfl rfl rfl hm2 ?_ | refine WO.min2 rfl rfl rfl hm ?_ | refine WO.onG rfl ?_ | refine WO.offG rfl ?_ | (refine WO.fork rfl ?_ ?_ <;> intro hc <;> (fail_if_success (exfalso; cases hc; done)) <;> (first | subst hc | (simp at hc; try omega) | skip)) | (refine WO.isMv ?_; first | refine WO.go rfl rfl ?_ | refine WO.mvR rfl ?_) | (refine WO.isBin ?_; first | refine WO.cat rfl rfl rfl (by omega) ?_ | refine WO.seqT rfl rfl rfl q6 ?_ | refine WO.seqT rfl rfl rfl e6 ?_ | refine WO.seqT rfl rfl rfl q9 ?_ | refine WO.add64 rfl rfl rfl (by omega) (by omega) ?_ | refine WO.addU32 rfl rfl rfl (by omega) (by omega) ?_ | refine WO.addU64 rfl rfl rfl (by omega) (by omega) ?_ | refine WO.addU8 rfl rfl rfl (by omega) (by omega) ?_ | refine WO.testT rfl rfl ?_ | refine WO.testF rfl rfl ?_ | (refine WO.teql rfl rfl rfl (fun hc => ?_) (fun hc => ?_) <;> try omega) | (refine WO.tneq rfl rfl rfl (fun hc => ?_) (fun hc => ?_) <;> try omega) | refine WO.tseql rfl rfl rfl (fun hc => ?_) (fun hc => ?_) | refine WO.tsneq rfl rfl rfl (fun hc => ?_) (fun hc => ?_) | refine WO.go rfl rfl ?_) | (refine WO.isUn ?_; first | refine WO.go rfl rfl ?_) | (refine WO.isI2i ?_; first | refine WO.toI64 rfl rfl (by omega) (by omega) ?_ | refine WO.go rfl rfl ?_) | (refine WO.isCall ?_; first | refine WO.ask rfl rfl (c_examples _) ?_ | refine WO.ask rfl rfl (c_NewYes 1048576 r1 _ _ _) ?_ | refine WO.ask rfl rfl (c_AppendYes (dk0 1048576) x 0 0 d0 p1 _ _ _ rfl (.inl rfl)) ?_ | refine WO.ask rfl rfl (c_Sync (h1 x) 0 0 d1 _ _ _ rfl) ?_ | refine WO.ask rfl rfl (c_Hold (h2 x) 0 0 _ _ _ rfl) ?_ | refine WO.ask rfl rfl (c_AppendYes (h3 x) y 0 0 d3 p4 _ _ _ rfl (.inl rfl)) ?_ | refine WO.ask rfl rfl (c_Sync (h4 x y) 1 0 d4 _ _ _ rfl) ?_ | refine WO.ask rfl rfl (c_Synced (h5 x y) 1 0 0 _ rfl) ?_ | refine WO.ask rfl rfl (c_Bytes (h5 x y) 1 0 0 d5 _ rfl) ?_ | refine WO.ask rfl rfl (c_Crash (h5 x y) a3 1 0 d5 _ _ _ rfl) ?_ | refine WO.ask rfl rfl (c_Bytes (h6 x y a3) 1 0 0 d6 _ rfl) ?_ | refine WO.ask rfl rfl (c_AppendYes (h6 x y a3) z 1 0 d6 p7 _ _ _ rfl (.inl rfl)) ?_ | refine WO.ask rfl rfl (c_Sync (h7 x y a3 z) 2 0 d7 _ _ _ rfl) ?_ | refine WO.ask rfl rfl (c_Synced (h8 x y a3 z) 2 0 0 _ rfl) ?_ | refine WO.ask rfl rfl (c_Bytes (h8 x y a3 z) 2 0 0 d8 _ rfl) ?_) | (refine WO.isSlice ?_; first | refine WO.strhiE rfl rfl rfl rfl (by omega) hxx ?_ | refine WO.strhiE rfl rfl rfl rfl (by omega) hyy ?_ | refine WO.strhiE rfl rfl rfl rfl (by omega) hzz ?_ | refine WO.strhi rfl rfl rfl rfl hmy ?_ | refine WO.go rfl rfl ?_) | (refine WO.isLen ?_; first | refine WO.go rfl rfl ?_) | (refine WO.isEq ?_; first | refine WO.go rfl rfl ?_) | refine WO.go rfl rfl ?_ | refine W.skip ?_ | refine W.condT rfl ?_ | refine W.condF rfl ?_ | (refine W.fork rfl ?_ ?_ <;> intro hc <;> (fail_if_success (exfalso; cases hc; done)) <;> (first | subst hc | (simp at hc; try omega) | skip)) | refine W.ret ?_)
  all_goals exact ⟨.inr rfl, _, rfl, fin rfl rfl rfl⟩
end Go.Proofs.Ytibpoeaableoeaa.Nv
