/- DiskKeeps. -/
import Derived.Test.YtibpoeaableoeaaDisk3
namespace Go.Proofs.Ytibpoeaableoeaa.Nv
open Go
structure Kp where
  k : Nat
  d : Dk
  t : Nat
  ts : List Bool
structure KpOk (xs : List ByteArray) (s : Kp) : Prop where
  k1 : s.k ≤ xs.length
  k2 : s.k ≤ 20
  ok : DkOk s.d
  room : s.d.room = 1048576
  held : s.d.held = false
  n : s.d.n ≤ 100 * s.k
  l : s.d.tl.length ≤ s.k
  tok : tokOf (s.d.tl.map strR) s.ts s.t
set_option maxRecDepth 8000 in
set_option maxHeartbeats 8000000 in
theorem lawKeeps' (xs : List ByteArray) (a1 a2 : Int) (hl : xs.length ≤ 140737488351232) (hs : ∀ x ∈ xs, x.size ≤ 140737488351232) (b1 : (0 : Int) ≤ a1 ∧ a1 ≤ 4294967295) (b2 : (-9223372036854775808 : Int) ≤ a2 ∧ a2 ≤ 9223372036854775807) :
    E0 3 [.slc 1 false (xs.map strR), .int .u32 a1, .int .i64 a2] [] (.bool true) [] := by
  refine EvF.by (nf := nf3) (args := [.slc 1 false (xs.map strR), .int .u32 a1, .int .i64 a2]) rfl (of_decide_eq_true rfl) rfl ?_
  have r1 : (1 : Int) ≤ 1048576 ∧ (1048576 : Int) ≤ 16777216 := by omega
  have lx : (xs.map strR).length = xs.length := List.length_map ..
  repeat' (first | refine W.seq ?_ | refine W.region ?_ | refine W.drawn ?_ | refine WH.nil ?_ | refine WO.nil ?_ | refine WO.onG rfl ?_ | refine WO.offG rfl ?_ | (refine WO.fork rfl ?_ ?_ <;> intro hc <;> (fail_if_success (exfalso; cases hc; done)) <;> (first | subst hc | (simp at hc; try omega) | skip)) | (refine WO.isMv ?_; first | refine WO.go rfl rfl ?_ | refine WO.mvR rfl ?_) | (refine WO.isBin ?_; first | refine WO.add64 rfl rfl rfl (by omega) (by omega) ?_ | refine WO.sub64 rfl rfl rfl (by omega) (by omega) ?_ | refine WO.rem rfl rfl rfl (by omega) (by omega) ?_ | refine WO.addU32 rfl rfl rfl (by omega) (by omega) ?_ | refine WO.addU64 rfl rfl rfl (by omega) (by omega) ?_ | refine WO.addU8 rfl rfl rfl (by omega) (by omega) ?_ | refine WO.subU64 rfl rfl rfl (by omega) (by omega) ?_ | refine WO.subU32 rfl rfl rfl (by omega) (by omega) ?_ | refine WO.shr rfl rfl rfl (by omega) ?_ | refine WO.testT rfl rfl ?_ | refine WO.testF rfl rfl ?_ | (refine WO.tlss rfl rfl rfl (fun hc => ?_) (fun hc => ?_) <;> try omega) | (refine WO.tleq rfl rfl rfl (fun hc => ?_) (fun hc => ?_) <;> try omega) | (refine WO.tgeq rfl rfl rfl (fun hc => ?_) (fun hc => ?_) <;> try omega) | (refine WO.teql rfl rfl rfl (fun hc => ?_) (fun hc => ?_) <;> try omega) | (refine WO.tneq rfl rfl rfl (fun hc => ?_) (fun hc => ?_) <;> try omega) | refine WO.tseql rfl rfl rfl (fun hc => ?_) (fun hc => ?_) | refine WO.tsneq rfl rfl rfl (fun hc => ?_) (fun hc => ?_) | refine WO.go rfl rfl ?_) | (refine WO.isUn ?_; first | refine WO.go rfl rfl ?_) | (refine WO.isCall ?_; first | refine WO.ask rfl rfl (c_examples _) ?_ | refine WO.ask rfl rfl (c_NewYes 1048576 r1 _ _ _) ?_) | (refine WO.isSlice ?_; first | refine WO.go rfl rfl ?_) | (refine WO.isLen ?_; first | refine WO.go rfl rfl ?_) | (refine WO.isEq ?_; first | refine WO.go rfl rfl ?_) | refine WO.go rfl rfl ?_ | (refine WH.isMv ?_; first | refine WH.go rfl rfl rfl ?_ | refine WH.mvR rfl ?_) | (refine WH.isLoad ?_; first | refine WH.go rfl rfl rfl ?_ | refine WH.ldc rfl rfl blk_l1 rfl rfl rfl ?_ | refine WH.lda rfl rfl blk_l1 (of_decide_eq_true rfl) rfl rfl ?_ | refine WH.ldc rfl rfl blk_l2 rfl rfl rfl ?_ | refine WH.lda rfl rfl blk_l2 (of_decide_eq_true rfl) rfl rfl ?_ | refine WH.ldc rfl rfl blk_l3 rfl rfl rfl ?_ | refine WH.lda rfl rfl blk_l3 (of_decide_eq_true rfl) rfl rfl ?_) | (refine WH.isIaddr ?_; first | refine WH.go rfl rfl rfl ?_) | (refine WH.isLen ?_; first | refine WH.go rfl rfl rfl ?_) | refine WH.go rfl rfl rfl ?_ | refine W.skip ?_ | refine W.condT rfl ?_ | refine W.condF rfl ?_ | (refine W.fork rfl ?_ ?_ <;> intro hc <;> (fail_if_success (exfalso; cases hc; done)) <;> (first | subst hc | (simp at hc; try omega) | skip)) | refine W.ret ?_ | refine W.block ?_ | refine W.exit ?_)
  refine W.ind (σ := Kp) (fun s => [(0, .slc 1 false (xs.map strR)), (1, .int .u32 a1), (2, .int .i64 a2), (7, .bool true), (8, .ptr 0 0 0), (10, .str s.d.s), (11, .str s.d.all), (12, .int .i64 s.k)]) (fun s => [⟨[.cells (s.d.c s.t)], s.ts⟩]) (KpOk xs) (fun s => xs.length - s.k) ⟨0, dk0 1048576, 0, []⟩ ⟨Nat.zero_le _, Nat.zero_le _, ok_0 _ r1, rfl, rfl, Nat.zero_le _, Nat.zero_le _, .inl rfl⟩ ⟨rfl, rfl, rfl, rfl, rfl, rfl, rfl, rfl, trivial⟩ rfl ?_
  rintro ⟨k, d, t, ts⟩ e ⟨k1, k2, ok, room, held, hn, hlen, tok⟩ IH
  dsimp only at k1 k2 ok room held hn hlen tok ⊢
  refine W.round ?_
  by_cases hlt : k < xs.length ∧ k < 20
  · obtain ⟨h1, h2⟩ := hlt
    obtain ⟨x, hx⟩ := get_lt h1
    have hrow := map_get (f := strR) hx
    have hxs := hs x (List.mem_of_getElem? hx)
    have hm : min (x.size : Int) 100 = ((min x.size 100 : Nat) : Int) := by omega
    have hy : (x.extract 0 (min x.size 100)).size = min x.size 100 := ext_size (by omega)
    generalize hyy : x.extract 0 (min x.size 100) = y at hy
    have hd := ok.n
    have p : y.size ≤ d.room - d.n := by rw [room]; omega
    have ok1 := ok_append ok p (by omega)
    have hall : d.all.size + y.size ≤ 9223372036854775807 := by rw [Dk.all_size]; omega
    have e1 : d.all ++ y = (d.append y).all := (Dk.all_append d y).symm
    have n1 : (d.append y).n = d.n + y.size := Dk.n_append d y
    have st : (d.append y).sync = ⟨(d.append y).all, [], d.room, false⟩ := by
      unfold Dk.sync
      rw [if_neg (by show ¬ d.held = true; rw [held]; simp)]
      rfl
    have e2 : (d.append y).sync.s = (d.append y).all := by rw [st]
    have e3 := (d.append y).all_sync
    have n3 := (d.append y).n_sync
    repeat' (first | refine W.seq ?_ | refine W.region ?_ | refine W.drawn ?_ | refine WH.nil ?_ | refine WO.nil ?_ | refine WO.min2 rfl rfl rfl hm ?_ | refine WH.min2 rfl rfl rfl hm ?_ | refine WO.onG rfl ?_ | refine WO.offG rfl ?_ | (refine WO.fork rfl ?_ ?_ <;> intro hc <;> (fail_if_success (exfalso; cases hc; done)) <;> (first | subst hc | (simp at hc; try omega) | skip)) | (refine WO.isMv ?_; first | refine WO.go rfl rfl ?_ | refine WO.mvR rfl ?_) | (refine WO.isBin ?_; first | refine WO.catE rfl rfl rfl hall e1 ?_ | refine WO.add64 rfl rfl rfl (by omega) (by omega) ?_ | refine WO.sub64 rfl rfl rfl (by omega) (by omega) ?_ | refine WO.rem rfl rfl rfl (by omega) (by omega) ?_ | refine WO.addU32 rfl rfl rfl (by omega) (by omega) ?_ | refine WO.addU64 rfl rfl rfl (by omega) (by omega) ?_ | refine WO.addU8 rfl rfl rfl (by omega) (by omega) ?_ | refine WO.subU64 rfl rfl rfl (by omega) (by omega) ?_ | refine WO.subU32 rfl rfl rfl (by omega) (by omega) ?_ | refine WO.shr rfl rfl rfl (by omega) ?_ | refine WO.testT rfl rfl ?_ | refine WO.testF rfl rfl ?_ | (refine WO.tlss rfl rfl rfl (fun hc => ?_) (fun hc => ?_) <;> try omega) | (refine WO.tleq rfl rfl rfl (fun hc => ?_) (fun hc => ?_) <;> try omega) | (refine WO.tgeq rfl rfl rfl (fun hc => ?_) (fun hc => ?_) <;> try omega) | (refine WO.teql rfl rfl rfl (fun hc => ?_) (fun hc => ?_) <;> try omega) | (refine WO.tneq rfl rfl rfl (fun hc => ?_) (fun hc => ?_) <;> try omega) | refine WO.tseql rfl rfl rfl (fun hc => ?_) (fun hc => ?_) | refine WO.tsneq rfl rfl rfl (fun hc => ?_) (fun hc => ?_) | refine WO.go rfl rfl ?_) | (refine WO.isUn ?_; first | refine WO.go rfl rfl ?_) | (refine WO.isCall ?_; first | refine WO.ask rfl rfl (c_AppendYes d y t 0 ok p _ _ _ rfl tok) ?_ | refine WO.ask rfl rfl (c_Sync (d.append y) ts.length 0 ok1 _ _ _ rfl) ?_) | (refine WO.isSlice ?_; first | refine WO.strhiE rfl rfl rfl rfl (by omega) hyy ?_ | refine WO.go rfl rfl ?_) | (refine WO.isLen ?_; first | refine WO.lenS rfl rfl lx ?_ | refine WO.go rfl rfl ?_) | (refine WO.isEq ?_; first | refine WO.go rfl rfl ?_) | refine WO.go rfl rfl ?_ | (refine WH.isMv ?_; first | refine WH.go rfl rfl rfl ?_ | refine WH.mvR rfl ?_) | (refine WH.isLoad ?_; first | refine WH.go rfl rfl rfl ?_ | refine WH.ldc rfl rfl blk_l1 rfl rfl rfl ?_ | refine WH.lda rfl rfl blk_l1 (of_decide_eq_true rfl) rfl rfl ?_ | refine WH.ldc rfl rfl blk_l2 rfl rfl rfl ?_ | refine WH.lda rfl rfl blk_l2 (of_decide_eq_true rfl) rfl rfl ?_ | refine WH.ldc rfl rfl blk_l3 rfl rfl rfl ?_ | refine WH.lda rfl rfl blk_l3 (of_decide_eq_true rfl) rfl rfl ?_) | (refine WH.isIaddr ?_; first | refine WH.slidx rfl rfl rfl rfl rfl hrow ?_ | refine WH.go rfl rfl rfl ?_) | (refine WH.isLen ?_; first | refine WH.lenS rfl rfl lx ?_ | refine WH.go rfl rfl rfl ?_) | refine WH.go rfl rfl rfl ?_ | refine W.skip ?_ | refine W.condT rfl ?_ | refine W.condF rfl ?_ | (refine W.fork rfl ?_ ?_ <;> intro hc <;> (fail_if_success (exfalso; cases hc; done)) <;> (first | subst hc | (simp at hc; try omega) | skip)) | refine W.ret ?_ | refine W.block ?_ | refine W.exit ?_)
    all_goals first
      | exact IH ⟨k + 1, (d.append y).sync, ts.length, tkA (d.tl.map strR) ts t⟩ _ _ (by show xs.length - (k + 1) < xs.length - k; omega) ⟨h1, h2, ok_sync ok1, by rw [st]; exact room, by rw [st], by show (d.append y).sync.n ≤ 100 * (k + 1); rw [n3, n1]; omega, by rw [st]; exact Nat.zero_le _, tkA_ok⟩ ⟨rfl, rfl, rfl, rfl, rfl, by rw [e2]; rfl, by rw [e3]; rfl, rfl, trivial⟩ rfl
      | exact IH ⟨k + 1, d.append y, ts.length, tkA (d.tl.map strR) ts t⟩ _ _ (by show xs.length - (k + 1) < xs.length - k; omega) ⟨h1, h2, ok1, room, held, by show (d.append y).n ≤ 100 * (k + 1); rw [n1]; omega, by show (d.tl ++ [y]).length ≤ k + 1; rw [List.length_append]; exact Nat.succ_le_succ hlen, tkA_ok⟩ ⟨rfl, rfl, rfl, rfl, rfl, rfl, rfl, rfl, trivial⟩ rfl
  · have q0 := d.all_size
    have q1 := d.all_crash a2
    have q2 := d.n_crash a2
    have q3 := left_le a2 d
    have q4 : d.n = d.s.size + (cat d.tl).size := rfl
    have q5 : (d.crash a2).all.size = d.s.size + leftOf a2 d := by rw [q1, q2]
    have hm : min a2 ((d.all.size : Int) - (d.s.size : Int)) = min a2 ((cat d.tl).size : Int) := by rw [q0]; omega
    have hm2 : max (min a2 ((cat d.tl).size : Int)) 0 = (leftOf a2 d : Int) := by unfold leftOf; omega
    have q6 : d.all.extract 0 (d.crash a2).all.size = (d.crash a2).all := by rw [q5, q1, Dk.s_crash]
    have okc := ok_crash ok a2
    have hr := ok.n
    repeat' (first | refine W.seq ?_ | refine W.region ?_ | refine W.drawn ?_ | refine WH.nil ?_ | refine WO.nil ?_ | refine WO.min2 rfl rfl rfl hm ?_ | refine WH.min2 rfl rfl rfl hm ?_ | refine WO.max2 rfl rfl rfl hm2 ?_ | refine WH.max2 rfl rfl rfl hm2 ?_ | refine WO.onG rfl ?_ | refine WO.offG rfl ?_ | (refine WO.fork rfl ?_ ?_ <;> intro hc <;> (fail_if_success (exfalso; cases hc; done)) <;> (first | subst hc | (simp at hc; try omega) | skip)) | (refine WO.isMv ?_; first | refine WO.go rfl rfl ?_ | refine WO.mvR rfl ?_) | (refine WO.isBin ?_; first | refine WO.seqT rfl rfl rfl rfl ?_ | refine WO.sneF rfl rfl rfl rfl ?_ | refine WO.add64 rfl rfl rfl (by omega) (by omega) ?_ | refine WO.sub64 rfl rfl rfl (by omega) (by omega) ?_ | refine WO.rem rfl rfl rfl (by omega) (by omega) ?_ | refine WO.addU32 rfl rfl rfl (by omega) (by omega) ?_ | refine WO.addU64 rfl rfl rfl (by omega) (by omega) ?_ | refine WO.addU8 rfl rfl rfl (by omega) (by omega) ?_ | refine WO.subU64 rfl rfl rfl (by omega) (by omega) ?_ | refine WO.subU32 rfl rfl rfl (by omega) (by omega) ?_ | refine WO.shr rfl rfl rfl (by omega) ?_ | refine WO.testT rfl rfl ?_ | refine WO.testF rfl rfl ?_ | (refine WO.tlss rfl rfl rfl (fun hc => ?_) (fun hc => ?_) <;> try omega) | (refine WO.tleq rfl rfl rfl (fun hc => ?_) (fun hc => ?_) <;> try omega) | (refine WO.tgeq rfl rfl rfl (fun hc => ?_) (fun hc => ?_) <;> try omega) | (refine WO.teql rfl rfl rfl (fun hc => ?_) (fun hc => ?_) <;> try omega) | (refine WO.tneq rfl rfl rfl (fun hc => ?_) (fun hc => ?_) <;> try omega) | refine WO.tseql rfl rfl rfl (fun hc => ?_) (fun hc => ?_) | refine WO.tsneq rfl rfl rfl (fun hc => ?_) (fun hc => ?_) | refine WO.go rfl rfl ?_) | (refine WO.isUn ?_; first | refine WO.go rfl rfl ?_) | (refine WO.isCall ?_; first | refine WO.ask rfl rfl (c_Bytes d t 0 0 ok _ rfl) ?_ | refine WO.ask rfl rfl (c_Synced d t 0 0 _ rfl) ?_ | refine WO.ask rfl rfl (c_Crash d a2 t 0 ok _ _ _ rfl) ?_ | refine WO.ask rfl rfl (c_Bytes (d.crash a2) t 0 0 okc _ rfl) ?_ | refine WO.ask rfl rfl (c_Synced (d.crash a2) t 0 0 _ rfl) ?_) | (refine WO.isSlice ?_; first | refine WO.strhiE rfl rfl rfl rfl (by omega) q6 ?_ | refine WO.go rfl rfl ?_) | (refine WO.isLen ?_; first | refine WO.lenS rfl rfl lx ?_ | refine WO.go rfl rfl ?_) | (refine WO.isEq ?_; first | refine WO.go rfl rfl ?_) | refine WO.go rfl rfl ?_ | (refine WH.isMv ?_; first | refine WH.go rfl rfl rfl ?_ | refine WH.mvR rfl ?_) | (refine WH.isLoad ?_; first | refine WH.go rfl rfl rfl ?_ | refine WH.ldc rfl rfl blk_l1 rfl rfl rfl ?_ | refine WH.lda rfl rfl blk_l1 (of_decide_eq_true rfl) rfl rfl ?_ | refine WH.ldc rfl rfl blk_l2 rfl rfl rfl ?_ | refine WH.lda rfl rfl blk_l2 (of_decide_eq_true rfl) rfl rfl ?_ | refine WH.ldc rfl rfl blk_l3 rfl rfl rfl ?_ | refine WH.lda rfl rfl blk_l3 (of_decide_eq_true rfl) rfl rfl ?_) | (refine WH.isIaddr ?_; first | refine WH.go rfl rfl rfl ?_) | (refine WH.isLen ?_; first | refine WH.lenS rfl rfl lx ?_ | refine WH.go rfl rfl rfl ?_) | refine WH.go rfl rfl rfl ?_ | refine W.skip ?_ | refine W.condT rfl ?_ | refine W.condF rfl ?_ | (refine W.fork rfl ?_ ?_ <;> intro hc <;> (fail_if_success (exfalso; cases hc; done)) <;> (first | subst hc | (simp at hc; try omega) | skip)) | refine W.ret ?_ | refine W.block ?_ | refine W.exit ?_)
    all_goals exact ⟨.inr rfl, _, rfl, fin rfl rfl rfl⟩
theorem lawKeeps (x0 : List (List NV)) (a1 a2 : Int) (wx0 : x0.length * 16 ≤ 140737488351232) (kx0 : ∀ r ∈ x0, (fun l => ∃ s : ByteArray, l = [.str s] ∧ s.size ≤ 140737488351232) r ∧ r.length = 1) (b1 : (0 : Int) ≤ a1 ∧ a1 ≤ 4294967295) (b2 : (-9223372036854775808 : Int) ≤ a2 ∧ a2 ≤ 9223372036854775807) :
    E0 3 [.slc 1 false x0, .int .u32 a1, .int .i64 a2] [] (.bool true) [] := by
  obtain ⟨xs, rfl, hxs⟩ : ∃ xs : List ByteArray, x0 = xs.map strR ∧ ∀ x ∈ xs, x.size ≤ 140737488351232 := rows_map (f := strR) (P := fun x => x.size ≤ 140737488351232) fun r hr => by
    obtain ⟨⟨s, rfl, h⟩, _⟩ := kx0 r hr
    exact ⟨s, rfl, h⟩
  rw [List.length_map] at wx0
  exact lawKeeps' xs a1 a2 (by omega) hxs b1 b2
end Go.Proofs.Ytibpoeaableoeaa.Nv
