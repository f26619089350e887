/- The document's disk. -/
import Derived.Test.YtibpoeaableoeaaDisk3
namespace Go.Proofs.Ytibpoeaableoeaa.Nv
open Go
def rfC (d : Dk) : List NV := [.str d.all, .int .i64 d.s.size, .int .i64 d.room, .bool d.held]
theorem set_same {M : Mem} {l i : Nat} {o : NObj} (h : blk? M l i = some o) : setBlk M l i o = M := by
  unfold blk? at h
  split at h
  · rename_i fr hf
    unfold setBlk
    refine List.ext_getElem? fun j => ?_
    rw [List.getElem?_modify]
    by_cases hj : l = j
    · subst hj
      rw [hf]
      obtain ⟨bs, ts⟩ := fr
      obtain ⟨hi, hq⟩ := List.getElem?_eq_some_iff.1 h
      have : bs.set i o = bs := by rw [← hq]; exact List.set_getElem_self hi
      simp [this]
    · simp [hj]
  · cases h
set_option maxRecDepth 8000 in
theorem c_rNewNo (room : Int) (h : room < 1 ∨ 16777216 < room) (M : Mem) : E0 19 [.int .i64 room] M .nilp M := by
  refine EvF.by (nf := nf19) (args := [.int .i64 room]) rfl (of_decide_eq_true rfl) rfl ?_
  repeat' (first | refine W.seq ?_ | refine W.region ?_ | refine WO.nil ?_ | refine WO.onG rfl ?_ | refine WO.offG rfl ?_ | (refine WO.fork rfl ?_ ?_ <;> intro hc <;> (fail_if_success (exfalso; cases hc; done)) <;> (first | subst hc | (simp at hc; try omega) | skip)) | (refine WO.isMv ?_; first | refine WO.go rfl rfl ?_ | refine WO.mvR rfl ?_) | (refine WO.isBin ?_; first | refine WO.testT rfl rfl ?_ | refine WO.testF rfl rfl ?_ | (refine WO.tlss rfl rfl rfl (fun hc => ?_) (fun hc => ?_) <;> try omega) | (refine WO.tgtr rfl rfl rfl (fun hc => ?_) (fun hc => ?_) <;> try omega) | refine WO.go rfl rfl ?_) | refine WO.go rfl rfl ?_ | refine W.skip ?_ | refine W.condT rfl ?_ | refine W.condF rfl ?_ | (refine W.fork rfl ?_ ?_ <;> intro hc <;> (fail_if_success (exfalso; cases hc; done)) <;> (first | subst hc | (simp at hc; try omega) | skip)) | refine W.ret ?_)
  all_goals exact ⟨.inr rfl, _, rfl, fin rfl rfl rfl⟩
set_option maxRecDepth 8000 in
theorem c_rNewYes (room : Int) (h : 1 ≤ room ∧ room ≤ 16777216) (bs : List NObj) (ts : List Bool) (M : Mem) :
    E0 19 [.int .i64 room] (⟨bs, ts⟩ :: M) (.ptr 0 bs.length 0) (⟨bs ++ [.cells (rfC (dk0 room))], ts⟩ :: M) := by
  refine EvF.by (nf := nf19) (args := [.int .i64 room]) rfl (of_decide_eq_true rfl) rfl ?_
  repeat' (first | refine W.seq ?_ | refine W.region ?_ | refine WO.nil ?_ | refine WO.onG rfl ?_ | refine WO.offG rfl ?_ | (refine WO.fork rfl ?_ ?_ <;> intro hc <;> (fail_if_success (exfalso; cases hc; done)) <;> (first | subst hc | (simp at hc; try omega) | skip)) | (refine WO.isMv ?_; first | refine WO.go rfl rfl ?_ | refine WO.mvR rfl ?_) | (refine WO.isBin ?_; first | refine WO.testT rfl rfl ?_ | refine WO.testF rfl rfl ?_ | (refine WO.tlss rfl rfl rfl (fun hc => ?_) (fun hc => ?_) <;> try omega) | (refine WO.tgtr rfl rfl rfl (fun hc => ?_) (fun hc => ?_) <;> try omega) | refine WO.go rfl rfl ?_) | refine WO.go rfl rfl ?_ | refine W.skip ?_ | refine W.condT rfl ?_ | refine W.condF rfl ?_ | (refine W.fork rfl ?_ ?_ <;> intro hc <;> (fail_if_success (exfalso; cases hc; done)) <;> (first | subst hc | (simp at hc; try omega) | skip)) | refine W.ret ?_)
  have e : rfC (dk0 room) = [.str ByteArray.empty, .int .i64 0, .int .i64 room, .bool false] := by unfold rfC; rw [Dk.all_0]; rfl
  exact ⟨.inr rfl, _, rfl, fin rfl rfl (by rw [List.append_nil, e])⟩
set_option maxRecDepth 8000 in
set_option maxHeartbeats 2000000 in
theorem c_rSync' (S : ByteArray) (k room : Int) (lv b : Nat) (M : Mem) (hb : blk? M lv b = some (.cells [.str S, .int .i64 k, .int .i64 room, .bool false])) : E0 20 [.ptr lv b 0] M (.tup []) (setBlk M lv b (.cells [.str S, .int .i64 S.size, .int .i64 room, .bool false])) := by
  refine EvF.by (nf := nf20) (args := [.ptr lv b 0]) rfl (of_decide_eq_true rfl) rfl ?_
  have hb' : blk? (⟨[], []⟩ :: M) (lv + 1) b = some (.cells [.str S, .int .i64 k, .int .i64 room, .bool false]) := hb
  repeat' (first | refine W.seq ?_ | refine W.region ?_ | refine WO.nil ?_ | refine WO.stB rfl rfl rfl rfl rfl hb' (of_decide_eq_true rfl) rfl rfl ?_ | (refine WO.isMv ?_; first | refine WO.go rfl rfl ?_ | refine WO.mvR rfl ?_) | (refine WO.isUn ?_; first | refine WO.go rfl rfl ?_) | (refine WO.isLoad ?_; first | refine WO.ldc rfl rfl hb' rfl rfl ?_ | refine WO.go rfl rfl ?_) | (refine WO.isStore ?_; first | refine WO.st rfl rfl ?_) | (refine WO.isLen ?_; first | refine WO.go rfl rfl ?_) | refine WO.go rfl rfl ?_ | refine WO.st rfl rfl ?_ | refine W.skip ?_ | refine W.condT rfl ?_ | refine W.condF rfl ?_ | (refine W.fork rfl ?_ ?_ <;> intro hc <;> (fail_if_success (exfalso; cases hc; done)) <;> (first | subst hc | (simp at hc; try omega) | skip)))
  exact ⟨.inl rfl, _, rfl, fin rfl rfl rfl⟩
set_option maxRecDepth 8000 in
set_option maxHeartbeats 2000000 in
theorem c_rSync (d : Dk) (lv b : Nat) (M : Mem) (hb : blk? M lv b = some (.cells (rfC d))) : E0 20 [.ptr lv b 0] M (.tup []) (setBlk M lv b (.cells (rfC d.sync))) := by
  obtain ⟨s, tl, room, held⟩ := d
  cases held
  · have e : rfC (Dk.sync ⟨s, tl, room, false⟩) = [.str (Dk.all ⟨s, tl, room, false⟩), .int .i64 (Dk.all ⟨s, tl, room, false⟩).size, .int .i64 room, .bool false] := by
      show [NV.str (Dk.sync ⟨s, tl, room, false⟩).all, _, _, _] = _
      rw [Dk.all_sync]; rfl
    rw [e]
    exact c_rSync' _ _ _ lv b M hb
  · rw [show Dk.sync ⟨s, tl, room, true⟩ = ⟨s, tl, room, true⟩ from rfl, set_same hb]
    refine EvF.by (nf := nf20) (args := [.ptr lv b 0]) rfl (of_decide_eq_true rfl) rfl ?_
    have hb' : blk? (⟨[], []⟩ :: M) (lv + 1) b = some (.cells (rfC ⟨s, tl, room, true⟩)) := hb
    repeat' (first | refine W.seq ?_ | refine W.region ?_ | refine WO.nil ?_ | (refine WO.isMv ?_; first | refine WO.go rfl rfl ?_ | refine WO.mvR rfl ?_) | (refine WO.isUn ?_; first | refine WO.go rfl rfl ?_) | (refine WO.isLoad ?_; first | refine WO.ldc rfl rfl hb' rfl rfl ?_ | refine WO.go rfl rfl ?_) | (refine WO.isStore ?_; first | refine WO.st rfl rfl ?_) | (refine WO.isLen ?_; first | refine WO.go rfl rfl ?_) | refine WO.go rfl rfl ?_ | refine WO.st rfl rfl ?_ | refine W.skip ?_ | refine W.condT rfl ?_ | refine W.condF rfl ?_ | (refine W.fork rfl ?_ ?_ <;> intro hc <;> (fail_if_success (exfalso; cases hc; done)) <;> (first | subst hc | (simp at hc; try omega) | skip)))
    exact ⟨.inl rfl, _, rfl, fin rfl rfl rfl⟩
set_option maxRecDepth 8000 in
set_option maxHeartbeats 2000000 in
theorem c_rAppendNo (d : Dk) (a : ByteArray) (b : Nat) (hd : DkOk d) (ha : a.size ≤ 140737488351232) (h : d.room - d.n < a.size) (bs : List NObj) (ts : List Bool) (M : Mem) (hb : bs[b]? = some (.cells (rfC d))) :
    E0 25 [.ptr 0 b 0, .str a] (⟨bs, ts⟩ :: M) (.int .i64 4) (⟨bs, ts⟩ :: M) := by
  refine EvF.by (nf := nf25) (args := [.ptr 0 b 0, .str a]) rfl (of_decide_eq_true rfl) rfl ?_
  have h0 := d.all_size
  have h1 := hd.r1
  have h2 := hd.n
  repeat' (first | refine W.seq ?_ | refine W.region ?_ | refine W.drawn ?_ | refine WH.nil ?_ | refine WO.nil ?_ | (refine WO.isMv ?_; first | refine WO.go rfl rfl ?_ | refine WO.mvR rfl ?_) | (refine WO.isBin ?_; first | refine WO.add64 rfl rfl rfl (by omega) (by omega) ?_ | refine WO.addU32 rfl rfl rfl (by omega) (by omega) ?_ | refine WO.addU64 rfl rfl rfl (by omega) (by omega) ?_ | refine WO.addU8 rfl rfl rfl (by omega) (by omega) ?_ | refine WO.testT rfl rfl ?_ | refine WO.testF rfl rfl ?_ | (refine WO.tgtr rfl rfl rfl (fun hc => ?_) (fun hc => ?_) <;> try omega) | refine WO.go rfl rfl ?_) | (refine WO.isLoad ?_; first | refine WO.ldc rfl rfl hb rfl rfl ?_ | refine WO.go rfl rfl ?_) | (refine WO.isStore ?_; first | refine WO.st rfl rfl ?_) | refine WO.go rfl rfl ?_ | refine WO.st rfl rfl ?_ | (refine WH.isMv ?_; first | refine WH.go rfl rfl rfl ?_ | refine WH.mvR rfl ?_) | (refine WH.isBin ?_; first | refine WH.add64 rfl rfl rfl (by omega) (by omega) ?_ | refine WH.addU32 rfl rfl rfl (by omega) (by omega) ?_ | refine WH.addU64 rfl rfl rfl (by omega) (by omega) ?_ | refine WH.addU8 rfl rfl rfl (by omega) (by omega) ?_ | refine WH.go rfl rfl rfl ?_) | (refine WH.isLoad ?_; first | refine WH.ldc rfl rfl hb rfl rfl rfl ?_ | refine WH.go rfl rfl rfl ?_) | (refine WH.isLen ?_; first | refine WH.go rfl rfl rfl ?_) | refine WH.go rfl rfl rfl ?_ | refine W.skip ?_ | refine W.condT rfl ?_ | refine W.condF rfl ?_ | (refine W.fork rfl ?_ ?_ <;> intro hc <;> (fail_if_success (exfalso; cases hc; done)) <;> (first | subst hc | (simp at hc; try omega) | skip)) | refine W.ret ?_)
  exact ⟨.inr rfl, _, rfl, fin rfl rfl rfl⟩
set_option maxRecDepth 8000 in
set_option maxHeartbeats 2000000 in
theorem c_rAppendYes (d : Dk) (a : ByteArray) (b : Nat) (hd : DkOk d) (h : a.size ≤ d.room - d.n) (bs : List NObj) (ts : List Bool) (M : Mem) (hb : bs[b]? = some (.cells (rfC d))) :
    E0 25 [.ptr 0 b 0, .str a] (⟨bs, ts⟩ :: M) (.int .i64 0) (⟨bs.set b (.cells (rfC (d.append a))), ts⟩ :: M) := by
  refine EvF.by (nf := nf25) (args := [.ptr 0 b 0, .str a]) rfl (of_decide_eq_true rfl) rfl ?_
  have h0 := d.all_size
  have h1 := hd.r1
  have h2 := hd.n
  have hs : d.all.size + a.size ≤ 9223372036854775807 := by omega
  repeat' (first | refine W.seq ?_ | refine W.region ?_ | refine W.drawn ?_ | refine WH.nil ?_ | refine WO.nil ?_ | refine WO.stU rfl rfl rfl rfl rfl hb (of_decide_eq_true rfl) rfl fun hb => ?_ | (refine WO.isMv ?_; first | refine WO.go rfl rfl ?_ | refine WO.mvR rfl ?_) | (refine WO.isBin ?_; first | refine WO.catE rfl rfl rfl hs (d.all_append a).symm ?_ | refine WO.add64 rfl rfl rfl (by omega) (by omega) ?_ | refine WO.addU32 rfl rfl rfl (by omega) (by omega) ?_ | refine WO.addU64 rfl rfl rfl (by omega) (by omega) ?_ | refine WO.addU8 rfl rfl rfl (by omega) (by omega) ?_ | refine WO.testT rfl rfl ?_ | refine WO.testF rfl rfl ?_ | (refine WO.tgtr rfl rfl rfl (fun hc => ?_) (fun hc => ?_) <;> try omega) | refine WO.go rfl rfl ?_) | (refine WO.isLoad ?_; first | refine WO.ldc rfl rfl hb rfl rfl ?_ | refine WO.go rfl rfl ?_) | (refine WO.isStore ?_; first | refine WO.st rfl rfl ?_) | refine WO.go rfl rfl ?_ | refine WO.st rfl rfl ?_ | (refine WH.isMv ?_; first | refine WH.go rfl rfl rfl ?_ | refine WH.mvR rfl ?_) | (refine WH.isBin ?_; first | refine WH.catE rfl rfl rfl hs (d.all_append a).symm ?_ | refine WH.add64 rfl rfl rfl (by omega) (by omega) ?_ | refine WH.addU32 rfl rfl rfl (by omega) (by omega) ?_ | refine WH.addU64 rfl rfl rfl (by omega) (by omega) ?_ | refine WH.addU8 rfl rfl rfl (by omega) (by omega) ?_ | refine WH.go rfl rfl rfl ?_) | (refine WH.isLoad ?_; first | refine WH.ldc rfl rfl hb rfl rfl rfl ?_ | refine WH.go rfl rfl rfl ?_) | (refine WH.isLen ?_; first | refine WH.go rfl rfl rfl ?_) | refine WH.go rfl rfl rfl ?_ | refine W.skip ?_ | refine W.condT rfl ?_ | refine W.condF rfl ?_ | (refine W.fork rfl ?_ ?_ <;> intro hc <;> (fail_if_success (exfalso; cases hc; done)) <;> (first | subst hc | (simp at hc; try omega) | skip)) | refine W.ret ?_)
  exact ⟨.inr rfl, _, rfl, fin rfl rfl rfl⟩
set_option maxRecDepth 8000 in
set_option maxHeartbeats 2000000 in
theorem c_rGrowNo (d : Dk) (k : Int) (b : Nat) (hd : DkOk d) (h : k < 0 ∨ 16777216 - d.room < k) (bs : List NObj) (ts : List Bool) (M : Mem) (hb : bs[b]? = some (.cells (rfC d))) :
    E0 23 [.ptr 0 b 0, .int .i64 k] (⟨bs, ts⟩ :: M) (.int .i64 1) (⟨bs, ts⟩ :: M) := by
  refine EvF.by (nf := nf23) (args := [.ptr 0 b 0, .int .i64 k]) rfl (of_decide_eq_true rfl) rfl ?_
  have h0 := hd.r0
  have h1 := hd.r1
  repeat' (first | refine W.seq ?_ | refine W.region ?_ | refine WO.nil ?_ | refine WO.onG rfl ?_ | refine WO.offG rfl ?_ | (refine WO.fork rfl ?_ ?_ <;> intro hc <;> (fail_if_success (exfalso; cases hc; done)) <;> (first | subst hc | (simp at hc; try omega) | skip)) | (refine WO.isMv ?_; first | refine WO.go rfl rfl ?_ | refine WO.mvR rfl ?_) | (refine WO.isBin ?_; first | refine WO.add64 rfl rfl rfl (by omega) (by omega) ?_ | refine WO.sub64 rfl rfl rfl (by omega) (by omega) ?_ | refine WO.addU32 rfl rfl rfl (by omega) (by omega) ?_ | refine WO.addU64 rfl rfl rfl (by omega) (by omega) ?_ | refine WO.addU8 rfl rfl rfl (by omega) (by omega) ?_ | refine WO.subU64 rfl rfl rfl (by omega) (by omega) ?_ | refine WO.subU32 rfl rfl rfl (by omega) (by omega) ?_ | refine WO.testT rfl rfl ?_ | refine WO.testF rfl rfl ?_ | (refine WO.tlss rfl rfl rfl (fun hc => ?_) (fun hc => ?_) <;> try omega) | (refine WO.tgtr rfl rfl rfl (fun hc => ?_) (fun hc => ?_) <;> try omega) | refine WO.go rfl rfl ?_) | (refine WO.isLoad ?_; first | refine WO.ldc rfl rfl hb rfl rfl ?_ | refine WO.go rfl rfl ?_) | (refine WO.isStore ?_; first | refine WO.st rfl rfl ?_) | refine WO.go rfl rfl ?_ | refine WO.st rfl rfl ?_ | refine W.skip ?_ | refine W.condT rfl ?_ | refine W.condF rfl ?_ | (refine W.fork rfl ?_ ?_ <;> intro hc <;> (fail_if_success (exfalso; cases hc; done)) <;> (first | subst hc | (simp at hc; try omega) | skip)) | refine W.ret ?_)
  all_goals exact ⟨.inr rfl, _, rfl, fin rfl rfl rfl⟩
set_option maxRecDepth 8000 in
set_option maxHeartbeats 2000000 in
theorem c_rGrowYes (d : Dk) (k : Int) (b : Nat) (hd : DkOk d) (h : 0 ≤ k ∧ k ≤ 16777216 - d.room) (bs : List NObj) (ts : List Bool) (M : Mem) (hb : bs[b]? = some (.cells (rfC d))) :
    E0 23 [.ptr 0 b 0, .int .i64 k] (⟨bs, ts⟩ :: M) (.int .i64 0) (⟨bs.set b (.cells (rfC (d.grow k))), ts⟩ :: M) := by
  refine EvF.by (nf := nf23) (args := [.ptr 0 b 0, .int .i64 k]) rfl (of_decide_eq_true rfl) rfl ?_
  have h0 := hd.r0
  have h1 := hd.r1
  repeat' (first | refine W.seq ?_ | refine W.region ?_ | refine WO.nil ?_ | refine WO.stU rfl rfl rfl rfl rfl hb (of_decide_eq_true rfl) rfl fun hb => ?_ | refine WO.onG rfl ?_ | refine WO.offG rfl ?_ | (refine WO.fork rfl ?_ ?_ <;> intro hc <;> (fail_if_success (exfalso; cases hc; done)) <;> (first | subst hc | (simp at hc; try omega) | skip)) | (refine WO.isMv ?_; first | refine WO.go rfl rfl ?_ | refine WO.mvR rfl ?_) | (refine WO.isBin ?_; first | refine WO.add64 rfl rfl rfl (by omega) (by omega) ?_ | refine WO.sub64 rfl rfl rfl (by omega) (by omega) ?_ | refine WO.addU32 rfl rfl rfl (by omega) (by omega) ?_ | refine WO.addU64 rfl rfl rfl (by omega) (by omega) ?_ | refine WO.addU8 rfl rfl rfl (by omega) (by omega) ?_ | refine WO.subU64 rfl rfl rfl (by omega) (by omega) ?_ | refine WO.subU32 rfl rfl rfl (by omega) (by omega) ?_ | refine WO.testT rfl rfl ?_ | refine WO.testF rfl rfl ?_ | (refine WO.tlss rfl rfl rfl (fun hc => ?_) (fun hc => ?_) <;> try omega) | (refine WO.tgtr rfl rfl rfl (fun hc => ?_) (fun hc => ?_) <;> try omega) | refine WO.go rfl rfl ?_) | (refine WO.isLoad ?_; first | refine WO.ldc rfl rfl hb rfl rfl ?_ | refine WO.go rfl rfl ?_) | (refine WO.isStore ?_; first | refine WO.st rfl rfl ?_) | refine WO.go rfl rfl ?_ | refine WO.st rfl rfl ?_ | refine W.skip ?_ | refine W.condT rfl ?_ | refine W.condF rfl ?_ | (refine W.fork rfl ?_ ?_ <;> intro hc <;> (fail_if_success (exfalso; cases hc; done)) <;> (first | subst hc | (simp at hc; try omega) | skip)) | refine W.ret ?_)
  exact ⟨.inr rfl, _, rfl, fin rfl rfl rfl⟩
set_option maxRecDepth 8000 in
set_option maxHeartbeats 2000000 in
theorem c_rCutNo (d : Dk) (k : Int) (b : Nat) (hd : DkOk d) (h : k < 0 ∨ d.n < k) (bs : List NObj) (ts : List Bool) (M : Mem) (hb : bs[b]? = some (.cells (rfC d))) :
    E0 22 [.ptr 0 b 0, .int .i64 k] (⟨bs, ts⟩ :: M) (.int .i64 1) (⟨bs, ts⟩ :: M) := by
  refine EvF.by (nf := nf22) (args := [.ptr 0 b 0, .int .i64 k]) rfl (of_decide_eq_true rfl) rfl ?_
  have e := d.all_size
  repeat' (first | refine W.seq ?_ | refine W.region ?_ | refine WO.nil ?_ | refine WO.onG rfl ?_ | refine WO.offG rfl ?_ | (refine WO.fork rfl ?_ ?_ <;> intro hc <;> (fail_if_success (exfalso; cases hc; done)) <;> (first | subst hc | (simp at hc; try omega) | skip)) | (refine WO.isMv ?_; first | refine WO.go rfl rfl ?_ | refine WO.mvR rfl ?_) | (refine WO.isBin ?_; first | refine WO.testT rfl rfl ?_ | refine WO.testF rfl rfl ?_ | (refine WO.tlss rfl rfl rfl (fun hc => ?_) (fun hc => ?_) <;> try omega) | (refine WO.tgtr rfl rfl rfl (fun hc => ?_) (fun hc => ?_) <;> try omega) | refine WO.go rfl rfl ?_) | (refine WO.isLoad ?_; first | refine WO.ldc rfl rfl hb rfl rfl ?_ | refine WO.go rfl rfl ?_) | (refine WO.isStore ?_; first | refine WO.st rfl rfl ?_) | (refine WO.isSlice ?_; first | refine WO.go rfl rfl ?_) | (refine WO.isLen ?_; first | refine WO.go rfl rfl ?_) | refine WO.go rfl rfl ?_ | refine WO.st rfl rfl ?_ | refine W.skip ?_ | refine W.condT rfl ?_ | refine W.condF rfl ?_ | (refine W.fork rfl ?_ ?_ <;> intro hc <;> (fail_if_success (exfalso; cases hc; done)) <;> (first | subst hc | (simp at hc; try omega) | skip)) | refine W.ret ?_)
  all_goals exact ⟨.inr rfl, _, rfl, fin rfl rfl rfl⟩
set_option maxRecDepth 8000 in
set_option maxHeartbeats 2000000 in
theorem c_rCutYes (d : Dk) (k : Nat) (b : Nat) (hd : DkOk d) (h : k ≤ d.n) (bs : List NObj) (ts : List Bool) (M : Mem) (hb : bs[b]? = some (.cells (rfC d))) :
    E0 22 [.ptr 0 b 0, .int .i64 k] (⟨bs, ts⟩ :: M) (.int .i64 0) (⟨bs.set b (.cells (rfC (d.cut k))), ts⟩ :: M) := by
  refine EvF.by (nf := nf22) (args := [.ptr 0 b 0, .int .i64 k]) rfl (of_decide_eq_true rfl) rfl ?_
  have e := d.all_size
  have h0 := hd.r1
  have h2 := hd.n
  have key : rfC (d.cut k) = [.str (d.all.extract 0 k), .int .i64 (d.all.extract 0 k).size, .int .i64 d.room, .bool false] := by
    show [NV.str (d.cut k).all, _, _, _] = _
    rw [Dk.all_cut]; rfl
  repeat' (first | refine W.seq ?_ | refine W.region ?_ | refine WO.nil ?_ | refine WO.stU rfl rfl rfl rfl rfl hb (of_decide_eq_true rfl) rfl fun hb => ?_ | refine WO.onG rfl ?_ | refine WO.offG rfl ?_ | (refine WO.fork rfl ?_ ?_ <;> intro hc <;> (fail_if_success (exfalso; cases hc; done)) <;> (first | subst hc | (simp at hc; try omega) | skip)) | (refine WO.isMv ?_; first | refine WO.go rfl rfl ?_ | refine WO.mvR rfl ?_) | (refine WO.isBin ?_; first | refine WO.testT rfl rfl ?_ | refine WO.testF rfl rfl ?_ | (refine WO.tlss rfl rfl rfl (fun hc => ?_) (fun hc => ?_) <;> try omega) | (refine WO.tgtr rfl rfl rfl (fun hc => ?_) (fun hc => ?_) <;> try omega) | refine WO.go rfl rfl ?_) | (refine WO.isCall ?_; first | refine WO.ask rfl rfl (c_rSync' _ _ _ 1 b _ hb) ?_ | refine WO.ask' rfl rfl (c_rSync' _ _ _ 1 b _ hb) ?_) | (refine WO.isLoad ?_; first | refine WO.ldc rfl rfl hb rfl rfl ?_ | refine WO.go rfl rfl ?_) | (refine WO.isStore ?_; first | refine WO.st rfl rfl ?_) | (refine WO.isSlice ?_; first | refine WO.strhi rfl rfl rfl rfl (show k ≤ d.all.size by omega) ?_ | refine WO.go rfl rfl ?_) | (refine WO.isLen ?_; first | refine WO.go rfl rfl ?_) | refine WO.go rfl rfl ?_ | refine WO.st rfl rfl ?_ | refine W.skip ?_ | refine W.condT rfl ?_ | refine W.condF rfl ?_ | (refine W.fork rfl ?_ ?_ <;> intro hc <;> (fail_if_success (exfalso; cases hc; done)) <;> (first | subst hc | (simp at hc; try omega) | skip)) | refine W.ret ?_)
  exact ⟨.inr rfl, _, rfl, fin rfl rfl (by rw [key]; show Fr.mk (((bs.set b _).set b _).set b _) ts :: M = _; rw [List.set_set, List.set_set])⟩
set_option maxRecDepth 8000 in
set_option maxHeartbeats 2000000 in
theorem c_rCrash (d : Dk) (k : Int) (b : Nat) (hd : DkOk d) (bs : List NObj) (ts : List Bool) (M : Mem) (hb : bs[b]? = some (.cells (rfC d))) :
    E0 21 [.ptr 0 b 0, .int .i64 k] (⟨bs, ts⟩ :: M) (.tup []) (⟨bs.set b (.cells (rfC (d.crash k))), ts⟩ :: M) := by
  refine EvF.by (nf := nf21) (args := [.ptr 0 b 0, .int .i64 k]) rfl (of_decide_eq_true rfl) rfl ?_
  have e := d.all_size
  have h0 := hd.r1
  have h2 := hd.n
  have e3 : d.n = d.s.size + (cat d.tl).size := rfl
  have hl := left_le k d
  have hm : min k ((d.all.size : Int) - (d.s.size : Int)) = min k ((cat d.tl).size : Int) := by omega
  have hm2 : max (min k ((cat d.tl).size : Int)) 0 = (leftOf k d : Int) := by unfold leftOf; omega
  have key : rfC (d.crash k) = [.str (d.all.extract 0 (d.s.size + leftOf k d)), .int .i64 (d.all.extract 0 (d.s.size + leftOf k d)).size, .int .i64 d.room, .bool false] := by
    show [NV.str (d.crash k).all, NV.int .i64 (d.crash k).s.size, _, _] = _
    rw [Dk.all_crash, Dk.s_crash]; rfl
  repeat' (first | refine W.seq ?_ | refine W.region ?_ | refine W.drawn ?_ | refine WH.nil ?_ | refine WO.nil ?_ | refine WO.min2 rfl rfl rfl hm ?_ | refine WO.max2 rfl rfl rfl hm2 ?_ | refine WO.stU rfl rfl rfl rfl rfl hb (of_decide_eq_true rfl) rfl fun hb => ?_ | refine WH.stU rfl rfl rfl rfl rfl hb (of_decide_eq_true rfl) rfl rfl fun hb => ?_ | (refine WO.isMv ?_; first | refine WO.go rfl rfl ?_ | refine WO.mvR rfl ?_) | (refine WO.isCall ?_; first | refine WO.ask rfl rfl (c_rSync' _ _ _ 1 b _ hb) ?_ | refine WO.ask' rfl rfl (c_rSync' _ _ _ 1 b _ hb) ?_) | (refine WO.isStore ?_; first | refine WO.st rfl rfl ?_) | refine WO.go rfl rfl ?_ | refine WO.st rfl rfl ?_ | (refine WH.isMv ?_; first | refine WH.go rfl rfl rfl ?_ | refine WH.mvR rfl ?_) | (refine WH.isBin ?_; first | refine WH.add64 rfl rfl rfl (by omega) (by omega) ?_ | refine WH.sub64 rfl rfl rfl (by omega) (by omega) ?_ | refine WH.addU32 rfl rfl rfl (by omega) (by omega) ?_ | refine WH.addU64 rfl rfl rfl (by omega) (by omega) ?_ | refine WH.addU8 rfl rfl rfl (by omega) (by omega) ?_ | refine WH.subU64 rfl rfl rfl (by omega) (by omega) ?_ | refine WH.subU32 rfl rfl rfl (by omega) (by omega) ?_ | refine WH.go rfl rfl rfl ?_) | (refine WH.isLoad ?_; first | refine WH.ldc rfl rfl hb rfl rfl rfl ?_ | refine WH.go rfl rfl rfl ?_) | (refine WH.isSlice ?_; first | refine WH.strhi rfl rfl rfl (show (d.s.size : Int) + (leftOf k d : Int) = ((d.s.size + leftOf k d : Nat) : Int) by omega) (by omega) ?_ | refine WH.go rfl rfl rfl ?_) | (refine WH.isLen ?_; first | refine WH.go rfl rfl rfl ?_) | refine WH.go rfl rfl rfl ?_)
  exact ⟨.inl rfl, _, rfl, fin rfl rfl (by rw [key]; show Fr.mk (((bs.set b _).set b _).set b _) ts :: M = _; rw [List.set_set, List.set_set])⟩
end Go.Proofs.Ytibpoeaableoeaa.Nv
