/- A disk: what is done with it. -/
import Derived.Test.YtibpoeaableoeaaDisk1
namespace Go.Proofs.Ytibpoeaableoeaa.Nv
open Go
def Dk.append (d : Dk) (a : ByteArray) : Dk := ⟨d.s, d.tl ++ [a], d.room, d.held⟩
def Dk.sync (d : Dk) : Dk := if d.held then d else ⟨d.all, [], d.room, false⟩
def Dk.grow (d : Dk) (k : Int) : Dk := ⟨d.s, d.tl, d.room + k, d.held⟩
def Dk.cut (d : Dk) (k : Nat) : Dk := ⟨d.all.extract 0 k, [], d.room, false⟩
def leftOf (keep : Int) (d : Dk) : Nat := (max (min keep (cat d.tl).size) 0).toNat
def Dk.crash (d : Dk) (keep : Int) : Dk := ⟨d.s ++ (cat d.tl).extract 0 (leftOf keep d), [], d.room, false⟩
def Dk.hold (d : Dk) : Dk := ⟨d.s, d.tl, d.room, true⟩
def tkA (rows : List (List NV)) (ts : List Bool) (t : Nat) : List Bool := tkE rows ts t ++ [true]
theorem tkA_ok {rows rows' : List (List NV)} {ts : List Bool} {t : Nat} : tokOf rows' (tkA rows ts t) ts.length := by
  refine .inr ?_
  have : ts.length = (tkE rows ts t).length := tkE_len.symm
  unfold tkA
  rw [this]
  simp
set_option maxRecDepth 8000 in
set_option maxHeartbeats 2000000 in
theorem c_AppendNo (d : Dk) (a : ByteArray) (t b : Nat) (hd : DkOk d) (h : d.room - d.n < a.size) (bs : List NObj) (ts : List Bool) (M : Mem) (hb : bs[b]? = some (.cells (d.c t))) :
    E0 11 [.ptr 0 b 0, .str a] (⟨bs, ts⟩ :: M) (.int .i64 4) (⟨bs, ts⟩ :: M) := by
  refine EvF.by (nf := nf11) (args := [.ptr 0 b 0, .str a]) rfl (of_decide_eq_true rfl) rfl ?_
  have h0 := hd.r0
  have h1 := hd.r1
  have h2 := hd.n
  repeat' (first | refine W.seq ?_ | refine W.region ?_ | refine W.drawn ?_ | refine WH.nil ?_ | refine WO.nil ?_ | (refine WO.isMv ?_; first | refine WO.go rfl rfl ?_ | refine WO.mvR rfl ?_) | (refine WO.isBin ?_; first | refine WO.testT rfl rfl ?_ | refine WO.testF rfl rfl ?_ | (refine WO.tgtr rfl rfl rfl (fun hc => ?_) (fun hc => ?_) <;> try omega) | refine WO.go rfl rfl ?_) | (refine WO.isLoad ?_; first | refine WO.ldc rfl rfl hb rfl rfl ?_ | refine WO.go rfl rfl ?_) | (refine WO.isStore ?_; first | refine WO.st rfl rfl ?_) | (refine WO.isApp ?_; first | refine WO.go rfl rfl ?_) | refine WO.go rfl rfl ?_ | refine WO.st rfl rfl ?_ | (refine WH.isMv ?_; first | refine WH.go rfl rfl rfl ?_ | refine WH.mvR rfl ?_) | (refine WH.isBin ?_; first | refine WH.sub64 rfl rfl rfl (by omega) (by omega) ?_ | refine WH.subU64 rfl rfl rfl (by omega) (by omega) ?_ | refine WH.subU32 rfl rfl rfl (by omega) (by omega) ?_ | refine WH.go rfl rfl rfl ?_) | (refine WH.isCall ?_; first | refine WH.ask rfl rfl rfl rfl (c_size d t 1 b hd _ hb) ?_) | (refine WH.isLoad ?_; first | refine WH.ldc rfl rfl hb rfl rfl rfl ?_ | refine WH.go rfl rfl rfl ?_) | (refine WH.isLen ?_; first | refine WH.go rfl rfl rfl ?_) | refine WH.go rfl rfl rfl ?_ | refine W.skip ?_ | refine W.condT rfl ?_ | refine W.condF rfl ?_ | (refine W.fork rfl ?_ ?_ <;> intro hc <;> (fail_if_success (exfalso; cases hc; done)) <;> (first | subst hc | (simp at hc; try omega) | skip)) | refine W.ret ?_)
  exact ⟨.inr rfl, _, rfl, fin rfl rfl rfl⟩
set_option maxRecDepth 8000 in
set_option maxHeartbeats 2000000 in
theorem c_AppendYes (d : Dk) (a : ByteArray) (t b : Nat) (hd : DkOk d) (h : a.size ≤ d.room - d.n) (bs : List NObj) (ts : List Bool) (M : Mem) (hb : bs[b]? = some (.cells (d.c t))) (ht : tokOf (d.tl.map strR) ts t) :
    E0 11 [.ptr 0 b 0, .str a] (⟨bs, ts⟩ :: M) (.int .i64 0) (⟨bs.set b (.cells ((d.append a).c ts.length)), tkA (d.tl.map strR) ts t⟩ :: M) := by
  refine EvF.by (nf := nf11) (args := [.ptr 0 b 0, .str a]) rfl (of_decide_eq_true rfl) rfl ?_
  have h0 := hd.r0
  have h1 := hd.r1
  have h2 := hd.n
  have h3 := hd.l
  have lt : (d.tl.map strR).length = d.tl.length := List.length_map ..
  repeat' (first | refine W.seq ?_ | refine W.region ?_ | refine W.drawn ?_ | refine WH.nil ?_ | refine WO.nil ?_ | refine WO.appL rfl rfl rfl rfl rfl ht (by show (_ + 1) * _ ≤ _; omega) (by show _ + 1 ≤ _; omega) ?_ | refine WO.stU rfl rfl rfl rfl rfl hb (of_decide_eq_true rfl) rfl fun hb => ?_ | (refine WO.isMv ?_; first | refine WO.go rfl rfl ?_ | refine WO.mvR rfl ?_) | (refine WO.isBin ?_; first | refine WO.testT rfl rfl ?_ | refine WO.testF rfl rfl ?_ | (refine WO.tgtr rfl rfl rfl (fun hc => ?_) (fun hc => ?_) <;> try omega) | refine WO.go rfl rfl ?_) | (refine WO.isLoad ?_; first | refine WO.ldc rfl rfl hb rfl rfl ?_ | refine WO.ldc rfl rfl hb rfl sh_ap1 ?_ | refine WO.go rfl rfl ?_) | (refine WO.isStore ?_; first | refine WO.st rfl rfl ?_) | (refine WO.isApp ?_; first | refine WO.go rfl rfl ?_) | refine WO.go rfl rfl ?_ | refine WO.st rfl rfl ?_ | (refine WH.isMv ?_; first | refine WH.go rfl rfl rfl ?_ | refine WH.mvR rfl ?_) | (refine WH.isBin ?_; first | refine WH.sub64 rfl rfl rfl (by omega) (by omega) ?_ | refine WH.subU64 rfl rfl rfl (by omega) (by omega) ?_ | refine WH.subU32 rfl rfl rfl (by omega) (by omega) ?_ | refine WH.go rfl rfl rfl ?_) | (refine WH.isCall ?_; first | refine WH.ask rfl rfl rfl rfl (c_size d t 1 b hd _ hb) ?_) | (refine WH.isLoad ?_; first | refine WH.ldc rfl rfl hb rfl rfl rfl ?_ | refine WH.ldc rfl rfl hb rfl sh_ap1 rfl ?_ | refine WH.go rfl rfl rfl ?_) | (refine WH.isLen ?_; first | refine WH.go rfl rfl rfl ?_) | refine WH.go rfl rfl rfl ?_ | refine W.skip ?_ | refine W.condT rfl ?_ | refine W.condF rfl ?_ | (refine W.fork rfl ?_ ?_ <;> intro hc <;> (fail_if_success (exfalso; cases hc; done)) <;> (first | subst hc | (simp at hc; try omega) | skip)) | refine W.ret ?_)
  refine ⟨.inr rfl, _, rfl, fin rfl rfl ?_⟩
  have e : (d.append a).c ts.length = [.str d.s, .own 1 (d.tl.map strR ++ [[.str a]]) 0 (tkE (d.tl.map strR) ts t).length, .int .i64 d.room, .bool d.held] := by
    unfold Dk.c Dk.append
    simp only [List.map_append, List.map_cons, List.map_nil]
    rw [tkE_len]
    cases d.tl.map strR <;> rfl
  rw [e]
  rfl
set_option maxRecDepth 8000 in
set_option maxHeartbeats 2000000 in
theorem c_Sync (d : Dk) (t b : Nat) (hd : DkOk d) (bs : List NObj) (ts : List Bool) (M : Mem) (hb : bs[b]? = some (.cells (d.c t))) :
    E0 12 [.ptr 0 b 0] (⟨bs, ts⟩ :: M) (.int .i64 0) (⟨bs.set b (.cells (d.sync.c t)), ts⟩ :: M) := by
  refine EvF.by (nf := nf12) (args := [.ptr 0 b 0]) rfl (of_decide_eq_true rfl) rfl ?_
  obtain ⟨s, tl, room, held⟩ := d
  cases held
  · repeat' (first | refine W.seq ?_ | refine W.region ?_ | refine WO.nil ?_ | refine WO.stU rfl rfl rfl rfl rfl hb (of_decide_eq_true rfl) rfl fun hb => ?_ | (refine WO.isMv ?_; first | refine WO.go rfl rfl ?_ | refine WO.mvR rfl ?_) | (refine WO.isUn ?_; first | refine WO.go rfl rfl ?_) | (refine WO.isCall ?_; first | refine WO.ask rfl rfl (c_Bytes ⟨s, tl, room, false⟩ t 1 b hd _ hb) ?_ | refine WO.ask' rfl rfl (c_Bytes ⟨s, tl, room, false⟩ t 1 b hd _ hb) ?_) | (refine WO.isLoad ?_; first | refine WO.ldc rfl rfl hb rfl rfl ?_ | refine WO.go rfl rfl ?_) | (refine WO.isStore ?_; first | refine WO.st rfl rfl ?_) | refine WO.go rfl rfl ?_ | refine WO.st rfl rfl ?_ | refine W.skip ?_ | refine W.condT rfl ?_ | refine W.condF rfl ?_ | (refine W.fork rfl ?_ ?_ <;> intro hc <;> (fail_if_success (exfalso; cases hc; done)) <;> (first | subst hc | (simp at hc; try omega) | skip)) | refine W.ret ?_)
    exact ⟨.inr rfl, _, rfl, fin rfl rfl (by rw [List.set_set]; rfl)⟩
  · have e : bs.set b (.cells ((Dk.sync ⟨s, tl, room, true⟩).c t)) = bs := by
      show bs.set b (.cells ((⟨s, tl, room, true⟩ : Dk).c t)) = bs
      obtain ⟨hi, hq⟩ := List.getElem?_eq_some_iff.1 hb
      rw [← hq]; exact List.set_getElem_self hi
    rw [e]
    repeat' (first | refine W.seq ?_ | refine W.region ?_ | refine WO.nil ?_ | (refine WO.isMv ?_; first | refine WO.go rfl rfl ?_ | refine WO.mvR rfl ?_) | (refine WO.isUn ?_; first | refine WO.go rfl rfl ?_) | (refine WO.isLoad ?_; first | refine WO.ldc rfl rfl hb rfl rfl ?_ | refine WO.go rfl rfl ?_) | (refine WO.isStore ?_; first | refine WO.st rfl rfl ?_) | refine WO.go rfl rfl ?_ | refine WO.st rfl rfl ?_ | refine W.skip ?_ | refine W.condT rfl ?_ | refine W.condF rfl ?_ | (refine W.fork rfl ?_ ?_ <;> intro hc <;> (fail_if_success (exfalso; cases hc; done)) <;> (first | subst hc | (simp at hc; try omega) | skip)) | refine W.ret ?_)
    exact ⟨.inr rfl, _, rfl, fin rfl rfl rfl⟩
set_option maxRecDepth 8000 in
theorem c_Hold (d : Dk) (t b : Nat) (bs : List NObj) (ts : List Bool) (M : Mem) (hb : bs[b]? = some (.cells (d.c t))) :
    E0 24 [.ptr 0 b 0] (⟨bs, ts⟩ :: M) (.tup []) (⟨bs.set b (.cells (d.hold.c t)), ts⟩ :: M) := by
  refine EvF.by (nf := nf24) (args := [.ptr 0 b 0]) rfl (of_decide_eq_true rfl) rfl ?_
  repeat' (first | refine W.seq ?_ | refine W.region ?_ | refine WO.nil ?_ | refine WO.stU rfl rfl rfl rfl rfl hb (of_decide_eq_true rfl) rfl fun hb => ?_ | (refine WO.isMv ?_; first | refine WO.go rfl rfl ?_ | refine WO.mvR rfl ?_) | (refine WO.isStore ?_; first | refine WO.st rfl rfl ?_) | refine WO.go rfl rfl ?_ | refine WO.st rfl rfl ?_)
  exact ⟨.inl rfl, _, rfl, fin rfl rfl rfl⟩
set_option maxRecDepth 8000 in
set_option maxHeartbeats 2000000 in
theorem c_GrowNo (d : Dk) (k : Int) (t b : Nat) (hd : DkOk d) (h : k < 0 ∨ 16777216 - d.room < k) (bs : List NObj) (ts : List Bool) (M : Mem) (hb : bs[b]? = some (.cells (d.c t))) :
    E0 16 [.ptr 0 b 0, .int .i64 k] (⟨bs, ts⟩ :: M) (.int .i64 1) (⟨bs, ts⟩ :: M) := by
  refine EvF.by (nf := nf16) (args := [.ptr 0 b 0, .int .i64 k]) rfl (of_decide_eq_true rfl) rfl ?_
  have h0 := hd.r0
  have h1 := hd.r1
  repeat' (first | refine W.seq ?_ | refine W.region ?_ | refine WO.nil ?_ | refine WO.onG rfl ?_ | refine WO.offG rfl ?_ | (refine WO.fork rfl ?_ ?_ <;> intro hc <;> (fail_if_success (exfalso; cases hc; done)) <;> (first | subst hc | (simp at hc; try omega) | skip)) | (refine WO.isMv ?_; first | refine WO.go rfl rfl ?_ | refine WO.mvR rfl ?_) | (refine WO.isBin ?_; first | refine WO.add64 rfl rfl rfl (by omega) (by omega) ?_ | refine WO.sub64 rfl rfl rfl (by omega) (by omega) ?_ | refine WO.addU32 rfl rfl rfl (by omega) (by omega) ?_ | refine WO.addU64 rfl rfl rfl (by omega) (by omega) ?_ | refine WO.addU8 rfl rfl rfl (by omega) (by omega) ?_ | refine WO.subU64 rfl rfl rfl (by omega) (by omega) ?_ | refine WO.subU32 rfl rfl rfl (by omega) (by omega) ?_ | refine WO.testT rfl rfl ?_ | refine WO.testF rfl rfl ?_ | (refine WO.tlss rfl rfl rfl (fun hc => ?_) (fun hc => ?_) <;> try omega) | (refine WO.tgtr rfl rfl rfl (fun hc => ?_) (fun hc => ?_) <;> try omega) | refine WO.go rfl rfl ?_) | (refine WO.isLoad ?_; first | refine WO.ldc rfl rfl hb rfl rfl ?_ | refine WO.go rfl rfl ?_) | (refine WO.isStore ?_; first | refine WO.st rfl rfl ?_) | refine WO.go rfl rfl ?_ | refine WO.st rfl rfl ?_ | refine W.skip ?_ | refine W.condT rfl ?_ | refine W.condF rfl ?_ | (refine W.fork rfl ?_ ?_ <;> intro hc <;> (fail_if_success (exfalso; cases hc; done)) <;> (first | subst hc | (simp at hc; try omega) | skip)) | refine W.ret ?_)
  all_goals exact ⟨.inr rfl, _, rfl, fin rfl rfl rfl⟩
set_option maxRecDepth 8000 in
set_option maxHeartbeats 2000000 in
theorem c_GrowYes (d : Dk) (k : Int) (t b : Nat) (hd : DkOk d) (h : 0 ≤ k ∧ k ≤ 16777216 - d.room) (bs : List NObj) (ts : List Bool) (M : Mem) (hb : bs[b]? = some (.cells (d.c t))) :
    E0 16 [.ptr 0 b 0, .int .i64 k] (⟨bs, ts⟩ :: M) (.int .i64 0) (⟨bs.set b (.cells ((d.grow k).c t)), ts⟩ :: M) := by
  refine EvF.by (nf := nf16) (args := [.ptr 0 b 0, .int .i64 k]) rfl (of_decide_eq_true rfl) rfl ?_
  have h0 := hd.r0
  have h1 := hd.r1
  repeat' (first | refine W.seq ?_ | refine W.region ?_ | refine WO.nil ?_ | refine WO.stU rfl rfl rfl rfl rfl hb (of_decide_eq_true rfl) rfl fun hb => ?_ | refine WO.onG rfl ?_ | refine WO.offG rfl ?_ | (refine WO.fork rfl ?_ ?_ <;> intro hc <;> (fail_if_success (exfalso; cases hc; done)) <;> (first | subst hc | (simp at hc; try omega) | skip)) | (refine WO.isMv ?_; first | refine WO.go rfl rfl ?_ | refine WO.mvR rfl ?_) | (refine WO.isBin ?_; first | refine WO.add64 rfl rfl rfl (by omega) (by omega) ?_ | refine WO.sub64 rfl rfl rfl (by omega) (by omega) ?_ | refine WO.addU32 rfl rfl rfl (by omega) (by omega) ?_ | refine WO.addU64 rfl rfl rfl (by omega) (by omega) ?_ | refine WO.addU8 rfl rfl rfl (by omega) (by omega) ?_ | refine WO.subU64 rfl rfl rfl (by omega) (by omega) ?_ | refine WO.subU32 rfl rfl rfl (by omega) (by omega) ?_ | refine WO.testT rfl rfl ?_ | refine WO.testF rfl rfl ?_ | (refine WO.tlss rfl rfl rfl (fun hc => ?_) (fun hc => ?_) <;> try omega) | (refine WO.tgtr rfl rfl rfl (fun hc => ?_) (fun hc => ?_) <;> try omega) | refine WO.go rfl rfl ?_) | (refine WO.isLoad ?_; first | refine WO.ldc rfl rfl hb rfl rfl ?_ | refine WO.go rfl rfl ?_) | (refine WO.isStore ?_; first | refine WO.st rfl rfl ?_) | refine WO.go rfl rfl ?_ | refine WO.st rfl rfl ?_ | refine W.skip ?_ | refine W.condT rfl ?_ | refine W.condF rfl ?_ | (refine W.fork rfl ?_ ?_ <;> intro hc <;> (fail_if_success (exfalso; cases hc; done)) <;> (first | subst hc | (simp at hc; try omega) | skip)) | refine W.ret ?_)
  exact ⟨.inr rfl, _, rfl, fin rfl rfl rfl⟩
set_option maxRecDepth 8000 in
set_option maxHeartbeats 2000000 in
theorem c_CutNo (d : Dk) (k : Int) (t b : Nat) (hd : DkOk d) (h : k < 0 ∨ d.n < k) (bs : List NObj) (ts : List Bool) (M : Mem) (hb : bs[b]? = some (.cells (d.c t))) :
    E0 18 [.ptr 0 b 0, .int .i64 k] (⟨bs, ts⟩ :: M) (.int .i64 1) (⟨bs, ts⟩ :: M) := by
  refine EvF.by (nf := nf18) (args := [.ptr 0 b 0, .int .i64 k]) rfl (of_decide_eq_true rfl) rfl ?_
  have e := d.all_size
  repeat' (first | refine W.seq ?_ | refine W.region ?_ | refine WO.nil ?_ | refine WO.onG rfl ?_ | refine WO.offG rfl ?_ | (refine WO.fork rfl ?_ ?_ <;> intro hc <;> (fail_if_success (exfalso; cases hc; done)) <;> (first | subst hc | (simp at hc; try omega) | skip)) | (refine WO.isMv ?_; first | refine WO.go rfl rfl ?_ | refine WO.mvR rfl ?_) | (refine WO.isBin ?_; first | refine WO.testT rfl rfl ?_ | refine WO.testF rfl rfl ?_ | (refine WO.tlss rfl rfl rfl (fun hc => ?_) (fun hc => ?_) <;> try omega) | (refine WO.tgtr rfl rfl rfl (fun hc => ?_) (fun hc => ?_) <;> try omega) | refine WO.go rfl rfl ?_) | (refine WO.isCall ?_; first | refine WO.ask rfl rfl (c_Bytes d t 1 b hd _ hb) ?_ | refine WO.ask' rfl rfl (c_Bytes d t 1 b hd _ hb) ?_) | (refine WO.isStore ?_; first | refine WO.st rfl rfl ?_) | (refine WO.isSlice ?_; first | refine WO.go rfl rfl ?_) | (refine WO.isLen ?_; first | refine WO.go rfl rfl ?_) | refine WO.go rfl rfl ?_ | refine WO.st rfl rfl ?_ | refine W.skip ?_ | refine W.condT rfl ?_ | refine W.condF rfl ?_ | (refine W.fork rfl ?_ ?_ <;> intro hc <;> (fail_if_success (exfalso; cases hc; done)) <;> (first | subst hc | (simp at hc; try omega) | skip)) | refine W.ret ?_)
  all_goals exact ⟨.inr rfl, _, rfl, fin rfl rfl rfl⟩
set_option maxRecDepth 8000 in
set_option maxHeartbeats 2000000 in
theorem c_CutYes (d : Dk) (k : Nat) (t b : Nat) (hd : DkOk d) (h : k ≤ d.n) (bs : List NObj) (ts : List Bool) (M : Mem) (hb : bs[b]? = some (.cells (d.c t))) :
    E0 18 [.ptr 0 b 0, .int .i64 k] (⟨bs, ts⟩ :: M) (.int .i64 0) (⟨bs.set b (.cells ((d.cut k).c t)), ts⟩ :: M) := by
  refine EvF.by (nf := nf18) (args := [.ptr 0 b 0, .int .i64 k]) rfl (of_decide_eq_true rfl) rfl ?_
  have e := d.all_size
  have h0 := hd.r1
  have h2 := hd.n
  repeat' (first | refine W.seq ?_ | refine W.region ?_ | refine WO.nil ?_ | refine WO.stU rfl rfl rfl rfl rfl hb (of_decide_eq_true rfl) rfl fun hb => ?_ | refine WO.onG rfl ?_ | refine WO.offG rfl ?_ | (refine WO.fork rfl ?_ ?_ <;> intro hc <;> (fail_if_success (exfalso; cases hc; done)) <;> (first | subst hc | (simp at hc; try omega) | skip)) | (refine WO.isMv ?_; first | refine WO.go rfl rfl ?_ | refine WO.mvR rfl ?_) | (refine WO.isBin ?_; first | refine WO.testT rfl rfl ?_ | refine WO.testF rfl rfl ?_ | (refine WO.tlss rfl rfl rfl (fun hc => ?_) (fun hc => ?_) <;> try omega) | (refine WO.tgtr rfl rfl rfl (fun hc => ?_) (fun hc => ?_) <;> try omega) | refine WO.go rfl rfl ?_) | (refine WO.isCall ?_; first | refine WO.ask rfl rfl (c_Bytes d t 1 b hd _ hb) ?_ | refine WO.ask' rfl rfl (c_Bytes d t 1 b hd _ hb) ?_) | (refine WO.isStore ?_; first | refine WO.st rfl rfl ?_) | (refine WO.isSlice ?_; first | refine WO.strhi rfl rfl rfl rfl (show k ≤ d.all.size by omega) ?_ | refine WO.go rfl rfl ?_) | (refine WO.isLen ?_; first | refine WO.go rfl rfl ?_) | refine WO.go rfl rfl ?_ | refine WO.st rfl rfl ?_ | refine W.skip ?_ | refine W.condT rfl ?_ | refine W.condF rfl ?_ | (refine W.fork rfl ?_ ?_ <;> intro hc <;> (fail_if_success (exfalso; cases hc; done)) <;> (first | subst hc | (simp at hc; try omega) | skip)) | refine W.ret ?_)
  exact ⟨.inr rfl, _, rfl, fin rfl rfl (by rw [List.set_set, List.set_set]; rfl)⟩
set_option maxRecDepth 8000 in
set_option maxHeartbeats 2000000 in
theorem c_Crash (d : Dk) (k : Int) (t b : Nat) (hd : DkOk d) (bs : List NObj) (ts : List Bool) (M : Mem) (hb : bs[b]? = some (.cells (d.c t))) :
    E0 15 [.ptr 0 b 0, .int .i64 k] (⟨bs, ts⟩ :: M) (.tup []) (⟨bs.set b (.cells ((d.crash k).c t)), ts⟩ :: M) := by
  refine EvF.by (nf := nf15) (args := [.ptr 0 b 0, .int .i64 k]) rfl (of_decide_eq_true rfl) rfl ?_
  have h1 := hd.r1
  have h2 := hd.n
  have h3 := hd.l
  have e3 : d.n = d.s.size + (cat d.tl).size := rfl
  have hm : max (min k ((cat d.tl).size : Int)) 0 = (leftOf k d : Int) := by unfold leftOf; omega
  have hl : leftOf k d ≤ (cat d.tl).size := by unfold leftOf; omega
  have hs : d.s.size + ((cat d.tl).extract 0 (leftOf k d)).size ≤ 9223372036854775807 := by rw [ByteArray.size_extract]; omega
  repeat' (first | refine W.seq ?_ | refine W.region ?_ | refine W.drawn ?_ | refine WH.nil ?_ | refine WO.nil ?_ | refine WH.min2 rfl rfl rfl rfl ?_ | refine WH.max2 rfl rfl rfl hm ?_ | refine WO.stU rfl rfl rfl rfl rfl hb (of_decide_eq_true rfl) rfl fun hb => ?_ | refine WH.stU rfl rfl rfl rfl rfl hb (of_decide_eq_true rfl) rfl rfl fun hb => ?_ | (refine WO.isMv ?_; first | refine WO.go rfl rfl ?_ | refine WO.mvR rfl ?_) | (refine WO.isCall ?_; first | refine WO.ask rfl rfl (c_Join rows_apl (str_rows d.tl) (by omega) (show (cat d.tl).size ≤ _ by omega) _) ?_ | refine WO.ask' rfl rfl (c_Join rows_apl (str_rows d.tl) (by omega) (show (cat d.tl).size ≤ _ by omega) _) ?_) | (refine WO.isLoad ?_; first | refine WO.ldc rfl rfl hb rfl rfl ?_ | refine WO.ldc rfl rfl hb rfl sh_ap1 ?_ | refine WO.go rfl rfl ?_) | (refine WO.isStore ?_; first | refine WO.st rfl rfl ?_) | refine WO.go rfl rfl ?_ | refine WO.st rfl rfl ?_ | (refine WH.isMv ?_; first | refine WH.go rfl rfl rfl ?_ | refine WH.mvR rfl ?_) | (refine WH.isBin ?_; first | refine WH.cat rfl rfl rfl hs ?_ | refine WH.add64 rfl rfl rfl (by omega) (by omega) ?_ | refine WH.addU32 rfl rfl rfl (by omega) (by omega) ?_ | refine WH.addU64 rfl rfl rfl (by omega) (by omega) ?_ | refine WH.addU8 rfl rfl rfl (by omega) (by omega) ?_ | refine WH.go rfl rfl rfl ?_) | (refine WH.isLoad ?_; first | refine WH.ldc rfl rfl hb rfl rfl rfl ?_ | refine WH.ldc rfl rfl hb rfl sh_ap1 rfl ?_ | refine WH.go rfl rfl rfl ?_) | (refine WH.isStore ?_; first | refine WH.st rfl rfl rfl ?_) | (refine WH.isSlice ?_; first | refine WH.strhi rfl rfl rfl rfl hl ?_ | refine WH.go rfl rfl rfl ?_) | (refine WH.isLen ?_; first | refine WH.go rfl rfl rfl ?_) | refine WH.go rfl rfl rfl ?_ | refine WH.st rfl rfl rfl ?_)
  exact ⟨.inl rfl, _, rfl, fin rfl rfl (by rw [List.set_set, List.set_set]; rfl)⟩
end Go.Proofs.Ytibpoeaableoeaa.Nv
