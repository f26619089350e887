/- A disk: what it is in plain words, and in memory. -/
import Derived.Test.YtibpoeaableoeaaApl
import Derived.Test.YtibpoeaableoeaaE0
namespace Go.Proofs.Ytibpoeaableoeaa.Nv
open Go
def cat (xs : List ByteArray) : ByteArray := joinB xs ByteArray.empty
theorem join_flat : ∀ xs : List (List UInt8), Lib.join xs [] = xs.flatten
  | [] => rfl
  | x :: r => by
    rw [Lib.join_cons]
    unfold Lib.joinTail
    simp
theorem cat_list (xs : List ByteArray) : (cat xs).data.toList = (xs.map (·.data.toList)).flatten := by
  show (Lib.join (xs.map (·.data.toList)) []).toArray.toList = _
  rw [join_flat]
theorem ba_eq {a b : ByteArray} (h : a.data.toList = b.data.toList) : a = b := by
  cases a; cases b
  simp only [ByteArray.mk.injEq]
  exact Array.toList_inj.1 h
theorem cat_nil : cat [] = ByteArray.empty := rfl
theorem cat_snoc (xs : List ByteArray) (x : ByteArray) : cat (xs ++ [x]) = cat xs ++ x := by
  refine ba_eq ?_
  rw [cat_list, ByteArray.data_append, Array.toList_append, cat_list]
  simp
theorem ba_size (s : ByteArray) : s.size = s.data.toList.length := (Array.length_toList).symm
theorem cat_take_succ {xs : List ByteArray} {k : Nat} {x : ByteArray} (h : xs[k]? = some x) : (cat (xs.take (k + 1))).size = (cat (xs.take k)).size + x.size := by
  rw [take_succ_get h, cat_snoc, ByteArray.size_append]
theorem cat_append (xs ys : List ByteArray) : cat (xs ++ ys) = cat xs ++ cat ys := by
  refine ba_eq ?_
  rw [cat_list, ByteArray.data_append, Array.toList_append, cat_list, cat_list]
  simp
theorem cat_take_le (xs : List ByteArray) (k : Nat) : (cat (xs.take k)).size ≤ (cat xs).size := by
  have h := cat_append (xs.take k) (xs.drop k)
  rw [List.take_append_drop] at h
  rw [h, ByteArray.size_append]
  omega
theorem int_eq {k : IntKind} {a b : Int} (h : a = b) : NV.int k a = NV.int k b := by rw [h]
structure Dk where
  s : ByteArray
  tl : List ByteArray
  room : Int
  held : Bool
def Dk.c (d : Dk) (t : Nat) : List NV := [.str d.s, apV 1 (d.tl.map strR) t, .int .i64 d.room, .bool d.held]
def Dk.all (d : Dk) : ByteArray := d.s ++ cat d.tl
def Dk.n (d : Dk) : Nat := d.s.size + (cat d.tl).size
theorem Dk.all_size (d : Dk) : d.all.size = d.n := by unfold Dk.all Dk.n; rw [ByteArray.size_append]
structure DkOk (d : Dk) : Prop where
  r0 : 0 ≤ d.room
  r1 : d.room ≤ 16777216
  n : (d.n : Int) ≤ d.room
  l : d.tl.length ≤ 100000
theorem str_rows (xs : List ByteArray) : mz 1 (xs.map strR) = 1 ∨ xs = [] := (mz_or 1 (xs.map strR)).imp id map_nil.1
def dk0 (room : Int) : Dk := ⟨ByteArray.empty, [], room, false⟩
set_option maxRecDepth 8000 in
theorem c_NewNo (room : Int) (h : room < 1 ∨ 16777216 < room) (M : Mem) : E0 10 [.int .i64 room] M (.tup [.nilp, .int .i64 1]) M := by
  refine EvF.by (nf := nf10) (args := [.int .i64 room]) rfl (of_decide_eq_true rfl) rfl ?_
  repeat' (first | refine W.seq ?_ | refine W.region ?_ | refine WO.nil ?_ | refine WO.onG rfl ?_ | refine WO.offG rfl ?_ | (refine WO.fork rfl ?_ ?_ <;> intro hc <;> (fail_if_success (exfalso; cases hc; done)) <;> (first | subst hc | (simp at hc; try omega) | skip)) | (refine WO.isMv ?_; first | refine WO.go rfl rfl ?_ | refine WO.mvR rfl ?_) | (refine WO.isBin ?_; first | refine WO.testT rfl rfl ?_ | refine WO.testF rfl rfl ?_ | (refine WO.tlss rfl rfl rfl (fun hc => ?_) (fun hc => ?_) <;> try omega) | (refine WO.tgtr rfl rfl rfl (fun hc => ?_) (fun hc => ?_) <;> try omega) | refine WO.go rfl rfl ?_) | refine WO.go rfl rfl ?_ | refine W.skip ?_ | refine W.condT rfl ?_ | refine W.condF rfl ?_ | (refine W.fork rfl ?_ ?_ <;> intro hc <;> (fail_if_success (exfalso; cases hc; done)) <;> (first | subst hc | (simp at hc; try omega) | skip)) | refine W.ret ?_)
  all_goals exact ⟨.inr rfl, _, rfl, fin rfl rfl rfl⟩
set_option maxRecDepth 8000 in
theorem c_NewYes (room : Int) (h : 1 ≤ room ∧ room ≤ 16777216) (bs : List NObj) (ts : List Bool) (M : Mem) :
    E0 10 [.int .i64 room] (⟨bs, ts⟩ :: M) (.tup [.ptr 0 bs.length 0, .int .i64 0]) (⟨bs ++ [.cells ((dk0 room).c 0)], ts⟩ :: M) := by
  refine EvF.by (nf := nf10) (args := [.int .i64 room]) rfl (of_decide_eq_true rfl) rfl ?_
  repeat' (first | refine W.seq ?_ | refine W.region ?_ | refine WO.nil ?_ | refine WO.onG rfl ?_ | refine WO.offG rfl ?_ | (refine WO.fork rfl ?_ ?_ <;> intro hc <;> (fail_if_success (exfalso; cases hc; done)) <;> (first | subst hc | (simp at hc; try omega) | skip)) | (refine WO.isMv ?_; first | refine WO.go rfl rfl ?_ | refine WO.mvR rfl ?_) | (refine WO.isBin ?_; first | refine WO.testT rfl rfl ?_ | refine WO.testF rfl rfl ?_ | (refine WO.tlss rfl rfl rfl (fun hc => ?_) (fun hc => ?_) <;> try omega) | (refine WO.tgtr rfl rfl rfl (fun hc => ?_) (fun hc => ?_) <;> try omega) | refine WO.go rfl rfl ?_) | refine WO.go rfl rfl ?_ | refine W.skip ?_ | refine W.condT rfl ?_ | refine W.condF rfl ?_ | (refine W.fork rfl ?_ ?_ <;> intro hc <;> (fail_if_success (exfalso; cases hc; done)) <;> (first | subst hc | (simp at hc; try omega) | skip)) | refine W.ret ?_)
  exact ⟨.inr rfl, _, rfl, fin rfl rfl (by rw [List.append_nil]; rfl)⟩
set_option maxRecDepth 8000 in
set_option maxHeartbeats 2000000 in
theorem c_size (d : Dk) (t lv b : Nat) (hd : DkOk d) (M : Mem) (hb : blk? M lv b = some (.cells (d.c t))) : E0 26 [.ptr lv b 0] M (.int .i64 d.n) M := by
  refine EvF.by (nf := nf26) (args := [.ptr lv b 0]) rfl (of_decide_eq_true rfl) rfl ?_
  have hb' : blk? (⟨[], []⟩ :: M) (lv + 1) b = some (.cells (d.c t)) := hb
  have lt : (d.tl.map strR).length = d.tl.length := List.length_map ..
  have h1 := hd.r1
  have h2 := hd.n
  have h3 := hd.l
  repeat' (first | refine W.seq ?_ | refine W.region ?_ | refine WO.nil ?_ | (refine WO.isMv ?_; first | refine WO.go rfl rfl ?_ | refine WO.mvR rfl ?_) | (refine WO.isBin ?_; first | refine WO.add64 rfl rfl rfl (by omega) (by omega) ?_ | refine WO.addU32 rfl rfl rfl (by omega) (by omega) ?_ | refine WO.addU64 rfl rfl rfl (by omega) (by omega) ?_ | refine WO.addU8 rfl rfl rfl (by omega) (by omega) ?_ | refine WO.testT rfl rfl ?_ | refine WO.testF rfl rfl ?_ | (refine WO.tlss rfl rfl rfl (fun hc => ?_) (fun hc => ?_) <;> try omega) | refine WO.go rfl rfl ?_) | (refine WO.isLoad ?_; first | refine WO.go rfl rfl ?_ | refine WO.ldc rfl rfl blk_l1 rfl rfl ?_ | refine WO.lda rfl rfl blk_l1 (of_decide_eq_true rfl) rfl ?_ | refine WO.ldc rfl rfl blk_l2 rfl rfl ?_ | refine WO.lda rfl rfl blk_l2 (of_decide_eq_true rfl) rfl ?_ | refine WO.ldc rfl rfl blk_l3 rfl rfl ?_ | refine WO.lda rfl rfl blk_l3 (of_decide_eq_true rfl) rfl ?_) | (refine WO.isIaddr ?_; first | refine WO.go rfl rfl ?_) | (refine WO.isLen ?_; first | refine WO.go rfl rfl ?_) | refine WO.go rfl rfl ?_ | refine W.skip ?_ | refine W.condT rfl ?_ | refine W.condF rfl ?_ | (refine W.fork rfl ?_ ?_ <;> intro hc <;> (fail_if_success (exfalso; cases hc; done)) <;> (first | subst hc | (simp at hc; try omega) | skip)) | refine W.ret ?_)
  refine W.scope ?_
  repeat' (first | refine W.seq ?_ | refine W.region ?_ | refine WO.nil ?_ | (refine WO.isMv ?_; first | refine WO.go rfl rfl ?_ | refine WO.mvR rfl ?_) | (refine WO.isBin ?_; first | refine WO.add64 rfl rfl rfl (by omega) (by omega) ?_ | refine WO.addU32 rfl rfl rfl (by omega) (by omega) ?_ | refine WO.addU64 rfl rfl rfl (by omega) (by omega) ?_ | refine WO.addU8 rfl rfl rfl (by omega) (by omega) ?_ | refine WO.testT rfl rfl ?_ | refine WO.testF rfl rfl ?_ | (refine WO.tlss rfl rfl rfl (fun hc => ?_) (fun hc => ?_) <;> try omega) | refine WO.go rfl rfl ?_) | (refine WO.isLoad ?_; first | refine WO.ldc rfl rfl hb' rfl rfl ?_ | refine WO.go rfl rfl ?_ | refine WO.ldc rfl rfl blk_l1 rfl rfl ?_ | refine WO.lda rfl rfl blk_l1 (of_decide_eq_true rfl) rfl ?_ | refine WO.ldc rfl rfl blk_l2 rfl rfl ?_ | refine WO.lda rfl rfl blk_l2 (of_decide_eq_true rfl) rfl ?_ | refine WO.ldc rfl rfl blk_l3 rfl rfl ?_ | refine WO.lda rfl rfl blk_l3 (of_decide_eq_true rfl) rfl ?_) | (refine WO.isIaddr ?_; first | refine WO.go rfl rfl ?_) | (refine WO.isLen ?_; first | refine WO.go rfl rfl ?_) | refine WO.go rfl rfl ?_ | refine W.skip ?_ | refine W.condT rfl ?_ | refine W.condF rfl ?_ | (refine W.fork rfl ?_ ?_ <;> intro hc <;> (fail_if_success (exfalso; cases hc; done)) <;> (first | subst hc | (simp at hc; try omega) | skip)) | refine W.ret ?_)
  refine W.label (W.unskip ?_)
  refine W.ind (σ := Nat) (fun k => [(0, .ptr (lv + 1) b 0), (3, .int .i64 ((d.s.size + (cat (d.tl.take k)).size : Nat) : Int)), (4, .int .i64 k)]) (fun _ => ⟨[], []⟩ :: M) (fun k => k ≤ d.tl.length) (fun k => d.tl.length - k) 0 (Nat.zero_le _) ⟨rfl, rfl, rfl, trivial⟩ rfl ?_
  rintro k e hk IH
  by_cases hlt : k < d.tl.length
  · obtain ⟨x, hx⟩ := get_lt hlt
    have hr := map_get (f := strR) hx
    have e1 := cat_take_succ hx
    have e2 := cat_take_le d.tl (k + 1)
    have e3 : d.n = d.s.size + (cat d.tl).size := rfl
    repeat' (first | refine W.seq ?_ | refine W.region ?_ | refine WO.nil ?_ | (refine WO.isMv ?_; first | refine WO.go rfl rfl ?_ | refine WO.mvR rfl ?_) | (refine WO.isBin ?_; first | refine WO.add64 rfl rfl rfl (by omega) (by omega) ?_ | refine WO.addU32 rfl rfl rfl (by omega) (by omega) ?_ | refine WO.addU64 rfl rfl rfl (by omega) (by omega) ?_ | refine WO.addU8 rfl rfl rfl (by omega) (by omega) ?_ | refine WO.testT rfl rfl ?_ | refine WO.testF rfl rfl ?_ | (refine WO.tlss rfl rfl rfl (fun hc => ?_) (fun hc => ?_) <;> try omega) | refine WO.go rfl rfl ?_) | (refine WO.isLoad ?_; first | refine WO.ldc rfl rfl hb' rfl sh_ap1 ?_ | refine WO.go rfl rfl ?_ | refine WO.ldc rfl rfl blk_l1 rfl rfl ?_ | refine WO.lda rfl rfl blk_l1 (of_decide_eq_true rfl) rfl ?_ | refine WO.ldc rfl rfl blk_l2 rfl rfl ?_ | refine WO.lda rfl rfl blk_l2 (of_decide_eq_true rfl) rfl ?_ | refine WO.ldc rfl rfl blk_l3 rfl rfl ?_ | refine WO.lda rfl rfl blk_l3 (of_decide_eq_true rfl) rfl ?_) | (refine WO.isIaddr ?_; first | refine WO.idxL rfl rfl rfl rfl hr ?_ | refine WO.go rfl rfl ?_) | (refine WO.isLen ?_; first | refine WO.lenL rfl rfl lt ?_ | refine WO.go rfl rfl ?_) | refine WO.go rfl rfl ?_ | refine W.skip ?_ | refine W.condT rfl ?_ | refine W.condF rfl ?_ | (refine W.fork rfl ?_ ?_ <;> intro hc <;> (fail_if_success (exfalso; cases hc; done)) <;> (first | subst hc | (simp at hc; try omega) | skip)) | refine W.ret ?_)
    refine W.goto ⟨_, rfl, W.inscope (IH (k + 1) _ _ (by omega) hlt ⟨rfl, int_eq (by omega), rfl, trivial⟩ rfl)⟩
  · obtain rfl : k = d.tl.length := by omega
    repeat' (first | refine W.seq ?_ | refine W.region ?_ | refine WO.nil ?_ | (refine WO.isMv ?_; first | refine WO.go rfl rfl ?_ | refine WO.mvR rfl ?_) | (refine WO.isBin ?_; first | refine WO.add64 rfl rfl rfl (by omega) (by omega) ?_ | refine WO.addU32 rfl rfl rfl (by omega) (by omega) ?_ | refine WO.addU64 rfl rfl rfl (by omega) (by omega) ?_ | refine WO.addU8 rfl rfl rfl (by omega) (by omega) ?_ | refine WO.testT rfl rfl ?_ | refine WO.testF rfl rfl ?_ | (refine WO.tlss rfl rfl rfl (fun hc => ?_) (fun hc => ?_) <;> try omega) | refine WO.go rfl rfl ?_) | (refine WO.isLoad ?_; first | refine WO.ldc rfl rfl hb' rfl sh_ap1 ?_ | refine WO.go rfl rfl ?_ | refine WO.ldc rfl rfl blk_l1 rfl rfl ?_ | refine WO.lda rfl rfl blk_l1 (of_decide_eq_true rfl) rfl ?_ | refine WO.ldc rfl rfl blk_l2 rfl rfl ?_ | refine WO.lda rfl rfl blk_l2 (of_decide_eq_true rfl) rfl ?_ | refine WO.ldc rfl rfl blk_l3 rfl rfl ?_ | refine WO.lda rfl rfl blk_l3 (of_decide_eq_true rfl) rfl ?_) | (refine WO.isIaddr ?_; first | refine WO.go rfl rfl ?_) | (refine WO.isLen ?_; first | refine WO.lenL rfl rfl lt ?_ | refine WO.go rfl rfl ?_) | refine WO.go rfl rfl ?_ | refine W.skip ?_ | refine W.condT rfl ?_ | refine W.condF rfl ?_ | (refine W.fork rfl ?_ ?_ <;> intro hc <;> (fail_if_success (exfalso; cases hc; done)) <;> (first | subst hc | (simp at hc; try omega) | skip)) | refine W.ret ?_)
    exact ⟨.inr rfl, _, rfl, fin rfl (by rw [List.take_length]; rfl) rfl⟩
set_option maxRecDepth 8000 in
set_option maxHeartbeats 2000000 in
theorem c_Bytes (d : Dk) (t lv b : Nat) (hd : DkOk d) (M : Mem) (hb : blk? M lv b = some (.cells (d.c t))) : E0 13 [.ptr lv b 0] M (.str d.all) M := by
  refine EvF.by (nf := nf13) (args := [.ptr lv b 0]) rfl (of_decide_eq_true rfl) rfl ?_
  have hb' : blk? (⟨[], []⟩ :: M) (lv + 1) b = some (.cells (d.c t)) := hb
  have h1 := hd.r1
  have h2 := hd.n
  have h3 := hd.l
  have e3 : d.n = d.s.size + (cat d.tl).size := rfl
  have hs : d.s.size + (cat d.tl).size ≤ 9223372036854775807 := by omega
  repeat' (first | refine W.seq ?_ | refine W.region ?_ | refine W.drawn ?_ | refine WH.nil ?_ | refine WO.nil ?_ | (refine WO.isMv ?_; first | refine WO.go rfl rfl ?_ | refine WO.mvR rfl ?_) | (refine WO.isBin ?_; first | refine WO.cat rfl rfl rfl hs ?_ | refine WO.add64 rfl rfl rfl (by omega) (by omega) ?_ | refine WO.addU32 rfl rfl rfl (by omega) (by omega) ?_ | refine WO.addU64 rfl rfl rfl (by omega) (by omega) ?_ | refine WO.addU8 rfl rfl rfl (by omega) (by omega) ?_ | refine WO.go rfl rfl ?_) | refine WO.go rfl rfl ?_ | (refine WH.isMv ?_; first | refine WH.go rfl rfl rfl ?_ | refine WH.mvR rfl ?_) | (refine WH.isCall ?_; first | refine WH.ask rfl rfl rfl rfl (c_Join rows_apl (str_rows d.tl) (by omega) (show (cat d.tl).size ≤ _ by omega) _) ?_) | (refine WH.isLoad ?_; first | refine WH.ldc rfl rfl hb' rfl rfl rfl ?_ | refine WH.ldc rfl rfl hb' rfl sh_ap1 rfl ?_ | refine WH.go rfl rfl rfl ?_) | refine WH.go rfl rfl rfl ?_ | refine W.ret ?_)
  exact ⟨.inr rfl, _, rfl, fin rfl rfl rfl⟩
set_option maxRecDepth 8000 in
theorem c_Synced (d : Dk) (t lv b : Nat) (M : Mem) (hb : blk? M lv b = some (.cells (d.c t))) : E0 14 [.ptr lv b 0] M (.int .i64 d.s.size) M := by
  refine EvF.by (nf := nf14) (args := [.ptr lv b 0]) rfl (of_decide_eq_true rfl) rfl ?_
  have hb' : blk? (⟨[], []⟩ :: M) (lv + 1) b = some (.cells (d.c t)) := hb
  repeat' (first | refine W.seq ?_ | refine W.region ?_ | refine WO.nil ?_ | (refine WO.isMv ?_; first | refine WO.go rfl rfl ?_ | refine WO.mvR rfl ?_) | (refine WO.isLoad ?_; first | refine WO.ldc rfl rfl hb' rfl rfl ?_ | refine WO.go rfl rfl ?_) | (refine WO.isLen ?_; first | refine WO.go rfl rfl ?_) | refine WO.go rfl rfl ?_ | refine W.ret ?_)
  exact ⟨.inr rfl, _, rfl, fin rfl rfl rfl⟩
set_option maxRecDepth 8000 in
theorem c_Room (d : Dk) (t lv b : Nat) (M : Mem) (hb : blk? M lv b = some (.cells (d.c t))) : E0 17 [.ptr lv b 0] M (.int .i64 d.room) M := by
  refine EvF.by (nf := nf17) (args := [.ptr lv b 0]) rfl (of_decide_eq_true rfl) rfl ?_
  have hb' : blk? (⟨[], []⟩ :: M) (lv + 1) b = some (.cells (d.c t)) := hb
  repeat' (first | refine W.seq ?_ | refine W.region ?_ | refine WO.nil ?_ | (refine WO.isMv ?_; first | refine WO.go rfl rfl ?_ | refine WO.mvR rfl ?_) | (refine WO.isLoad ?_; first | refine WO.ldc rfl rfl hb' rfl rfl ?_ | refine WO.go rfl rfl ?_) | refine WO.go rfl rfl ?_ | refine W.ret ?_)
  exact ⟨.inr rfl, _, rfl, fin rfl rfl rfl⟩
end Go.Proofs.Ytibpoeaableoeaa.Nv
