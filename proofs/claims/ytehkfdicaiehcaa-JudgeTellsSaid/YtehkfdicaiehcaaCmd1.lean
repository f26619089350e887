/- Commands: what they are, in plain words, and what the functions come to that make them. -/
import Derived.Test.YtehkfdicaiehcaaE0
namespace Go.Proofs.Ytehkfdicaiehcaa.Nv
open Go
structure Cmd where
  op : Int
  client : Int
  seq : Int
  key : ByteArray
  value : ByteArray
  deriving DecidableEq
def Cmd.c (x : Cmd) : List NV := [.int .i64 x.op, .int .i64 x.client, .int .u32 x.seq, .str x.key, .str x.value]
theorem Cmd.ext' {a b : Cmd} : a = b ↔ a.op = b.op ∧ a.client = b.client ∧ a.seq = b.seq ∧ a.key = b.key ∧ a.value = b.value := by
  cases a; cases b; simp
theorem str_beq (s t : ByteArray) : (s.toList == t.toList) = decide (s = t) := by
  by_cases h : s = t
  · subst h; simp
  · have : ¬ s.toList = t.toList := fun q => h (ba_ext q)
    simp [h, this]
theorem int_beq (a b : Int) : (a == b) = decide (a = b) := by
  by_cases h : a = b <;> simp [h]
theorem eq_cmd (a b : Cmd) : eqL [.int, .int, .int, .str, .str] a.c b.c = some (decide (a = b)) := by
  have h : decide (a = b) = (decide (a.op = b.op) && (decide (a.client = b.client) && (decide (a.seq = b.seq) && (decide (a.key = b.key) && (decide (a.value = b.value) && true))))) := by
    rw [Bool.eq_iff_iff]
    simp [Cmd.ext']
  rw [h]
  simp only [Cmd.c, eqL, eqC, if_true, str_beq, int_beq]
def cmd0 : Cmd := ⟨0, 0, 0, ByteArray.empty, ByteArray.empty⟩
def rightCmd (x : Cmd) : Bool := decide (x = cmd0) || decide (1 ≤ x.op ∧ x.op ≤ 3 ∧ 1 ≤ x.client ∧ x.client ≤ 64 ∧ 1 ≤ x.seq ∧ x.key.size ≠ 0 ∧ x.key.size ≤ 16 ∧ x.value.size ≤ 32 ∧ (x.op = 1 ∨ x.value.size = 0))
theorem empty_iff {s : ByteArray} : s = ByteArray.empty ↔ s.size = 0 := ByteArray.size_eq_zero_iff.symm
theorem rightCmd_iff {x : Cmd} : rightCmd x = true ↔ x = cmd0 ∨ (1 ≤ x.op ∧ x.op ≤ 3 ∧ 1 ≤ x.client ∧ x.client ≤ 64 ∧ 1 ≤ x.seq ∧ x.key.size ≠ 0 ∧ x.key.size ≤ 16 ∧ x.value.size ≤ 32 ∧ (x.op = 1 ∨ x.value.size = 0)) := by
  unfold rightCmd
  rw [Bool.or_eq_true, decide_eq_true_eq, decide_eq_true_eq]
theorem rightCmd_t {x : Cmd} (h0 : ¬ x = cmd0) (h : 1 ≤ x.op ∧ x.op ≤ 3 ∧ 1 ≤ x.client ∧ x.client ≤ 64 ∧ 1 ≤ x.seq ∧ x.key.size ≠ 0 ∧ x.key.size ≤ 16 ∧ x.value.size ≤ 32 ∧ (x.op = 1 ∨ x.value.size = 0)) : true = rightCmd x := (rightCmd_iff.2 (.inr h)).symm
theorem rightCmd_f {x : Cmd} (h0 : ¬ x = cmd0) (h : ¬ (1 ≤ x.op ∧ x.op ≤ 3 ∧ 1 ≤ x.client ∧ x.client ≤ 64 ∧ 1 ≤ x.seq ∧ x.key.size ≠ 0 ∧ x.key.size ≤ 16 ∧ x.value.size ≤ 32 ∧ (x.op = 1 ∨ x.value.size = 0))) : false = rightCmd x := by
  cases hr : rightCmd x
  · rfl
  · exact absurd ((rightCmd_iff.1 hr).resolve_left h0) h
/-- How many ways out a test of two strings has, by their sizes. -/
theorem ne_empty {s : ByteArray} (h : ¬ s = ByteArray.empty) : s.size ≠ 0 := fun q => h (empty_iff.2 q)
set_option maxRecDepth 8000 in
set_option maxHeartbeats 4000000 in
theorem c_cmdRight (x : Cmd) (m : Mem) : E0 34 [.agg x.c] m (.bool (rightCmd x)) m := by
  refine EvF.by (nf := nf34) (args := [.agg x.c]) rfl (of_decide_eq_true rfl) rfl ?_
  have he := eq_cmd x cmd0
  by_cases h0 : x = cmd0
  · rw [decide_eq_true h0] at he
    repeat' (first | refine W.seq ?_ | refine W.region ?_ | refine WO.nil ?_ | refine WO.onG rfl ?_ | refine WO.offG rfl ?_ | (refine WO.fork rfl ?_ ?_ <;> intro hc <;> (fail_if_success (exfalso; cases hc; done)) <;> (first | subst hc | (simp at hc; try omega) | skip)) | (refine WO.isMv ?_; first | refine WO.go rfl rfl ?_ | refine WO.mvR rfl ?_) | (refine WO.isBin ?_; first | refine WO.testT rfl rfl ?_ | refine WO.testF rfl rfl ?_ | (refine WO.tlss rfl rfl rfl (fun hc => ?_) (fun hc => ?_) <;> try omega) | (refine WO.tleq rfl rfl rfl (fun hc => ?_) (fun hc => ?_) <;> try omega) | (refine WO.tgtr rfl rfl rfl (fun hc => ?_) (fun hc => ?_) <;> try omega) | (refine WO.tgeq rfl rfl rfl (fun hc => ?_) (fun hc => ?_) <;> try omega) | (refine WO.teql rfl rfl rfl (fun hc => ?_) (fun hc => ?_) <;> try omega) | refine WO.tseql rfl rfl rfl (fun hc => ?_) (fun hc => ?_) | refine WO.go rfl rfl ?_) | (refine WO.isLoad ?_; first | refine WO.go rfl rfl ?_) | (refine WO.isLen ?_; first | refine WO.go rfl rfl ?_) | (refine WO.isEq ?_; first | refine WO.eqA rfl rfl rfl he ?_ | refine WO.go rfl rfl ?_) | refine WO.go rfl rfl ?_ | refine W.skip ?_ | refine W.condT rfl ?_ | refine W.condF rfl ?_ | (refine W.fork rfl ?_ ?_ <;> intro hc <;> (fail_if_success (exfalso; cases hc; done)) <;> (first | subst hc | (simp at hc; try omega) | skip)) | refine W.ret ?_ | refine W.block ?_)
    exact ⟨.inr rfl, _, rfl, fin rfl (congrArg _ (rightCmd_iff.2 (.inl h0)).symm) rfl⟩
  · rw [decide_eq_false h0] at he
    by_cases hk : x.key = ByteArray.empty
    · have hk0 := empty_iff.1 hk
      repeat' (first | refine W.seq ?_ | refine W.region ?_ | refine WO.nil ?_ | refine WO.onG rfl ?_ | refine WO.offG rfl ?_ | (refine WO.fork rfl ?_ ?_ <;> intro hc <;> (fail_if_success (exfalso; cases hc; done)) <;> (first | subst hc | (simp at hc; try omega) | skip)) | (refine WO.isMv ?_; first | refine WO.go rfl rfl ?_ | refine WO.mvR rfl ?_) | (refine WO.isBin ?_; first | refine WO.seqT rfl rfl rfl hk ?_ | refine WO.testT rfl rfl ?_ | refine WO.testF rfl rfl ?_ | (refine WO.tlss rfl rfl rfl (fun hc => ?_) (fun hc => ?_) <;> try omega) | (refine WO.tleq rfl rfl rfl (fun hc => ?_) (fun hc => ?_) <;> try omega) | (refine WO.tgtr rfl rfl rfl (fun hc => ?_) (fun hc => ?_) <;> try omega) | (refine WO.tgeq rfl rfl rfl (fun hc => ?_) (fun hc => ?_) <;> try omega) | (refine WO.teql rfl rfl rfl (fun hc => ?_) (fun hc => ?_) <;> try omega) | refine WO.tseql rfl rfl rfl (fun hc => ?_) (fun hc => ?_) | refine WO.go rfl rfl ?_) | (refine WO.isLoad ?_; first | refine WO.go rfl rfl ?_) | (refine WO.isLen ?_; first | refine WO.go rfl rfl ?_) | (refine WO.isEq ?_; first | refine WO.eqA rfl rfl rfl he ?_ | refine WO.go rfl rfl ?_) | refine WO.go rfl rfl ?_ | refine W.skip ?_ | refine W.condT rfl ?_ | refine W.condF rfl ?_ | (refine W.fork rfl ?_ ?_ <;> intro hc <;> (fail_if_success (exfalso; cases hc; done)) <;> (first | subst hc | (simp at hc; try omega) | skip)) | refine W.ret ?_ | refine W.block ?_)
      all_goals exact ⟨.inr rfl, _, rfl, fin rfl (congrArg _ (rightCmd_f h0 (by omega))) rfl⟩
    · have hk0 := ne_empty hk
      by_cases hv : x.value = ByteArray.empty
      · have hv0 := empty_iff.1 hv
        repeat' (first | refine W.seq ?_ | refine W.region ?_ | refine WO.nil ?_ | refine WO.onG rfl ?_ | refine WO.offG rfl ?_ | (refine WO.fork rfl ?_ ?_ <;> intro hc <;> (fail_if_success (exfalso; cases hc; done)) <;> (first | subst hc | (simp at hc; try omega) | skip)) | (refine WO.isMv ?_; first | refine WO.go rfl rfl ?_ | refine WO.mvR rfl ?_) | (refine WO.isBin ?_; first | refine WO.seqF rfl rfl rfl hk ?_ | refine WO.seqT rfl rfl rfl hv ?_ | refine WO.testT rfl rfl ?_ | refine WO.testF rfl rfl ?_ | (refine WO.tlss rfl rfl rfl (fun hc => ?_) (fun hc => ?_) <;> try omega) | (refine WO.tleq rfl rfl rfl (fun hc => ?_) (fun hc => ?_) <;> try omega) | (refine WO.tgtr rfl rfl rfl (fun hc => ?_) (fun hc => ?_) <;> try omega) | (refine WO.tgeq rfl rfl rfl (fun hc => ?_) (fun hc => ?_) <;> try omega) | (refine WO.teql rfl rfl rfl (fun hc => ?_) (fun hc => ?_) <;> try omega) | refine WO.tseql rfl rfl rfl (fun hc => ?_) (fun hc => ?_) | refine WO.go rfl rfl ?_) | (refine WO.isLoad ?_; first | refine WO.go rfl rfl ?_) | (refine WO.isLen ?_; first | refine WO.go rfl rfl ?_) | (refine WO.isEq ?_; first | refine WO.eqA rfl rfl rfl he ?_ | refine WO.go rfl rfl ?_) | refine WO.go rfl rfl ?_ | refine W.skip ?_ | refine W.condT rfl ?_ | refine W.condF rfl ?_ | (refine W.fork rfl ?_ ?_ <;> intro hc <;> (fail_if_success (exfalso; cases hc; done)) <;> (first | subst hc | (simp at hc; try omega) | skip)) | refine W.ret ?_ | refine W.block ?_)
        all_goals first | exact ⟨.inr rfl, _, rfl, fin rfl (congrArg _ (rightCmd_f h0 (by omega))) rfl⟩ | exact ⟨.inr rfl, _, rfl, fin rfl (congrArg _ (rightCmd_t h0 (by omega))) rfl⟩
      · have hv0 := ne_empty hv
        repeat' (first | refine W.seq ?_ | refine W.region ?_ | refine WO.nil ?_ | refine WO.onG rfl ?_ | refine WO.offG rfl ?_ | (refine WO.fork rfl ?_ ?_ <;> intro hc <;> (fail_if_success (exfalso; cases hc; done)) <;> (first | subst hc | (simp at hc; try omega) | skip)) | (refine WO.isMv ?_; first | refine WO.go rfl rfl ?_ | refine WO.mvR rfl ?_) | (refine WO.isBin ?_; first | refine WO.seqF rfl rfl rfl hk ?_ | refine WO.seqF rfl rfl rfl hv ?_ | refine WO.testT rfl rfl ?_ | refine WO.testF rfl rfl ?_ | (refine WO.tlss rfl rfl rfl (fun hc => ?_) (fun hc => ?_) <;> try omega) | (refine WO.tleq rfl rfl rfl (fun hc => ?_) (fun hc => ?_) <;> try omega) | (refine WO.tgtr rfl rfl rfl (fun hc => ?_) (fun hc => ?_) <;> try omega) | (refine WO.tgeq rfl rfl rfl (fun hc => ?_) (fun hc => ?_) <;> try omega) | (refine WO.teql rfl rfl rfl (fun hc => ?_) (fun hc => ?_) <;> try omega) | refine WO.tseql rfl rfl rfl (fun hc => ?_) (fun hc => ?_) | refine WO.go rfl rfl ?_) | (refine WO.isLoad ?_; first | refine WO.go rfl rfl ?_) | (refine WO.isLen ?_; first | refine WO.go rfl rfl ?_) | (refine WO.isEq ?_; first | refine WO.eqA rfl rfl rfl he ?_ | refine WO.go rfl rfl ?_) | refine WO.go rfl rfl ?_ | refine W.skip ?_ | refine W.condT rfl ?_ | refine W.condF rfl ?_ | (refine W.fork rfl ?_ ?_ <;> intro hc <;> (fail_if_success (exfalso; cases hc; done)) <;> (first | subst hc | (simp at hc; try omega) | skip)) | refine W.ret ?_ | refine W.block ?_)
        all_goals first | exact ⟨.inr rfl, _, rfl, fin rfl (congrArg _ (rightCmd_f h0 (by omega))) rfl⟩ | exact ⟨.inr rfl, _, rfl, fin rfl (congrArg _ (rightCmd_t h0 (by omega))) rfl⟩
set_option maxRecDepth 8000 in
set_option maxHeartbeats 4000000 in
theorem c_refCmdRight (x : Cmd) (m : Mem) : E0 37 [.agg x.c] m (.bool (rightCmd x)) m := by
  refine EvF.by (nf := nf37) (args := [.agg x.c]) rfl (of_decide_eq_true rfl) rfl ?_
  have he := eq_cmd x cmd0
  by_cases h0 : x = cmd0
  · rw [decide_eq_true h0] at he
    repeat' (first | refine W.seq ?_ | refine W.region ?_ | refine WO.nil ?_ | refine WO.onG rfl ?_ | refine WO.offG rfl ?_ | (refine WO.fork rfl ?_ ?_ <;> intro hc <;> (fail_if_success (exfalso; cases hc; done)) <;> (first | subst hc | (simp at hc; try omega) | skip)) | (refine WO.isMv ?_; first | refine WO.go rfl rfl ?_ | refine WO.mvR rfl ?_) | (refine WO.isBin ?_; first | refine WO.testT rfl rfl ?_ | refine WO.testF rfl rfl ?_ | (refine WO.tleq rfl rfl rfl (fun hc => ?_) (fun hc => ?_) <;> try omega) | (refine WO.tgeq rfl rfl rfl (fun hc => ?_) (fun hc => ?_) <;> try omega) | (refine WO.teql rfl rfl rfl (fun hc => ?_) (fun hc => ?_) <;> try omega) | refine WO.tseql rfl rfl rfl (fun hc => ?_) (fun hc => ?_) | refine WO.go rfl rfl ?_) | (refine WO.isLoad ?_; first | refine WO.go rfl rfl ?_) | (refine WO.isLen ?_; first | refine WO.go rfl rfl ?_) | (refine WO.isEq ?_; first | refine WO.eqA rfl rfl rfl he ?_ | refine WO.go rfl rfl ?_) | refine WO.go rfl rfl ?_ | refine W.skip ?_ | refine W.condT rfl ?_ | refine W.condF rfl ?_ | (refine W.fork rfl ?_ ?_ <;> intro hc <;> (fail_if_success (exfalso; cases hc; done)) <;> (first | subst hc | (simp at hc; try omega) | skip)) | refine W.ret ?_)
    exact ⟨.inr rfl, _, rfl, fin rfl (congrArg _ (rightCmd_iff.2 (.inl h0)).symm) rfl⟩
  · rw [decide_eq_false h0] at he
    by_cases hv : x.value = ByteArray.empty
    · have hv0 := empty_iff.1 hv
      repeat' (first | refine W.seq ?_ | refine W.region ?_ | refine WO.nil ?_ | refine WO.onG rfl ?_ | refine WO.offG rfl ?_ | (refine WO.fork rfl ?_ ?_ <;> intro hc <;> (fail_if_success (exfalso; cases hc; done)) <;> (first | subst hc | (simp at hc; try omega) | skip)) | (refine WO.isMv ?_; first | refine WO.go rfl rfl ?_ | refine WO.mvR rfl ?_) | (refine WO.isBin ?_; first | refine WO.seqT rfl rfl rfl hv ?_ | refine WO.testT rfl rfl ?_ | refine WO.testF rfl rfl ?_ | (refine WO.tleq rfl rfl rfl (fun hc => ?_) (fun hc => ?_) <;> try omega) | (refine WO.tgeq rfl rfl rfl (fun hc => ?_) (fun hc => ?_) <;> try omega) | (refine WO.teql rfl rfl rfl (fun hc => ?_) (fun hc => ?_) <;> try omega) | refine WO.tseql rfl rfl rfl (fun hc => ?_) (fun hc => ?_) | refine WO.go rfl rfl ?_) | (refine WO.isLoad ?_; first | refine WO.go rfl rfl ?_) | (refine WO.isLen ?_; first | refine WO.go rfl rfl ?_) | (refine WO.isEq ?_; first | refine WO.eqA rfl rfl rfl he ?_ | refine WO.go rfl rfl ?_) | refine WO.go rfl rfl ?_ | refine W.skip ?_ | refine W.condT rfl ?_ | refine W.condF rfl ?_ | (refine W.fork rfl ?_ ?_ <;> intro hc <;> (fail_if_success (exfalso; cases hc; done)) <;> (first | subst hc | (simp at hc; try omega) | skip)) | refine W.ret ?_)
      all_goals first | exact ⟨.inr rfl, _, rfl, fin rfl (congrArg _ (rightCmd_f h0 (by omega))) rfl⟩ | exact ⟨.inr rfl, _, rfl, fin rfl (congrArg _ (rightCmd_t h0 (by omega))) rfl⟩
    · have hv0 := ne_empty hv
      repeat' (first | refine W.seq ?_ | refine W.region ?_ | refine WO.nil ?_ | refine WO.onG rfl ?_ | refine WO.offG rfl ?_ | (refine WO.fork rfl ?_ ?_ <;> intro hc <;> (fail_if_success (exfalso; cases hc; done)) <;> (first | subst hc | (simp at hc; try omega) | skip)) | (refine WO.isMv ?_; first | refine WO.go rfl rfl ?_ | refine WO.mvR rfl ?_) | (refine WO.isBin ?_; first | refine WO.seqF rfl rfl rfl hv ?_ | refine WO.testT rfl rfl ?_ | refine WO.testF rfl rfl ?_ | (refine WO.tleq rfl rfl rfl (fun hc => ?_) (fun hc => ?_) <;> try omega) | (refine WO.tgeq rfl rfl rfl (fun hc => ?_) (fun hc => ?_) <;> try omega) | (refine WO.teql rfl rfl rfl (fun hc => ?_) (fun hc => ?_) <;> try omega) | refine WO.tseql rfl rfl rfl (fun hc => ?_) (fun hc => ?_) | refine WO.go rfl rfl ?_) | (refine WO.isLoad ?_; first | refine WO.go rfl rfl ?_) | (refine WO.isLen ?_; first | refine WO.go rfl rfl ?_) | (refine WO.isEq ?_; first | refine WO.eqA rfl rfl rfl he ?_ | refine WO.go rfl rfl ?_) | refine WO.go rfl rfl ?_ | refine W.skip ?_ | refine W.condT rfl ?_ | refine W.condF rfl ?_ | (refine W.fork rfl ?_ ?_ <;> intro hc <;> (fail_if_success (exfalso; cases hc; done)) <;> (first | subst hc | (simp at hc; try omega) | skip)) | refine W.ret ?_)
      all_goals first | exact ⟨.inr rfl, _, rfl, fin rfl (congrArg _ (rightCmd_f h0 (by omega))) rfl⟩ | exact ⟨.inr rfl, _, rfl, fin rfl (congrArg _ (rightCmd_t h0 (by omega))) rfl⟩
end Go.Proofs.Ytehkfdicaiehcaa.Nv
