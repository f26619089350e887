/- What is chosen of replies that all know the same. -/
import Derived.Test.YthecdihimfddgaaChoose5
namespace Go.Proofs.Ythecdihimfddgaa.Nv
open Go
def cmdK : Cmd := ⟨2, 1, 1, ⟨#[107]⟩, ByteArray.empty⟩
def oneC (x : Cmd) : Cmd := if (wishOwn x).op = 0 then cmdK else wishOwn x
set_option maxRecDepth 8000 in
set_option maxHeartbeats 8000000 in
theorem c_one (x : Cmd) (own : Bool) (hx : okCmd x) (s : Int) (hs : 0 ≤ s) (za : Nat) (fa : Bool) (ra : List (List NV)) (ow : Bool) (z : Nat) (f : Bool) (rows : List (List NV)) (l : List ID) (hl : ∀ m : Mem, E0 46 [.slc z f rows] m (mkS 2 (l.map ID.c)) m) (M : Mem) :
    E0 19 [.agg (wishC x own), .agg [.int .u32 s, .slc za fa ra, .bool ow, .slc z f rows]] M (.tup [.agg (oneC x).c, .agg (attrR (s % 5) l)]) M := by
  refine EvF.by (nf := nf19) (args := [.agg (wishC x own), .agg [.int .u32 s, .slc za fa ra, .bool ow, .slc z f rows]]) rfl (of_decide_eq_true rfl) rfl ?_
  have hw := c_wish x true hx
  have hg := c_GoOwn s hs za fa ra z f rows l hl
  have e : wishF x true = wishOwn x := rfl
  rw [e] at hw
  have e2 : oneC x = if (wishOwn x).op = 0 then cmdK else wishOwn x := rfl
  generalize wishOwn x = k at hw e2
  by_cases h0 : k.op = 0
  · rw [if_pos h0] at e2
    rw [e2]
    repeat' (first | refine W.seq ?_ | refine W.region ?_ | refine W.drawn ?_ | refine WH.nil ?_ | refine WO.nil ?_ | (refine WO.isBin ?_; first | refine WO.eqT rfl rfl rfl h0 ?_ | refine WO.testT rfl rfl ?_ | refine WO.testF rfl rfl ?_ | (refine WO.teql rfl rfl rfl (fun hc => ?_) (fun hc => ?_) <;> try omega) | refine WO.tseql rfl rfl rfl (fun hc => ?_) (fun hc => ?_) | refine WO.go rfl rfl ?_) | (refine WO.isCall ?_; first | refine WO.ask rfl rfl (hw _) ?_ | refine WO.ask' rfl rfl (hw _) ?_ | refine WO.ask rfl rfl (hg _) ?_ | refine WO.ask' rfl rfl (hg _) ?_) | (refine WO.isLoad ?_; first | refine WO.go rfl rfl ?_) | (refine WO.isStore ?_; first | refine WO.st rfl rfl ?_) | refine WO.go rfl rfl ?_ | refine WO.st rfl rfl ?_ | (refine WH.isCall ?_; first | refine WH.ask rfl rfl rfl rfl (hw _) ?_ | refine WH.ask rfl rfl rfl rfl (hg _) ?_) | (refine WH.isLoad ?_; first | refine WH.go rfl rfl rfl ?_) | refine WH.go rfl rfl rfl ?_ | refine W.skip ?_ | refine W.condT rfl ?_ | refine W.condF rfl ?_ | (refine W.fork rfl ?_ ?_ <;> intro hc <;> (fail_if_success (exfalso; cases hc; done)) <;> (first | subst hc | (simp at hc; try omega) | skip)) | refine W.ret ?_)
    exact ⟨.inr rfl, _, rfl, fin rfl rfl rfl⟩
  · rw [if_neg h0] at e2
    rw [e2]
    repeat' (first | refine W.seq ?_ | refine W.region ?_ | refine W.drawn ?_ | refine WH.nil ?_ | refine WO.nil ?_ | (refine WO.isBin ?_; first | refine WO.eqF rfl rfl rfl h0 ?_ | refine WO.testT rfl rfl ?_ | refine WO.testF rfl rfl ?_ | (refine WO.teql rfl rfl rfl (fun hc => ?_) (fun hc => ?_) <;> try omega) | refine WO.tseql rfl rfl rfl (fun hc => ?_) (fun hc => ?_) | refine WO.go rfl rfl ?_) | (refine WO.isCall ?_; first | refine WO.ask rfl rfl (hw _) ?_ | refine WO.ask' rfl rfl (hw _) ?_ | refine WO.ask rfl rfl (hg _) ?_ | refine WO.ask' rfl rfl (hg _) ?_) | (refine WO.isLoad ?_; first | refine WO.go rfl rfl ?_) | (refine WO.isStore ?_; first | refine WO.st rfl rfl ?_) | refine WO.go rfl rfl ?_ | refine WO.st rfl rfl ?_ | (refine WH.isCall ?_; first | refine WH.ask rfl rfl rfl rfl (hw _) ?_ | refine WH.ask rfl rfl rfl rfl (hg _) ?_) | (refine WH.isLoad ?_; first | refine WH.go rfl rfl rfl ?_) | refine WH.go rfl rfl rfl ?_ | refine W.skip ?_ | refine W.condT rfl ?_ | refine W.condF rfl ?_ | (refine W.fork rfl ?_ ?_ <;> intro hc <;> (fail_if_success (exfalso; cases hc; done)) <;> (first | subst hc | (simp at hc; try omega) | skip)) | refine W.ret ?_)
    exact ⟨.inr rfl, _, rfl, fin rfl rfl rfl⟩
theorem someF_snoc (p : Rp → Bool) (l : List Rp) (r : Rp) : someF p (l ++ [r]) = someF p l ++ if p r then [r.x] else [] := by
  unfold someF
  rw [List.filter_append, List.map_append]
  cases hp : p r <;> simp [hp]
theorem cntd_id {n : Int} {l : List Rp} (hn : (l.map Rp.who).Nodup) (hr : ∀ r ∈ l, 1 ≤ r.who ∧ r.who ≤ n) : cntd n l = l := by
  have key : ∀ (l out : List Rp), ((out ++ l).map Rp.who).Nodup → (∀ r ∈ l, 1 ≤ r.who ∧ r.who ≤ n) → l.foldl (fun out r => if cntP n out r then out ++ [r] else out) out = out ++ l := by
    intro l
    induction l with
    | nil => intro out _ _; simp
    | cons x l ih =>
      intro out h hr
      have hx := hr x (.head _)
      have hnot : (out.any fun o => decide (o.who = x.who)) = false := by
        rw [List.any_eq_false]
        intro o ho hh
        rw [List.map_append, List.nodup_append] at h
        exact h.2.2 o.who (List.mem_map.2 ⟨o, ho, rfl⟩) x.who (List.mem_map.2 ⟨x, .head _, rfl⟩) (of_decide_eq_true hh)
      have hp : cntP n out x = true := by unfold cntP; rw [hnot, decide_eq_true hx]; rfl
      rw [List.foldl_cons]
      rw [if_pos hp, ih (out ++ [x]) (by rw [List.append_assoc]; exact h) (fun r hr' => hr r (.tail _ hr'))]
      rw [List.append_assoc]; rfl
  exact key l [] hn hr
/-- Replies of 1 to k: nothing known, or the same. -/
structure Ni (o : Int) (x0 : Ix) (vt : Bool → Ix) (k : Nat) (R : List Rp) (same some : Int) (owned : Bool) : Prop where
  len : R.length = k
  el : ∀ r ∈ R, r.x = x0 ∨ ∃ b, r.x = vt b
  who : ∀ r ∈ R, 1 ≤ r.who ∧ r.who ≤ k
  nd : (R.map Rp.who).Nodup
  c1 : same = (someF ownP R).length
  c2 : some = (someF (stP 1 1) R).length
  c3 : owned = !(someF (ownerP o) R).isEmpty
theorem Ni.nil (o : Int) (x0 : Ix) (vt : Bool → Ix) : Ni o x0 vt 0 [] 0 0 false := ⟨rfl, fun r h => by simp at h, fun r h => by simp at h, .nil, rfl, rfl, rfl⟩
theorem Ni.snoc {o : Int} {x0 : Ix} {vt : Bool → Ix} {k : Nat} {R : List Rp} {same some : Int} {owned : Bool} (h : Ni o x0 vt k R same some owned) (x : Ix) (hx : x = x0 ∨ ∃ b, x = vt b) (same' some' : Int) (owned' : Bool)
    (h1 : same' = same + if ownP ⟨(k : Int) + 1, x⟩ then 1 else 0) (h2 : some' = some + if stP 1 1 ⟨(k : Int) + 1, x⟩ then 1 else 0) (h3 : owned' = (owned || ownerP o ⟨(k : Int) + 1, x⟩)) : Ni o x0 vt (k + 1) (R ++ [⟨(k : Int) + 1, x⟩]) same' some' owned' := by
  refine ⟨by rw [List.length_append, h.len]; rfl, fun r hr => ?_, fun r hr => ?_, ?_, ?_, ?_, ?_⟩
  · rcases List.mem_append.1 hr with q | q
    · exact h.el r q
    · rw [List.mem_singleton.1 q]; exact hx
  · rcases List.mem_append.1 hr with q | q
    · have := h.who r q; omega
    · rw [List.mem_singleton.1 q]; exact ⟨by show (1 : Int) ≤ (k : Int) + 1; omega, by show (k : Int) + 1 ≤ ((k + 1 : Nat) : Int); omega⟩
  · rw [List.map_append, List.nodup_append]
    refine ⟨h.nd, by simp, fun a ha b hb => ?_⟩
    obtain ⟨r, hr, rfl⟩ := List.mem_map.1 ha
    have hw := h.who r hr
    rw [List.map_singleton, List.mem_singleton] at hb
    rw [hb]
    show r.who ≠ (k : Int) + 1
    omega
  · rw [h1, h.c1, someF_snoc, List.length_append]
    split <;> simp
  · rw [h2, h.c2, someF_snoc, List.length_append]
    split <;> simp
  · rw [h3, h.c3, someF_snoc]
    cases hp : ownerP o ⟨(k : Int) + 1, x⟩
    · simp
    · simp
/-- What such replies come to. -/
theorem Ni.chosen {o n f : Int} {x0 : Ix} {vt : Bool → Ix} {k : Nat} {R : List Rp} {same some : Int} {owned : Bool} (h : Ni o x0 vt k R same some owned) (hf : faults n = f) (hf1 : 1 ≤ f) (hk : (k : Int) = f + 1) (hkn : (k : Int) ≤ n)
    (h0 : x0.st = 0) (hv : ∀ b, (vt b).st = 1 ∧ (vt b).vote = bl0 ∧ (vt b).own = b) :
    (some = 0 → chosen n o R = ⟨2, cmd0, 0, []⟩) ∧ (some ≠ 0 → owned = false → f ≤ same → chosen n o R = ofC 2 (vt true)) ∧ (some ≠ 0 → (owned = true ∨ same < f) → ∃ b, chosen n o R = ⟨3, (vt b).cmd, 0, []⟩) := by
  have hid : cntd n R = R := cntd_id h.nd (fun r hr => by have := h.who r hr; omega)
  have hen : enough n R = true := by
    unfold enough
    rw [hid, hf, h.len]
    exact decide_eq_true ⟨by omega, by omega⟩
  have st : ∀ r ∈ R, r.x.st = 0 ∨ r.x.st = 1 := fun r hr => by
    rcases h.el r hr with q | ⟨b, q⟩
    · rw [q]; exact .inl h0
    · rw [q]; exact .inr (hv b).1
  have e34 : someF (stP 3 4) R = [] := someF_nil fun r hr => decide_eq_false (by have := st r hr; omega)
  have e22 : someF (stP 2 2) R = [] := someF_nil fun r hr => decide_eq_false (by have := st r hr; omega)
  have hmem : ∀ (p : Rp → Bool) x, x ∈ someF p R → ∃ r ∈ R, p r = true ∧ r.x = x := fun p x hx => by
    unfold someF at hx
    obtain ⟨r, q1, q2⟩ := List.mem_map.1 hx
    obtain ⟨q3, q4⟩ := List.mem_filter.1 q1
    exact ⟨r, q3, q4, q2⟩
  have ow : ∀ x ∈ someF ownP R, x = vt true := fun x hx => by
    obtain ⟨r, q1, q2, rfl⟩ := hmem _ _ hx
    rcases h.el r q1 with q | ⟨b, q⟩
    · unfold ownP at q2
      rw [q, h0] at q2
      simp at q2
    · unfold ownP at q2
      rw [q, (hv b).2.2] at q2
      simp only [Bool.and_eq_true] at q2
      rw [q, q2.2]
  have o1 : ∀ x ∈ someF (stP 1 1) R, ∃ b, x = vt b := fun x hx => by
    obtain ⟨r, q1, q2, rfl⟩ := hmem _ _ hx
    rcases h.el r q1 with q | q
    · have := of_decide_eq_true q2
      rw [q, h0] at this
      omega
    · exact q
  have sub : (someF ownP R).length ≤ (someF (stP 1 1) R).length := by
    unfold someF
    rw [List.length_map, List.length_map, ← List.countP_eq_length_filter, ← List.countP_eq_length_filter]
    refine List.countP_mono_left fun r _ hq => ?_
    unfold ownP at hq
    simp only [Bool.and_eq_true, decide_eq_true_eq] at hq
    exact decide_eq_true ⟨by omega, by omega⟩
  have base : Nv.chosen n o R = match someF ownP R, decide (f ≤ (someF ownP R).length ∧ someF (ownerP o) R = []) with
        | x :: _, true => ofC 2 x
        | _, _ => match someF (stP 1 1) R with
          | x :: xs => ⟨3, (maxV x xs).cmd, 0, []⟩
          | [] => ⟨2, cmd0, 0, []⟩ := by
    unfold Nv.chosen
    rw [hen, if_pos rfl, hid, e34, e22, hf]
    rfl
  have c1 := h.c1
  have c2 := h.c2
  have c3 := h.c3
  generalize someF ownP R = So at *
  generalize someF (stP 1 1) R = S1 at *
  generalize someF (ownerP o) R = Sw at *
  refine ⟨fun hs => ?_, fun hs how hsame => ?_, fun hs hor => ?_⟩
  · have l1 : S1 = [] := List.length_eq_zero_iff.1 (by omega)
    have l2 : So = [] := List.length_eq_zero_iff.1 (by omega)
    subst l1 l2
    rw [base]
  · have hw : Sw = [] := by
      rw [how] at c3
      cases Sw with
      | nil => rfl
      | cons a b => simp at c3
    rw [base, decide_eq_true ⟨by omega, hw⟩]
    cases So with
    | nil => simp at c1; omega
    | cons a b => rw [ow a (.head _)]
  · have hd : decide (f ≤ So.length ∧ Sw = []) = false := decide_eq_false fun ⟨q1, q2⟩ => by
      rcases hor with q | q
      · rw [q, q2] at c3; simp at c3
      · omega
    rw [base, hd]
    cases S1 with
    | nil => simp at c2; omega
    | cons a b =>
      obtain ⟨b', hb'⟩ := o1 _ (maxV_mem b a)
      refine ⟨b', ?_⟩
      rw [← hb']
      cases So <;> rfl
end Go.Proofs.Ythecdihimfddgaa.Nv
