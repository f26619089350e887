/- JudgeHonest. -/
import Derived.Test.YtehkfdicaiehcaaJudge4
namespace Go.Proofs.Ytehkfdicaiehcaa.Nv
open Go
abbrev Asks := List ((Int × Int) × Bool)
def askAll (S : Asks) (C : List Cmd) : Asks := C.foldl (fun S c => aput (c.client, c.seq) true S) S
theorem honest_ask (R : List Reply) (v : List Ev) : ∀ (C : List Cmd) (S : Asks), honestF R S (C.map evA ++ v) = honestF R (askAll S C) v
  | [], S => rfl
  | c :: C, S => by
    rw [List.map_cons, List.cons_append, honestF, if_pos (show (evA c).kind = 1 from rfl)]
    exact honest_ask R v C _
theorem ask_keep (k : Int × Int) : ∀ (C : List Cmd) (S : Asks), alook k S = some true → alook k (askAll S C) = some true
  | [], S, h => h
  | c :: C, S, h => ask_keep k C _ (by rw [alook_put]; split; rfl; exact h)
theorem ask_mem : ∀ (C : List Cmd) (S : Asks) (c : Cmd), c ∈ C → alook (c.client, c.seq) (askAll S C) = some true
  | d :: C, S, c, h => by
    rcases List.mem_cons.1 h with rfl | h
    · exact ask_keep _ C _ (by rw [alook_put, if_pos rfl])
    · exact ask_mem C _ c h
theorem honest_told (R : List Reply) (S : Asks) : ∀ A : List Reply, (∀ r ∈ A, alook (r.client, r.seq) S = some true ∧ R.any (liesTo r) = false) → honestF R S (A.map evR) = true
  | [], _ => rfl
  | r :: A, h => by
    obtain ⟨h1, h2⟩ := h r (List.mem_cons_self ..)
    rw [List.map_cons, honestF, if_neg (show ¬ (evR r).kind = 1 from (by decide : ¬ (2 : Int) = 1)), if_pos (show (evR r).kind = 2 from rfl)]
    show (if (alook (r.client, r.seq) S).getD false && !R.any (liesTo r) then honestF R S (A.map evR) else false) = true
    rw [h1, h2]
    exact honest_told R S A fun r hr => h r (List.mem_cons_of_mem _ hr)
theorem honest_lie (R : List Reply) : ∀ (v : List Ev) (S : Asks), honestF R S v = true → ∀ w ∈ v, w.kind = 2 → R.any (liesTo w.reply) = false
  | u :: v, S, h, w, hw, hk => by
    rw [honestF] at h
    by_cases h1 : u.kind = 1
    · rw [if_pos h1] at h
      rcases List.mem_cons.1 hw with rfl | hw
      · omega
      · exact honest_lie R v _ h w hw hk
    · rw [if_neg h1] at h
      by_cases h2 : u.kind = 2
      · rw [if_pos h2] at h
        split at h
        · rename_i hq
          rw [Bool.and_eq_true] at hq
          rcases List.mem_cons.1 hw with rfl | hw
          · simpa using hq.2
          · exact honest_lie R v _ h w hw hk
        · cases h
      · rw [if_neg h2] at h
        rcases List.mem_cons.1 hw with rfl | hw
        · exact absurd hk h2
        · exact honest_lie R v _ h w hw hk
theorem runS_mem : ∀ (l : List Cmd) (V : Vals) (D : Dones) (r : Reply), r ∈ runS V D l → ∃ c ∈ l, c.client = r.client ∧ c.seq = r.seq
  | c :: l, V, D, r, h => by
    unfold runS at h
    split at h
    · rcases List.mem_cons.1 h with rfl | h
      · exact ⟨c, List.mem_cons_self .., rfl, rfl⟩
      · obtain ⟨d, hd, q⟩ := runS_mem l _ _ r h
        exact ⟨d, List.mem_cons_of_mem _ hd, q⟩
    · obtain ⟨d, hd, q⟩ := runS_mem l _ _ r h
      exact ⟨d, List.mem_cons_of_mem _ hd, q⟩
theorem distinct_mem : ∀ {A : List Reply}, (A.Pairwise fun x y => ¬ (x.client = y.client ∧ x.seq = y.seq)) → ∀ x ∈ A, ∀ y ∈ A, x.client = y.client → x.seq = y.seq → x = y
  | a :: A, h, x, hx, y, hy, h1, h2 => by
    obtain ⟨ha, hA⟩ := List.pairwise_cons.1 h
    rcases List.mem_cons.1 hx with hx1 | hx1
    · rcases List.mem_cons.1 hy with hy1 | hy1
      · rw [hx1, hy1]
      · subst hx1; exact absurd ⟨h1, h2⟩ (ha y hy1)
    · rcases List.mem_cons.1 hy with hy1 | hy1
      · subst hy1; exact absurd ⟨h1.symm, h2.symm⟩ (ha x hx1)
      · exact distinct_mem hA x hx1 y hy1 h1 h2
theorem no_lie (C : List Cmd) {r : Reply} (hr : r ∈ replay C) : (replay C).any (liesTo r) = false := by
  cases h : (replay C).any (liesTo r)
  · rfl
  · obtain ⟨x, hx, hl⟩ := List.any_eq_true.1 h
    unfold liesTo at hl
    rw [Bool.and_eq_true, Bool.and_eq_true, decide_eq_true_eq, decide_eq_true_eq] at hl
    have := distinct_mem (runS_new C [] []).2 x hx r hr hl.1 hl.2.1
    simp [this] at hl
theorem honest_all (C : List Cmd) (R : List Reply) (h : ∀ r ∈ replay C, R.any (liesTo r) = false) : honestF R [] (C.map evA ++ (replay C).map evR) = true := by
  rw [honest_ask]
  refine honest_told R _ _ fun r hr => ⟨?_, h r hr⟩
  obtain ⟨c, hc, h1, h2⟩ := runS_mem C [] [] r hr
  rw [← h1, ← h2]
  exact ask_mem C [] c hc
theorem honest_not (C : List Cmd) (q : Nat) (hq : q < (replay C).length) : honestF (replay C) [] (C.map evA ++ (replay C).mapIdx (lieAt q)) = false := by
  cases h : honestF (replay C) [] (C.map evA ++ (replay C).mapIdx (lieAt q))
  · rfl
  · obtain ⟨r, hr⟩ := get_lt hq
    have hm : evR (flip r) ∈ C.map evA ++ (replay C).mapIdx (lieAt q) := List.mem_append_right _ (List.mem_of_getElem? (i := q) (by rw [List.getElem?_mapIdx, hr]; show some (evR (if q = q then flip r else r)) = _; rw [if_pos rfl]))
    have hn := honest_lie (replay C) _ [] h _ hm rfl
    have hy : (replay C).any (liesTo (evR (flip r)).reply) = true := by
      refine List.any_eq_true.2 ⟨r, List.mem_of_getElem? hr, ?_⟩
      show (decide (r.client = r.client) && (decide (r.seq = r.seq) && !decide (r = flip r))) = true
      have : ¬ r = flip r := fun q => by
        have := congrArg Reply.found q
        simp [flip] at this
      simp [this]
    rw [hn] at hy
    cases hy
theorem asked_all (C : List Cmd) (v : List Ev) : C.all (askedBy (C.map evA ++ v)) = true := by
  refine List.all_eq_true.2 fun c hc => ?_
  unfold askedBy
  refine List.any_eq_true.2 ⟨evA c, List.mem_append_left _ (List.mem_map_of_mem hc), ?_⟩
  show (decide ((1 : Int) = 1) && decide (c = c)) = true
  simp
theorem E0.args {f : FuncId} {l l' : List NV} {m m' : Mem} {v : NV} (h : shArgs l = shArgs l') (H : E0 f l' m v m') : E0 f l m v m' := by
  obtain ⟨n, H⟩ := H
  cases n with
  | zero => exact H.elim
  | succ n =>
    rcases H with ⟨hx, _⟩ | ⟨nf, a0, x, e1, m1, v1, a, b, c, d⟩
    · exact hx.elim
    · exact ⟨n + 1, .inr ⟨nf, a0, x, e1, m1, v1, a, b, h.trans c, d⟩⟩
def own (x : Cmd × Bool) : Cmd × Bool := (x.1, true)
structure Y5 where
  k : Nat
  R : List (List NV)
  t : Nat
  ts : List Bool
  junk : List NObj
set_option maxRecDepth 8000 in
set_option maxHeartbeats 8000000 in
theorem law5v (xs : List (Cmd × Bool)) (a1 : Int) (b1 : (0 : Int) ≤ a1 ∧ a1 ≤ 255) (hl : xs.length ≤ 140737488351232) (C : List Cmd) (hC : C.length ≤ 12)
    (hw : ∀ m : Mem, E0 9 [mkS 6 (((xs.map own).take 12).map wishP)] m (mkS 5 (C.map Cmd.c)) m) :
    E0 5 [.slc 6 false (xs.map wishP), .int .u8 a1] [] (.bool true) [] := by
  refine EvF.by (nf := nf5) (args := [.slc 6 false (xs.map wishP), .int .u8 a1]) rfl (of_decide_eq_true rfl) rfl ?_
  have lC : (C.map Cmd.c).length = C.length := List.length_map ..
  have hAl : (replay C).length ≤ C.length := runS_len C [] []
  have lA : ((replay C).map Reply.c).length = (replay C).length := List.length_map ..
  have hr := fun m => c_Replay C (mz 5 (C.map Cmd.c)) (C.map Cmd.c).isEmpty ((mz_or 5 (C.map Cmd.c)).imp id map_nil.1) (by omega) m
  obtain ⟨q, hq⟩ : ∃ q : Nat, (replay C).length ≠ 0 → a1 % ((replay C).length : Int) = q ∧ q < (replay C).length := by
    by_cases h0 : (replay C).length = 0
    · exact ⟨0, fun h => absurd h0 h⟩
    · have h1 := Int.emod_nonneg a1 (b := ((replay C).length : Int)) (by omega)
      have h2 := Int.emod_lt_of_pos a1 (b := ((replay C).length : Int)) (by omega)
      exact ⟨(a1 % ((replay C).length : Int)).toNat, fun _ => ⟨by omega, by omega⟩⟩
  have hask := fun z f rows hw => c_asked z f rows a1 b1 C (replay C) hC (by omega) hw hr q (fun h => (hq h).1)
  have hE : (C.map evA ++ (replay C).map evR).length ≤ 24 := by rw [List.length_append, List.length_map, List.length_map]; omega
  have hL : (C.map evA ++ (replay C).mapIdx (lieAt q)).length ≤ 24 := by rw [List.length_append, List.length_map, List.length_mapIdx]; omega
  have t1 := honest_all C (replay C) fun r hr => no_lie C hr
  have t2 := honest_all C (replay []) fun r hr => rfl
  have t3 := asked_all C ((replay C).map evR)
  have t4 : (replay C).length ≠ 0 → honestF (replay C) [] (C.map evA ++ (replay C).mapIdx (lieAt q)) = false := fun h => honest_not C q (hq h).2
  generalize hEe : C.map evA ++ (replay C).map evR = E at hask hE t1 t2 t3
  generalize hLe : C.map evA ++ (replay C).mapIdx (lieAt q) = L at hask hL t4
  have zC : mz 5 (C.map Cmd.c) = 5 ∨ C = [] := (mz_or _ _).imp id map_nil.1
  have zE : mz 13 (E.map Ev.c) = 13 ∨ E = [] := (mz_or _ _).imp id map_nil.1
  have zL : mz 13 (L.map Ev.c) = 13 ∨ L = [] := (mz_or _ _).imp id map_nil.1
  have c1 := c_Honest C _ (C.map Cmd.c).isEmpty zC (by omega) E _ (E.map Ev.c).isEmpty zE (by omega)
  rw [t1] at c1
  have c2 := c_Honest [] 0 true (.inr rfl) (Nat.zero_le _) E _ (E.map Ev.c).isEmpty zE (by omega)
  rw [t2] at c2
  have c3 := c_Asked C _ (C.map Cmd.c).isEmpty zC (by omega) E _ (E.map Ev.c).isEmpty zE (by omega)
  rw [t3] at c3
  have c4 := c_Honest C _ (C.map Cmd.c).isEmpty zC (by omega) L _ (L.map Ev.c).isEmpty zL (by omega)
  generalize honestF (replay C) [] L = bad at c4 t4
  generalize replay C = A at hAl lA hr hask hq t4
  repeat' (first | refine W.seq ?_ | refine W.region ?_ | refine WO.nil ?_ | refine WO.onG rfl ?_ | refine WO.offG rfl ?_ | (refine WO.fork rfl ?_ ?_ <;> intro hc <;> (fail_if_success (exfalso; cases hc; done)) <;> (first | subst hc | (simp at hc; try omega) | skip)) | (refine WO.isMv ?_; first | refine WO.go rfl rfl ?_ | refine WO.mvR rfl ?_) | (refine WO.isBin ?_; first | refine WO.add64 rfl rfl rfl (by omega) (by omega) ?_ | refine WO.addU32 rfl rfl rfl (by omega) (by omega) ?_ | refine WO.addU64 rfl rfl rfl (by omega) (by omega) ?_ | refine WO.addU8 rfl rfl rfl (by omega) (by omega) ?_ | refine WO.testT rfl rfl ?_ | refine WO.testF rfl rfl ?_ | (refine WO.tlss rfl rfl rfl (fun hc => ?_) (fun hc => ?_) <;> try omega) | (refine WO.tleq rfl rfl rfl (fun hc => ?_) (fun hc => ?_) <;> try omega) | (refine WO.teql rfl rfl rfl (fun hc => ?_) (fun hc => ?_) <;> try omega) | refine WO.tseql rfl rfl rfl (fun hc => ?_) (fun hc => ?_) | refine WO.go rfl rfl ?_) | (refine WO.isUn ?_; first | refine WO.go rfl rfl ?_) | (refine WO.isCall ?_; first | refine WO.ask rfl rfl (c_examples _) ?_ | refine WO.ask' rfl rfl (c_examples _) ?_) | (refine WO.isLoad ?_; first | refine WO.go rfl rfl ?_ | refine WO.ldc rfl rfl blk_l1 rfl rfl ?_ | refine WO.lda rfl rfl blk_l1 (of_decide_eq_true rfl) rfl ?_ | refine WO.ldc rfl rfl blk_l2 rfl rfl ?_ | refine WO.lda rfl rfl blk_l2 (of_decide_eq_true rfl) rfl ?_ | refine WO.ldc rfl rfl blk_l3 rfl rfl ?_ | refine WO.lda rfl rfl blk_l3 (of_decide_eq_true rfl) rfl ?_) | (refine WO.isStore ?_; first | refine WO.st rfl rfl ?_ | refine WO.stB rfl rfl rfl rfl rfl blk_l1 (of_decide_eq_true rfl) rfl set_l1 ?_ | refine WO.stB rfl rfl rfl rfl rfl blk_l2 (of_decide_eq_true rfl) rfl set_l2 ?_ | refine WO.stB rfl rfl rfl rfl rfl blk_l3 (of_decide_eq_true rfl) rfl set_l3 ?_) | (refine WO.isIaddr ?_; first | refine WO.go rfl rfl ?_) | (refine WO.isLen ?_; first | refine WO.go rfl rfl ?_) | (refine WO.isApp ?_; first | refine WO.go rfl rfl ?_) | refine WO.go rfl rfl ?_ | refine WO.st rfl rfl ?_ | refine W.skip ?_ | refine W.condT rfl ?_ | refine W.condF rfl ?_ | (refine W.fork rfl ?_ ?_ <;> intro hc <;> (fail_if_success (exfalso; cases hc; done)) <;> (first | subst hc | (simp at hc; try omega) | skip)) | refine W.ret ?_ | refine W.block ?_ | refine W.exit ?_)
  refine W.ind (σ := Y5) (fun s => [(0, .slc 6 false (xs.map wishP)), (1, .int .u8 a1), (5, .bool true), (6, apV 6 s.R s.t), (7, .int .i64 s.k)]) (fun s => [⟨s.junk, s.ts⟩]) (fun s => s.k ≤ xs.length ∧ s.k ≤ 12 ∧ s.R.length = s.k ∧ s.R = ((xs.map own).take s.k).map wishP ∧ tokOf s.R s.ts s.t) (fun s => 12 - s.k) ⟨0, [], 0, [], []⟩ ⟨Nat.zero_le _, Nat.zero_le _, rfl, rfl, .inl rfl⟩ ⟨rfl, rfl, rfl, rfl, rfl, trivial⟩ rfl ?_
  rintro ⟨k, R, t, ts, junk⟩ e ⟨h1, h2, hlen, hR, ht⟩ IH
  dsimp only at h1 h2 hlen hR ht ⊢
  refine W.round ?_
  by_cases h : k < xs.length ∧ k < 12
  · obtain ⟨h3, h4⟩ := h
    obtain ⟨x, hx⟩ := get_lt h3
    have hrow := map_get (f := wishP) hx
    repeat' (first | refine W.seq ?_ | refine W.region ?_ | refine WO.nil ?_ | refine WO.app (rows := R) (t := t) rfl rfl rfl rfl rfl ht (by show (_ + 1) * _ ≤ _; omega) (by show _ + 1 ≤ _; omega) fun ts t ht => ?_ | refine WO.onG rfl ?_ | refine WO.offG rfl ?_ | (refine WO.fork rfl ?_ ?_ <;> intro hc <;> (fail_if_success (exfalso; cases hc; done)) <;> (first | subst hc | (simp at hc; try omega) | skip)) | (refine WO.isMv ?_; first | refine WO.go rfl rfl ?_ | refine WO.mvR rfl ?_) | (refine WO.isBin ?_; first | refine WO.add64 rfl rfl rfl (by omega) (by omega) ?_ | refine WO.addU32 rfl rfl rfl (by omega) (by omega) ?_ | refine WO.addU64 rfl rfl rfl (by omega) (by omega) ?_ | refine WO.addU8 rfl rfl rfl (by omega) (by omega) ?_ | refine WO.testT rfl rfl ?_ | refine WO.testF rfl rfl ?_ | (refine WO.tlss rfl rfl rfl (fun hc => ?_) (fun hc => ?_) <;> try omega) | (refine WO.tleq rfl rfl rfl (fun hc => ?_) (fun hc => ?_) <;> try omega) | (refine WO.teql rfl rfl rfl (fun hc => ?_) (fun hc => ?_) <;> try omega) | refine WO.tseql rfl rfl rfl (fun hc => ?_) (fun hc => ?_) | refine WO.go rfl rfl ?_) | (refine WO.isUn ?_; first | refine WO.go rfl rfl ?_) | (refine WO.isLoad ?_; first | refine WO.go rfl rfl ?_ | refine WO.ldc rfl rfl blk_l1 rfl rfl ?_ | refine WO.lda rfl rfl blk_l1 (of_decide_eq_true rfl) rfl ?_ | refine WO.ldc rfl rfl blk_l2 rfl rfl ?_ | refine WO.lda rfl rfl blk_l2 (of_decide_eq_true rfl) rfl ?_ | refine WO.ldc rfl rfl blk_l3 rfl rfl ?_ | refine WO.lda rfl rfl blk_l3 (of_decide_eq_true rfl) rfl ?_) | (refine WO.isStore ?_; first | refine WO.st rfl rfl ?_ | refine WO.stB rfl rfl rfl rfl rfl blk_l1 (of_decide_eq_true rfl) rfl set_l1 ?_ | refine WO.stB rfl rfl rfl rfl rfl blk_l2 (of_decide_eq_true rfl) rfl set_l2 ?_ | refine WO.stB rfl rfl rfl rfl rfl blk_l3 (of_decide_eq_true rfl) rfl set_l3 ?_) | (refine WO.isIaddr ?_; first | refine WO.slidx rfl rfl rfl rfl rfl hrow ?_ | refine WO.go rfl rfl ?_) | (refine WO.isLen ?_; first | refine WO.lenS rfl rfl (List.length_map ..) ?_ | refine WO.go rfl rfl ?_) | (refine WO.isApp ?_; first | refine WO.go rfl rfl ?_) | refine WO.go rfl rfl ?_ | refine WO.st rfl rfl ?_ | refine W.skip ?_ | refine W.condT rfl ?_ | refine W.condF rfl ?_ | (refine W.fork rfl ?_ ?_ <;> intro hc <;> (fail_if_success (exfalso; cases hc; done)) <;> (first | subst hc | (simp at hc; try omega) | skip)) | refine W.ret ?_ | refine W.block ?_ | refine W.exit ?_)
    refine IH ⟨k + 1, R ++ [wishP (own x)], _, _, _⟩ _ _ (by show 12 - (k + 1) < 12 - k; omega) ⟨h3, h4, by show (R ++ [wishP (own x)]).length = k + 1; rw [List.length_append, hlen]; rfl, ?_, ht⟩ ⟨rfl, rfl, rfl, rfl, rfl, trivial⟩ rfl
    show R ++ [wishP (own x)] = ((xs.map own).take (k + 1)).map wishP
    rw [take_succ_map (f := wishP) (map_get (f := own) hx), hR]
  · have hfin : R = ((xs.map own).take 12).map wishP := by
      rw [hR]
      congr 1
      rcases Nat.le_total xs.length 12 with g | g
      · rw [show k = xs.length by omega, List.take_of_length_le (by simp), List.take_of_length_le (by simpa using g)]
      · rw [show k = 12 by omega]
    rw [← hfin] at hw
    by_cases hA0 : A.length = 0
    · have hA0' : (A.length : Int) = 0 := by omega
      rcases R with _ | ⟨r0, R'⟩
      · repeat' (first | refine W.seq ?_ | refine W.region ?_ | refine WO.nil ?_ | refine WO.onG rfl ?_ | refine WO.offG rfl ?_ | (refine WO.fork rfl ?_ ?_ <;> intro hc <;> (fail_if_success (exfalso; cases hc; done)) <;> (first | subst hc | (simp at hc; try omega) | skip)) | (refine WO.isMv ?_; first | refine WO.go rfl rfl ?_ | refine WO.mvR rfl ?_) | (refine WO.isBin ?_; first | refine WO.eqT rfl rfl rfl hA0' ?_ | refine WO.add64 rfl rfl rfl (by omega) (by omega) ?_ | refine WO.addU32 rfl rfl rfl (by omega) (by omega) ?_ | refine WO.addU64 rfl rfl rfl (by omega) (by omega) ?_ | refine WO.addU8 rfl rfl rfl (by omega) (by omega) ?_ | refine WO.testT rfl rfl ?_ | refine WO.testF rfl rfl ?_ | (refine WO.tlss rfl rfl rfl (fun hc => ?_) (fun hc => ?_) <;> try omega) | (refine WO.tleq rfl rfl rfl (fun hc => ?_) (fun hc => ?_) <;> try omega) | (refine WO.teql rfl rfl rfl (fun hc => ?_) (fun hc => ?_) <;> try omega) | refine WO.tseql rfl rfl rfl (fun hc => ?_) (fun hc => ?_) | refine WO.go rfl rfl ?_) | (refine WO.isUn ?_; first | refine WO.go rfl rfl ?_) | (refine WO.isCall ?_; first | refine WO.ask rfl rfl (hw _) ?_ | refine WO.ask' rfl rfl (hw _) ?_ | refine WO.ask rfl rfl (hr _) ?_ | refine WO.ask' rfl rfl (hr _) ?_ | refine WO.ask rfl rfl (hask _ _ _ hw _) ?_ | refine WO.ask' rfl rfl (hask _ _ _ hw _) ?_ | refine WO.ask rfl rfl (c1 _) ?_ | refine WO.ask' rfl rfl (c1 _) ?_ | refine WO.ask rfl rfl (c2 _) ?_ | refine WO.ask' rfl rfl (c2 _) ?_ | refine WO.ask rfl rfl (c3 _) ?_ | refine WO.ask' rfl rfl (c3 _) ?_) | (refine WO.isLoad ?_; first | refine WO.go rfl rfl ?_ | refine WO.ldc rfl rfl blk_l1 rfl rfl ?_ | refine WO.lda rfl rfl blk_l1 (of_decide_eq_true rfl) rfl ?_ | refine WO.ldc rfl rfl blk_l2 rfl rfl ?_ | refine WO.lda rfl rfl blk_l2 (of_decide_eq_true rfl) rfl ?_ | refine WO.ldc rfl rfl blk_l3 rfl rfl ?_ | refine WO.lda rfl rfl blk_l3 (of_decide_eq_true rfl) rfl ?_) | (refine WO.isStore ?_; first | refine WO.st rfl rfl ?_ | refine WO.stB rfl rfl rfl rfl rfl blk_l1 (of_decide_eq_true rfl) rfl set_l1 ?_ | refine WO.stB rfl rfl rfl rfl rfl blk_l2 (of_decide_eq_true rfl) rfl set_l2 ?_ | refine WO.stB rfl rfl rfl rfl rfl blk_l3 (of_decide_eq_true rfl) rfl set_l3 ?_) | (refine WO.isIaddr ?_; first | refine WO.go rfl rfl ?_) | (refine WO.isLen ?_; first | refine WO.lenS rfl rfl (List.length_map ..) ?_ | refine WO.go rfl rfl ?_) | (refine WO.isApp ?_; first | refine WO.go rfl rfl ?_) | refine WO.go rfl rfl ?_ | refine WO.st rfl rfl ?_ | refine W.skip ?_ | refine W.condT rfl ?_ | refine W.condF rfl ?_ | (refine W.fork rfl ?_ ?_ <;> intro hc <;> (fail_if_success (exfalso; cases hc; done)) <;> (first | subst hc | (simp at hc; try omega) | skip)) | refine W.ret ?_ | refine W.block ?_ | refine W.exit ?_)
        all_goals exact ⟨.inr rfl, _, rfl, fin rfl rfl rfl⟩
      · have hw1 := fun m => E0.args (l := [.own 6 (r0 :: R') 0 t]) (l' := [.slc 6 false (r0 :: R')]) rfl (hw m)
        have ha1 := fun M => E0.args (l := [.own 6 (r0 :: R') 0 t, .int .u8 a1]) (l' := [.slc 6 false (r0 :: R'), .int .u8 a1]) rfl (hask _ _ _ hw M)
        repeat' (first | refine W.seq ?_ | refine W.region ?_ | refine WO.nil ?_ | refine WO.onG rfl ?_ | refine WO.offG rfl ?_ | (refine WO.fork rfl ?_ ?_ <;> intro hc <;> (fail_if_success (exfalso; cases hc; done)) <;> (first | subst hc | (simp at hc; try omega) | skip)) | (refine WO.isMv ?_; first | refine WO.go rfl rfl ?_ | refine WO.mvR rfl ?_) | (refine WO.isBin ?_; first | refine WO.eqT rfl rfl rfl hA0' ?_ | refine WO.add64 rfl rfl rfl (by omega) (by omega) ?_ | refine WO.addU32 rfl rfl rfl (by omega) (by omega) ?_ | refine WO.addU64 rfl rfl rfl (by omega) (by omega) ?_ | refine WO.addU8 rfl rfl rfl (by omega) (by omega) ?_ | refine WO.testT rfl rfl ?_ | refine WO.testF rfl rfl ?_ | (refine WO.tlss rfl rfl rfl (fun hc => ?_) (fun hc => ?_) <;> try omega) | (refine WO.tleq rfl rfl rfl (fun hc => ?_) (fun hc => ?_) <;> try omega) | (refine WO.teql rfl rfl rfl (fun hc => ?_) (fun hc => ?_) <;> try omega) | refine WO.tseql rfl rfl rfl (fun hc => ?_) (fun hc => ?_) | refine WO.go rfl rfl ?_) | (refine WO.isUn ?_; first | refine WO.go rfl rfl ?_) | (refine WO.isCall ?_; first | refine WO.ask rfl rfl (hw1 _) ?_ | refine WO.ask' rfl rfl (hw1 _) ?_ | refine WO.ask rfl rfl (hr _) ?_ | refine WO.ask' rfl rfl (hr _) ?_ | refine WO.ask rfl rfl (ha1 _) ?_ | refine WO.ask' rfl rfl (ha1 _) ?_ | refine WO.ask rfl rfl (c1 _) ?_ | refine WO.ask' rfl rfl (c1 _) ?_ | refine WO.ask rfl rfl (c2 _) ?_ | refine WO.ask' rfl rfl (c2 _) ?_ | refine WO.ask rfl rfl (c3 _) ?_ | refine WO.ask' rfl rfl (c3 _) ?_) | (refine WO.isLoad ?_; first | refine WO.go rfl rfl ?_ | refine WO.ldc rfl rfl blk_l1 rfl rfl ?_ | refine WO.lda rfl rfl blk_l1 (of_decide_eq_true rfl) rfl ?_ | refine WO.ldc rfl rfl blk_l2 rfl rfl ?_ | refine WO.lda rfl rfl blk_l2 (of_decide_eq_true rfl) rfl ?_ | refine WO.ldc rfl rfl blk_l3 rfl rfl ?_ | refine WO.lda rfl rfl blk_l3 (of_decide_eq_true rfl) rfl ?_) | (refine WO.isStore ?_; first | refine WO.st rfl rfl ?_ | refine WO.stB rfl rfl rfl rfl rfl blk_l1 (of_decide_eq_true rfl) rfl set_l1 ?_ | refine WO.stB rfl rfl rfl rfl rfl blk_l2 (of_decide_eq_true rfl) rfl set_l2 ?_ | refine WO.stB rfl rfl rfl rfl rfl blk_l3 (of_decide_eq_true rfl) rfl set_l3 ?_) | (refine WO.isIaddr ?_; first | refine WO.go rfl rfl ?_) | (refine WO.isLen ?_; first | refine WO.lenS rfl rfl (List.length_map ..) ?_ | refine WO.go rfl rfl ?_) | (refine WO.isApp ?_; first | refine WO.go rfl rfl ?_) | refine WO.go rfl rfl ?_ | refine WO.st rfl rfl ?_ | refine W.skip ?_ | refine W.condT rfl ?_ | refine W.condF rfl ?_ | (refine W.fork rfl ?_ ?_ <;> intro hc <;> (fail_if_success (exfalso; cases hc; done)) <;> (first | subst hc | (simp at hc; try omega) | skip)) | refine W.ret ?_ | refine W.block ?_ | refine W.exit ?_)
        all_goals exact ⟨.inr rfl, _, rfl, fin rfl rfl rfl⟩
    · have hA0' : ¬ (A.length : Int) = 0 := by omega
      have t4' := t4 hA0
      subst t4'
      rcases R with _ | ⟨r0, R'⟩
      · repeat' (first | refine W.seq ?_ | refine W.region ?_ | refine WO.nil ?_ | refine WO.onG rfl ?_ | refine WO.offG rfl ?_ | (refine WO.fork rfl ?_ ?_ <;> intro hc <;> (fail_if_success (exfalso; cases hc; done)) <;> (first | subst hc | (simp at hc; try omega) | skip)) | (refine WO.isMv ?_; first | refine WO.go rfl rfl ?_ | refine WO.mvR rfl ?_) | (refine WO.isBin ?_; first | refine WO.eqF rfl rfl rfl hA0' ?_ | refine WO.add64 rfl rfl rfl (by omega) (by omega) ?_ | refine WO.addU32 rfl rfl rfl (by omega) (by omega) ?_ | refine WO.addU64 rfl rfl rfl (by omega) (by omega) ?_ | refine WO.addU8 rfl rfl rfl (by omega) (by omega) ?_ | refine WO.testT rfl rfl ?_ | refine WO.testF rfl rfl ?_ | (refine WO.tlss rfl rfl rfl (fun hc => ?_) (fun hc => ?_) <;> try omega) | (refine WO.tleq rfl rfl rfl (fun hc => ?_) (fun hc => ?_) <;> try omega) | (refine WO.teql rfl rfl rfl (fun hc => ?_) (fun hc => ?_) <;> try omega) | refine WO.tseql rfl rfl rfl (fun hc => ?_) (fun hc => ?_) | refine WO.go rfl rfl ?_) | (refine WO.isUn ?_; first | refine WO.go rfl rfl ?_) | (refine WO.isCall ?_; first | refine WO.ask rfl rfl (hw _) ?_ | refine WO.ask' rfl rfl (hw _) ?_ | refine WO.ask rfl rfl (hr _) ?_ | refine WO.ask' rfl rfl (hr _) ?_ | refine WO.ask rfl rfl (hask _ _ _ hw _) ?_ | refine WO.ask' rfl rfl (hask _ _ _ hw _) ?_ | refine WO.ask rfl rfl (c1 _) ?_ | refine WO.ask' rfl rfl (c1 _) ?_ | refine WO.ask rfl rfl (c4 _) ?_ | refine WO.ask' rfl rfl (c4 _) ?_ | refine WO.ask rfl rfl (c2 _) ?_ | refine WO.ask' rfl rfl (c2 _) ?_ | refine WO.ask rfl rfl (c3 _) ?_ | refine WO.ask' rfl rfl (c3 _) ?_) | (refine WO.isLoad ?_; first | refine WO.go rfl rfl ?_ | refine WO.ldc rfl rfl blk_l1 rfl rfl ?_ | refine WO.lda rfl rfl blk_l1 (of_decide_eq_true rfl) rfl ?_ | refine WO.ldc rfl rfl blk_l2 rfl rfl ?_ | refine WO.lda rfl rfl blk_l2 (of_decide_eq_true rfl) rfl ?_ | refine WO.ldc rfl rfl blk_l3 rfl rfl ?_ | refine WO.lda rfl rfl blk_l3 (of_decide_eq_true rfl) rfl ?_) | (refine WO.isStore ?_; first | refine WO.st rfl rfl ?_ | refine WO.stB rfl rfl rfl rfl rfl blk_l1 (of_decide_eq_true rfl) rfl set_l1 ?_ | refine WO.stB rfl rfl rfl rfl rfl blk_l2 (of_decide_eq_true rfl) rfl set_l2 ?_ | refine WO.stB rfl rfl rfl rfl rfl blk_l3 (of_decide_eq_true rfl) rfl set_l3 ?_) | (refine WO.isIaddr ?_; first | refine WO.go rfl rfl ?_) | (refine WO.isLen ?_; first | refine WO.lenS rfl rfl (List.length_map ..) ?_ | refine WO.go rfl rfl ?_) | (refine WO.isApp ?_; first | refine WO.go rfl rfl ?_) | refine WO.go rfl rfl ?_ | refine WO.st rfl rfl ?_ | refine W.skip ?_ | refine W.condT rfl ?_ | refine W.condF rfl ?_ | (refine W.fork rfl ?_ ?_ <;> intro hc <;> (fail_if_success (exfalso; cases hc; done)) <;> (first | subst hc | (simp at hc; try omega) | skip)) | refine W.ret ?_ | refine W.block ?_ | refine W.exit ?_)
        all_goals exact ⟨.inr rfl, _, rfl, fin rfl rfl rfl⟩
      · have hw1 := fun m => E0.args (l := [.own 6 (r0 :: R') 0 t]) (l' := [.slc 6 false (r0 :: R')]) rfl (hw m)
        have ha1 := fun M => E0.args (l := [.own 6 (r0 :: R') 0 t, .int .u8 a1]) (l' := [.slc 6 false (r0 :: R'), .int .u8 a1]) rfl (hask _ _ _ hw M)
        repeat' (first | refine W.seq ?_ | refine W.region ?_ | refine WO.nil ?_ | refine WO.onG rfl ?_ | refine WO.offG rfl ?_ | (refine WO.fork rfl ?_ ?_ <;> intro hc <;> (fail_if_success (exfalso; cases hc; done)) <;> (first | subst hc | (simp at hc; try omega) | skip)) | (refine WO.isMv ?_; first | refine WO.go rfl rfl ?_ | refine WO.mvR rfl ?_) | (refine WO.isBin ?_; first | refine WO.eqF rfl rfl rfl hA0' ?_ | refine WO.add64 rfl rfl rfl (by omega) (by omega) ?_ | refine WO.addU32 rfl rfl rfl (by omega) (by omega) ?_ | refine WO.addU64 rfl rfl rfl (by omega) (by omega) ?_ | refine WO.addU8 rfl rfl rfl (by omega) (by omega) ?_ | refine WO.testT rfl rfl ?_ | refine WO.testF rfl rfl ?_ | (refine WO.tlss rfl rfl rfl (fun hc => ?_) (fun hc => ?_) <;> try omega) | (refine WO.tleq rfl rfl rfl (fun hc => ?_) (fun hc => ?_) <;> try omega) | (refine WO.teql rfl rfl rfl (fun hc => ?_) (fun hc => ?_) <;> try omega) | refine WO.tseql rfl rfl rfl (fun hc => ?_) (fun hc => ?_) | refine WO.go rfl rfl ?_) | (refine WO.isUn ?_; first | refine WO.go rfl rfl ?_) | (refine WO.isCall ?_; first | refine WO.ask rfl rfl (hw1 _) ?_ | refine WO.ask' rfl rfl (hw1 _) ?_ | refine WO.ask rfl rfl (hr _) ?_ | refine WO.ask' rfl rfl (hr _) ?_ | refine WO.ask rfl rfl (ha1 _) ?_ | refine WO.ask' rfl rfl (ha1 _) ?_ | refine WO.ask rfl rfl (c1 _) ?_ | refine WO.ask' rfl rfl (c1 _) ?_ | refine WO.ask rfl rfl (c4 _) ?_ | refine WO.ask' rfl rfl (c4 _) ?_ | refine WO.ask rfl rfl (c2 _) ?_ | refine WO.ask' rfl rfl (c2 _) ?_ | refine WO.ask rfl rfl (c3 _) ?_ | refine WO.ask' rfl rfl (c3 _) ?_) | (refine WO.isLoad ?_; first | refine WO.go rfl rfl ?_ | refine WO.ldc rfl rfl blk_l1 rfl rfl ?_ | refine WO.lda rfl rfl blk_l1 (of_decide_eq_true rfl) rfl ?_ | refine WO.ldc rfl rfl blk_l2 rfl rfl ?_ | refine WO.lda rfl rfl blk_l2 (of_decide_eq_true rfl) rfl ?_ | refine WO.ldc rfl rfl blk_l3 rfl rfl ?_ | refine WO.lda rfl rfl blk_l3 (of_decide_eq_true rfl) rfl ?_) | (refine WO.isStore ?_; first | refine WO.st rfl rfl ?_ | refine WO.stB rfl rfl rfl rfl rfl blk_l1 (of_decide_eq_true rfl) rfl set_l1 ?_ | refine WO.stB rfl rfl rfl rfl rfl blk_l2 (of_decide_eq_true rfl) rfl set_l2 ?_ | refine WO.stB rfl rfl rfl rfl rfl blk_l3 (of_decide_eq_true rfl) rfl set_l3 ?_) | (refine WO.isIaddr ?_; first | refine WO.go rfl rfl ?_) | (refine WO.isLen ?_; first | refine WO.lenS rfl rfl (List.length_map ..) ?_ | refine WO.go rfl rfl ?_) | (refine WO.isApp ?_; first | refine WO.go rfl rfl ?_) | refine WO.go rfl rfl ?_ | refine WO.st rfl rfl ?_ | refine W.skip ?_ | refine W.condT rfl ?_ | refine W.condF rfl ?_ | (refine W.fork rfl ?_ ?_ <;> intro hc <;> (fail_if_success (exfalso; cases hc; done)) <;> (first | subst hc | (simp at hc; try omega) | skip)) | refine W.ret ?_ | refine W.block ?_ | refine W.exit ?_)
        all_goals exact ⟨.inr rfl, _, rfl, fin rfl rfl rfl⟩
theorem wishes_none : evF F 2000 9 [.slc 0 true []] [] = some (.slc 0 true [], []) := by kernel_rfl
theorem law5w (x0 : List (List NV)) (a1 : Int) (wx0 : x0.length * 64 ≤ 140737488351232) (kx0 : ∀ r ∈ x0, (fun l => ∃ a b, l = a ++ b ∧ (fun l => ∃ a b, l = a ++ b ∧ (fun l => ∃ x : Int, l = [.int .i64 x] ∧ (Lit.int .i64 x).wf = true) a ∧ (fun l => ∃ a b, l = a ++ b ∧ (fun l => ∃ x : Int, l = [.int .i64 x] ∧ (Lit.int .i64 x).wf = true) a ∧ (fun l => ∃ a b, l = a ++ b ∧ (fun l => ∃ x : Int, l = [.int .u32 x] ∧ (Lit.int .u32 x).wf = true) a ∧ (fun l => ∃ a b, l = a ++ b ∧ (fun l => ∃ s : ByteArray, l = [.str s] ∧ s.size ≤ 140737488351232) a ∧ (fun l => ∃ a b, l = a ++ b ∧ (fun l => ∃ s : ByteArray, l = [.str s] ∧ s.size ≤ 140737488351232) a ∧ (fun l => l = []) b) b) b) b) b) a ∧ (fun l => ∃ a b, l = a ++ b ∧ (fun l => ∃ x : Bool, l = [.bool x]) a ∧ (fun l => l = []) b) b) r ∧ r.length = 6) (b1 : (0 : Int) ≤ a1 ∧ a1 ≤ 255) :
    E0 5 [.slc 6 false x0, .int .u8 a1] [] (.bool true) [] := by
  obtain ⟨xs, rfl, hok⟩ := wish_rows kx0
  rw [List.length_map] at wx0
  refine law5v xs a1 b1 (by omega) ((((xs.map own).take 12).take 12).map wishQ) (by rw [List.length_map, List.length_take]; omega) fun m => ?_
  have hy : ∀ x ∈ (xs.map own).take 12, okCmd x.1 := fun x hx => by
    obtain ⟨w, hw, rfl⟩ := List.mem_map.1 (List.mem_of_mem_take hx)
    exact hok w hw
  have hyl : ((xs.map own).take 12).length ≤ 140737488351232 := by rw [List.length_take]; omega
  generalize (xs.map own).take 12 = y at hy hyl
  cases y with
  | nil => exact EvF.any (EvF.ev 2000 wishes_none) m
  | cons y0 y' => exact c_wishes (y0 :: y') false hyl hy m
end Go.Proofs.Ytehkfdicaiehcaa.Nv
