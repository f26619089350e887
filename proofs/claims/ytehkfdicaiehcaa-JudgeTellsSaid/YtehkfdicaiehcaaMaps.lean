/- Maps in memory, as lists of keys and what they have: rules for runs. Of no program. -/
import Derived.Test.YtehkfdicaiehcaaNvB
namespace Go.Proofs.Ytehkfdicaiehcaa.Nv
open Go
section
variable {α β : Type} [DecidableEq α]
/-- Where a key stands, and what it has. -/
def aget (k : α) : List (α × β) → Nat → Option (Nat × β)
  | [], _ => none
  | x :: l, i => if k = x.1 then some (i, x.2) else aget k l (i + 1)
def alook (k : α) (l : List (α × β)) : Option β := (aget k l 0).map (·.2)
def aput (k : α) (b : β) (l : List (α × β)) : List (α × β) :=
  match aget k l 0 with
  | some x => l.set x.1 (k, b)
  | none => l ++ [(k, b)]
def adel (k : α) (l : List (α × β)) : List (α × β) :=
  match aget k l 0 with
  | some x => l.eraseIdx x.1
  | none => l
theorem aget_shift (k : α) : ∀ (l : List (α × β)) (i : Nat), aget k l i = (aget k l 0).map fun x => (x.1 + i, x.2)
  | [], _ => rfl
  | x :: l, i => by
    unfold aget
    by_cases h : k = x.1
    · simp [h]
    · rw [if_neg h, if_neg h, aget_shift k l (i + 1), aget_shift k l (0 + 1), Option.map_map]
      congr 1
      funext y
      simp only [Function.comp]
      congr 1
      omega
theorem aget_cons (k : α) (x : α × β) (l : List (α × β)) : aget k (x :: l) 0 = if k = x.1 then some (0, x.2) else (aget k l 0).map fun y => (y.1 + 1, y.2) := by
  show (if k = x.1 then _ else aget k l (0 + 1)) = _
  rw [aget_shift k l (0 + 1)]
theorem aget_some {k : α} : ∀ {l : List (α × β)} {j : Nat} {b : β}, aget k l 0 = some (j, b) → l[j]? = some (k, b)
  | [], _, _, h => by cases h
  | x :: l, j, b, h => by
    rw [aget_cons] at h
    split at h
    · rename_i hk
      cases h
      subst hk
      rfl
    · cases hq : aget k l 0 with
      | none => rw [hq] at h; cases h
      | some y =>
        rw [hq] at h
        cases h
        exact aget_some (l := l) (j := y.1) (b := y.2) hq
theorem aget_none {k : α} : ∀ {l : List (α × β)}, aget k l 0 = none ↔ ∀ x ∈ l, x.1 ≠ k
  | [] => by simp [aget]
  | x :: l => by
    rw [aget_cons]
    have ih := aget_none (k := k) (l := l)
    by_cases h : k = x.1
    · rw [if_pos h]
      simp [h]
    · rw [if_neg h, Option.map_eq_none_iff, ih]
      simp only [List.mem_cons, forall_eq_or_imp]
      exact ⟨fun q => ⟨fun e => h e.symm, q⟩, fun q => q.2⟩
theorem alook_nil (k : α) : alook k ([] : List (α × β)) = none := rfl
theorem alook_cons (k : α) (x : α × β) (l : List (α × β)) : alook k (x :: l) = if k = x.1 then some x.2 else alook k l := by
  unfold alook
  rw [aget_cons]
  by_cases h : k = x.1
  · simp [h]
  · rw [if_neg h, if_neg h, Option.map_map]
    rfl
theorem alook_append (k : α) (y : α × β) : ∀ l : List (α × β), alook k (l ++ [y]) = match alook k l with | some b => some b | none => if k = y.1 then some y.2 else none
  | [] => by rw [List.nil_append, alook_cons]; rfl
  | x :: l => by
    rw [List.cons_append, alook_cons, alook_cons, alook_append k y l]
    by_cases h : k = x.1
    · simp [h]
    · simp [h]
theorem aput_cons (k : α) (b : β) (x : α × β) (l : List (α × β)) : aput k b (x :: l) = if k = x.1 then (k, b) :: l else x :: aput k b l := by
  unfold aput
  rw [aget_cons]
  by_cases h : k = x.1
  · simp [h]
  · rw [if_neg h, if_neg h]
    cases aget k l 0 <;> simp
theorem adel_cons (k : α) (x : α × β) (l : List (α × β)) : adel k (x :: l) = if k = x.1 then l else x :: adel k l := by
  unfold adel
  rw [aget_cons]
  by_cases h : k = x.1
  · simp [h]
  · rw [if_neg h, if_neg h]
    cases aget k l 0 <;> simp
theorem alook_put (k q : α) (b : β) : ∀ l : List (α × β), alook q (aput k b l) = if q = k then some b else alook q l
  | [] => by
    show alook q [(k, b)] = _
    rw [alook_cons]
  | x :: l => by
    rw [aput_cons]
    by_cases h : k = x.1
    · rw [if_pos h, alook_cons, alook_cons]
      by_cases hq : q = k
      · simp [hq]
      · rw [if_neg hq, if_neg hq, if_neg (fun e => hq (e.trans h.symm))]
    · rw [if_neg h, alook_cons, alook_cons, alook_put k q b l]
      by_cases hx : q = x.1
      · rw [if_pos hx, if_pos hx, if_neg (fun e => h (e.symm.trans hx))]
      · rw [if_neg hx, if_neg hx]
theorem adel_none {k : α} {l : List (α × β)} (h : (alook k l).isSome = false) : adel k l = l := by
  unfold adel
  unfold alook at h
  cases hq : aget k l 0 with
  | none => rfl
  | some x => rw [hq] at h; cases h
def keys (l : List (α × β)) : List α := l.map (·.1)
theorem mem_keys_put {k q : α} {b : β} : ∀ {l : List (α × β)}, q ∈ keys (aput k b l) ↔ q = k ∨ q ∈ keys l
  | [] => by show q ∈ keys [(k, b)] ↔ _; simp [keys]
  | x :: l => by
    rw [aput_cons]
    have ih := mem_keys_put (k := k) (q := q) (b := b) (l := l)
    by_cases h : k = x.1
    · rw [if_pos h]
      simp only [keys, List.map_cons, List.mem_cons]
      rw [← h]
      constructor
      · rintro (e | e)
        · exact .inl e
        · exact .inr (.inr e)
      · rintro (e | e | e)
        · exact .inl e
        · exact .inl e
        · exact .inr e
    · rw [if_neg h]
      simp only [keys, List.map_cons, List.mem_cons] at ih ⊢
      rw [ih]
      constructor
      · rintro (e | e | e)
        · exact .inr (.inl e)
        · exact .inl e
        · exact .inr (.inr e)
      · rintro (e | e | e)
        · exact .inr (.inl e)
        · exact .inl e
        · exact .inr (.inr e)
theorem nodup_put {k : α} {b : β} : ∀ {l : List (α × β)}, (keys l).Nodup → (keys (aput k b l)).Nodup
  | [], _ => by show (keys [(k, b)]).Nodup; simp [keys]
  | x :: l, h => by
    have h' := List.nodup_cons.1 h
    rw [aput_cons]
    by_cases hk : k = x.1
    · rw [if_pos hk]
      refine List.nodup_cons.2 ⟨?_, h'.2⟩
      rw [hk]; exact h'.1
    · rw [if_neg hk]
      refine List.nodup_cons.2 ⟨?_, nodup_put h'.2⟩
      intro q
      rcases mem_keys_put.1 q with e | e
      · exact hk e.symm
      · exact h'.1 e
theorem alook_none {k : α} {l : List (α × β)} : alook k l = none ↔ k ∉ keys l := by
  unfold alook keys
  rw [Option.map_eq_none_iff, aget_none, List.mem_map]
  constructor
  · rintro h ⟨x, hx, e⟩; exact h x hx e
  · intro h x hx e; exact h ⟨x, hx, e⟩
theorem mem_keys_del {k q : α} : ∀ {l : List (α × β)}, (keys l).Nodup → (q ∈ keys (adel k l) ↔ q ≠ k ∧ q ∈ keys l)
  | [], _ => by simp [adel, aget, keys]
  | x :: l, h => by
    have h' := List.nodup_cons.1 h
    have ih := mem_keys_del (k := k) (q := q) h'.2
    rw [adel_cons]
    by_cases hk : k = x.1
    · rw [if_pos hk]
      simp only [keys, List.map_cons, List.mem_cons]
      constructor
      · intro hq
        exact ⟨fun e => h'.1 (show x.1 ∈ l.map (·.1) from by rw [← hk, ← e]; exact hq), .inr hq⟩
      · rintro ⟨h1, h2 | h2⟩
        · exact absurd (h2.trans hk.symm) h1
        · exact h2
    · rw [if_neg hk]
      simp only [keys, List.map_cons, List.mem_cons] at ih ⊢
      rw [ih]
      constructor
      · rintro (e | ⟨e1, e2⟩)
        · exact ⟨fun q => hk (q.symm.trans e), .inl e⟩
        · exact ⟨e1, .inr e2⟩
      · rintro ⟨e1, e2 | e2⟩
        · exact .inl e2
        · exact .inr ⟨e1, e2⟩
theorem nodup_del {k : α} : ∀ {l : List (α × β)}, (keys l).Nodup → (keys (adel k l)).Nodup
  | [], _ => by simp [adel, aget, keys]
  | x :: l, h => by
    have h' := List.nodup_cons.1 h
    rw [adel_cons]
    by_cases hk : k = x.1
    · rw [if_pos hk]; exact h'.2
    · rw [if_neg hk]
      exact List.nodup_cons.2 ⟨fun q => h'.1 ((mem_keys_del h'.2).1 q).2, nodup_del h'.2⟩
theorem alook_del (k q : α) : ∀ {l : List (α × β)}, (keys l).Nodup → alook q (adel k l) = if q = k then none else alook q l
  | [], _ => by simp [adel, aget, alook]
  | x :: l, h => by
    have h' := List.nodup_cons.1 h
    rw [adel_cons]
    by_cases hk : k = x.1
    · rw [if_pos hk, alook_cons]
      by_cases hq : q = k
      · rw [if_pos hq, alook_none, hq, hk]; exact h'.1
      · rw [if_neg hq, if_neg (fun e => hq (e.trans hk.symm))]
    · rw [if_neg hk, alook_cons, alook_cons, alook_del k q h'.2]
      by_cases hx : q = x.1
      · rw [if_pos hx, if_pos hx, if_neg (fun e => hk (e.symm.trans hx))]
      · rw [if_neg hx, if_neg hx]
theorem len_put {k : α} {b : β} {l : List (α × β)} : (aput k b l).length = l.length + if (alook k l).isSome then 0 else 1 := by
  unfold aput alook
  cases aget k l 0 <;> simp
/-- A map's entries, as memory has them. -/
def menc (kf : α → NV) (vf : β → NV) (l : List (α × β)) : List (NV × NV) := l.map fun x => (kf x.1, vf x.2)
theorem findE_enc {t : KT} {kf : α → NV} {vf : β → NV} (hk : ∀ a b, eqV t (kf a) (kf b) = some (decide (a = b))) (k : α) : ∀ (l : List (α × β)) (i : Nat), findE t (kf k) (menc kf vf l) i = some ((aget k l i).map fun x => (x.1, vf x.2))
  | [], _ => rfl
  | x :: l, i => by
    show (match eqV t (kf k) (kf x.1) with | some true => _ | some false => _ | none => _) = _
    rw [hk]
    by_cases h : k = x.1
    · rw [decide_eq_true h]
      unfold aget
      rw [if_pos h]
      rfl
    · rw [decide_eq_false h]
      unfold aget
      rw [if_neg h]
      exact findE_enc hk k l (i + 1)
omit [DecidableEq α] in
theorem menc_set (kf : α → NV) (vf : β → NV) (l : List (α × β)) (j : Nat) (k : α) (b : β) : (menc kf vf l).set j (kf k, vf b) = menc kf vf (l.set j (k, b)) := by simp [menc, List.map_set]
omit [DecidableEq α] in
theorem menc_append (kf : α → NV) (vf : β → NV) (l : List (α × β)) (k : α) (b : β) : menc kf vf l ++ [(kf k, vf b)] = menc kf vf (l ++ [(k, b)]) := by simp [menc]
theorem erase_map {γ δ : Type} (f : γ → δ) : ∀ (l : List γ) (j : Nat), (l.map f).eraseIdx j = (l.eraseIdx j).map f
  | [], _ => by simp
  | x :: l, 0 => by simp
  | x :: l, j + 1 => by simp [erase_map f l j]
omit [DecidableEq α] in
theorem menc_erase (kf : α → NV) (vf : β → NV) (l : List (α × β)) (j : Nat) : (menc kf vf l).eraseIdx j = menc kf vf (l.eraseIdx j) := erase_map _ _ _
end
section
variable {α β : Type} [DecidableEq α] {K : Rel4} {e : Env} {m m1 : Mem} {R : Env → Mem → Prop} {d : Nat} {g : Option (Nat × Bool)} {l : List Ins} {x y z : Opd} {bs : List Nat} {fs : Nat} {j : Nat} {wr rd : List (Nat × Nat × Nat)} {t : KT} {kf : α → NV} {vf : β → NV} {k : α} {L : List (α × β)} {lv b : Nat}
/-- What a look comes to. -/
def lookV {γ : Type} (lv : Nat) (zero : NV) (vf : γ → NV) : Option γ → Option NV
  | some q => sh2 (outS lv) (vf q)
  | none => some zero
theorem sp_look {zero v : NV} {ok : Bool} {ol : Option β} (hk : ∀ a b, eqV t (kf a) (kf b) = some (decide (a = b))) (hx : x.ev e = .map lv b) (hy : y.ev e = kf k) (hb : blk? m lv b = some (.mp (menc kf vf L)))
    (ho : alook k L = ol) (hv : lookV lv zero vf ol = some v) : step (.look t ok zero x y) e m = some (if ok then .tup [v, .bool ol.isSome] else v, m) := by
  have h1 : (eqV t (kf k) (kf k)).isSome = true := by rw [hk]; rfl
  have h2 := findE_enc (vf := vf) hk k L 0
  subst ho
  unfold alook at hv ⊢
  simp only [step, hx, hy, hb, h1, if_true, h2]
  cases hq : aget k L 0 with
  | none =>
    rw [hq] at hv
    have hv' : zero = v := Option.some.inj hv
    subst hv'
    simp only [Option.map_none, Option.isSome_none]
  | some q =>
    rw [hq] at hv
    have hv' : sh2 (outS lv) (vf q.2) = some v := hv
    simp only [Option.map_some, hv', Option.isSome_some]
theorem WO.look {zero v : NV} {ok : Bool} {ol : Option β} (hk : ∀ a b, eqV t (kf a) (kf b) = some (decide (a = b))) (hg : wantedN e g = true) (hx : x.ev e = .map lv b) (hy : y.ev e = kf k) (hb : blk? m lv b = some (.mp (menc kf vf L)))
    (ho : alook k L = ol) (hv : lookV lv zero vf ol = some v) (h : WO K l (upd e d (if ok then .tup [v, .bool ol.isSome] else v)) m R) : WO K (⟨some d, g, .look t ok zero x y⟩ :: l) e m R := WO.op hg (sp_look hk hx hy hb ho hv) h
theorem WH.look {zero v : NV} {ok : Bool} {ol : Option β} (hk : ∀ a b, eqV t (kf a) (kf b) = some (decide (a = b))) (hg : wantedN e g = true) (hx : x.ev e = .map lv b) (hy : y.ev e = kf k) (hb : blk? m lv b = some (.mp (menc kf vf L)))
    (ho : alook k L = ol) (hv : lookV lv zero vf ol = some v) (hf : fitsH bs j wr rd (.look t ok zero x y) e = true)
    (h : WH K bs fs l (j + 1) (noteH j wr (wrOf (.look t ok zero x y) e)) (noteH j rd (rdOf (.look t ok zero x y) e)) (upd e d (if ok then .tup [v, .bool ol.isSome] else v)) m R) : WH K bs fs (⟨some d, g, .look t ok zero x y⟩ :: l) j wr rd e m R := WH.op hg (sp_look hk hx hy hb ho hv) hf h
/-- A value that goes into a map as it is. -/
theorem sp_put {v : NV} {q : β} (hk : ∀ a b, eqV t (kf a) (kf b) = some (decide (a = b))) (hx : x.ev e = .map lv b) (hy : y.ev e = kf k) (hz : intoV lv (z.ev e) m = some (vf q, m1)) (hb : blk? m1 lv b = some (.mp (menc kf vf L))) :
    step (.put t x y z) e m = some (.undef, setBlk m1 lv b (.mp (menc kf vf (aput k q L)))) := by
  have h1 : (eqV t (kf k) (kf k)).isSome = true := by rw [hk]; rfl
  have h2 := findE_enc (vf := vf) hk k L 0
  simp only [step, hx, hy, hz, hb, h1, if_true, h2]
  unfold aput
  cases hq : aget k L 0 with
  | none => simp only [Option.map_none]; rw [menc_append]
  | some w => simp only [Option.map_some]; rw [menc_set]
theorem WO.put {q : β} (hk : ∀ a b, eqV t (kf a) (kf b) = some (decide (a = b))) (hg : wantedN e g = true) (hx : x.ev e = .map lv b) (hy : y.ev e = kf k) (hz : intoV lv (z.ev e) m = some (vf q, m1)) (hb : blk? m1 lv b = some (.mp (menc kf vf L)))
    (h : WO K l e (setBlk m1 lv b (.mp (menc kf vf (aput k q L)))) R) : WO K (⟨none, g, .put t x y z⟩ :: l) e m R := WO.op (v := .undef) hg (sp_put (v := .undef) hk hx hy hz hb) h
theorem sp_del (hk : ∀ a b, eqV t (kf a) (kf b) = some (decide (a = b))) (hx : x.ev e = .map lv b) (hy : y.ev e = kf k) (hb : blk? m lv b = some (.mp (menc kf vf L))) :
    step (.del t x y) e m = some (.tup [], if (alook k L).isSome then setBlk m lv b (.mp (menc kf vf (adel k L))) else m) := by
  have h1 : (eqV t (kf k) (kf k)).isSome = true := by rw [hk]; rfl
  have h2 := findE_enc (vf := vf) hk k L 0
  simp only [step, hx, hy, hb, h1, if_true, h2]
  unfold adel alook
  cases hq : aget k L 0 with
  | none => simp only [Option.map_none, Option.isSome_none, Bool.false_eq_true, if_false]
  | some w => simp only [Option.map_some, Option.isSome_some, if_true]; rw [menc_erase]
theorem WO.delT (hk : ∀ a b, eqV t (kf a) (kf b) = some (decide (a = b))) (hg : wantedN e g = true) (hx : x.ev e = .map lv b) (hy : y.ev e = kf k) (hb : blk? m lv b = some (.mp (menc kf vf L))) (ho : (alook k L).isSome = true)
    (h : WO K l e (setBlk m lv b (.mp (menc kf vf (adel k L)))) R) : WO K (⟨none, g, .del t x y⟩ :: l) e m R := by
  have := sp_del hk hx hy hb
  rw [ho] at this
  exact WO.op hg this h
theorem WO.delF (hk : ∀ a b, eqV t (kf a) (kf b) = some (decide (a = b))) (hg : wantedN e g = true) (hx : x.ev e = .map lv b) (hy : y.ev e = kf k) (hb : blk? m lv b = some (.mp (menc kf vf L))) (ho : (alook k L).isSome = false)
    (h : WO K l e m R) : WO K (⟨none, g, .del t x y⟩ :: l) e m R := by
  have := sp_del hk hx hy hb
  rw [ho] at this
  exact WO.op hg this h
end
end Go.Proofs.Ytehkfdicaiehcaa.Nv
