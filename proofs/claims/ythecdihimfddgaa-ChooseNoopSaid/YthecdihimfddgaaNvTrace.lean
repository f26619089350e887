/- The head of a region that draws its order: what its one run at the plain level says of all its orders. Of no program. -/
import Derived.Test.YthecdihimfddgaaNvRun
import Derived.Orders
namespace Go.Proofs.Ythecdihimfddgaa.Nv
open Go Go.RowKit

/-! ### Who is behind whom -/
theorem maskOf_spec {acc : List Nat} {o : Oper} {p : Nat} (h : (maskOf acc o).testBit p = true) : ∃ e ∈ o.after.toList, Region.binds .any e = true ∧ (e.on = p ∨ (acc.getD e.on 0).testBit p = true) := by
  unfold maskOf at h
  have gen : ∀ (l : List Edge) (s : Nat), (l.foldl (fun s e => if Region.binds .any e then s ||| 2 ^ e.on ||| acc.getD e.on 0 else s) s).testBit p = true →
      s.testBit p = true ∨ ∃ e ∈ l, Region.binds .any e = true ∧ (e.on = p ∨ (acc.getD e.on 0).testBit p = true) := by
    intro l
    induction l with
    | nil => intro s h; exact .inl h
    | cons e l ih =>
      intro s h
      rw [List.foldl_cons] at h
      rcases ih _ h with h | ⟨x, hx, h⟩
      · split at h
        · rename_i hb
          rw [Nat.testBit_or, Nat.testBit_or, Nat.testBit_two_pow] at h
          simp only [Bool.or_eq_true, decide_eq_true_eq] at h
          rcases h with (h | h) | h
          · exact .inl h
          · exact .inr ⟨e, List.mem_cons_self, hb, .inl h⟩
          · exact .inr ⟨e, List.mem_cons_self, hb, .inr h⟩
        · exact .inl h
      · exact .inr ⟨x, List.mem_cons_of_mem _ hx, h⟩
  rcases gen _ _ h with h | h
  · simp at h
  · exact h
theorem befGo_old : ∀ (l : List Oper) (acc : List Nat) (j : Nat), j < acc.length → (befGo l acc).getD j 0 = acc.getD j 0
  | [], _, _, _ => rfl
  | o :: l, acc, j, h => by
    rw [befGo, befGo_old l _ j (by simp; omega)]
    simp [List.getD_eq_getElem?_getD, List.getElem?_append_left h]
theorem befGo_spec : ∀ (l : List Oper) (acc : List Nat) (j : Nat) (o : Oper) (p : Nat), l[j]? = some o → ((befGo l acc).getD (acc.length + j) 0).testBit p = true →
    ∃ e ∈ o.after.toList, Region.binds .any e = true ∧ (e.on = p ∨ ((befGo l acc).getD e.on 0).testBit p = true)
  | [], _, j, o, p, h, _ => by simp at h
  | o' :: l, acc, j, o, p, h, hb => by
    cases j with
    | zero =>
      simp only [List.getElem?_cons_zero, Option.some.injEq] at h
      subst h
      rw [befGo, befGo_old l _ _ (by simp)] at hb
      have : (acc ++ [maskOf acc o']).getD (acc.length + 0) 0 = maskOf acc o' := by simp [List.getD_eq_getElem?_getD]
      rw [this] at hb
      obtain ⟨e, he, h1, h2⟩ := maskOf_spec hb
      refine ⟨e, he, h1, h2.imp id fun h2 => ?_⟩
      have hlt : e.on < acc.length := by
        rcases Nat.lt_or_ge e.on acc.length with h' | h'
        · exact h'
        · rw [List.getD_eq_getElem?_getD, List.getElem?_eq_none h'] at h2; simp at h2
      rw [befGo_old (o' :: l) acc _ hlt]
      exact h2
    | succ j =>
      have e1 : acc.length + (j + 1) = (acc ++ [maskOf acc o']).length + j := by simp; omega
      rw [befGo, e1] at hb
      rw [befGo]
      exact befGo_spec l _ j o p (by simpa using h) hb
theorem befs_spec {l : List Oper} {j : Nat} {o : Oper} {p : Nat} (h : l[j]? = some o) (hb : ((befs l).getD j 0).testBit p = true) :
    ∃ e ∈ o.after.toList, Region.binds .any e = true ∧ (e.on = p ∨ ((befs l).getD e.on 0).testBit p = true) := by
  have := befGo_spec l [] j o p h (by simpa [befs] using hb)
  simpa [befs] using this
theorem tailAt_le (bs : List Nat) : ∀ N, tailAt bs N ≤ N
  | 0 => Nat.le_refl _
  | N + 1 => by
    unfold tailAt
    split
    · exact Nat.le_succ_of_le (tailAt_le bs N)
    · exact Nat.le_refl _
theorem tailAt_spec (bs : List Nat) : ∀ (N j i : Nat), tailAt bs N ≤ j → j < N → i < j → (bs.getD j 0).testBit i = true
  | 0, _, _, _, h, _ => by omega
  | N + 1, j, i, h1, h2, h3 => by
    unfold tailAt at h1
    split at h1
    · rename_i hq
      rcases Nat.lt_or_ge j N with hlt | hge
      · exact tailAt_spec bs N j i h1 hlt h3
      · obtain rfl : j = N := by omega
        exact List.all_eq_true.1 hq i (List.mem_range.2 h3)
    · omega
theorem backOk_spec : ∀ (l : List Oper) (s j : Nat) (o : Oper) (e : Edge), backOk l s = true → l[j]? = some o → e ∈ o.after.toList → Region.binds .any e = true → e.on < s + j
  | [], _, j, _, _, _, h, _, _ => by simp at h
  | o' :: l, s, j, o, e, hb, h, he, hbi => by
    simp only [backOk, Bool.and_eq_true] at hb
    cases j with
    | zero =>
      simp only [List.getElem?_cons_zero, Option.some.injEq] at h
      subst h
      have := List.all_eq_true.1 hb.1 e he
      simpa [hbi] using this
    | succ j =>
      have := backOk_spec l (s + 1) j o e hb.2 (by simpa using h) he hbi
      omega
theorem headOk_spec {bs : List Nat} {fs : Nat} {is : List Ins} {k : Nat} (h : headOk bs fs is k = true) :
    (∀ j i, j < k → is[j]? = some i → quietOp i.op = true) ∧ (∀ i j a b, i < j → j < k → is[i]? = some a → is[j]? = some b → bound (frB fs i) (frB fs j) (imB fs i) (imB fs j) a b = true → (bs.getD j 0).testBit i = true) := by
  simp only [headOk, Bool.and_eq_true, List.all_eq_true, List.mem_range] at h
  refine ⟨fun j i hj hi => h.1 i ?_, fun i j a b hij hj ha hb hq => ?_⟩
  · exact List.mem_iff_getElem?.2 ⟨j, by rw [List.getElem?_take, if_pos hj]; exact hi⟩
  · have := h.2 j hj i hij
    simpa [ha, hb, hq] using this

/-! ### The one run -/
structure Head (K : Rel4) (bs : List Nat) (fs : Nat) (is : List Ins) (es : Nat → Env) (ms : Nat → Mem) (wss : Nat → List (Nat × Nat)) (s : Nat) : Prop where
  on : ∀ j i, is[j]? = some i → wantedN (es j) i.guard = true → ∃ v, Run1 (headK K (frB fs (s + j)) (imB fs (s + j))) i.op (es j) (ms j) v (ms (j + 1)) ∧ es (j + 1) = updO (es j) i.dst v
  keep : ∀ j i, is[j]? = some i → wantedN (es j) i.guard = true → keepsC i.op (wss j) (ms j) (ms (j + 1))
  off : ∀ j i, is[j]? = some i → wantedN (es j) i.guard = false → es (j + 1) = updO (es j) i.dst .undef ∧ ms (j + 1) = ms j
  apart : ∀ p j ip ij b, p < j → is[p]? = some ip → is[j]? = some ij → wantedN (es p) ip.guard = true → wantedN (es j) ij.guard = true → (bs.getD (s + j) 0).testBit (s + p) = false →
    (wrOf ip.op (es p) = some b → rdOf ij.op (es j) ≠ some b) ∧ (rdOf ip.op (es p) = some b → wrOf ij.op (es j) ≠ some b)
  apartC : ∀ p j ip ij b, p < j → is[p]? = some ip → is[j]? = some ij → wantedN (es p) ip.guard = true → wantedN (es j) ij.guard = true → (bs.getD (s + j) 0).testBit (s + p) = false →
    (b ∈ wss p → rdOf ij.op (es j) ≠ some b) ∧ (rdOf ip.op (es p) = some b → b ∉ wss j)
def cons0 {α : Type} (x : α) (f : Nat → α) : Nat → α
  | 0 => x
  | j + 1 => f j
theorem mem_note {j : Nat} {l : List (Nat × Nat × Nat)} {b : Option (Nat × Nat)} {x : Nat × Nat × Nat} : x ∈ noteH j l b ↔ (x.1 = j ∧ b = some x.2) ∨ x ∈ l := by
  obtain ⟨q, x⟩ := x
  unfold noteH
  split
  · rename_i b
    simp only [List.mem_cons, Prod.mk.injEq, Option.some.injEq]
    exact or_congr ⟨fun h => ⟨h.1, h.2.symm⟩, fun h => ⟨h.1, h.2.symm⟩⟩ Iff.rfl
  · simp
theorem mem_notes {j : Nat} {x : Nat × Nat × Nat} : ∀ {ws : List (Nat × Nat)} {l : List (Nat × Nat × Nat)}, x ∈ notesH j ws l ↔ (x.1 = j ∧ x.2 ∈ ws) ∨ x ∈ l
  | [], l => by simp [notesH]
  | b :: ws, l => by
    unfold notesH
    rw [List.mem_cons, mem_notes (ws := ws), List.mem_cons]
    obtain ⟨q, c⟩ := x
    simp only [Prod.mk.injEq]
    constructor
    · rintro (⟨h1, h2⟩ | ⟨h1, h2⟩ | h)
      · exact .inl ⟨h1, .inl h2⟩
      · exact .inl ⟨h1, .inr h2⟩
      · exact .inr h
    · rintro (⟨h1, h2 | h2⟩ | h)
      · exact .inl ⟨h1, h2⟩
      · exact .inr (.inl ⟨h1, h2⟩)
      · exact .inr (.inr h)
theorem head_of {K : Rel4} {bs : List Nat} {fs : Nat} : ∀ (is : List Ins) (s : Nat) (wr rd : List (Nat × Nat × Nat)) (e : Env) (m : Mem) (e1 : Env) (m1 : Mem), RunHead K bs fs is s wr rd e m e1 m1 →
    ∃ es ms wss, es 0 = e ∧ ms 0 = m ∧ es is.length = e1 ∧ ms is.length = m1 ∧ Head K bs fs is es ms wss s ∧
      (∀ x ∈ wr, ∀ j ij, is[j]? = some ij → wantedN (es j) ij.guard = true → (bs.getD (s + j) 0).testBit x.1 = false → rdOf ij.op (es j) ≠ some x.2) ∧
      (∀ x ∈ rd, ∀ j ij, is[j]? = some ij → wantedN (es j) ij.guard = true → (bs.getD (s + j) 0).testBit x.1 = false → wrOf ij.op (es j) ≠ some x.2 ∧ x.2 ∉ wss j)
  | [], s, wr, rd, e, m, e1, m1, h => by
    obtain ⟨rfl, rfl⟩ := h
    exact ⟨fun _ => e1, fun _ => m1, fun _ => [], rfl, rfl, rfl, rfl, ⟨fun j i h => by simp at h, fun j i h => by simp at h, fun j i h => by simp at h, fun p j ip ij b _ h => by simp at h, fun p j ip ij b _ h => by simp at h⟩, fun x _ j ij h => by simp at h, fun x _ j ij h => by simp at h⟩
  | i :: is, s, wr, rd, e, m, e1, m1, h => by
    have sh : ∀ j, s + (j + 1) = s + 1 + j := fun j => by omega
    unfold RunHead at h
    split at h
    · rename_i hw
      obtain ⟨v, m2, ws, h1, hkc, h2, h2w, h3⟩ := h
      obtain ⟨es, ms, wss, q1, q2, q3, q4, q5, q6, q7⟩ := head_of is (s + 1) _ _ _ _ _ _ h3
      simp only [fitsH, Bool.and_eq_true] at h2
      refine ⟨cons0 e es, cons0 m ms, cons0 ws wss, rfl, rfl, q3, q4, ⟨?_, ?_, ?_, ?_, ?_⟩, ?_, ?_⟩
      · intro j i' hi hw'
        cases j with
        | zero =>
          simp only [List.getElem?_cons_zero, Option.some.injEq] at hi
          subst hi
          exact ⟨v, by show Run1 _ _ e m v (ms 0); rw [q2]; exact h1, q1⟩
        | succ j => rw [sh j]; exact q5.on j i' (by simpa using hi) hw'
      · intro j i' hi hw'
        cases j with
        | zero =>
          simp only [List.getElem?_cons_zero, Option.some.injEq] at hi
          subst hi
          show keepsC _ ws m (ms 0)
          rw [q2]; exact hkc
        | succ j => exact q5.keep j i' (by simpa using hi) hw'
      · intro j i' hi hw'
        cases j with
        | zero =>
          simp only [List.getElem?_cons_zero, Option.some.injEq] at hi
          subst hi
          exact absurd (hw.symm.trans hw') (by simp)
        | succ j => exact q5.off j i' (by simpa using hi) hw'
      · intro p j ip ij b hpj hp hj hwp hwj hb
        cases j with
        | zero => omega
        | succ j =>
          cases p with
          | zero =>
            simp only [List.getElem?_cons_zero, Option.some.injEq] at hp
            subst hp
            rw [sh] at hb
            exact ⟨fun hx => q6 (s, b) (mem_notes.2 (.inr (mem_note.2 (.inl ⟨rfl, hx⟩)))) j ij (by simpa using hj) hwj (by simpa using hb), fun hx => (q7 (s, b) (mem_note.2 (.inl ⟨rfl, hx⟩)) j ij (by simpa using hj) hwj (by simpa using hb)).1⟩
          | succ p => rw [sh j, sh p] at hb; exact q5.apart p j ip ij b (by omega) (by simpa using hp) (by simpa using hj) hwp hwj hb
      · intro p j ip ij b hpj hp hj hwp hwj hb
        cases j with
        | zero => omega
        | succ j =>
          cases p with
          | zero =>
            simp only [List.getElem?_cons_zero, Option.some.injEq] at hp
            subst hp
            rw [sh] at hb
            exact ⟨fun hx => q6 (s, b) (mem_notes.2 (.inl ⟨rfl, hx⟩)) j ij (by simpa using hj) hwj (by simpa using hb), fun hx => (q7 (s, b) (mem_note.2 (.inl ⟨rfl, hx⟩)) j ij (by simpa using hj) hwj (by simpa using hb)).2⟩
          | succ p => rw [sh j, sh p] at hb; exact q5.apartC p j ip ij b (by omega) (by simpa using hp) (by simpa using hj) hwp hwj hb
      · intro x hx j ij hj hwj hb
        cases j with
        | zero =>
          simp only [List.getElem?_cons_zero, Option.some.injEq] at hj
          subst hj
          intro hr
          have hr' : rdOf i.op e = some x.2 := hr
          have := h2.1
          rw [hr'] at this
          have this : ((bs.getD s 0).testBit x.1 || x.2 != x.2) = true := List.all_eq_true.1 this x hx
          have hb' : (bs.getD s 0).testBit x.1 = false := hb
          rw [hb'] at this; simp at this
        | succ j => rw [sh] at hb; exact q6 x (mem_notes.2 (.inr (mem_note.2 (.inr hx)))) j ij (by simpa using hj) hwj hb
      · intro x hx j ij hj hwj hb
        cases j with
        | zero =>
          simp only [List.getElem?_cons_zero, Option.some.injEq] at hj
          subst hj
          have hb' : (bs.getD s 0).testBit x.1 = false := hb
          refine ⟨fun hr => ?_, fun hr => ?_⟩
          · have hr' : wrOf i.op e = some x.2 := hr
            have := h2.2
            rw [hr'] at this
            have this : ((bs.getD s 0).testBit x.1 || x.2 != x.2) = true := List.all_eq_true.1 this x hx
            rw [hb'] at this; simp at this
          · have hr' : x.2 ∈ ws := hr
            have this : ((bs.getD s 0).testBit x.1 || x.2 != x.2) = true := List.all_eq_true.1 (List.all_eq_true.1 h2w x.2 hr') x hx
            rw [hb'] at this; simp at this
        | succ j => rw [sh] at hb; exact q7 x (mem_note.2 (.inr hx)) j ij (by simpa using hj) hwj hb
    · rename_i hw
      obtain ⟨es, ms, wss, q1, q2, q3, q4, q5, q6, q7⟩ := head_of is (s + 1) _ _ _ _ _ _ h
      have ab : ∀ {q : Prop}, wantedN e i.guard = true → q := fun h => absurd h hw
      refine ⟨cons0 e es, cons0 m ms, cons0 [] wss, rfl, rfl, q3, q4, ⟨?_, ?_, ?_, ?_, ?_⟩, ?_, ?_⟩
      · intro j i' hi hw'
        cases j with
        | zero =>
          simp only [List.getElem?_cons_zero, Option.some.injEq] at hi
          subst hi
          exact ab hw'
        | succ j => rw [sh j]; exact q5.on j i' (by simpa using hi) hw'
      · intro j i' hi hw'
        cases j with
        | zero =>
          simp only [List.getElem?_cons_zero, Option.some.injEq] at hi
          subst hi
          exact ab hw'
        | succ j => exact q5.keep j i' (by simpa using hi) hw'
      · intro j i' hi hw'
        cases j with
        | zero =>
          simp only [List.getElem?_cons_zero, Option.some.injEq] at hi
          subst hi
          exact ⟨q1, q2⟩
        | succ j => exact q5.off j i' (by simpa using hi) hw'
      · intro p j ip ij b hpj hp hj hwp hwj hb
        cases j with
        | zero => omega
        | succ j =>
          cases p with
          | zero =>
            simp only [List.getElem?_cons_zero, Option.some.injEq] at hp
            subst hp
            exact ab hwp
          | succ p => rw [sh j, sh p] at hb; exact q5.apart p j ip ij b (by omega) (by simpa using hp) (by simpa using hj) hwp hwj hb
      · intro p j ip ij b hpj hp hj hwp hwj hb
        cases j with
        | zero => omega
        | succ j =>
          cases p with
          | zero =>
            simp only [List.getElem?_cons_zero, Option.some.injEq] at hp
            subst hp
            exact ab hwp
          | succ p => rw [sh j, sh p] at hb; exact q5.apartC p j ip ij b (by omega) (by simpa using hp) (by simpa using hj) hwp hwj hb
      · intro x hx j ij hj hwj hb
        cases j with
        | zero =>
          simp only [List.getElem?_cons_zero, Option.some.injEq] at hj
          subst hj
          exact ab hwj
        | succ j => rw [sh] at hb; exact q6 x hx j ij (by simpa using hj) hwj hb
      · intro x hx j ij hj hwj hb
        cases j with
        | zero =>
          simp only [List.getElem?_cons_zero, Option.some.injEq] at hj
          subst hj
          exact ab hwj
        | succ j => rw [sh] at hb; exact q7 x hx j ij (by simpa using hj) hwj hb
end Go.Proofs.Ythecdihimfddgaa.Nv
