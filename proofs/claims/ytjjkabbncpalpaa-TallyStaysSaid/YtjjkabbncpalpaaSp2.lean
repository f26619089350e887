/- Sets of instances: what is in them. Of no program. -/
import Derived.Test.YtjjkabbncpalpaaSp1
namespace Go.Proofs.Ytjjkabbncpalpaa.Nv
open Go
theorem order_trans {a b c : ID} (h : order a b < 0) (k : order b c < 0) : order a c < 0 := by
  rw [order_lt] at *; omega
theorem order_gt {a b : ID} : 0 < order a b ↔ order b a < 0 := by
  have h1 := order_lt (a := a) (b := b)
  have h2 := order_lt (a := b) (b := a)
  have h3 : order a b = 0 ↔ a.o = b.o ∧ a.n = b.n := by rw [order_zero]; cases a; cases b; simp
  omega
theorem order_irr {a : ID} : ¬ order a a < 0 := by rw [order_lt]; omega
def sorted (l : List ID) : Prop := l.Pairwise fun a b => order a b < 0
theorem setFrom_iff : ∀ (l : List ID) (p : Option ID), setFrom p l = true ↔ (∀ x ∈ l, rightID x = true) ∧ sorted l ∧ ∀ q, p = some q → ∀ x ∈ l, order q x < 0
  | [], p => by cases p <;> simp [setFrom, sorted]
  | x :: l, p => by
    have ih := setFrom_iff l (some x)
    have key : setFrom p (x :: l) = true ↔ rightID x = true ∧ (∀ q, p = some q → order q x < 0) ∧ setFrom (some x) l = true := by
      cases p with
      | none => simp [setFrom]
      | some q => simp [setFrom, and_assoc]
    rw [key, ih]
    simp only [sorted, List.pairwise_cons, List.mem_cons, forall_eq_or_imp, Option.some.injEq, forall_eq']
    constructor
    · rintro ⟨h1, h2, h3, h4, h5⟩
      exact ⟨⟨h1, h3⟩, ⟨h5, h4⟩, fun q hq => ⟨h2 q hq, fun y hy => order_trans (h2 q hq) (h5 y hy)⟩⟩
    · rintro ⟨⟨h1, h3⟩, ⟨h5, h4⟩, h6⟩
      exact ⟨h1, fun q hq => (h6 q hq).1, h3, h4, h5⟩
theorem isSet_iff {l : List ID} : isSet l = true ↔ (∀ x ∈ l, rightID x = true) ∧ sorted l := by
  unfold isSet
  rw [setFrom_iff]
  simp
theorem merge_mem : ∀ (n : Nat) (a b : List ID), a.length + b.length ≤ n → ∀ x, x ∈ merge true a b ↔ x ∈ a ∨ x ∈ b := by
  intro n
  induction n with
  | zero => intro a b h; cases a <;> cases b <;> simp_all [merge]
  | succ n ih =>
    intro a b h x
    cases a with
    | nil => cases b with
      | nil => simp [merge]
      | cons y bs =>
        rw [merge]
        have := ih [] bs (by simp at h ⊢; omega) x
        simp at this ⊢
        rw [this]
    | cons u xs => cases b with
      | nil =>
        rw [merge]
        have := ih xs [] (by simp at h ⊢; omega) x
        simp at this ⊢
        rw [this]
      | cons y bs =>
        simp only [List.length_cons] at h
        rw [merge]
        by_cases h1 : order u y < 0
        · rw [if_pos h1]
          have := ih xs (y :: bs) (by simp; omega) x
          rw [List.mem_cons, this, List.mem_cons, List.mem_cons]
          exact or_assoc.symm
        · rw [if_neg h1]
          by_cases h2 : order u y = 0
          · rw [if_pos h2]
            have := ih xs bs (by omega) x
            have huy := order_zero.1 h2
            subst huy
            simp only [if_true, List.mem_append, List.mem_cons, List.not_mem_nil, or_false, this]
            constructor
            · rintro (h | h | h)
              · exact .inl (.inl h)
              · exact .inl (.inr h)
              · exact .inr (.inr h)
            · rintro ((h | h) | (h | h))
              · exact .inl h
              · exact .inr (.inl h)
              · exact .inl h
              · exact .inr (.inr h)
          · rw [if_neg h2]
            have := ih (u :: xs) bs (by simp; omega) x
            simp only [if_true, List.mem_append, List.mem_cons, List.not_mem_nil, or_false, this]
            constructor
            · rintro (h | (h | h) | h)
              · exact .inr (.inl h)
              · exact .inl (.inl h)
              · exact .inl (.inr h)
              · exact .inr (.inr h)
            · rintro ((h | h) | (h | h))
              · exact .inr (.inl (.inl h))
              · exact .inr (.inl (.inr h))
              · exact .inl h
              · exact .inr (.inr h)
theorem mem_merge {a b : List ID} {x : ID} : x ∈ merge true a b ↔ x ∈ a ∨ x ∈ b := merge_mem _ a b (Nat.le_refl _) x
theorem less_sub : ∀ (n : Nat) (sec : Bool) (a b : List ID), a.length + b.length ≤ n → ∀ x, x ∈ merge sec a b → x ∈ a ∨ x ∈ b := by
  intro n
  induction n with
  | zero => intro sec a b h; cases a <;> cases b <;> simp_all [merge]
  | succ n ih =>
    intro sec a b h x
    cases a with
    | nil => cases b with
      | nil => simp [merge]
      | cons y bs =>
        rw [merge]
        have := ih sec [] bs (by simp at h ⊢; omega) x
        intro hx
        rcases List.mem_append.1 hx with hx | hx
        · cases sec <;> simp at hx; exact .inr (by simp [hx])
        · rcases this hx with h | h
          · simp at h
          · exact .inr (List.mem_cons_of_mem _ h)
    | cons u xs => cases b with
      | nil =>
        rw [merge]
        have := ih sec xs [] (by simp at h ⊢; omega) x
        intro hx
        rcases List.mem_cons.1 hx with rfl | hx
        · exact .inl (List.mem_cons_self ..)
        · rcases this hx with h | h
          · exact .inl (List.mem_cons_of_mem _ h)
          · simp at h
      | cons y bs =>
        simp only [List.length_cons] at h
        rw [merge]
        by_cases h1 : order u y < 0
        · rw [if_pos h1]
          have := ih sec xs (y :: bs) (by simp; omega) x
          intro hx
          rcases List.mem_cons.1 hx with rfl | hx
          · exact .inl (List.mem_cons_self ..)
          · rcases this hx with h | h
            · exact .inl (List.mem_cons_of_mem _ h)
            · exact .inr h
        · rw [if_neg h1]
          intro hx
          rcases List.mem_append.1 hx with hx | hx
          · cases sec <;> simp at hx; exact .inr (by simp [hx])
          · by_cases h2 : order u y = 0
            · rw [if_pos h2] at hx
              rcases ih sec xs bs (by omega) x hx with h | h
              · exact .inl (List.mem_cons_of_mem _ h)
              · exact .inr (List.mem_cons_of_mem _ h)
            · rw [if_neg h2] at hx
              rcases ih sec (u :: xs) bs (by simp; omega) x hx with h | h
              · exact .inl h
              · exact .inr (List.mem_cons_of_mem _ h)
theorem merge_sorted : ∀ (n : Nat) (sec : Bool) (a b : List ID), a.length + b.length ≤ n → sorted a → sorted b → sorted (merge sec a b) := by
  intro n
  induction n with
  | zero => intro sec a b h; cases a <;> cases b <;> simp_all [merge]
  | succ n ih =>
    intro sec a b h ha hb
    have cons : ∀ (u : ID) (p q : List ID), (∀ x ∈ p, order u x < 0) → (∀ x ∈ q, order u x < 0) → sorted (merge sec p q) → sorted (u :: merge sec p q) := by
      intro u p q h1 h2 h3
      refine List.pairwise_cons.2 ⟨fun x hx => ?_, h3⟩
      rcases less_sub _ sec p q (Nat.le_refl _) x hx with h | h
      · exact h1 x h
      · exact h2 x h
    cases a with
    | nil => cases b with
      | nil => simp [merge, sorted]
      | cons y bs =>
        rw [merge]
        have hb' := List.pairwise_cons.1 hb
        have := ih sec [] bs (by simp at h ⊢; omega) ha hb'.2
        cases sec
        · exact this
        · exact cons y [] bs (by simp) hb'.1 this
    | cons u xs => cases b with
      | nil =>
        rw [merge]
        have ha' := List.pairwise_cons.1 ha
        exact cons u xs [] ha'.1 (by simp) (ih sec xs [] (by simp at h ⊢; omega) ha'.2 hb)
      | cons y bs =>
        simp only [List.length_cons] at h
        have ha' := List.pairwise_cons.1 ha
        have hb' := List.pairwise_cons.1 hb
        rw [merge]
        by_cases h1 : order u y < 0
        · rw [if_pos h1]
          refine cons u xs (y :: bs) ha'.1 (fun x hx => ?_) (ih sec xs (y :: bs) (by simp; omega) ha'.2 hb)
          rcases List.mem_cons.1 hx with rfl | hx
          · exact h1
          · exact order_trans h1 (hb'.1 x hx)
        · rw [if_neg h1]
          by_cases h2 : order u y = 0
          · rw [if_pos h2]
            have huy := order_zero.1 h2
            subst huy
            have := ih sec xs bs (by omega) ha'.2 hb'.2
            cases sec
            · exact this
            · exact cons u xs bs ha'.1 hb'.1 this
          · rw [if_neg h2]
            have hyu : order y u < 0 := by
              have := order_gt (a := u) (b := y)
              have := order_cases u y
              omega
            have := ih sec (u :: xs) bs (by simp; omega) ha hb'.2
            cases sec
            · exact this
            · refine cons y (u :: xs) bs (fun x hx => ?_) hb'.1 this
              rcases List.mem_cons.1 hx with rfl | hx
              · exact hyu
              · exact order_trans hyu (ha'.1 x hx)
theorem sorted_merge {sec : Bool} {a b : List ID} (ha : sorted a) (hb : sorted b) : sorted (merge sec a b) := merge_sorted _ sec a b (Nat.le_refl _) ha hb
theorem sorted_ext : ∀ {a b : List ID}, sorted a → sorted b → (∀ x, x ∈ a ↔ x ∈ b) → a = b
  | [], [], _, _, _ => rfl
  | [], y :: b, _, _, h => by have := (h y).2 (List.mem_cons_self ..); simp at this
  | x :: a, [], _, _, h => by have := (h x).1 (List.mem_cons_self ..); simp at this
  | x :: a, y :: b, ha, hb, h => by
    have ha' := List.pairwise_cons.1 ha
    have hb' := List.pairwise_cons.1 hb
    have hxy : x = y := by
      rcases List.mem_cons.1 ((h x).1 (List.mem_cons_self ..)) with e | h1
      · exact e
      · rcases List.mem_cons.1 ((h y).2 (List.mem_cons_self ..)) with e | h2
        · exact e.symm
        · exact absurd (order_trans (hb'.1 x h1) (ha'.1 y h2)) order_irr
    subst hxy
    congr 1
    refine sorted_ext ha'.2 hb'.2 fun z => ?_
    constructor
    · intro hz
      rcases List.mem_cons.1 ((h z).1 (List.mem_cons_of_mem _ hz)) with e | h1
      · subst e; exact absurd (ha'.1 z hz) order_irr
      · exact h1
    · intro hz
      rcases List.mem_cons.1 ((h z).2 (List.mem_cons_of_mem _ hz)) with e | h1
      · subst e; exact absurd (hb'.1 z hz) order_irr
      · exact h1
theorem isSet_merge {a b : List ID} (ha : isSet a = true) (hb : isSet b = true) : isSet (merge true a b) = true := by
  rw [isSet_iff] at *
  refine ⟨fun x hx => ?_, sorted_merge ha.2 hb.2⟩
  rcases mem_merge.1 hx with h | h
  · exact ha.1 x h
  · exact hb.1 x h
theorem isSet_ext {a b : List ID} (ha : isSet a = true) (hb : isSet b = true) (h : ∀ x, x ∈ a ↔ x ∈ b) : a = b := sorted_ext (isSet_iff.1 ha).2 (isSet_iff.1 hb).2 h
theorem merge_comm {a b : List ID} (ha : isSet a = true) (hb : isSet b = true) : merge true a b = merge true b a :=
  isSet_ext (isSet_merge ha hb) (isSet_merge hb ha) fun x => by rw [mem_merge, mem_merge]; exact or_comm
theorem merge_assoc {a b c : List ID} (ha : isSet a = true) (hb : isSet b = true) (hc : isSet c = true) : merge true (merge true a b) c = merge true a (merge true b c) :=
  isSet_ext (isSet_merge (isSet_merge ha hb) hc) (isSet_merge ha (isSet_merge hb hc)) fun x => by simp only [mem_merge]; exact or_assoc
theorem merge_sub {a b : List ID} (ha : isSet a = true) (hb : isSet b = true) (h : ∀ x ∈ b, x ∈ a) : merge true a b = a :=
  isSet_ext (isSet_merge ha hb) ha fun x => by rw [mem_merge]; exact ⟨fun q => q.elim id (h x), .inl⟩
end Go.Proofs.Ytjjkabbncpalpaa.Nv
