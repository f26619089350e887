/- What runs in some frames, runs so with more frames behind them. Of no program. -/
import Derived.Test.YthecdihimfddgaaNvW
namespace Go.Proofs.Ythecdihimfddgaa.Nv
open Go

section
variable {m m' b : Mem}
theorem modify_app {f : Fr → Fr} : ∀ {m b : Mem} {l : Nat}, l < m.length → (m ++ b).modify l f = m.modify l f ++ b
  | [], _, _, h => by simp at h
  | x :: m, b, 0, _ => rfl
  | x :: m, b, l + 1, h => by
    show x :: (m ++ b).modify l f = x :: m.modify l f ++ b
    rw [modify_app (by simpa using h)]
    rfl
theorem blk?_app {l i : Nat} (h : l < m.length) : blk? (m ++ b) l i = blk? m l i := by
  unfold blk?
  rw [List.getElem?_append_left h]
theorem tok?_app {l i : Nat} (h : l < m.length) : tok? (m ++ b) l i = tok? m l i := by
  unfold tok?
  rw [List.getElem?_append_left h]
theorem blk?_lt {l i : Nat} {o : NObj} (h : blk? m l i = some o) : l < m.length := by
  unfold blk? at h
  split at h
  · rename_i hq; exact (List.getElem?_eq_some_iff.1 hq).1
  · cases h
theorem tok?_lt {l i : Nat} (h : tok? m l i = true) : l < m.length := by
  unfold tok? at h
  split at h
  · rename_i hq; exact (List.getElem?_eq_some_iff.1 hq).1
  · cases h
theorem addBlk_app {o : NObj} {i : Nat} (h : addBlk m o = some (i, m')) : addBlk (m ++ b) o = some (i, m' ++ b) ∧ m'.length = m.length := by
  cases m with
  | nil => cases h
  | cons fr m =>
    simp only [addBlk, Option.some.injEq, Prod.mk.injEq] at h
    obtain ⟨rfl, rfl⟩ := h
    exact ⟨rfl, rfl⟩
theorem addTok_app {k t : Nat} (h : addTok m k = some (t, m')) : addTok (m ++ b) k = some (t, m' ++ b) ∧ m'.length = m.length := by
  unfold addTok at h ⊢
  split at h
  · rename_i fr hk
    have hlt := (List.getElem?_eq_some_iff.1 hk).1
    rw [List.getElem?_append_left hlt, hk]
    simp only [Option.some.injEq, Prod.mk.injEq] at h
    obtain ⟨rfl, rfl⟩ := h
    exact ⟨by rw [modify_app hlt], by simp⟩
  · cases h
theorem endTok_app {l t : Nat} (h : l < m.length) : endTok (m ++ b) l t = endTok m l t ++ b ∧ (endTok m l t).length = m.length := ⟨modify_app h, by simp [endTok]⟩
theorem setBlk_app {l t : Nat} {o : NObj} (h : l < m.length) : setBlk (m ++ b) l t o = setBlk m l t o ++ b := modify_app h
theorem into_app {k : Nat} {v v' : NV} (hk : k < m.length) (h : into k v m = some (v', m')) : into k v (m ++ b) = some (v', m' ++ b) ∧ m'.length = m.length := by
  unfold into at h ⊢
  split at h
  · rename_i sz r l t
    try simp only
    split at h
    · rename_i hc
      simp only [Option.some.injEq, Prod.mk.injEq] at h
      rw [if_pos hc, ← h.1, ← h.2]
      exact ⟨rfl, rfl⟩
    · rename_i hc
      rw [if_neg hc]
      have hl : l < m.length := by omega
      rw [tok?_app hl]
      split at h
      · rename_i ht
        rw [if_pos ht]
        split at h
        · rename_i t' m1 ha
          simp only [Option.some.injEq, Prod.mk.injEq] at h
          obtain ⟨h1, h2⟩ := addTok_app (b := b) ha
          rw [(endTok_app hl).1, h1, ← h.1, ← h.2]
          exact ⟨rfl, h2.trans (endTok_app (b := b) hl).2⟩
        · cases h
      · rename_i ht
        rw [if_neg ht]
        simp only [Option.some.injEq, Prod.mk.injEq] at h
        rw [← h.1, ← h.2]
        exact ⟨rfl, rfl⟩
  · rename_i hne
    split at h
    · rename_i x hx
      simp only [Option.some.injEq, Prod.mk.injEq] at h
      (try rw [hx])
      rw [← h.1, ← h.2]
      exact ⟨rfl, rfl⟩
    · cases h
theorem intoL_app {k : Nat} : ∀ {vs vs' : List NV} {m m' : Mem}, k < m.length → intoL k vs m = some (vs', m') → intoL k vs (m ++ b) = some (vs', m' ++ b) ∧ m'.length = m.length
  | [], vs', m, m', _, h => by
    simp only [intoL, Option.some.injEq, Prod.mk.injEq] at h ⊢
    rw [← h.1, ← h.2]
    exact ⟨⟨rfl, rfl⟩, rfl⟩
  | v :: vs, vs', m, m', hk, h => by
    simp only [intoL] at h ⊢
    split at h
    · rename_i v1 m1 e1
      obtain ⟨h1, h2⟩ := into_app (b := b) hk e1
      rw [h1]
      split at h
      · rename_i vs1 m2 e2
        obtain ⟨h3, h4⟩ := intoL_app (m := m1) (by omega) e2
        simp only [h3]
        simp only [Option.some.injEq, Prod.mk.injEq] at h ⊢
        rw [← h.1, ← h.2]
        exact ⟨⟨rfl, rfl⟩, h4.trans h2⟩
      · cases h
    · cases h
theorem intoV_app {k : Nat} {v v' : NV} (hk : k < m.length) (h : intoV k v m = some (v', m')) : intoV k v (m ++ b) = some (v', m' ++ b) ∧ m'.length = m.length := by
  unfold intoV at h ⊢
  split at h
  · split at h
    · rename_i cs m1 e1
      obtain ⟨h1, h2⟩ := intoL_app (b := b) hk e1
      simp only [h1]
      simp only [Option.some.injEq, Prod.mk.injEq] at h ⊢
      rw [← h.1, ← h.2]
      exact ⟨⟨rfl, rfl⟩, h2⟩
    · cases h
  · exact into_app hk h
theorem loadV_app {agg : Bool} {n : Nat} {a v : NV} (h : loadV agg n a m = some v) : loadV agg n a (m ++ b) = some v := by
  unfold loadV at h ⊢
  split at h
  · exact h
  · rename_i l i o
    try simp only
    cases hb : blk? m l i with
    | none => rw [hb] at h; cases h
    | some ob => rw [hb] at h; rw [blk?_app (blk?_lt hb), hb]; exact h
  · cases h
theorem bytesStr_app {a v : NV} (h : bytesStr a m = some v) : bytesStr a (m ++ b) = some v := by
  unfold bytesStr at h ⊢
  split at h
  · exact h
  · exact h
  · rename_i l i o n z
    try simp only
    cases hb : blk? m l i with
    | none => rw [hb] at h; cases h
    | some ob => rw [hb] at h; rw [blk?_app (blk?_lt hb), hb]; exact h
  · cases h
theorem storeV_app {n : Nat} {a v : NV} (h : storeV n a v m = some m') : storeV n a v (m ++ b) = some (m' ++ b) ∧ m'.length = m.length := by
  unfold storeV at h ⊢
  split at h
  · rename_i l i o
    split at h
    · rename_i hn
      simp only [hn, if_true]
      split at h
      · rename_i vs m1 e1
        have hk : l < m.length := by
          split at h
          · rename_i cs hb
            have := blk?_lt hb
            refine Classical.byContradiction fun hc => ?_
            have hlen : ∀ {vs vs' : List NV} {m m' : Mem}, intoL l vs m = some (vs', m') → m'.length = m.length := by
              intro vs
              induction vs with
              | nil => intro vs' m m' h; simp only [intoL, Option.some.injEq, Prod.mk.injEq] at h; rw [h.2]
              | cons v vs ih =>
                intro vs' m m' h
                simp only [intoL] at h
                split at h
                · rename_i v1 m1 e1
                  split at h
                  · rename_i e2
                    simp only [Option.some.injEq, Prod.mk.injEq] at h
                    rw [← h.2, ih e2]
                    unfold into at e1
                    split at e1
                    · split at e1
                      · simp only [Option.some.injEq, Prod.mk.injEq] at e1; rw [e1.2]
                      · split at e1
                        · split at e1
                          · rename_i ha
                            simp only [Option.some.injEq, Prod.mk.injEq] at e1
                            rw [← e1.2, (addTok_app (b := []) ha).2]
                            simp [endTok]
                          · cases e1
                        · simp only [Option.some.injEq, Prod.mk.injEq] at e1; rw [e1.2]
                    · split at e1
                      · simp only [Option.some.injEq, Prod.mk.injEq] at e1; rw [e1.2]
                      · cases e1
                  · cases h
                · cases h
            rw [hlen e1] at this
            exact hc this
          · cases h
        obtain ⟨h1, h2⟩ := intoL_app (b := b) hk e1
        simp only [h1]
        split at h
        · rename_i cs hb
          rw [blk?_app (blk?_lt hb), hb]
          try simp only
          split at h
          · rename_i hq
            rw [if_pos hq]
            simp only [Option.some.injEq] at h ⊢
            rw [← h, setBlk_app (blk?_lt hb)]
            exact ⟨rfl, by simp [setBlk, h2]⟩
          · cases h
        · cases h
      · cases h
    · cases h
  · cases h
theorem appV_app {sz bytes : Nat} {x y v : NV} (h : appV sz bytes x y m = some (v, m')) : appV sz bytes x y (m ++ b) = some (v, m' ++ b) ∧ m'.length = m.length := by
  unfold appV at h ⊢
  split at h
  · cases h
  · rename_i ysz ys hy
    try simp only
    split at h
    · rename_i h1
      rw [if_pos h1]
      split at h
      · rename_i xsz full r
        try simp only
        split at h
        · rename_i h2
          rw [if_pos h2]
          split at h
          · rename_i h3
            rw [if_pos h3]
            simp only [Option.some.injEq, Prod.mk.injEq] at h ⊢
            rw [← h.1, ← h.2]; exact ⟨⟨rfl, rfl⟩, rfl⟩
          · rename_i h3
            rw [if_neg h3]
            split at h
            · rename_i h4
              rw [if_pos h4]
              split at h
              · rename_i t m1 ha
                obtain ⟨q1, q2⟩ := addTok_app (b := b) ha
                rw [q1]
                simp only [Option.some.injEq, Prod.mk.injEq] at h ⊢
                rw [← h.1, ← h.2]; exact ⟨⟨rfl, rfl⟩, q2⟩
              · cases h
            · cases h
        · cases h
      · rename_i xsz r l t
        try simp only
        split at h
        · rename_i h2
          rw [if_pos h2]
          split at h
          · rename_i h3
            rw [if_pos h3]
            simp only [Option.some.injEq, Prod.mk.injEq] at h ⊢
            rw [← h.1, ← h.2]; exact ⟨⟨rfl, rfl⟩, rfl⟩
          · rename_i h3
            rw [if_neg h3]
            split at h
            · rename_i h4
              have hl := tok?_lt h4.1
              rw [if_pos (by rw [tok?_app hl]; exact h4), (endTok_app hl).1]
              split at h
              · rename_i t m1 ha
                obtain ⟨q1, q2⟩ := addTok_app (b := b) ha
                rw [q1]
                simp only [Option.some.injEq, Prod.mk.injEq] at h ⊢
                rw [← h.1, ← h.2]; exact ⟨⟨rfl, rfl⟩, q2.trans (endTok_app (b := b) hl).2⟩
              · cases h
            · cases h
        · cases h
      · cases h
    · cases h
theorem pureM_app {v : Option NV} {u : NV} (h : pureM v m = some (u, m')) : pureM v (m ++ b) = some (u, m' ++ b) ∧ m'.length = m.length := by
  cases v with
  | none => cases h
  | some v =>
    simp only [pureM, Option.some.injEq, Prod.mk.injEq] at h ⊢
    rw [← h.1, ← h.2]; exact ⟨⟨rfl, rfl⟩, rfl⟩
theorem some_app {u v : NV} (h : some (u, m) = some (v, m')) : some (u, m ++ b) = some (v, m' ++ b) ∧ m'.length = m.length := by
  simp only [Option.some.injEq, Prod.mk.injEq] at h ⊢
  rw [← h.1, ← h.2]; exact ⟨⟨rfl, rfl⟩, rfl⟩
theorem step_app {op : NOp} {e : Env} {v : NV} (h : step op e m = some (v, m')) : step op e (m ++ b) = some (v, m' ++ b) ∧ m'.length = m.length := by
  cases op
  case load agg n a =>
    obtain ⟨h1, h2⟩ := (show loadV agg n (a.ev e) m = some v ∧ m' = m by
      simp only [step, pureM] at h
      split at h
      · rename_i hq; simp only [Option.some.injEq, Prod.mk.injEq] at h; rw [hq, h.1]; exact ⟨rfl, h.2.symm⟩
      · cases h)
    subst h2
    exact ⟨by simp only [step, loadV_app h1]; rfl, rfl⟩
  case b2s a =>
    obtain ⟨h1, h2⟩ := (show bytesStr (a.ev e) m = some v ∧ m' = m by
      simp only [step, pureM] at h
      split at h
      · rename_i hq; simp only [Option.some.injEq, Prod.mk.injEq] at h; rw [hq, h.1]; exact ⟨rfl, h.2.symm⟩
      · cases h)
    subst h2
    exact ⟨by simp only [step, bytesStr_app h1]; rfl, rfl⟩
  case app sz by' x y => exact appV_app h
  case store n a x =>
    simp only [step] at h ⊢
    split at h
    · rename_i m1 e1
      obtain ⟨h1, h2⟩ := storeV_app (b := b) e1
      simp only [Option.some.injEq, Prod.mk.injEq] at h
      rw [h1, ← h.1, ← h.2]
      exact ⟨rfl, h2⟩
    · cases h
  case box x =>
    simp only [step] at h ⊢
    split at h
    · rename_i cs m1 e1
      split at h
      · rename_i i m2 e2
        have hk : 0 < m.length := by
          cases m with
          | nil =>
            refine absurd e2 ?_
            have : m1 = [] := by
              have gen : ∀ {vs vs' : List NV} {m' : Mem}, intoL 0 vs [] = some (vs', m') → m' = [] := by
                intro vs
                induction vs with
                | nil => intro vs' m' h; simp only [intoL, Option.some.injEq, Prod.mk.injEq] at h; exact h.2.symm
                | cons v vs ih =>
                  intro vs' m' h
                  simp only [intoL] at h
                  split at h
                  · rename_i v1 m1 e1
                    have hm1 : m1 = [] := by
                      unfold into at e1
                      split at e1
                      · simp only [Nat.zero_le, if_true, Option.some.injEq, Prod.mk.injEq] at e1; exact e1.2.symm
                      · split at e1
                        · simp only [Option.some.injEq, Prod.mk.injEq] at e1; exact e1.2.symm
                        · cases e1
                    subst hm1
                    split at h
                    · rename_i e2
                      simp only [Option.some.injEq, Prod.mk.injEq] at h
                      rw [← h.2]; exact ih e2
                    · cases h
                  · cases h
              exact gen e1
            subst this
            simp [addBlk]
          | cons _ _ => simp
        obtain ⟨h1, h2⟩ := intoL_app (b := b) hk e1
        obtain ⟨h3, h4⟩ := addBlk_app (b := b) e2
        simp only [h1, h3]
        simp only [Option.some.injEq, Prod.mk.injEq] at h ⊢
        rw [← h.1, ← h.2]
        exact ⟨⟨rfl, rfl⟩, h4.trans h2⟩
      · cases h
    · cases h
  case look t ok z mp k =>
    simp only [step] at h ⊢
    split at h
    · rename_i l i hx
      try simp only [hx]
      cases hb : blk? m l i with
      | none => rw [hb] at h; cases h
      | some ob =>
        rw [blk?_app (blk?_lt hb), hb]
        rw [hb] at h
        cases ob with
        | cells cs => cases h
        | mp es =>
          (try simp only at h ⊢)
          split at h
          · rename_i hq
            rw [if_pos hq]
            cases h3 : findE t (k.ev e) es 0 with
            | none => rw [h3] at h; cases h
            | some r =>
              rw [h3] at h
              (try simp only at h ⊢)
              split at h
              · rename_i v' h4
                exact some_app h
              · cases h
          · cases h
    · rename_i hx
      try simp only [hx]
      split at h
      · rename_i hq
        rw [if_pos hq]
        exact some_app h
      · cases h
    · cases h
  case put t mp k x =>
    simp only [step] at h ⊢
    split at h
    · rename_i l i hx
      try simp only [hx]
      split at h
      · rename_i v1 m1 e1
        cases hb : blk? m1 l i with
        | none => rw [hb] at h; cases h
        | some ob =>
          have hlen : m1.length = m.length := by
            unfold intoV at e1
            have one : ∀ {v v' : NV} {m m' : Mem}, into l v m = some (v', m') → m'.length = m.length := by
              intro v v' m m' e1
              unfold into at e1
              split at e1
              · split at e1
                · simp only [Option.some.injEq, Prod.mk.injEq] at e1; rw [e1.2]
                · split at e1
                  · split at e1
                    · rename_i ha
                      simp only [Option.some.injEq, Prod.mk.injEq] at e1
                      rw [← e1.2, (addTok_app (b := []) ha).2]
                      simp [endTok]
                    · cases e1
                  · simp only [Option.some.injEq, Prod.mk.injEq] at e1; rw [e1.2]
              · split at e1
                · simp only [Option.some.injEq, Prod.mk.injEq] at e1; rw [e1.2]
                · cases e1
            have hlen : ∀ {vs vs' : List NV} {m m' : Mem}, intoL l vs m = some (vs', m') → m'.length = m.length := by
              intro vs
              induction vs with
              | nil => intro vs' m m' h; simp only [intoL, Option.some.injEq, Prod.mk.injEq] at h; rw [h.2]
              | cons v vs ih =>
                intro vs' m m' h
                simp only [intoL] at h
                split at h
                · rename_i v1 m1 e1
                  split at h
                  · rename_i e2
                    simp only [Option.some.injEq, Prod.mk.injEq] at h
                    rw [← h.2, ih e2, one e1]
                  · cases h
                · cases h
            split at e1
            · split at e1
              · rename_i e2
                simp only [Option.some.injEq, Prod.mk.injEq] at e1
                rw [← e1.2]; exact hlen e2
              · cases e1
            · exact one e1
          have hl := blk?_lt hb
          obtain ⟨h1, h2⟩ := intoV_app (b := b) (show l < m.length by omega) e1
          simp only [h1]
          rw [blk?_app hl, hb]
          rw [hb] at h
          cases ob with
          | cells cs => cases h
          | mp es =>
            (try simp only at h ⊢)
            split at h
            · rename_i hq
              rw [if_pos hq]
              cases h3 : findE t (k.ev e) es 0 with
              | none => rw [h3] at h; cases h
              | some r =>
                rw [h3] at h
                cases r with
                | none =>
                  simp only [Option.some.injEq, Prod.mk.injEq] at h ⊢
                  rw [setBlk_app hl, ← h.1, ← h.2]
                  exact ⟨⟨rfl, rfl⟩, by simp [setBlk, h2]⟩
                | some r =>
                  simp only [Option.some.injEq, Prod.mk.injEq] at h ⊢
                  rw [setBlk_app hl, ← h.1, ← h.2]
                  exact ⟨⟨rfl, rfl⟩, by simp [setBlk, h2]⟩
            · cases h
      · cases h
    · cases h
  case del t mp k =>
    simp only [step] at h ⊢
    split at h
    · rename_i l i hx
      try simp only [hx]
      cases hb : blk? m l i with
      | none => rw [hb] at h; cases h
      | some ob =>
        have hl := blk?_lt hb
        rw [blk?_app hl, hb]
        rw [hb] at h
        cases ob with
        | cells cs => cases h
        | mp es =>
          (try simp only at h ⊢)
          split at h
          · rename_i hq
            rw [if_pos hq]
            cases h3 : findE t (k.ev e) es 0 with
            | none => rw [h3] at h; cases h
            | some r =>
              rw [h3] at h
              cases r with
              | none => exact some_app h
              | some r =>
                simp only [Option.some.injEq, Prod.mk.injEq] at h ⊢
                rw [setBlk_app hl, ← h.1, ← h.2]
                exact ⟨⟨rfl, rfl⟩, by simp [setBlk]⟩
          · cases h
    · cases h
  case len k x =>
    cases k <;> simp only [step] at h ⊢
    case map =>
      split at h
      · rename_i hx; (try simp only [hx]); exact some_app h
      · rename_i l i hx
        try simp only [hx]
        cases hb : blk? m l i with
        | none => rw [hb] at h; cases h
        | some ob =>
          rw [blk?_app (blk?_lt hb), hb]
          rw [hb] at h
          cases ob with
          | cells cs => cases h
          | mp es => exact some_app h
      · cases h
    all_goals
      first
        | exact some_app h
        | (split at h <;> first
            | (cases h; done)
            | (rename_i hx; (try simp only [hx]); exact some_app h))
  case pick c x y =>
    simp only [step] at h ⊢
    cases hx : c.ev e <;> rw [hx] at h <;> first | (cases h; done) | exact some_app h
  case bslc sz len z ps =>
    simp only [step] at h ⊢
    cases h1 : fillN z (evP e ps) with
    | none => rw [h1] at h; cases h
    | some cs =>
      rw [h1] at h
      cases h2 : plainL cs with
      | none => simp only [h2] at h; cases h
      | some cs' =>
        simp only [h2] at h ⊢
        split at h
        · rename_i hq; rw [if_pos hq]; exact some_app h
        · cases h
  case eq k neg x y =>
    simp only [step] at h ⊢
    cases hx : eqK k (x.ev e) (y.ev e) with
    | none => rw [hx] at h; cases h
    | some c => rw [hx] at h; exact some_app h
  case mkfn f caps =>
    simp only [step] at h ⊢
    split at h
    · rename_i hq; rw [if_pos hq]; exact some_app h
    · cases h
  all_goals
    simp only [step] at h ⊢
    first
      | (cases h; done)
      | exact pureM_app h
      | exact some_app h
      | (repeat' (split at h)
         all_goals first
           | (cases h; done)
           | exact some_app h
           | exact pureM_app h
           | ((try simp only [*]); first | exact some_app h | exact pureM_app h | skip
              simp only [if_true, and_self]
              exact some_app h)
           | (rename_i e2
              obtain ⟨h3, h4⟩ := addBlk_app (b := b) e2
              simp only [Option.some.injEq, Prod.mk.injEq] at h
              rw [← h.1, ← h.2]
              refine ⟨?_, by simpa using h4⟩
              simp only [*]
              first | done | rfl | simp_all))
def AppK (b : Mem) (K K' : Rel4) : Prop := (∀ f a m v m', K f a m v m' → K' f a (m ++ b) v (m' ++ b)) ∧ ∀ f a v, K f a [] v [] → K' f a [] v []
theorem Run1.app {K K' : Rel4} (hK : AppK b K K') {op : NOp} {e : Env} {v : NV} (h : Run1 K op e m v m') : Run1 K' op e (m ++ b) v (m' ++ b) := by
  rcases h with h | ⟨f, a, h1, h2⟩
  · exact .inl (step_app h).1
  · exact .inr ⟨f, a, h1, hK.1 _ _ _ _ _ h2⟩
theorem RunOps.app {K K' : Rel4} (hK : AppK b K K') : ∀ {l : List Ins} {e e' : Env} {m m' : Mem}, RunOps K l e m e' m' → RunOps K' l e (m ++ b) e' (m' ++ b)
  | [], _, _, _, _, ⟨h1, h2⟩ => by subst h1; subst h2; exact ⟨rfl, rfl⟩
  | i :: l, e, e', m, m', h => by
    unfold RunOps at h ⊢
    split at h
    · rename_i hw
      obtain ⟨v, m1, h1, h2⟩ := h
      rw [if_pos hw]
      exact ⟨v, m1 ++ b, h1.app hK, RunOps.app hK h2⟩
    · rename_i hw
      rw [if_neg hw]
      exact RunOps.app hK h
theorem AppK.head {K K' : Rel4} (hK : AppK b K K') (fr im : Bool) : AppK b (headK K fr im) (headK K' fr im) := by
  cases fr
  · exact ⟨fun f a m v m' h => ⟨hK.1 f a m v m' h.1, fun q => by rw [h.2 q]⟩, fun f a v h => ⟨hK.2 f a v h.1, fun _ => rfl⟩⟩
  · exact ⟨fun f a m v m' h => ⟨hK.2 f a v h.1, by rw [h.2]⟩, fun f a v h => ⟨hK.2 f a v h.1, rfl⟩⟩
theorem keepsC.app {op : NOp} {ws : List (Nat × Nat)} {m1 : Mem} (h : keepsC op ws m m1) : keepsC op ws (m ++ b) (m1 ++ b) := by
  intro hc
  obtain ⟨h1, h2⟩ := h hc
  refine ⟨by rw [List.length_append, List.length_append, h1], fun l i o hn ho => ?_⟩
  unfold blk? at ho ⊢
  rcases Nat.lt_or_ge l m.length with hlt | hge
  · rw [List.getElem?_append_left hlt] at ho
    rw [List.getElem?_append_left (by omega)]
    exact h2 l i o hn ho
  · rw [List.getElem?_append_right hge] at ho
    rw [List.getElem?_append_right (by omega), h1]
    exact ho
theorem RunHead.app {K K' : Rel4} (hK : AppK b K K') {bs : List Nat} {fs : Nat} : ∀ {l : List Ins} {j : Nat} {wr rd : List (Nat × Nat × Nat)} {e e' : Env} {m m' : Mem}, RunHead K bs fs l j wr rd e m e' m' → RunHead K' bs fs l j wr rd e (m ++ b) e' (m' ++ b)
  | [], _, _, _, _, _, _, _, ⟨h1, h2⟩ => by subst h1; subst h2; exact ⟨rfl, rfl⟩
  | i :: l, j, wr, rd, e, e', m, m', h => by
    unfold RunHead at h ⊢
    split at h
    · rename_i hw
      obtain ⟨v, m1, ws, h1, h2, h3, h4, h5⟩ := h
      rw [if_pos hw]
      exact ⟨v, m1 ++ b, ws, h1.app (hK.head _ _), h2.app, h3, h4, RunHead.app hK h5⟩
    · rename_i hw
      rw [if_neg hw]
      exact RunHead.app hK h
theorem RunC.app {K K' : Rel4} (hK : AppK b K K') {c : NC} {e e' : Env} {m m' : Mem} {x : NX} (h : RunC K c e m x e' m') : RunC K' c e (m ++ b) x e' (m' ++ b) := by
  induction h with
  | skip => exact .skip _ _
  | label => exact .label _ _ _
  | ret => exact .ret _ _
  | exit => exact .exit _ _ _
  | goto => exact .goto _ _ _
  | region H => exact .region (H.app hK)
  | drawn H1 H2 => exact .drawn (H1.app hK) (H2.app hK)
  | seq _ _ h1 h2 => exact .seq h1 h2
  | seqx _ hx h1 => exact .seqx h1 hx
  | condt hc _ h1 => exact .condt hc h1
  | condf hc _ h1 => exact .condf hc h1
  | block _ h1 => exact .block h1
  | loop _ _ h1 h2 => exact .loop h1 h2
  | loopx _ hx h1 => exact .loopx h1 hx
  | scope _ h1 => exact .scope h1
  | inx _ hx h1 => exact .inx h1 hx
  | ingo _ hf _ h1 h2 => exact .ingo h1 hf h2
theorem results1_app {e : Env} {r : Res} {v : NV} (h : results1 e m r = some v) : results1 e (m ++ b) r = some v := by
  cases r with
  | tmp t => exact h
  | cell a ag n => exact loadV_app h
theorem resultsL_app {e : Env} : ∀ {l : List Res} {vs : List NV}, resultsL e m l = some vs → resultsL e (m ++ b) l = some vs
  | [], vs, h => h
  | r :: l, vs, h => by
    simp only [resultsL] at h ⊢
    split at h
    · rename_i v vs' h1 h2
      rw [results1_app h1, resultsL_app h2]
      exact h
    · cases h
theorem resultOf_app {e : Env} {l : List Res} {v : NV} (h : resultOf e m l = some v) : resultOf e (m ++ b) l = some v := by
  unfold resultOf at h ⊢
  cases hq : resultsL e m l with
  | none => rw [hq] at h; cases h
  | some vs => rw [hq] at h; rw [resultsL_app hq]; exact h
theorem pop_app {v v' : NV} (h : pop v m = some (v', m')) : pop v (m ++ b) = some (v', m' ++ b) := by
  cases m with
  | nil => cases h
  | cons fr rest =>
    simp only [pop, List.cons_append] at h ⊢
    split at h
    · simp only [Option.some.injEq, Prod.mk.injEq] at h ⊢
      rw [← h.1, ← h.2]; exact ⟨rfl, rfl⟩
    · split at h
      · rename_i fr2 rest2 _
        split at h
        · rename_i h1 h2
          simp only [List.cons_append]
          rw [h1, h2]
          simp only [Option.some.injEq, Prod.mk.injEq] at h ⊢
          rw [← h.1, ← h.2]; exact ⟨rfl, rfl⟩
        · cases h
      · cases h
theorem EvN.app {F : FuncId → Option NF} {X : FuncId → List NV → NV → Prop} : ∀ n, AppK b (EvN F X n) (EvN F X n)
  | 0 => ⟨fun _ _ _ _ _ h => h.elim, fun _ _ _ h => h⟩
  | n + 1 => ⟨fun f a m v m' h => by
    rcases h with ⟨h1, h2⟩ | ⟨nf, as, x, e1, m1, v1, h1, h2, h3, h4, h5, h6, h7⟩
    · exact .inl ⟨h1, by rw [h2]⟩
    · exact .inr ⟨nf, as, x, e1, m1 ++ b, v1, h1, h2, h3, h4.app (EvN.app n), h5, resultOf_app h6, pop_app h7⟩, fun _ _ _ h => h⟩
/-- A call that was seen in no memory is so in any. -/
theorem EvF.app {F : FuncId → Option NF} {X : FuncId → List NV → NV → Prop} {f : FuncId} {a : List NV} {v : NV} (h : EvF F X f a m v m') : EvF F X f a (m ++ b) v (m' ++ b) := let ⟨n, h⟩ := h; ⟨n, (EvN.app n).1 _ _ _ _ _ h⟩
theorem EvF.any {F : FuncId → Option NF} {X : FuncId → List NV → NV → Prop} {f : FuncId} {a : List NV} {v : NV} (h : EvF F X f a [] v []) (m : Mem) : EvF F X f a m v m := EvF.app (b := m) h
end
end Go.Proofs.Ythecdihimfddgaa.Nv
