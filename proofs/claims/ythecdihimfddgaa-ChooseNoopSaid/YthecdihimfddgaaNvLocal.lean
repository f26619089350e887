/- Operations of the plain level look at one block only, and turn one only. Of no program. -/
import Derived.Test.YthecdihimfddgaaNvTrace
namespace Go.Proofs.Ythecdihimfddgaa.Nv
open Go Go.RowKit

theorem loadV_local {agg : Bool} {n : Nat} {a v : NV} {m m2 : Mem} (h : loadV agg n a m = some v) (hb : ∀ l i o, a = .ptr l i o → blk? m2 l i = blk? m l i) : loadV agg n a m2 = some v := by
  cases a <;> simp only [loadV] at h ⊢ <;> try exact h
  rw [hb _ _ _ rfl]; exact h
theorem bytesStr_local {a v : NV} {m m2 : Mem} (h : bytesStr a m = some v) (hb : ∀ l i o n z, a = .msl l i o n z → blk? m2 l i = blk? m l i) : bytesStr a m2 = some v := by
  cases a <;> simp only [bytesStr] at h ⊢ <;> try exact h
  rw [hb _ _ _ _ _ rfl]; exact h
theorem step_calm {op : NOp} {e : Env} {m m1 : Mem} {v : NV} (hc : chg op = false) (h : step op e m = some (v, m1)) :
    m1 = m ∧ ∀ m2 : Mem, (∀ l i, rdOf op e = some (l, i) → blk? m2 l i = blk? m l i) → step op e m2 = some (v, m2) := by
  have pm : ∀ {x : Option NV} {y : Mem → Option NV}, (∀ m2 : Mem, (∀ l i, rdOf op e = some (l, i) → blk? m2 l i = blk? m l i) → x = some v → y m2 = some v) → pureM x m = some (v, m1) →
      m1 = m ∧ ∀ m2 : Mem, (∀ l i, rdOf op e = some (l, i) → blk? m2 l i = blk? m l i) → pureM (y m2) m2 = some (v, m2) := by
    intro x y hy h
    obtain ⟨h1, h2⟩ := pureM_some h
    exact ⟨h2, fun m2 hb => by rw [hy m2 hb h1]; rfl⟩
  have same : ∀ {f : Mem → Option (NV × Mem)}, (∀ m m1 v, f m = some (v, m1) → m1 = m ∧ ∀ m2, f m2 = some (v, m2)) → f m = some (v, m1) →
      m1 = m ∧ ∀ m2 : Mem, (∀ l i, rdOf op e = some (l, i) → blk? m2 l i = blk? m l i) → f m2 = some (v, m2) := by
    intro f hf h
    obtain ⟨h1, h2⟩ := hf _ _ _ h
    exact ⟨h1, fun m2 _ => h2 m2⟩
  cases op <;> first | (cases hc; done) | skip
  case load agg n a =>
    refine pm (y := fun m2 => loadV agg n (a.ev e) m2) (fun m2 hb h => loadV_local h fun l i o ha => hb l i ?_) h
    simp only [rdOf, ha]
  case b2s x =>
    refine pm (y := fun m2 => bytesStr (x.ev e) m2) (fun m2 hb h => bytesStr_local h fun l i o n z ha => hb l i ?_) h
    simp only [rdOf, ha]
  case look t ok zero mp k =>
    simp only [step] at h ⊢
    cases hx : mp.ev e <;> rw [hx] at h <;> simp only at h ⊢ <;> try (cases h; done)
    · split at h
      · rename_i hq
        simp only [Option.some.injEq, Prod.mk.injEq] at h
        obtain ⟨rfl, rfl⟩ := h
        exact ⟨rfl, fun m2 _ => by rw [if_pos hq]⟩
      · cases h
    · rename_i l i
      have hr : rdOf (.look t ok zero mp k) e = some (l, i) := by simp only [rdOf, hx]
      cases hb : blk? m l i with
      | none => rw [hb] at h; cases h
      | some ob =>
        rw [hb] at h
        cases ob with
        | cells cs => cases h
        | mp es =>
          simp only at h
          refine ⟨?_, fun m2 h2 => ?_⟩
          · repeat' (split at h)
            all_goals first | (cases h; done) | (simp only [Option.some.injEq, Prod.mk.injEq] at h; exact h.2.symm)
          · rw [h2 l i hr, hb]
            simp only
            split at h
            · rename_i hq
              rw [if_pos hq]
              cases h3 : findE t (k.ev e) es 0 with
              | none => rw [h3] at h; cases h
              | some r =>
                rw [h3] at h
                simp only at h ⊢
                split at h
                · rename_i v' h4
                  simp only [Option.some.injEq, Prod.mk.injEq] at h
                  rw [h.1]
                · cases h
            · cases h
  case len k x =>
    cases k <;> simp only [step] at h ⊢
    case map =>
      cases hx : x.ev e <;> rw [hx] at h <;> simp only at h ⊢ <;> try (cases h; done)
      · simp only [Option.some.injEq, Prod.mk.injEq] at h
        obtain ⟨rfl, rfl⟩ := h
        exact ⟨rfl, fun _ _ => rfl⟩
      · rename_i l i
        have hr : rdOf (.len .map x) e = some (l, i) := by simp only [rdOf, hx]
        cases hb : blk? m l i with
        | none => rw [hb] at h; cases h
        | some ob =>
          rw [hb] at h
          cases ob with
          | cells cs => cases h
          | mp es =>
            simp only [Option.some.injEq, Prod.mk.injEq] at h
            obtain ⟨rfl, rfl⟩ := h
            exact ⟨rfl, fun m2 h2 => by rw [h2 l i hr, hb]⟩
    all_goals
      first
        | (simp only [Option.some.injEq, Prod.mk.injEq] at h
           obtain ⟨rfl, rfl⟩ := h
           exact ⟨rfl, fun _ _ => rfl⟩)
        | (cases hx : x.ev e <;> rw [hx] at h <;> simp only at h ⊢ <;> first
            | (cases h; done)
            | (simp only [Option.some.injEq, Prod.mk.injEq] at h
               obtain ⟨rfl, rfl⟩ := h
               exact ⟨rfl, fun _ _ => rfl⟩))
  case build z ps => exact pm (y := fun _ => (fillN z (evP e ps)).map .agg) (fun _ _ h => h) h
  case bin op x y => exact pm (y := fun _ => binV op (x.ev e) (y.ev e)) (fun _ _ h => h) h
  case un op x => exact pm (y := fun _ => unV op (x.ev e)) (fun _ _ h => h) h
  case slice k x lo hi mx => exact pm (y := fun _ => sliceV k (x.ev e) (evO e lo) (evO e hi) (evO e mx)) (fun _ _ h => h) h
  case field ag o n x => exact pm (y := fun _ => partV ag o n (x.ev e)) (fun _ _ h => h) h
  case iaddr k x i => exact pm (y := fun _ => iaddrV k (x.ev e) (i.ev e)) (fun _ _ h => h) h
  case index k ag x i => exact pm (y := fun _ => indexV k ag (x.ev e) (i.ev e)) (fun _ _ h => h) h
  all_goals
    refine same (fun m m1 v h => ?_) h
    simp only [step] at h ⊢
    repeat' (split at h)
    all_goals first
      | (cases h; done)
      | (simp only [Option.some.injEq, Prod.mk.injEq] at h
         obtain ⟨rfl, rfl⟩ := h
         exact ⟨rfl, fun _ => by simp only [*] <;> first | rfl | simp_all⟩)
      | (obtain ⟨h1, h2⟩ := pureM_some h
         subst h2
         exact ⟨rfl, fun _ => by simp only [*] <;> first | rfl | simp [pureM, *]⟩)

theorem into_blk {k : Nat} {v v' : NV} {m m' : Mem} (h : into k v m = some (v', m')) (l i : Nat) : blk? m' l i = blk? m l i := by
  unfold into at h
  split at h
  · split at h
    · simp only [Option.some.injEq, Prod.mk.injEq] at h; rw [← h.2]
    · split at h
      · split at h
        · rename_i ha
          simp only [Option.some.injEq, Prod.mk.injEq] at h
          rw [← h.2, blk?_toks_addTok ha, blk?_endTok]
        · cases h
      · simp only [Option.some.injEq, Prod.mk.injEq] at h; rw [← h.2]
  · split at h
    · simp only [Option.some.injEq, Prod.mk.injEq] at h; rw [← h.2]
    · cases h
theorem intoL_blk {k : Nat} : ∀ {vs vs' : List NV} {m m' : Mem}, intoL k vs m = some (vs', m') → ∀ (l i : Nat), blk? m' l i = blk? m l i
  | [], vs', m, m', h, l, i => by simp only [intoL, Option.some.injEq, Prod.mk.injEq] at h; rw [← h.2]
  | v :: vs, vs', m, m', h, l, i => by
    simp only [intoL] at h
    split at h
    · rename_i e1
      split at h
      · rename_i e2
        simp only [Option.some.injEq, Prod.mk.injEq] at h
        rw [← h.2, intoL_blk e2, into_blk e1]
      · cases h
    · cases h
theorem addBlk_keeps {m m' : Mem} {ob o : NObj} {n l i : Nat} (h : addBlk m ob = some (n, m')) (hb : blk? m l i = some o) : blk? m' l i = some o := by
  rw [blk?_addBlk h, if_neg]
  · exact hb
  · rintro ⟨rfl, rfl⟩
    rw [addBlk_len h] at hb
    cases hb
theorem appV_blk {sz bytes : Nat} {x y v : NV} {m m' : Mem} (h : appV sz bytes x y m = some (v, m')) (l i : Nat) : blk? m' l i = blk? m l i := by
  unfold appV at h
  repeat' (split at h)
  all_goals first
    | (cases h; done)
    | (simp only [Option.some.injEq, Prod.mk.injEq] at h; rw [← h.2]; done)
    | (rename_i ha
       simp only [Option.some.injEq, Prod.mk.injEq] at h
       rw [← h.2, blk?_toks_addTok ha]
       done)
    | (rename_i ha
       simp only [Option.some.injEq, Prod.mk.injEq] at h
       rw [← h.2, blk?_toks_addTok ha, blk?_endTok])
theorem step_keeps {op : NOp} {e : Env} {m m1 : Mem} {v : NV} (hq : quietOp op = true) (h : step op e m = some (v, m1)) {l i : Nat} {o : NObj} (hb : blk? m l i = some o) (hw : wrOf op e ≠ some (l, i)) :
    blk? m1 l i = some o := by
  by_cases hc : chg op = false
  · rw [(step_calm hc h).1]; exact hb
  · cases op <;> first | (exact absurd rfl hc) | (cases hq; done) | skip
    case box x =>
      simp only [step] at h
      split at h
      · rename_i e1
        split at h
        · rename_i e2
          simp only [Option.some.injEq, Prod.mk.injEq] at h
          rw [← h.2]
          exact addBlk_keeps e2 (by rw [intoL_blk e1]; exact hb)
        · cases h
      · cases h
    case store n x y =>
      simp only [step] at h
      split at h
      · rename_i m2 e1
        simp only [Option.some.injEq, Prod.mk.injEq] at h
        rw [← h.2]
        unfold storeV at e1
        split at e1
        · rename_i l' i' o' ha
          have hne : (l', i') ≠ (l, i) := by
            intro hq
            injection hq with h1 h2
            subst h1; subst h2
            exact hw (by simp only [wrOf, ha])
          split at e1
          · split at e1
            · rename_i e2
              split at e1
              · split at e1
                · simp only [Option.some.injEq] at e1
                  rw [← e1, blk?_setBlk, if_neg, intoL_blk e2]
                  · exact hb
                  · rintro ⟨h1, h2, _⟩
                    exact hne (by rw [h1, h2])
                · cases e1
              · cases e1
            · cases e1
          · cases e1
        · cases e1
      · cases h
    case app sz b x y => rw [appV_blk h]; exact hb
    all_goals
      simp only [step] at h
      repeat' (split at h)
      all_goals first
        | (cases h; done)
        | (rename_i e2
           simp only [Option.some.injEq, Prod.mk.injEq] at h
           rw [← h.2]
           exact addBlk_keeps e2 hb)
theorem wrOf_calm {op : NOp} {e : Env} (h : chg op = false) : wrOf op e = none := by
  cases op <;> first | rfl | (cases h; done)
theorem rdOf_some {op : NOp} {e : Env} {m m1 : Mem} {v : NV} (h : step op e m = some (v, m1)) {l i : Nat} (hr : rdOf op e = some (l, i)) : ∃ o, blk? m l i = some o := by
  have fin : ∀ {x : Option NObj}, (∀ o, x = some o → ∃ o, x = some o) := fun o h => ⟨o, h⟩
  cases op <;> simp only [rdOf] at hr <;> try (cases hr; done)
  case load agg n a =>
    split at hr
    · rename_i l' i' o ha
      simp only [Option.some.injEq, Prod.mk.injEq] at hr
      obtain ⟨rfl, rfl⟩ := hr
      obtain ⟨h1, _⟩ := pureM_some h
      rw [ha] at h1
      unfold loadV at h1
      cases hb : blk? m l' i' with
      | none => simp only [hb] at h1; cases h1
      | some o => exact ⟨o, rfl⟩
    · cases hr
  case b2s a =>
    split at hr
    · rename_i l' i' o n z ha
      simp only [Option.some.injEq, Prod.mk.injEq] at hr
      obtain ⟨rfl, rfl⟩ := hr
      obtain ⟨h1, _⟩ := pureM_some h
      rw [ha] at h1
      unfold bytesStr at h1
      cases hb : blk? m l' i' with
      | none => simp only [hb] at h1; cases h1
      | some o => exact ⟨o, rfl⟩
    · cases hr
  case look t ok z mp k =>
    split at hr
    · rename_i l' i' ha
      simp only [Option.some.injEq, Prod.mk.injEq] at hr
      obtain ⟨rfl, rfl⟩ := hr
      simp only [step, ha] at h
      cases hb : blk? m l' i' with
      | none => simp only [hb] at h; cases h
      | some o => exact ⟨o, rfl⟩
    · cases hr
  case len k x =>
    cases k <;> simp only [rdOf] at hr <;> try (cases hr; done)
    split at hr
    · rename_i l' i' ha
      simp only [Option.some.injEq, Prod.mk.injEq] at hr
      obtain ⟨rfl, rfl⟩ := hr
      simp only [step, ha] at h
      cases hb : blk? m l' i' with
      | none => simp only [hb] at h; cases h
      | some o => exact ⟨o, rfl⟩
    · cases hr

section
variable {P : Program} {w : World} {G : Gh} {e : Env} {a : Act}
theorem rdOf_placed {o : Op} {ty : TypeId} {op : NOp} (hc : comp1 P o ty = some op) (hE : Env.On G e a (opTs op)) {l i : Nat} (hr : rdOf op e = some (l, i)) : ∃ rb, G.blks l i = some rb := by
  have pl : ∀ {x : Operand} {y : Opd}, opd x = some y → (∀ t ∈ opdT y, t ∈ opTs op) → ((∃ o, y.ev e = .ptr l i o) ∨ (∃ o n z, y.ev e = .msl l i o n z) ∨ y.ev e = .map l i) → ∃ rb, G.blks l i = some rb := by
    intro x y hx ht hv
    have hR := opd_R hx (hE.mono ht)
    rcases hv with ⟨o, hv⟩ | ⟨o, n, z, hv⟩ | hv <;> rw [hv] at hR
    · obtain ⟨rb, _, h⟩ := hR.ptr_inv; exact ⟨rb, h⟩
    · obtain ⟨rb, _, _, h, _⟩ := hR.msl_inv; exact ⟨rb, h⟩
    · obtain ⟨rb, _, h⟩ := hR.map_inv; exact ⟨rb, h⟩
  have fin : ∀ {q : NOp}, rdOf q e = some (l, i) → (∀ e l i, rdOf q e ≠ some (l, i)) → False := fun h k => k _ _ _ h
  have o2 : ∀ {f : Opd → Opd → NOp} {x y : Option Opd}, opt2 f x y = some op → (∀ a b, rdOf (f a b) e = none) → False := by
    intro f x y h hf
    obtain ⟨a, b, _, _, rfl⟩ := opt2_some h
    rw [hf] at hr; cases hr
  have mp : ∀ {α : Type} {f : α → NOp} {x : Option α}, x.map f = some op → (∀ a, rdOf (f a) e = none) → False := by
    intro α f x h hf
    obtain ⟨a, _, rfl⟩ := map_some h
    rw [hf] at hr; cases hr
  have on : ∀ {q : NOp}, some q = some op → rdOf q e = none → False := by
    intro q h hf
    simp only [Option.some.injEq] at h
    subst h
    rw [hf] at hr; cases hr
  cases o <;> simp only [comp1] at hc
  case load t x =>
    split at hc
    · obtain ⟨y, h1, rfl⟩ := map_some hc
      refine pl h1 (fun t h => h) (.inl ?_)
      simp only [rdOf] at hr
      split at hr
      · rename_i ha
        simp only [Option.some.injEq, Prod.mk.injEq] at hr
        obtain ⟨rfl, rfl⟩ := hr
        exact ⟨_, ha⟩
      · cases hr
    · cases hc
  case lookup t mo k ok =>
    split at hc
    · split at hc
      · split at hc
        · obtain ⟨y, z, h1, _, rfl⟩ := opt2_some hc
          refine pl h1 (fun t h => by simp [opTs, h]) (.inr (.inr ?_))
          simp only [rdOf] at hr
          split at hr
          · rename_i ha
            simp only [Option.some.injEq, Prod.mk.injEq] at hr
            obtain ⟨rfl, rfl⟩ := hr
            exact ha
          · cases hr
        · cases hc
      · cases hc
    · cases hc
  case convert s d x =>
    split at hc
    · exact (mp hc (fun _ => rfl)).elim
    · exact (mp hc (fun _ => rfl)).elim
    · split at hc
      · exact (mp hc (fun _ => rfl)).elim
      · cases hc
    · split at hc
      · obtain ⟨y, h1, rfl⟩ := map_some hc
        refine pl h1 (fun t h => h) (.inr (.inl ?_))
        simp only [rdOf] at hr
        split at hr
        · rename_i ha
          simp only [Option.some.injEq, Prod.mk.injEq] at hr
          obtain ⟨rfl, rfl⟩ := hr
          exact ⟨_, _, _, ha⟩
        · cases hr
      · cases hc
    · cases hc
  case call c =>
    unfold compCall at hc
    split at hc
    case h_4 =>
      split at hc
      · split at hc
        · exact (mp hc (fun _ => rfl)).elim
        · exact (mp hc (fun _ => rfl)).elim
        · exact (mp hc (fun _ => rfl)).elim
        · obtain ⟨y, h1, rfl⟩ := map_some hc
          refine pl h1 (fun t h => h) (.inr (.inr ?_))
          simp only [rdOf] at hr
          split at hr
          · rename_i ha
            simp only [Option.some.injEq, Prod.mk.injEq] at hr
            obtain ⟨rfl, rfl⟩ := hr
            exact ha
          · cases hr
        · cases hc
      · cases hc
    all_goals
      repeat' (split at hc)
      all_goals first
        | (cases hc; done)
        | exact (mp hc (fun _ => rfl)).elim
        | exact (on hc rfl).elim
  all_goals first
    | (cases hc; done)
    | exact (mp hc (fun _ => rfl)).elim
    | exact (o2 hc (fun _ _ => rfl)).elim
    | (exfalso
       repeat' (split at hc)
       all_goals first
         | (cases hc; done)
         | exact mp hc (fun _ => rfl)
         | exact o2 hc (fun _ _ => rfl)
         | exact on hc rfl
         | cases ‹Op.makeFunc _ _ _ = _›)
end
end Go.Proofs.Ythecdihimfddgaa.Nv
