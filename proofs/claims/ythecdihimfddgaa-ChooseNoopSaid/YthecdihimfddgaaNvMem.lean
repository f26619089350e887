/- The plain memory, and the model's, turned side by side. Of no program. -/
import Derived.Test.YthecdihimfddgaaNvMap
import Derived.Laws.World
namespace Go.Proofs.Ythecdihimfddgaa.Nv
open Go Go.RowKit

theorem blk?_addBlk {m m' : Mem} {o : NObj} {i : Nat} (h : addBlk m o = some (i, m')) (l j : Nat) : blk? m' l j = if l = 0 ∧ j = i then some o else blk? m l j := by
  cases m with
  | nil => cases h
  | cons fr rest =>
    simp only [addBlk, Option.some.injEq, Prod.mk.injEq] at h
    obtain ⟨rfl, rfl⟩ := h
    unfold blk?
    cases l with
    | zero =>
      simp only [List.getElem?_cons_zero]
      by_cases hj : j = fr.blks.length
      · subst hj; simp
      · rw [if_neg (by simpa using hj)]
        rcases Nat.lt_or_ge j fr.blks.length with hlt | hge
        · rw [List.getElem?_append_left hlt]
        · rw [List.getElem?_eq_none (by simp; omega), List.getElem?_eq_none hge]
    | succ l => simp
theorem addBlk_len {m m' : Mem} {o : NObj} {i : Nat} (h : addBlk m o = some (i, m')) : blk? m 0 i = none := by
  cases m with
  | nil => cases h
  | cons fr rest =>
    simp only [addBlk, Option.some.injEq, Prod.mk.injEq] at h
    obtain ⟨rfl, rfl⟩ := h
    simp [blk?]
theorem tok?_addBlk {m m' : Mem} {o : NObj} {i : Nat} (h : addBlk m o = some (i, m')) (l j : Nat) : tok? m' l j = tok? m l j := by
  cases m with
  | nil => cases h
  | cons fr rest =>
    simp only [addBlk, Option.some.injEq, Prod.mk.injEq] at h
    obtain ⟨rfl, rfl⟩ := h
    unfold tok?
    cases l <;> simp
theorem toks_addBlk {m m' : Mem} {o : NObj} {i : Nat} (h : addBlk m o = some (i, m')) : m'.map (·.toks) = m.map (·.toks) := by
  cases m with
  | nil => cases h
  | cons fr rest =>
    simp only [addBlk, Option.some.injEq, Prod.mk.injEq] at h
    obtain ⟨rfl, rfl⟩ := h
    simp
theorem toks_get {m m' : Mem} (h : m'.map (·.toks) = m.map (·.toks)) (l : Nat) : (∀ fr, m[l]? = some fr → ∃ fr', m'[l]? = some fr' ∧ fr'.toks = fr.toks) := by
  intro fr hf
  have := congrArg (·[l]?) h
  simp only [List.getElem?_map, hf, Option.map_some] at this
  cases hm : m'[l]? with
  | none => rw [hm] at this; cases this
  | some fr' => rw [hm] at this; exact ⟨fr', rfl, by simpa using this⟩
theorem tok?_toks {m m' : Mem} (h : m'.map (·.toks) = m.map (·.toks)) (l t : Nat) : tok? m' l t = tok? m l t := by
  have := congrArg (·[l]?) h
  simp only [List.getElem?_map] at this
  unfold tok?
  cases hm : m[l]? <;> cases hm' : m'[l]? <;> rw [hm, hm'] at this <;> first | rfl | (cases this; done) | (have e : _ := Option.some.inj this; simp only [e])
theorem blk?_setBlk {m : Mem} {l i : Nat} {o : NObj} (l' i' : Nat) : blk? (setBlk m l i o) l' i' = if l' = l ∧ i' = i ∧ (blk? m l i).isSome = true then some o else blk? m l' i' := by
  unfold blk? setBlk
  rw [List.getElem?_modify]
  by_cases hl : l = l'
  · subst hl
    cases hm : m[l]? with
    | none => simp
    | some fr =>
      simp only [Option.map_eq_map, Option.map_some, if_true, true_and]
      rw [List.getElem?_set]
      by_cases hi : i = i'
      · subst hi
        by_cases hlt : i < fr.blks.length
        · simp [hlt]
        · simp [hlt]
      · rw [if_neg hi, if_neg (by intro h; exact hi h.1.symm)]
  · rw [if_neg (by intro h; exact hl h.1.symm)]
    cases hm : m[l']? <;> simp [hl]
theorem toks_setBlk {m : Mem} {l i : Nat} {o : NObj} : (setBlk m l i o).map (·.toks) = m.map (·.toks) := by
  unfold setBlk
  apply List.ext_getElem?
  intro j
  simp only [List.getElem?_map, List.getElem?_modify]
  cases m[j]? with
  | none => rfl
  | some fr => by_cases h : l = j <;> simp [h]
/-- Memory, but for its blocks' contents, is as it was. -/
theorem blk?_toks_addTok {m m' : Mem} {k t : Nat} (h : addTok m k = some (t, m')) (l i : Nat) : blk? m' l i = blk? m l i := by
  unfold addTok at h
  split at h
  · simp only [Option.some.injEq, Prod.mk.injEq] at h
    obtain ⟨rfl, rfl⟩ := h
    unfold blk?
    rw [List.getElem?_modify]
    cases hm : m[l]? with
    | none => rfl
    | some fr => by_cases hk : k = l <;> simp [hk]
  · cases h
theorem blk?_endTok {m : Mem} {k t : Nat} (l i : Nat) : blk? (endTok m k t) l i = blk? m l i := by
  unfold blk? endTok
  rw [List.getElem?_modify]
  cases hm : m[l]? with
  | none => rfl
  | some fr => by_cases hk : k = l <;> simp [hk]
theorem tok?_endTok {m : Mem} {k t : Nat} (l j : Nat) : tok? (endTok m k t) l j = if l = k ∧ j = t then false else tok? m l j := by
  unfold tok? endTok
  rw [List.getElem?_modify]
  by_cases hl : k = l
  · subst hl
    cases hm : m[k]? with
    | none => simp
    | some fr =>
      simp only [Option.map_eq_map, Option.map_some, if_true, true_and]
      rw [List.getElem?_set]
      by_cases hj : t = j
      · subst hj
        by_cases hlt : t < fr.toks.length <;> simp [hlt]
      · rw [if_neg hj, if_neg (fun h => hj h.symm)]
  · rw [if_neg (by intro h; exact hl h.1.symm)]
    cases hm : m[l]? <;> simp [hl]
theorem tok?_addTok {m m' : Mem} {k t : Nat} (h : addTok m k = some (t, m')) (l j : Nat) : tok? m' l j = if l = k ∧ j = t then true else tok? m l j := by
  unfold addTok at h
  split at h
  · rename_i fr hk
    simp only [Option.some.injEq, Prod.mk.injEq] at h
    obtain ⟨rfl, rfl⟩ := h
    unfold tok?
    rw [List.getElem?_modify]
    by_cases hl : k = l
    · subst hl
      rw [hk]
      simp only [Option.map_eq_map, Option.map_some, if_true, true_and]
      by_cases hj : j = fr.toks.length
      · subst hj; simp
      · rw [if_neg hj]
        rcases Nat.lt_or_ge j fr.toks.length with hlt | hge
        · rw [List.getElem?_append_left hlt]
        · rw [List.getElem?_eq_none (by simp; omega), List.getElem?_eq_none hge]
    · rw [if_neg (by intro h; exact hl h.1.symm)]
      cases hm : m[l]? <;> simp [hl]
  · cases h
theorem addTok_new {m m' : Mem} {k t : Nat} (h : addTok m k = some (t, m')) : tok? m k t = false ∧ ∃ fr, m[k]? = some fr ∧ t = fr.toks.length := by
  unfold addTok at h
  split at h
  · rename_i fr hk
    simp only [Option.some.injEq, Prod.mk.injEq] at h
    obtain ⟨rfl, rfl⟩ := h
    exact ⟨by simp [tok?, hk], fr, hk, rfl⟩
  · cases h
theorem len_addTok {m m' : Mem} {k t : Nat} (h : addTok m k = some (t, m')) {l : Nat} {fr : Fr} (hf : m[l]? = some fr) : ∃ fr', m'[l]? = some fr' ∧ fr.toks.length ≤ fr'.toks.length ∧ (l = k → t < fr'.toks.length) := by
  unfold addTok at h
  split at h
  · rename_i fr0 hk
    simp only [Option.some.injEq, Prod.mk.injEq] at h
    obtain ⟨rfl, rfl⟩ := h
    rw [List.getElem?_modify, hf]
    by_cases hl : k = l
    · subst hl
      rw [hk] at hf
      obtain rfl := Option.some.inj hf
      exact ⟨_, rfl, by simp, by simp⟩
    · exact ⟨fr, by simp [hl], Nat.le_refl _, fun h => absurd h.symm hl⟩
  · cases h
theorem len_endTok {m : Mem} {k t l : Nat} {fr : Fr} (hf : m[l]? = some fr) : ∃ fr', (endTok m k t)[l]? = some fr' ∧ fr'.toks.length = fr.toks.length := by
  unfold endTok
  rw [List.getElem?_modify, hf]
  by_cases hl : k = l
  · exact ⟨_, rfl, by simp [hl]⟩
  · exact ⟨_, rfl, by simp [hl]⟩

section
variable {P : Program} {w : World} {G : Gh} {m m' : Mem}

theorem Ext.sub {G G' : Gh} (h : Ext G G') (k : Nat) : Ext (G.sub k) (G'.sub k) := ⟨h.pub, fun _ _ _ e => h.blks _ _ _ e, fun _ _ _ e => h.toks _ _ _ e⟩
theorem ObjR.mono {G G' : Gh} {w w' : World} {rb : Nat} {o : NObj} (h : Ext G G') (hw : w'.heap[rb]? = w.heap[rb]?) (H : ObjR G w rb o) : ObjR G' w' rb o := by
  cases H with
  | cells cs vs el fz h1 h2 h3 h4 => exact .cells cs vs el fz (hw.trans h1) h2 (fun j c hj => let ⟨V, a, b⟩ := h3 j c hj; ⟨V, a, b.mono h⟩) h4
  | mp es ents ck h1 h2 => exact .mp es ents ck (hw.trans h1) (h2.imp fun _ _ k => ⟨k.1, k.2.mono h⟩)
theorem Rel.pub_lt (hM : Rel G m w) {b o : Nat} {V : Value} (h : G.pub b o = some V) : b < w.heap.size := World.block_lt_of_cell? (w := w) (a := ⟨b, o, none⟩) (hM.pub _ _ _ h)
theorem Rel.tok_lt (hM : Rel G m w) {l t : Nat} {T : Tok} (hl : G.live l t) (ht : G.toks l t = some T) : T.blk < w.heap.size := by
  obtain ⟨T', h1, _, ⟨vs, el, fz, hw, _⟩, _⟩ := hM.tok l t hl
  rw [ht] at h1
  obtain rfl := Option.some.inj h1
  exact (Array.getElem?_eq_some_iff.1 hw).1
/-- A new block of the plain memory. -/
def Gh.addB (G : Gh) (i rb : Nat) : Gh := { G with blks := fun l j => if l = 0 ∧ j = i then some rb else G.blks l j, vis := fun l j => (l = 0 ∧ j = i) ∨ G.vis l j }
theorem rel_alloc (hM : Rel G m w) {o : NObj} {i : Nat} (h : addBlk m o = some (i, m')) {obj : Obj} (hO : ObjR (G.addB i w.heap.size) (w.alloc obj) w.heap.size o) :
    Rel (G.addB i w.heap.size) m' (w.alloc obj) ∧ Ext G (G.addB i w.heap.size) ∧ St G w (G.addB i w.heap.size) (w.alloc obj) ∧ (G.Full m → (G.addB i w.heap.size).Full m') := by
  have hnone : ∀ rb, G.blks 0 i ≠ some rb := by
    intro rb hb
    obtain ⟨_, o', ho⟩ := hM.lt _ _ _ hb
    rw [addBlk_len h] at ho
    cases ho
  have ext : Ext G (G.addB i w.heap.size) := by
    refine ⟨fun _ _ _ e => e, fun l j rb e => ?_, fun _ _ _ e => e⟩
    show (if l = 0 ∧ j = i then some w.heap.size else G.blks l j) = some rb
    rw [if_neg]
    · exact e
    · rintro ⟨rfl, rfl⟩; exact hnone _ e
  have heap : ∀ k, k < w.heap.size → (w.alloc obj).heap[k]? = w.heap[k]? := fun k hk => Below.heap_alloc w obj k hk
  have old : ∀ l j rb, (G.addB i w.heap.size).blks l j = some rb → (l = 0 ∧ j = i ∧ rb = w.heap.size) ∨ (¬ (l = 0 ∧ j = i) ∧ G.blks l j = some rb) := by
    intro l j rb e
    change (if l = 0 ∧ j = i then some w.heap.size else G.blks l j) = some rb at e
    split at e
    · rename_i hc; exact .inl ⟨hc.1, hc.2, (Option.some.inj e).symm⟩
    · rename_i hc; exact .inr ⟨hc, e⟩
  refine ⟨⟨?_, ?_, ?_, ?_, ?_, ?_, ?_, ?_⟩, ext, ⟨rfl, rfl, rfl, by simp, fun b hb _ => heap b hb, ?_, fun _ _ _ _ => rfl⟩, ?_⟩
  · intro b o V e
    have e' : G.pub b o = some V := e
    rw [World.cell?_alloc_lt w obj _ (hM.pub_lt e')]
    exact hM.pub _ _ _ e'
  · intro l j rb e
    rcases old l j rb e with ⟨rfl, rfl, rfl⟩ | ⟨hc, e⟩
    · exact ⟨by simp, o, by rw [blk?_addBlk h]; simp⟩
    · obtain ⟨h1, o', h2⟩ := hM.lt _ _ _ e
      exact ⟨by simp; omega, o', by rw [blk?_addBlk h, if_neg hc]; exact h2⟩
  · intro l j rb hv e
    rcases old l j rb e with ⟨rfl, rfl, rfl⟩ | ⟨hc, e⟩
    · refine ⟨o, by rw [blk?_addBlk h]; simp, ?_⟩
      have : (G.addB j w.heap.size).sub 0 = G.addB j w.heap.size := by simp [Gh.sub]
      rw [this]; exact hO
    · obtain ⟨o', h2, h3⟩ := hM.blk _ _ _ (hv.resolve_left hc) e
      exact ⟨o', by rw [blk?_addBlk h, if_neg hc]; exact h2, h3.mono (ext.sub l) (heap rb (hM.lt _ _ _ e).1)⟩
  · intro l j rb e o'
    rcases old l j rb e with ⟨rfl, rfl, rfl⟩ | ⟨hc, e⟩
    · show G.pub w.heap.size o' = none
      cases hp : G.pub w.heap.size o' with
      | none => rfl
      | some V => have := hM.pub_lt hp; omega
    · exact hM.clean _ _ _ e o'
  · intro l j l' j' rb e e'
    rcases old l j rb e with ⟨h1, h2, h3⟩ | ⟨hc, e1⟩ <;> rcases old l' j' _ e' with ⟨h1', h2', h3'⟩ | ⟨hc', e1'⟩
    · exact ⟨h1.trans h1'.symm, h2.trans h2'.symm⟩
    · have := (hM.lt _ _ _ e1').1; omega
    · have := (hM.lt _ _ _ e1).1; omega
    · exact hM.inj _ _ _ _ _ e1 e1'
  · intro l t hl
    obtain ⟨T, h1, h2, ⟨vs, el, fz, hw, h3, h4⟩, h5, h6⟩ := hM.tok l t hl
    have hlt := (Array.getElem?_eq_some_iff.1 hw).1
    refine ⟨T, h1, by rw [tok?_addBlk h]; exact h2, ⟨vs, el, fz, (heap _ hlt).trans hw, h3, h4⟩, h5, fun l' j' e => ?_⟩
    rcases old l' j' _ e with ⟨_, _, hq⟩ | ⟨_, e⟩
    · omega
    · exact h6 _ _ e
  · exact hM.tinj
  · intro l t T e
    obtain ⟨fr, h1, h2⟩ := hM.toks _ _ _ e
    obtain ⟨fr', h3, h4⟩ := toks_get (toks_addBlk h) l fr h1
    exact ⟨fr', h3, by rw [h4]; exact h2⟩
  · rintro b hb (⟨l, j, hv, e⟩ | ⟨l, t, T, h1, h2, h3⟩)
    · rcases old l j _ e with ⟨_, _, hq⟩ | ⟨hc, e⟩
      · omega
      · exact .inl ⟨l, j, hv.resolve_left hc, e⟩
    · exact .inr ⟨l, t, T, h1, h2, h3⟩
  · rintro ⟨f1, f2⟩
    refine ⟨fun l t ht => f1 l t (by rw [← tok?_addBlk h]; exact ht), fun l j rb e => ?_⟩
    rcases old l j rb e with ⟨rfl, rfl, rfl⟩ | ⟨hc, e⟩
    · exact .inl ⟨rfl, rfl⟩
    · exact .inr (f2 _ _ _ e)
/-- A draw. -/
theorem rel_drew (hM : Rel G m w) (n : Nat) : Rel G m { w with drawn := n } ∧ St G w G { w with drawn := n } :=
  ⟨⟨hM.pub, hM.lt, fun l i rb hv hb => let ⟨o, h1, h2⟩ := hM.blk l i rb hv hb; ⟨o, h1, h2.mono (w := w) (.refl _) rfl⟩, hM.clean, hM.inj, hM.tok, hM.tinj, hM.toks⟩, ⟨rfl, rfl, rfl, Nat.le_refl _, fun _ _ _ => rfl, fun _ _ h => h, fun _ _ _ _ => rfl⟩⟩
/-- A new block that nobody writes. -/
def Gh.addP (G : Gh) (b : Nat) (cs : List Value) : Gh := { G with pub := fun b' o => if b' = b then cs[o]? else G.pub b' o }
theorem rel_pub (hM : Rel G m w) (cs : List Value) (vs : Array Value) (el : TypeId) (fz : Nat × Nat) (hp : ∀ (o : Nat) V, cs[o]? = some V → vs[o]? = some V) :
    Rel (G.addP w.heap.size cs) m (w.alloc (.cells vs el fz)) ∧ Ext G (G.addP w.heap.size cs) ∧ St G w (G.addP w.heap.size cs) (w.alloc (.cells vs el fz)) ∧ (G.Full m → (G.addP w.heap.size cs).Full m) := by
  have ext : Ext G (G.addP w.heap.size cs) := by
    refine ⟨fun b o V e => ?_, fun _ _ _ e => e, fun _ _ _ e => e⟩
    have := hM.pub_lt e
    show (if b = w.heap.size then cs[o]? else G.pub b o) = some V
    rw [if_neg (by omega)]; exact e
  have heap : ∀ k, k < w.heap.size → (w.alloc (.cells vs el fz)).heap[k]? = w.heap[k]? := fun k hk => Below.heap_alloc w _ k hk
  refine ⟨⟨?_, ?_, ?_, ?_, hM.inj, ?_, hM.tinj, hM.toks⟩, ext, ⟨rfl, rfl, rfl, by simp, fun b hb _ => heap b hb, fun b _ h => h, fun b o hb _ => ?_⟩, fun h => h⟩
  · intro b o V e
    change (if b = w.heap.size then cs[o]? else G.pub b o) = some V at e
    split at e
    · rename_i hb
      subst hb
      have : (w.alloc (.cells vs el fz)).cell? ⟨w.heap.size, o, none⟩ = vs[o]? := by simp only [World.alloc, World.cell?, Array.getElem?_push_size]; rfl
      rw [this]
      exact hp _ _ e
    · rw [World.cell?_alloc_lt w _ _ (hM.pub_lt e)]
      exact hM.pub _ _ _ e
  · intro l i rb e
    obtain ⟨h1, h2⟩ := hM.lt _ _ _ e
    exact ⟨by simp; omega, h2⟩
  · intro l i rb hv e
    obtain ⟨o, h1, h2⟩ := hM.blk _ _ _ hv e
    exact ⟨o, h1, h2.mono (ext.sub l) (heap rb (hM.lt _ _ _ e).1)⟩
  · intro l i rb e o
    show (if rb = w.heap.size then cs[o]? else G.pub rb o) = none
    rw [if_neg (by have := (hM.lt _ _ _ e).1; omega)]
    exact hM.clean _ _ _ e o
  · intro l t hl
    obtain ⟨T, h1, h2, ⟨vs', el', fz', hw, h3, h4⟩, h5, h6⟩ := hM.tok l t hl
    have hlt := (Array.getElem?_eq_some_iff.1 hw).1
    refine ⟨T, h1, h2, ⟨vs', el', fz', (heap _ hlt).trans hw, h3, h4⟩, fun o ho => ?_, h6⟩
    show (if T.blk = w.heap.size then cs[o]? else G.pub T.blk o) = none
    rw [if_neg (by omega)]
    exact h5 o ho
  · show (if b = w.heap.size then cs[o]? else G.pub b o) = G.pub b o
    rw [if_neg (by omega)]
/-- From ghosts, plain memory and the model's to others. -/
structure Adv (G : Gh) (m : Mem) (w : World) (G' : Gh) (m' : Mem) (w' : World) : Prop where
  ext : Ext G G'
  rel : Rel G' m' w'
  st : St G w G' w'
  full : G.Full m → G'.Full m'
theorem Adv.refl (hM : Rel G m w) : Adv G m w G m w := ⟨.refl _, hM, .refl _ _, fun h => h⟩
theorem Adv.trans {G1 G2 : Gh} {m1 m2 : Mem} {w1 w2 : World} (h : Adv G m w G1 m1 w1) (k : Adv G1 m1 w1 G2 m2 w2) : Adv G m w G2 m2 w2 :=
  ⟨h.ext.trans k.ext, k.rel, h.st.trans k.st, fun f => k.full (h.full f)⟩
theorem adv_alloc (hM : Rel G m w) {o : NObj} {i : Nat} (h : addBlk m o = some (i, m')) {obj : Obj} (hO : ObjR (G.addB i w.heap.size) (w.alloc obj) w.heap.size o) : Adv G m w (G.addB i w.heap.size) m' (w.alloc obj) :=
  let ⟨a, b, c, d⟩ := rel_alloc hM h hO
  ⟨b, a, c, d⟩
theorem addB_blk {i rb : Nat} : (G.addB i rb).blks 0 i = some rb := by simp [Gh.addB]
/-- One block's contents turn. -/
theorem adv_set (hM : Rel G m w) {l i rb : Nat} (hv : G.vis l i) (hb : G.blks l i = some rb) {o : NObj} {w' : World} (hos : w'.os = w.os) (htape : w'.tape = w.tape) (hout : w'.output = w.output) (hsize : w'.heap.size = w.heap.size)
    (hk : ∀ k, k ≠ rb → w'.heap[k]? = w.heap[k]?) (hO : ObjR (G.sub l) w' rb o) : Adv G m w G (setBlk m l i o) w' := by
  have hbk : (blk? m l i).isSome = true := by
    obtain ⟨_, o', ho⟩ := hM.lt _ _ _ hb
    rw [ho]; rfl
  refine ⟨.refl _, ⟨?_, ?_, ?_, hM.clean, hM.inj, ?_, hM.tinj, ?_⟩, ⟨hos, htape, hout, Nat.le_of_eq hsize.symm, fun b _ ho => hk b (fun h => ho (.inl ⟨l, i, hv, h ▸ hb⟩)), fun _ _ h => h, fun _ _ _ _ => rfl⟩, ?_⟩
  · intro b o' V e
    have hne : b ≠ rb := by
      rintro rfl
      rw [hM.clean _ _ _ hb] at e
      cases e
    have := hM.pub _ _ _ e
    unfold World.cell? at this ⊢
    simp only [hk b hne]
    exact this
  · intro l' i' rb' e
    obtain ⟨h1, o', h2⟩ := hM.lt _ _ _ e
    refine ⟨by omega, ?_⟩
    rw [blk?_setBlk]
    split
    · exact ⟨o, rfl⟩
    · exact ⟨o', h2⟩
  · intro l' i' rb' hv' e
    by_cases hc : l' = l ∧ i' = i
    · obtain ⟨rfl, rfl⟩ := hc
      rw [hb] at e
      obtain rfl := Option.some.inj e
      exact ⟨o, by rw [blk?_setBlk, if_pos ⟨rfl, rfl, hbk⟩], hO⟩
    · obtain ⟨o', h1, h2⟩ := hM.blk _ _ _ hv' e
      refine ⟨o', by rw [blk?_setBlk, if_neg (fun h => hc ⟨h.1, h.2.1⟩)]; exact h1, h2.mono (.refl _) (hk _ ?_)⟩
      rintro rfl
      obtain ⟨h3, h4⟩ := hM.inj _ _ _ _ _ e hb
      exact hc ⟨h3, h4⟩
  · intro l' t hl
    obtain ⟨T, h1, h2, ⟨vs, el, fz, hw, h3, h4⟩, h5, h6⟩ := hM.tok l' t hl
    exact ⟨T, h1, by rw [tok?_toks toks_setBlk]; exact h2, ⟨vs, el, fz, (hk _ (fun h => h6 l i (hb.trans (congrArg some h.symm)))).trans hw, h3, h4⟩, h5, h6⟩
  · intro l' t T e
    obtain ⟨fr, h1, h2⟩ := hM.toks _ _ _ e
    obtain ⟨fr', h3, h4⟩ := toks_get (toks_setBlk (l := l) (i := i) (o := o)) l' fr h1
    exact ⟨fr', h3, by rw [h4]; exact h2⟩
  · rintro ⟨f1, f2⟩
    exact ⟨fun l' t ht => f1 l' t (by rw [tok?_toks toks_setBlk] at ht; exact ht), f2⟩
theorem in_shifts (G : Gh) (k : Nat) : Shifts (inS k) G (G.sub k) := by
  refine ⟨fun _ _ _ h => h, fun l i l' i' rb h hb => ?_, fun l t l' t' T h hb => ?_⟩
  · simp only [inS] at h
    split at h
    · rename_i hk
      simp only [Option.some.injEq, Prod.mk.injEq] at h
      obtain ⟨rfl, rfl⟩ := h
      show G.blks (k + (l - k)) i = some rb
      rw [Nat.add_sub_cancel' hk]; exact hb
    · cases h
  · simp only [inS] at h
    split at h
    · rename_i hk
      simp only [Option.some.injEq, Prod.mk.injEq] at h
      obtain ⟨rfl, rfl⟩ := h
      show G.toks (k + (l - k)) t = some T
      rw [Nat.add_sub_cancel' hk]; exact hb
    · cases h
theorem into_calm {k : Nat} {v v' : NV} {V : Value} (hc : calm k v = true) (h : into k v m = some (v', m')) (hR : R1 G v V) : m' = m ∧ R1 (G.sub k) v' V := by
  have gen : ∀ {x}, sh1 (inS k) v = some x → (x, m) = (v', m') → m' = m ∧ R1 (G.sub k) v' V := by
    intro x h1 h2
    injection h2 with h2 h3
    subst h2; subst h3
    exact ⟨rfl, hR.sh (in_shifts G k) h1⟩
  cases v with
  | own sz r l t =>
    have hk : k ≤ l := by simpa [calm] using hc
    simp only [into, hk, if_true, Option.some.injEq] at h
    exact gen (by simp [sh1, inS, hk]) h
  | _ =>
    simp only [into] at h
    split at h
    · rename_i x hx
      exact gen hx (by simpa using h)
    · cases h
theorem intoL_calm {k : Nat} : ∀ {l l' : List NV} {L : List Value} {m m' : Mem}, l.all (calm k) = true → intoL k l m = some (l', m') → RL (R1 G) l L → m' = m ∧ RL (R1 (G.sub k)) l' L
  | [], l', L, m, m', _, h, hR => by
    obtain rfl := hR.nil_inv
    simp only [intoL, Option.some.injEq, Prod.mk.injEq] at h
    obtain ⟨rfl, rfl⟩ := h
    exact ⟨rfl, .nil⟩
  | v :: l, l', L, m, m', hc, h, hR => by
    obtain ⟨V, L', rfl, h1, h2⟩ := hR.cons_inv
    simp only [List.all_cons, Bool.and_eq_true] at hc
    simp only [intoL] at h
    split at h
    · rename_i v1 m1 e1
      obtain ⟨rfl, h3⟩ := into_calm hc.1 e1 h1
      split at h
      · rename_i l2 m2 e2
        obtain ⟨rfl, h4⟩ := intoL_calm hc.2 e2 h2
        simp only [Option.some.injEq, Prod.mk.injEq] at h
        obtain ⟨rfl, rfl⟩ := h
        exact ⟨rfl, .cons h3 h4⟩
      · cases h
    · cases h
/-- A token is handed over to an older frame. -/
def Gh.moveT (G : Gh) (l t k t' : Nat) : Gh :=
  { G with toks := fun l' j => if l' = k ∧ j = t' then G.toks l t else G.toks l' j, live := fun l' j => (l' = k ∧ j = t') ∨ (G.live l' j ∧ ¬ (l' = l ∧ j = t)) }
theorem adv_moveT (hM : Rel G m w) {l t k t' : Nat} (hl : G.live l t) (ha : addTok (endTok m l t) k = some (t', m')) (hlk : l ≠ k) : Adv G m w (G.moveT l t k t') m' w := by
  obtain ⟨T, hT1, hT2, hT3, hT4, hT5⟩ := hM.tok l t hl
  obtain ⟨hnew, fr0, hfr0, ht'⟩ := addTok_new ha
  have hnone : ∀ T, G.toks k t' ≠ some T := by
    intro T hq
    obtain ⟨fr, h1, h2⟩ := hM.toks _ _ _ hq
    obtain ⟨fr', h3, h4⟩ := len_endTok (k := l) (t := t) h1
    rw [hfr0] at h3
    obtain rfl := Option.some.inj h3
    omega
  have tk : ∀ l' j, (G.moveT l t k t').toks l' j = if l' = k ∧ j = t' then G.toks l t else G.toks l' j := fun _ _ => rfl
  have old : ∀ l' j T, (G.moveT l t k t').toks l' j = some T → (l' = k ∧ j = t' ∧ G.toks l t = some T) ∨ (¬ (l' = k ∧ j = t') ∧ G.toks l' j = some T) := by
    intro l' j T e
    rw [tk] at e
    split at e
    · rename_i hc; exact .inl ⟨hc.1, hc.2, e⟩
    · rename_i hc; exact .inr ⟨hc, e⟩
  have ext : Ext G (G.moveT l t k t') := ⟨fun _ _ _ e => e, fun _ _ _ e => e, fun l' j T e => by
    rw [tk, if_neg]
    · exact e
    · rintro ⟨rfl, rfl⟩; exact hnone _ e⟩
  have tkm : ∀ l' j, tok? m' l' j = if l' = k ∧ j = t' then true else if l' = l ∧ j = t then false else tok? m l' j := by
    intro l' j
    rw [tok?_addTok ha, tok?_endTok]
  have bk : ∀ l' i', blk? m' l' i' = blk? m l' i' := fun l' i' => by rw [blk?_toks_addTok ha, blk?_endTok]
  refine ⟨ext, ⟨hM.pub, ?_, ?_, hM.clean, hM.inj, ?_, ?_, ?_⟩, ⟨rfl, rfl, rfl, Nat.le_refl _, fun _ _ _ => rfl, ?_, fun _ _ _ _ => rfl⟩, ?_⟩
  · intro l' i' rb e
    obtain ⟨h1, o, h2⟩ := hM.lt _ _ _ e
    exact ⟨h1, o, by rw [bk]; exact h2⟩
  · intro l' i' rb hv e
    obtain ⟨o, h1, h2⟩ := hM.blk _ _ _ hv e
    exact ⟨o, by rw [bk]; exact h1, h2.mono (ext.sub l') rfl⟩
  · rintro l' j (⟨rfl, rfl⟩ | ⟨h1, h2⟩)
    · refine ⟨T, by rw [tk, if_pos ⟨rfl, rfl⟩]; exact hT1, by rw [tkm, if_pos ⟨rfl, rfl⟩], hT3, hT4, hT5⟩
    · obtain ⟨T', q1, q2, q3, q4, q5⟩ := hM.tok _ _ h1
      refine ⟨T', ext.toks _ _ _ q1, ?_, q3, q4, q5⟩
      rw [tkm]
      simp only [if_neg h2]
      split
      · rfl
      · exact q2
  · intro l1 j1 l2 j2 T1 T2 a1 a2 b1 b2 hq
    rcases old _ _ _ b1 with ⟨rfl, rfl, c1⟩ | ⟨n1, c1⟩ <;> rcases old _ _ _ b2 with ⟨p2, p3, c2⟩ | ⟨n2, c2⟩
    · exact ⟨p2.symm, p3.symm⟩
    · have hl2 := a2.resolve_left n2
      obtain ⟨h1, h2⟩ := hM.tinj l t l2 j2 T1 T2 hl hl2.1 c1 c2 hq
      exact absurd ⟨h1.symm, h2.symm⟩ hl2.2
    · have hl1 := a1.resolve_left n1
      obtain ⟨h1, h2⟩ := hM.tinj l1 j1 l t T1 T2 hl1.1 hl c1 c2 hq
      exact absurd ⟨h1, h2⟩ hl1.2
    · exact hM.tinj _ _ _ _ _ _ (a1.resolve_left n1).1 (a2.resolve_left n2).1 c1 c2 hq
  · intro l' j T' e
    rcases old _ _ _ e with ⟨rfl, rfl, _⟩ | ⟨_, e⟩
    · obtain ⟨fr', h3, _, h5⟩ := len_addTok ha hfr0
      exact ⟨fr', h3, h5 rfl⟩
    · obtain ⟨fr, h1, h2⟩ := hM.toks _ _ _ e
      obtain ⟨fr', h3, h4⟩ := len_endTok (k := l) (t := t) h1
      obtain ⟨fr2, h5, h6, _⟩ := len_addTok ha h3
      exact ⟨fr2, h5, by omega⟩
  · rintro b hb (⟨l', i', hv, e⟩ | ⟨l', j, T', a1, a2, a3⟩)
    · exact .inl ⟨l', i', hv, e⟩
    · rcases old _ _ _ a2 with ⟨rfl, rfl, c1⟩ | ⟨n1, c1⟩
      · exact .inr ⟨l, t, T', hl, c1, a3⟩
      · exact .inr ⟨l', j, T', (a1.resolve_left n1).1, c1, a3⟩
  · rintro ⟨f1, f2⟩
    refine ⟨fun l' j hj => ?_, f2⟩
    rw [tkm] at hj
    split at hj
    · rename_i hc; exact .inl hc
    · split at hj
      · cases hj
      · rename_i hc; exact .inr ⟨f1 _ _ hj, hc⟩
theorem moveT_tok {l t k t' : Nat} : (G.moveT l t k t').toks k t' = G.toks l t := by simp [Gh.moveT]
/-- Into a place of frame k, tokens being handed over. -/
theorem into_full {k : Nat} {v v' : NV} {V : Value} (hM : Rel G m w) (hF : G.Full m) (h : into k v m = some (v', m')) (hR : R1 G v V) :
    ∃ G', Adv G m w G' m' w ∧ R1 (G'.sub k) v' V ∧ G'.blks = G.blks ∧ G'.vis = G.vis ∧ G'.pub = G.pub ∧ ∀ l i, blk? m' l i = blk? m l i := by
  by_cases hc : calm k v = true
  · obtain ⟨rfl, h1⟩ := into_calm hc h hR
    exact ⟨G, .refl hM, h1, rfl, rfl, rfl, fun _ _ => rfl⟩
  · cases v with
    | own sz r l t =>
      have hk : ¬ k ≤ l := by simpa [calm] using hc
      simp only [into, hk, if_false] at h
      split at h
      · rename_i ht
        split at h
        · rename_i t' m1 ha
          simp only [Option.some.injEq, Prod.mk.injEq] at h
          obtain ⟨rfl, rfl⟩ := h
          have hl := hF.1 _ _ ht
          refine ⟨G.moveT l t k t', adv_moveT hM hl ha (by omega), ?_, rfl, rfl, rfl, fun l i => by rw [blk?_toks_addTok ha, blk?_endTok]⟩
          cases hR with
          | pl h => cases h
          | own _ _ _ _ b o cap T hne h0 ht' hb hp hf => exact .own sz r 0 t' b o cap T hne h0 (by show (G.moveT l t k t').toks (k + 0) t' = some T; rw [Nat.add_zero, moveT_tok]; exact ht') hb hp hf
        · cases h
      · simp only [Option.some.injEq, Prod.mk.injEq] at h
        obtain ⟨rfl, rfl⟩ := h
        refine ⟨G, .refl hM, ?_, rfl, rfl, rfl, fun _ _ => rfl⟩
        cases hR with
        | pl h => cases h
        | own _ _ _ _ b o cap T hne h0 ht' hb hp hf => exact .pl h0
    | _ => simp [calm] at hc
theorem intoL_full {k : Nat} : ∀ {l l' : List NV} {L : List Value} {G : Gh} {m m' : Mem}, Rel G m w → G.Full m → intoL k l m = some (l', m') → RL (R1 G) l L →
    ∃ G', Adv G m w G' m' w ∧ RL (R1 (G'.sub k)) l' L ∧ G'.blks = G.blks ∧ G'.vis = G.vis ∧ G'.pub = G.pub ∧ ∀ l i, blk? m' l i = blk? m l i
  | [], l', L, G, m, m', hM, _, h, hR => by
    obtain rfl := hR.nil_inv
    simp only [intoL, Option.some.injEq, Prod.mk.injEq] at h
    obtain ⟨rfl, rfl⟩ := h
    exact ⟨G, .refl hM, .nil, rfl, rfl, rfl, fun _ _ => rfl⟩
  | v :: l, l', L, G, m, m', hM, hF, h, hR => by
    obtain ⟨V, L', rfl, h1, h2⟩ := hR.cons_inv
    simp only [intoL] at h
    split at h
    · rename_i v1 m1 e1
      obtain ⟨G1, a1, r1, b1, c1, p1, k1⟩ := into_full hM hF e1 h1
      split at h
      · rename_i l2 m2 e2
        obtain ⟨G2, a2, r2, b2, c2, p2, k2⟩ := intoL_full a1.rel (a1.full hF) e2 (h2.imp fun _ _ q => q.mono a1.ext)
        simp only [Option.some.injEq, Prod.mk.injEq] at h
        obtain ⟨rfl, rfl⟩ := h
        exact ⟨G2, a1.trans a2, .cons (r1.mono (a2.ext.sub k)) r2, b2.trans b1, c2.trans c1, p2.trans p1, fun l i => (k2 l i).trans (k1 l i)⟩
      · cases h
    · cases h
end
end Go.Proofs.Ythecdihimfddgaa.Nv
