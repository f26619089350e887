/- Code, and functions: the model does what Nv reckons. Of no program. -/
import Derived.Test.YthecdihimfddgaaNvHead
import Derived.Test.YthecdihimfddgaaGoto
namespace Go.Proofs.Ythecdihimfddgaa.Nv
open Go Go.RowKit Go.Proofs.Ythecdihimfddgaa.Goto

section
variable {P : Program} {n : Nat}

def exitOf : NX → Exit
  | .normal => .normal
  | .exit i => .exit i
  | .goto l => .goto l
  | .ret => .ret
theorem exitOf_normal {x : NX} (h : x ≠ .normal) {N : Act → World → Prop} {Q : Exit → Act → World → Prop} : Exit.then N Q (exitOf x) = Q (exitOf x) := by
  cases x <;> first | exact absurd rfl h | rfl
def Sim (P : Program) (n : Nat) (c : NC) (e : Env) (m : Mem) (x : NX) (e' : Env) (m' : Mem) : Prop :=
  ∀ cr, compC P n cr = c → ∀ (G : Gh) (a : Act) (w : World) (Q : Exit → Act → World → Prop), EnvR G e a n → Rel G m w → G.Full m → After Q (exitOf x) G m w e' m' n a.defers → cr.wp P Q a w
def SimLoop (P : Program) (n : Nat) (c : NC) (x : NX) (e' : Env) (m' : Mem) : Nat → Env → Mem → Prop
  | 0, e, m => Sim P n c e m x e' m' ∧ x ≠ .normal
  | k + 1, e, m => ∃ e1 m1, Sim P n c e m .normal e1 m1 ∧ SimLoop P n c x e' m' k e1 m1
def SimIn (P : Program) (n : Nat) (s c : NC) (e : Env) (m : Mem) (x : NX) (e' : Env) (m' : Mem) : Prop :=
  ∀ sr cr, compC P n sr = s → compC P n cr = c → ∀ (G : Gh) (a : Act) (w : World) (Q : Exit → Act → World → Prop) (J : Nat → Act → World → Prop), (∀ l rest a w, findLabel sr l = some rest → rest.wp P (JumpA J Q) a w → J l a w) →
    EnvR G e a n → Rel G m w → G.Full m → (∀ l, x ≠ .goto l) → After Q (exitOf x) G m w e' m' n a.defers → cr.wp P (JumpA J Q) a w
theorem After.imp {Q Q' : Exit → Act → World → Prop} {x x' : Exit} {G : Gh} {m : Mem} {w : World} {e' : Env} {m' : Mem} {ds : List Deferred} (h : After Q x G m w e' m' n ds) (hq : ∀ a w, Q x a w → Q' x' a w) : After Q' x' G m w e' m' n ds :=
  fun G' a' w' h1 h2 h3 => hq _ _ (h G' a' w' h1 h2 h3)

/-! What the code was. -/
theorem compR_ne {ops : Array Oper} {d : Bool} : (∃ l q, compR P n ops d = .region l q) ∨ compR P n ops d = .bad := by
  unfold compR
  split
  · exact .inl ⟨_, _, rfl⟩
  · split
    · exact .inl ⟨_, _, rfl⟩
    · exact .inr rfl
theorem inv_skip {cr : Code} (h : compC P n cr = .skip) : cr = .skip := by
  cases cr with
  | skip => rfl
  | region id ops d =>
    simp only [compC] at h
    rcases compR_ne (P := P) (n := n) (ops := ops) (d := d) with ⟨q, r, h2⟩ | h2 <;> (rw [h2] at h; cases h)
  | cond c x y =>
    simp only [compC] at h
    split at h <;> cases h
  | _ => cases h
theorem inv_seq {cr : Code} {a b : NC} (h : compC P n cr = .seq a b) : ∃ x y, cr = .seq x y ∧ compC P n x = a ∧ compC P n y = b := by
  cases cr with
  | seq x y => simp only [compC, NC.seq.injEq] at h; exact ⟨x, y, rfl, h.1, h.2⟩
  | region id ops d =>
    simp only [compC] at h
    rcases compR_ne (P := P) (n := n) (ops := ops) (d := d) with ⟨q, r, h2⟩ | h2 <;> (rw [h2] at h; cases h)
  | cond c x y =>
    simp only [compC] at h
    split at h <;> cases h
  | _ => cases h
theorem inv_block {cr : Code} {i : Nat} {a : NC} (h : compC P n cr = .block i a) : ∃ x, cr = .block i x ∧ compC P n x = a := by
  cases cr with
  | block j x => simp only [compC, NC.block.injEq] at h; obtain ⟨rfl, h⟩ := h; exact ⟨x, rfl, h⟩
  | region id ops d =>
    simp only [compC] at h
    rcases compR_ne (P := P) (n := n) (ops := ops) (d := d) with ⟨q, r, h2⟩ | h2 <;> (rw [h2] at h; cases h)
  | cond c x y =>
    simp only [compC] at h
    split at h <;> cases h
  | _ => cases h
theorem inv_loop {cr : Code} {a : NC} (h : compC P n cr = .loop a) : ∃ x, cr = .loop x ∧ compC P n x = a := by
  cases cr with
  | loop x => simp only [compC, NC.loop.injEq] at h; exact ⟨x, rfl, h⟩
  | region id ops d =>
    simp only [compC] at h
    rcases compR_ne (P := P) (n := n) (ops := ops) (d := d) with ⟨q, r, h2⟩ | h2 <;> (rw [h2] at h; cases h)
  | cond c x y =>
    simp only [compC] at h
    split at h <;> cases h
  | _ => cases h
theorem inv_scope {cr : Code} {a : NC} (h : compC P n cr = .scope a) : ∃ x, cr = .scope x ∧ compC P n x = a := by
  cases cr with
  | scope x => simp only [compC, NC.scope.injEq] at h; exact ⟨x, rfl, h⟩
  | region id ops d =>
    simp only [compC] at h
    rcases compR_ne (P := P) (n := n) (ops := ops) (d := d) with ⟨q, r, h2⟩ | h2 <;> (rw [h2] at h; cases h)
  | cond c x y =>
    simp only [compC] at h
    split at h <;> cases h
  | _ => cases h
theorem inv_exit {cr : Code} {i : Nat} (h : compC P n cr = .exit i) : cr = .exit i := by
  cases cr with
  | exit j => simp only [compC, NC.exit.injEq] at h; rw [h]
  | region id ops d =>
    simp only [compC] at h
    rcases compR_ne (P := P) (n := n) (ops := ops) (d := d) with ⟨q, r, h2⟩ | h2 <;> (rw [h2] at h; cases h)
  | cond c x y =>
    simp only [compC] at h
    split at h <;> cases h
  | _ => cases h
theorem inv_label {cr : Code} {i : Nat} (h : compC P n cr = .label i) : cr = .label i := by
  cases cr with
  | label j => simp only [compC, NC.label.injEq] at h; rw [h]
  | region id ops d =>
    simp only [compC] at h
    rcases compR_ne (P := P) (n := n) (ops := ops) (d := d) with ⟨q, r, h2⟩ | h2 <;> (rw [h2] at h; cases h)
  | cond c x y =>
    simp only [compC] at h
    split at h <;> cases h
  | _ => cases h
theorem inv_goto {cr : Code} {i : Nat} (h : compC P n cr = .goto i) : cr = .goto i := by
  cases cr with
  | goto j => simp only [compC, NC.goto.injEq] at h; rw [h]
  | region id ops d =>
    simp only [compC] at h
    rcases compR_ne (P := P) (n := n) (ops := ops) (d := d) with ⟨q, r, h2⟩ | h2 <;> (rw [h2] at h; cases h)
  | cond c x y =>
    simp only [compC] at h
    split at h <;> cases h
  | _ => cases h
theorem inv_ret {cr : Code} (h : compC P n cr = .ret) : cr = .ret := by
  cases cr with
  | ret => rfl
  | region id ops d =>
    simp only [compC] at h
    rcases compR_ne (P := P) (n := n) (ops := ops) (d := d) with ⟨q, r, h2⟩ | h2 <;> (rw [h2] at h; cases h)
  | cond c x y =>
    simp only [compC] at h
    split at h <;> cases h
  | _ => cases h
theorem inv_cond {cr : Code} {c : Opd} {a b : NC} (h : compC P n cr = .cond c a b) : ∃ d x y, cr = .cond d x y ∧ opd d = some c ∧ compC P n x = a ∧ compC P n y = b := by
  cases cr with
  | cond d x y =>
    simp only [compC] at h
    split at h
    · rename_i c' hc
      simp only [NC.cond.injEq] at h
      obtain ⟨rfl, h1, h2⟩ := h
      exact ⟨d, x, y, rfl, hc, h1, h2⟩
    · cases h
  | region id ops d =>
    simp only [compC] at h
    rcases compR_ne (P := P) (n := n) (ops := ops) (d := d) with ⟨q, r, h2⟩ | h2 <;> (rw [h2] at h; cases h)
  | _ => cases h
theorem inv_region {cr : Code} {l : List Ins} {q : Option (Nat × List Nat × Nat)} (h : compC P n cr = .region l q) : ∃ id ops d, cr = .region id ops d ∧ compR P n ops d = .region l q := by
  cases cr with
  | region id ops d => exact ⟨id, ops, d, rfl, h⟩
  | cond c x y =>
    simp only [compC] at h
    split at h <;> cases h
  | _ => cases h
theorem inv_inscope {cr : Code} {s a : NC} (h : compC P n cr = .inscope s a) : False := by
  cases cr with
  | region id ops d =>
    simp only [compC] at h
    rcases compR_ne (P := P) (n := n) (ops := ops) (d := d) with ⟨q, r, h2⟩ | h2 <;> (rw [h2] at h; cases h)
  | cond c x y =>
    simp only [compC] at h
    split at h <;> cases h
  | _ => cases h
theorem findLab_comp : ∀ (cr : Code) (l : Nat), findLab (compC P n cr) l = (findLabel cr l).map (compC P n)
  | .skip, l => rfl
  | .region _ ops d, l => by
    simp only [compC, findLabel, Option.map_none]
    rcases compR_ne (P := P) (n := n) (ops := ops) (d := d) with ⟨q, r, h⟩ | h <;> rw [h] <;> rfl
  | .seq a b, l => by
    simp only [compC, findLab, findLabel, findLab_comp a l, findLab_comp b l]
    cases findLabel a l <;> rfl
  | .cond c a b, l => by
    simp only [compC, findLabel, Option.map_none]
    cases opd c <;> rfl
  | .block _ _, l => rfl
  | .loop _, l => rfl
  | .rangeFunc _ _ _ _, l => rfl
  | .exit _, l => rfl
  | .scope _, l => rfl
  | .label i, l => by
    simp only [compC, findLab, findLabel]
    split <;> rfl
  | .goto _, l => rfl
  | .ret, l => rfl
  | .refuse _, l => rfl

theorem After.seqs {Q : Exit → Act → World → Prop} {N : Act → World → Prop} {x : NX} (hx : x ≠ .normal) {G : Gh} {m : Mem} {w : World} {e' : Env} {m' : Mem} {ds : List Deferred} (h : After Q (exitOf x) G m w e' m' n ds) : After (Exit.then N Q) (exitOf x) G m w e' m' n ds := by
  unfold After
  rw [exitOf_normal hx]
  exact h
theorem loop_wp {c : NC} {cr : Code} (hcr : compC P n cr = c) {x : NX} {e' : Env} {m' : Mem} {k : Nat} {e : Env} {m : Mem} (H : SimLoop P n c x e' m' k e m) {G : Gh} {a : Act} {w : World} {Q : Exit → Act → World → Prop} (hE : EnvR G e a n) (hM : Rel G m w) (hF : G.Full m)
    (hQ : After Q (exitOf x) G m w e' m' n a.defers) : (Code.loop cr).wp P Q a w := by
  refine wp_loop_ghost (fun k a w => ∃ e m G, SimLoop P n c x e' m' k e m ∧ EnvR G e a n ∧ Rel G m w ∧ G.Full m ∧ After Q (exitOf x) G m w e' m' n a.defers) k ⟨e, m, G, H, hE, hM, hF, hQ⟩ ?_
  rintro k a w ⟨e, m, G, H, hE, hM, hF, hQ⟩
  cases k with
  | zero =>
    obtain ⟨H, hx⟩ := H
    exact H cr hcr G a w _ hE hM hF (hQ.seqs hx)
  | succ k =>
    obtain ⟨e1, m1, H1, H2⟩ := H
    refine H1 cr hcr G a w _ hE hM hF (fun G' a' w' hadv hE' hd => ?_)
    exact ⟨k, Nat.lt_succ_self k, e1, m1, G', H2, hE', hadv.rel, hadv.full hF, by rw [hd]; exact hQ.step hadv⟩
theorem sim_all {K : Rel4} (hm : P.follows .mixedOrders = true) (hK : KSim P K) (hKc : Callable P K) (hKa : KAny K) {c : NC} {e : Env} {m : Mem} {x : NX} {e' : Env} {m' : Mem} (H : RunC K c e m x e' m') :
    Sim P n c e m x e' m' ∧ (∀ c0, c = .loop c0 → ∃ k, SimLoop P n c0 x e' m' k e m) ∧ (∀ s c0, c = .inscope s c0 → SimIn P n s c0 e m x e' m') := by
  have noloop : ∀ {c : NC} {e m x e' m'}, (∀ c0, c ≠ .loop c0) → ∀ c0, c = .loop c0 → ∃ k, SimLoop P n c0 x e' m' k e m := fun h c0 hc => absurd hc (h c0)
  have noscope : ∀ {c : NC} {e m x e' m'}, (∀ s c0, c ≠ .inscope s c0) → ∀ s c0, c = .inscope s c0 → SimIn P n s c0 e m x e' m' := fun h s c0 hc => absurd hc (h s c0)
  induction H with
  | skip e m =>
    refine ⟨fun cr hc G a w Q hE hM hF hQ => ?_, noloop (by simp), noscope (by simp)⟩
    obtain rfl := inv_skip hc
    exact wp_skip (hQ G a w (.refl hM) hE rfl)
  | label l e m =>
    refine ⟨fun cr hc G a w Q hE hM hF hQ => ?_, noloop (by simp), noscope (by simp)⟩
    obtain rfl := inv_label hc
    exact wp_label (hQ G a w (.refl hM) hE rfl)
  | ret e m =>
    refine ⟨fun cr hc G a w Q hE hM hF hQ => ?_, noloop (by simp), noscope (by simp)⟩
    obtain rfl := inv_ret hc
    exact wp_ret (hQ G a w (.refl hM) hE rfl)
  | exit i e m =>
    refine ⟨fun cr hc G a w Q hE hM hF hQ => ?_, noloop (by simp), noscope (by simp)⟩
    obtain rfl := inv_exit hc
    exact wp_exit (hQ G a w (.refl hM) hE rfl)
  | goto l e m =>
    refine ⟨fun cr hc G a w Q hE hM hF hQ => ?_, noloop (by simp), noscope (by simp)⟩
    obtain rfl := inv_goto hc
    exact wp_goto (hQ G a w (.refl hM) hE rfl)
  | region H =>
    refine ⟨fun cr hc G a w Q hE hM hF hQ => ?_, noloop (by simp), noscope (by simp)⟩
    obtain ⟨id, ops, d, rfl, hr⟩ := inv_region hc
    cases d with
    | false =>
      simp only [compR, NC.region.injEq, and_true] at hr
      rw [← hr] at H
      exact wp_region_list (ops_seq hK hKc H hE hM hF hQ)
    | true =>
      simp only [compR] at hr
      split at hr <;> cases hr
  | drawn H1 H2 =>
    refine ⟨fun cr hc G a w Q hE hM hF hQ => ?_, noloop (by simp), noscope (by simp)⟩
    obtain ⟨id, ops, d, rfl, hr⟩ := inv_region hc
    cases d with
    | false => simp only [compR, NC.region.injEq] at hr; cases hr.2
    | true =>
      have hr' := hr
      simp only [compR] at hr'
      split at hr'
      · simp only [NC.region.injEq] at hr'
        rw [← hr'.1] at hr H1 H2
        exact region_drawn hm hK hKc hKa hr H1 H2 hE hM hF hQ
      · cases hr'
  | seq _ _ h1 h2 =>
    refine ⟨fun cr hc G a w Q hE hM hF hQ => ?_, noloop (by simp), noscope (by simp)⟩
    obtain ⟨x, y, rfl, hx, hy⟩ := inv_seq hc
    refine wp_seq (h1.1 x hx G a w _ hE hM hF fun G' a' w' hadv hE' hd => ?_)
    exact h2.1 y hy G' a' w' Q hE' hadv.rel (hadv.full hF) (by rw [hd]; exact hQ.step hadv)
  | seqx _ hx h1 =>
    refine ⟨fun cr hc G a w Q hE hM hF hQ => ?_, noloop (by simp), noscope (by simp)⟩
    obtain ⟨x, y, rfl, hx', hy⟩ := inv_seq hc
    exact wp_seq (h1.1 x hx' G a w _ hE hM hF (hQ.seqs hx))
  | condt hcv _ h1 =>
    refine ⟨fun cr hc G a w Q hE hM hF hQ => ?_, noloop (by simp), noscope (by simp)⟩
    obtain ⟨d, x, y, rfl, hd, hx, hy⟩ := inv_cond hc
    have r := opd_R hd (hE.on _)
    rw [hcv] at r
    exact wp_cond_true r.bool_inv (h1.1 x hx G a w Q hE hM hF hQ)
  | condf hcv _ h1 =>
    refine ⟨fun cr hc G a w Q hE hM hF hQ => ?_, noloop (by simp), noscope (by simp)⟩
    obtain ⟨d, x, y, rfl, hd, hx, hy⟩ := inv_cond hc
    have r := opd_R hd (hE.on _)
    rw [hcv] at r
    exact wp_cond_false r.bool_inv (h1.1 y hy G a w Q hE hM hF hQ)
  | @block i c e m x e' m' _ h1 =>
    refine ⟨fun cr hc G a w Q hE hM hF hQ => ?_, noloop (by simp), noscope (by simp)⟩
    obtain ⟨y, rfl, hy⟩ := inv_block hc
    refine wp_block (h1.1 y hy G a w _ hE hM hF (hQ.imp fun a w hq => ?_))
    cases x with
    | exit j =>
      by_cases hj : j = i
      · subst hj
        simpa [exitOf, Exit.inBlock] using hq
      · rw [if_neg (by simpa using hj)] at hq
        simpa [exitOf, Exit.inBlock, hj] using hq
    | normal => rw [if_neg (by simp)] at hq; exact hq
    | goto l => rw [if_neg (by simp)] at hq; exact hq
    | ret => rw [if_neg (by simp)] at hq; exact hq
  | @loop c e m e1 m1 x e' m' _ _ h1 h2 =>
    have hl : ∀ c0, NC.loop c = .loop c0 → ∃ k, SimLoop P n c0 x e' m' k e m := fun c0 hc => by
      obtain ⟨k, hk⟩ := h2.2.1 c0 hc
      simp only [NC.loop.injEq] at hc
      subst hc
      exact ⟨k + 1, _, _, h1.1, hk⟩
    refine ⟨fun cr hc G a w Q hE hM hF hQ => ?_, hl, noscope (by simp)⟩
    obtain ⟨y, rfl, hy⟩ := inv_loop hc
    obtain ⟨k, hk⟩ := hl _ rfl
    exact loop_wp hy hk hE hM hF hQ
  | @loopx c e m x e' m' _ hx h1 =>
    have hl : ∀ c0, NC.loop c = .loop c0 → ∃ k, SimLoop P n c0 x e' m' k e m := fun c0 hc => by
      simp only [NC.loop.injEq] at hc
      subst hc
      exact ⟨0, h1.1, hx⟩
    refine ⟨fun cr hc G a w Q hE hM hF hQ => ?_, hl, noscope (by simp)⟩
    obtain ⟨y, rfl, hy⟩ := inv_loop hc
    obtain ⟨k, hk⟩ := hl _ rfl
    exact loop_wp hy hk hE hM hF hQ
  | @scope c e m x e' m' h h1 =>
    refine ⟨fun cr hc G a w Q hE hM hF hQ => ?_, noloop (by simp), noscope (by simp)⟩
    obtain ⟨y, rfl, hy⟩ := inv_scope hc
    by_cases hx : ∃ l, x = .goto l
    · exfalso
      obtain ⟨l, rfl⟩ := hx
      have : ∀ {s c e m x e' m'}, RunC K (.inscope s c) e m x e' m' → ∀ l, x ≠ .goto l := by
        intro s c e m x e' m' H
        generalize hq : NC.inscope s c = q at H
        induction H generalizing s c with
        | inx _ hx _ => exact hx
        | ingo _ _ _ _ ih => exact ih rfl
        | _ => cases hq
      exact this h l rfl
    · refine scope_all fun J hJ => ?_
      exact h1.2.2 _ _ rfl y y hy hy G a w Q J hJ hE hM hF (fun l h => hx ⟨l, h⟩) hQ
  | @inx s c e m x e' m' _ hx h1 =>
    refine ⟨fun cr hc => (inv_inscope hc).elim, noloop (by simp), fun s0 c0 hsc => ?_⟩
    simp only [NC.inscope.injEq] at hsc
    obtain ⟨rfl, rfl⟩ := hsc
    intro sr cr hs hc G a w Q J hJ hE hM hF _ hQ
    refine h1.1 cr hc G a w _ hE hM hF (hQ.imp fun a w hq => ?_)
    cases x with
    | goto l => exact absurd rfl (hx l)
    | normal => exact hq
    | exit i => exact hq
    | ret => exact hq
  | @ingo s c e m l e1 m1 rest x e' m' _ hf _ h1 h2 =>
    refine ⟨fun cr hc => (inv_inscope hc).elim, noloop (by simp), fun s0 c0 hsc => ?_⟩
    simp only [NC.inscope.injEq] at hsc
    obtain ⟨rfl, rfl⟩ := hsc
    intro sr cr hs hc G a w Q J hJ hE hM hF hx hQ
    refine h1.1 cr hc G a w _ hE hM hF fun G' a' w' hadv hE' hd => ?_
    rw [← hs, findLab_comp] at hf
    obtain ⟨rr, hrr, hrc⟩ := Option.map_eq_some_iff.1 hf
    refine hJ l rr a' w' hrr ?_
    exact h2.2.2 _ _ rfl sr rr hs hrc G' a' w' Q J hJ hE' hadv.rel (hadv.full hF) hx (by rw [hd]; exact hQ.step hadv)
end
end Go.Proofs.Ythecdihimfddgaa.Nv
