/- Functions: the model does what Nv reckons. Of no program. -/
import Derived.Test.YthecdihimfddgaaNvSim
import Derived.Test.YthecdihimfddgaaNvFrame
namespace Go.Proofs.Ythecdihimfddgaa.Nv
open Go Go.RowKit

section
variable {P : Program} {w : World} {G : Gh} {m m' : Mem} {v : NV}

def Gh.push (G : Gh) : Gh :=
  ⟨G.pub, fun l i => match l with | 0 => none | l + 1 => G.blks l i, fun l t => match l with | 0 => none | l + 1 => G.toks l t, fun l t => match l with | 0 => False | l + 1 => G.live l t, fun l i => match l with | 0 => False | l + 1 => G.vis l i⟩
def Gh.drop1 (G : Gh) : Gh := ⟨G.pub, fun l i => G.blks (l + 1) i, fun l t => G.toks (l + 1) t, fun l t => G.live (l + 1) t, fun l i => G.vis (l + 1) i⟩
theorem push_sub {k : Nat} : G.push.sub (k + 1) = G.sub k := by
  have e : ∀ l, k + 1 + l = (k + l) + 1 := fun l => by omega
  simp only [Gh.sub, Gh.push, e]
theorem drop1_sub {k : Nat} : G.drop1.sub k = G.sub (k + 1) := by
  have e : ∀ l, k + 1 + l = (k + l) + 1 := fun l => by omega
  simp only [Gh.sub, Gh.drop1, e]
theorem push_owned {b : Nat} : G.push.Owned b ↔ G.Owned b := by
  constructor
  · rintro (⟨l, i, hv, h⟩ | ⟨l, t, T, h1, h2, h3⟩)
    · cases l with
      | zero => cases hv
      | succ l => exact .inl ⟨l, i, hv, h⟩
    · cases l with
      | zero => cases h1
      | succ l => exact .inr ⟨l, t, T, h1, h2, h3⟩
  · rintro (⟨l, i, hv, h⟩ | ⟨l, t, T, h1, h2, h3⟩)
    · exact .inl ⟨l + 1, i, hv, h⟩
    · exact .inr ⟨l + 1, t, T, h1, h2, h3⟩
theorem drop1_owned {b : Nat} (h : G.drop1.Owned b) : G.Owned b := by
  rcases h with ⟨l, i, hv, h⟩ | ⟨l, t, T, h1, h2, h3⟩
  · exact .inl ⟨l + 1, i, hv, h⟩
  · exact .inr ⟨l + 1, t, T, h1, h2, h3⟩
theorem rel_push (hM : Rel G m w) : Rel G.push (⟨[], []⟩ :: m) w := by
  refine ⟨hM.pub, ?_, ?_, ?_, ?_, ?_, ?_, ?_⟩
  · intro l i rb h
    cases l with
    | zero => cases h
    | succ l => exact hM.lt l i rb h
  · intro l i rb hv h
    cases l with
    | zero => cases h
    | succ l => rw [push_sub]; exact hM.blk l i rb hv h
  · intro l i rb h
    cases l with
    | zero => cases h
    | succ l => exact hM.clean l i rb h
  · intro l i l' i' rb h h'
    cases l with
    | zero => cases h
    | succ l =>
      cases l' with
      | zero => cases h'
      | succ l' =>
        obtain ⟨h1, h2⟩ := hM.inj _ _ _ _ _ h h'
        exact ⟨by rw [h1], h2⟩
  · intro l t h
    cases l with
    | zero => cases h
    | succ l =>
      obtain ⟨T, h1, h2, h3, h4, h5⟩ := hM.tok l t h
      refine ⟨T, h1, h2, h3, h4, fun l' i' h6 => ?_⟩
      cases l' with
      | zero => cases h6
      | succ l' => exact h5 _ _ h6
  · intro l t l' t' T T' a1 a2 b1 b2 hq
    cases l with
    | zero => cases a1
    | succ l =>
      cases l' with
      | zero => cases a2
      | succ l' =>
        obtain ⟨h1, h2⟩ := hM.tinj _ _ _ _ _ _ a1 a2 b1 b2 hq
        exact ⟨by rw [h1], h2⟩
  · intro l t T h
    cases l with
    | zero => cases h
    | succ l => exact hM.toks l t T h
theorem full_push (hF : G.Full m) : G.push.Full (⟨[], []⟩ :: m) := by
  refine ⟨fun l t h => ?_, fun l i rb h => ?_⟩
  · cases l with
    | zero => simp [tok?] at h
    | succ l => exact hF.1 l t h
  · cases l with
    | zero => cases h
    | succ l => exact hF.2 l i rb h
theorem up_shifts : Shifts upS G G.push := by
  refine ⟨fun _ _ _ h => h, fun l i l' i' rb h hb => ?_, fun l t l' t' T h hb => ?_⟩
  · simp only [upS, Option.some.injEq, Prod.mk.injEq] at h
    obtain ⟨rfl, rfl⟩ := h
    exact hb
  · simp [upS, noTok] at h
theorem down_shifts : Shifts downS G G.drop1 := by
  refine ⟨fun _ _ _ h => h, fun l i l' i' rb h hb => ?_, fun l t l' t' T h hb => ?_⟩
  · cases l with
    | zero => simp [downS] at h
    | succ l =>
      simp only [downS, Option.some.injEq, Prod.mk.injEq] at h
      obtain ⟨rfl, rfl⟩ := h
      exact hb
  · simp [downS, noTok] at h
theorem R.two_sh {s : Shift} {v v' : NV} {V : Value} (h : R G v V) (hs : sh2 s v = some v') : R2 G v V := by
  cases h with
  | two h => exact h
  | tup cs => simp [sh2, shA, sh1] at hs
theorem args_sh {s : Shift} {G' : Gh} (hs : Shifts s G G') : ∀ {l l' : List NV} {L : List Value}, RL (R G) l L → sh2L s l = some l' → RL (R G') l' L
  | [], l', L, h, hq => by
    obtain rfl := h.nil_inv
    simp only [sh2L, Option.some.injEq] at hq
    subst hq
    exact .nil
  | v :: l, l', L, h, hq => by
    obtain ⟨V, L', rfl, h1, h2⟩ := h.cons_inv
    simp only [sh2L] at hq
    split at hq
    · rename_i v' l2 e1 e2
      simp only [Option.some.injEq] at hq
      subst hq
      exact .cons (.two ((h1.two_sh e1).sh hs e1)) (args_sh hs h2 e2)
    · cases hq
theorem env_args {G' : Gh} {as : List NV} {A : List Value} {n : Nat} (h : RL (R G') as A) (hn : as.length ≤ n) : EnvR G' (envOf as) { tmps := A.toArray ++ Array.replicate (n - A.toArray.size) Go.undef, defers := [] } n := by
  have hl := h.length
  refine ⟨by simp; omega, fun t => ?_⟩
  have e : (A.toArray ++ Array.replicate (n - A.toArray.size) Go.undef).getD t Go.undef = A.getD t Go.undef := by
    rw [Array.getD_eq_getD_getElem?, Array.getElem?_append]
    simp only [List.size_toArray, List.getElem?_toArray, List.getD_eq_getElem?_getD]
    split
    · rfl
    · rename_i hge
      rw [List.getElem?_eq_none (by omega : A.length ≤ t), Array.getElem?_replicate]
      split <;> rfl
  simp only [e]
  unfold envOf
  rw [List.getD_eq_getElem?_getD, List.getD_eq_getElem?_getD]
  cases ha : as[t]? with
  | none =>
    rw [List.getElem?_eq_none (by rw [hl]; exact List.getElem?_eq_none_iff.1 ha)]
    exact .two .undef
  | some v =>
    obtain ⟨V, h1, h2⟩ := h.get ha
    rw [h1]
    exact h2
def resOne (tmps : Array Value) : ResultVar → Sem Value
  | .tmp t => pure (tmps.getD t Go.undef)
  | .cell c t => do loadVar t (← asAddr (tmps.getD c Go.undef))
theorem results_eq (fn : Func) (tmps : Array Value) : results fn tmps = (do
    let vs ← fn.results.mapM (resOne tmps)
    pure (if h : vs.size = 1 then vs[0] else .tuple vs)) := by
  unfold results
  have : (fun (x : ResultVar) => (match x with
    | .tmp t => pure (tmps.getD t Go.undef)
    | .cell a t => do loadVar t (← asAddr (tmps.getD a Go.undef)) : Sem Value)) = resOne tmps := by
    funext x
    cases x <;> rfl
  rw [← this]
  rfl
/-- What a function hands back. -/
theorem results_run {n : Nat} {e : Env} {a : Act} {rs : List ResultVar} (hE : EnvR G e a n) (hM : Rel G m w) (hF : G.Full m) : ∀ {rs : List ResultVar} {l : List Res} {vs : List NV}, compRes P rs = some l → resultsL e m l = some vs →
    ∃ Vs : List Value, (rs.mapM (m := Sem) (resOne a.tmps)).run P w = .ok Vs w ∧ RL (R G) vs Vs
  | [], l, vs, hc, hr => by
    simp only [compRes, Option.some.injEq] at hc
    subst hc
    simp only [resultsL, Option.some.injEq] at hr
    subst hr
    exact ⟨[], rfl, .nil⟩
  | .tmp t :: rs, l, vs, hc, hr => by
    simp only [compRes] at hc
    obtain ⟨l', h1, rfl⟩ := map_some hc
    simp only [resultsL, results1] at hr
    split at hr
    · rename_i v vs' e1 e2
      simp only [Option.some.injEq] at e1 hr
      subst hr; subst e1
      obtain ⟨Vs, h2, h3⟩ := results_run hE hM hF (rs := rs) h1 e2
      exact ⟨_ :: Vs, by simp only [List.mapM_cons, resOne, Sem.run_bind, Sem.run_pure, Result.andThen_ok, h2], .cons (hE.get t) h3⟩
    · cases hr
  | .cell c t :: rs, l, vs, hc, hr => by
    simp only [compRes] at hc
    split at hc
    · rename_i ag k ha hn
      obtain ⟨l', h1, rfl⟩ := map_some hc
      simp only [resultsL, results1] at hr
      split at hr
      · rename_i v vs' e1 e2
        simp only [Option.some.injEq] at hr
        subst hr
        obtain ⟨Vs, h2, h3⟩ := results_run hE hM hF (rs := rs) h1 e2
        obtain ⟨V, h4, h5⟩ := load_run (P := P) (w := w) ha hn (hE.get c) hM (fun l i o rb _ hb => hF.2 _ _ _ hb) e1
        have h6 : (resOne a.tmps (.cell c t)).run P w = .ok V w := by
          unfold loadV at e1
          have hp : ∃ A, a.tmps.getD c Go.undef = .pointer (some A) := by
            split at e1
            · rename_i h; have := hE.get c; rw [h] at this; obtain ⟨b, o, _, hV, _⟩ := this.eptr_inv; exact ⟨_, hV⟩
            · rename_i h; have := hE.get c; rw [h] at this; obtain ⟨rb, hV, _⟩ := this.ptr_inv; exact ⟨_, hV⟩
            · cases e1
          obtain ⟨A, hA⟩ := hp
          simp only [resOne]
          rw [hA] at h4 ⊢
          exact h4
        exact ⟨V :: Vs, by simp only [List.mapM_cons]; rw [Sem.run_bind, h6]; simp only [Result.andThen_ok, Sem.run_bind, h2, Sem.run_pure], .cons h5 h3⟩
      · cases hr
    · cases hc
theorem result_run {n : Nat} {e : Env} {a : Act} {fn : Func} {l : List Res} {v v' : NV} {m2 : Mem} (hE : EnvR G e a n) (hM : Rel G m w) (hF : G.Full m) (hc : compRes P fn.results.toList = some l) (hr : resultOf e m l = some v) (hp : pop v m = some (v', m2)) :
    ∃ V, (results fn a.tmps).run P w = .ok V w ∧ R G v V := by
  unfold resultOf at hr
  have run : ∀ {Vs : List Value}, (fn.results.toList.mapM (m := Sem) (resOne a.tmps)).run P w = .ok Vs w →
      (results fn a.tmps).run P w = .ok (if h : Vs.toArray.size = 1 then Vs.toArray[0] else .tuple Vs.toArray) w := by
    intro Vs h
    rw [results_eq, Sem.run_bind, Array.mapM_eq_mapM_toList, Sem.run_map, h]
    rfl
  split at hr
  · rename_i v1 h1
    simp only [Option.some.injEq] at hr
    subst hr
    obtain ⟨Vs, h2, h3⟩ := results_run (P := P) (rs := fn.results.toList) hE hM hF hc h1
    obtain ⟨V, L, rfl, h4, h5⟩ := h3.cons_inv
    obtain rfl := h5.nil_inv
    exact ⟨V, by rw [run h2]; rfl, h4⟩
  · rename_i vs hne h1
    simp only [Option.some.injEq] at hr
    subst hr
    obtain ⟨Vs, h2, h3⟩ := results_run (P := P) (rs := fn.results.toList) hE hM hF hc h1
    refine ⟨.tuple Vs.toArray, ?_, ?_⟩
    · rw [run h2, dif_neg]
      intro hq
      have := h3.length
      simp only [List.size_toArray] at hq
      obtain ⟨x, rfl⟩ := List.length_eq_one_iff.1 (this.symm.trans hq)
      exact hne x rfl
    · have two : ∀ {s : Shift} {l l' : List NV} {L : List Value}, RL (R G) l L → sh2L s l = some l' → RL (R2 G) l L := by
        intro s l l' L h
        induction h generalizing l' with
        | nil => intro _; exact .nil
        | cons h1 _ ih =>
          intro hq
          simp only [sh2L] at hq
          split at hq
          · rename_i e1 e2
            exact .cons (h1.two_sh e1) (ih e2)
          · cases hq
      have hsh : ∃ s l', sh2L s vs = some l' := by
        unfold pop at hp
        split at hp
        · split at hp
          · rename_i q hq
            simp only [shF] at hq
            split at hq
            · rename_i l' h; exact ⟨_, l', h⟩
            · cases hq
          · split at hp
            · split at hp
              · rename_i q bs hq _
                simp only [shF] at hq
                split at hq
                · rename_i l' h; exact ⟨_, l', h⟩
                · cases hq
              · cases hp
            · cases hp
        · cases hp
      obtain ⟨s, l', hs⟩ := hsh
      exact .tup _ _ (two h3 hs)
  · cases hr
/-! ### A frame is left -/
theorem rel_drop {fr : Fr} {rest : Mem} (hM : Rel G (fr :: rest) w) : Rel G.drop1 rest w := by
  refine ⟨hM.pub, fun l i rb h => hM.lt (l + 1) i rb h, fun l i rb hv h => ?_, fun l i rb h => hM.clean (l + 1) i rb h, fun l i l' i' rb h h' => ?_, fun l t h => ?_, fun l t l' t' T T' a1 a2 b1 b2 hq => ?_, fun l t T h => hM.toks (l + 1) t T h⟩
  · rw [drop1_sub]; exact hM.blk (l + 1) i rb hv h
  · obtain ⟨h1, h2⟩ := hM.inj _ _ _ _ _ h h'
    exact ⟨by omega, h2⟩
  · obtain ⟨T, h1, h2, h3, h4, h5⟩ := hM.tok (l + 1) t h
    exact ⟨T, h1, h2, h3, h4, fun l' i' => h5 (l' + 1) i'⟩
  · obtain ⟨h1, h2⟩ := hM.tinj _ _ _ _ _ _ a1 a2 b1 b2 hq
    exact ⟨by omega, h2⟩
theorem full_drop {fr : Fr} {rest : Mem} (hF : G.Full (fr :: rest)) : G.drop1.Full rest := ⟨fun l t h => hF.1 (l + 1) t h, fun l i rb h => hF.2 (l + 1) i rb h⟩
/-- The callee's memory behind the caller's. -/
def Gh.sink (G : Gh) (n k : Nat) : Gh :=
  ⟨G.pub, fun l i => match l with | 0 => if i < n then G.blks 1 i else G.blks 0 (i - n) | l + 1 => G.blks (l + 2) i, fun l t => match l with | 0 => if t < k then G.toks 1 t else G.toks 0 (t - k) | l + 1 => G.toks (l + 2) t,
    fun l t => match l with | 0 => if t < k then G.live 1 t else G.live 0 (t - k) | l + 1 => G.live (l + 2) t, fun l i => match l with | 0 => if i < n then G.vis 1 i else G.vis 0 (i - n) | l + 1 => G.vis (l + 2) i⟩
/-- Where a block, a token of the sunk memory came from. -/
def from1 (n l i : Nat) : Nat × Nat := match l with | 0 => if i < n then (1, i) else (0, i - n) | l + 1 => (l + 2, i)
theorem sink_blks {n k l i : Nat} : (G.sink n k).blks l i = G.blks (from1 n l i).1 (from1 n l i).2 := by
  cases l with
  | zero => simp only [Gh.sink, from1]; split <;> rfl
  | succ l => rfl
theorem sink_vis {n k l i : Nat} : (G.sink n k).vis l i = G.vis (from1 n l i).1 (from1 n l i).2 := by
  cases l with
  | zero => simp only [Gh.sink, from1]; split <;> rfl
  | succ l => rfl
theorem sink_toks {n k l i : Nat} : (G.sink n k).toks l i = G.toks (from1 k l i).1 (from1 k l i).2 := by
  cases l with
  | zero => simp only [Gh.sink, from1]; split <;> rfl
  | succ l => rfl
theorem sink_live {n k l i : Nat} : (G.sink n k).live l i = G.live (from1 k l i).1 (from1 k l i).2 := by
  cases l with
  | zero => simp only [Gh.sink, from1]; split <;> rfl
  | succ l => rfl
theorem from1_inj {n l i l' i' : Nat} (h : from1 n l i = from1 n l' i') : l = l' ∧ i = i' := by
  cases l with
  | zero =>
    cases l' with
    | zero =>
      simp only [from1] at h
      split at h <;> split at h <;> simp only [Prod.mk.injEq] at h <;> first | exact ⟨rfl, h.2⟩ | (exact ⟨rfl, by omega⟩) | (exfalso; omega)
    | succ l' =>
      simp only [from1] at h
      split at h <;> simp only [Prod.mk.injEq] at h <;> omega
  | succ l =>
    cases l' with
    | zero =>
      simp only [from1] at h
      split at h <;> simp only [Prod.mk.injEq] at h <;> omega
    | succ l' =>
      simp only [from1, Prod.mk.injEq] at h
      exact ⟨by omega, h.2⟩
theorem blk_lt {fr fr2 : Fr} {rest : Mem} (hM : Rel G (fr :: fr2 :: rest) w) {i rb : Nat} (h : G.blks 1 i = some rb) : i < fr2.blks.length := by
  obtain ⟨_, o, ho⟩ := hM.lt _ _ _ h
  have : fr2.blks[i]? = some o := ho
  exact (List.getElem?_eq_some_iff.1 this).1
theorem tok_lt1 {fr fr2 : Fr} {rest : Mem} (hM : Rel G (fr :: fr2 :: rest) w) {t : Nat} {T : Tok} (h : G.toks 1 t = some T) : t < fr2.toks.length := by
  obtain ⟨fr', h1, h2⟩ := hM.toks _ _ _ h
  simp only [List.getElem?_cons_succ, List.getElem?_cons_zero, Option.some.injEq] at h1
  subst h1
  exact h2
theorem sink_shifts {fr fr2 : Fr} {rest : Mem} (hM : Rel G (fr :: fr2 :: rest) w) : Shifts (sinkS fr2.blks.length fr2.toks.length) G (G.sink fr2.blks.length fr2.toks.length) := by
  refine ⟨fun _ _ _ h => h, fun l i l' i' rb h hb => ?_, fun l t l' t' T h hb => ?_⟩
  · cases l with
    | zero =>
      simp only [sinkS, Option.some.injEq, Prod.mk.injEq] at h
      obtain ⟨rfl, rfl⟩ := h
      rw [sink_blks]
      simp only [from1, Nat.not_lt.2 (Nat.le_add_right _ _), if_false, Nat.add_sub_cancel_left]
      exact hb
    | succ l =>
      simp only [sinkS, Option.some.injEq, Prod.mk.injEq] at h
      obtain ⟨rfl, rfl⟩ := h
      rw [sink_blks]
      cases l with
      | zero =>
        simp only [from1, blk_lt hM hb, if_true]
        exact hb
      | succ l => exact hb
  · cases l with
    | zero =>
      simp only [sinkS, Option.some.injEq, Prod.mk.injEq] at h
      obtain ⟨rfl, rfl⟩ := h
      rw [sink_toks]
      simp only [from1, Nat.not_lt.2 (Nat.le_add_right _ _), if_false, Nat.add_sub_cancel_left]
      exact hb
    | succ l =>
      simp only [sinkS, Option.some.injEq, Prod.mk.injEq] at h
      obtain ⟨rfl, rfl⟩ := h
      rw [sink_toks]
      cases l with
      | zero =>
        simp only [from1, tok_lt1 hM hb, if_true]
        exact hb
      | succ l => exact hb
theorem shOL_get {s : Shift} : ∀ {l l' : List NObj} {i : Nat} {o : NObj}, shOL s l = some l' → l'[i]? = some o → ∃ o0, l[i]? = some o0 ∧ shO s o0 = some o
  | [], l', i, o, h, hi => by
    simp only [shOL, Option.some.injEq] at h
    subst h
    simp at hi
  | x :: l, l', i, o, h, hi => by
    simp only [shOL] at h
    split at h
    · rename_i x' l2 e1 e2
      simp only [Option.some.injEq] at h
      subst h
      cases i with
      | zero =>
        simp only [List.getElem?_cons_zero, Option.some.injEq] at hi
        subst hi
        exact ⟨x, rfl, e1⟩
      | succ i =>
        obtain ⟨o0, h1, h2⟩ := shOL_get e2 (i := i) (by simpa using hi)
        exact ⟨o0, by simpa using h1, h2⟩
    · cases h
theorem shOL_some {s : Shift} : ∀ {l l' : List NObj} {i : Nat} {o : NObj}, shOL s l = some l' → l[i]? = some o → ∃ o1, l'[i]? = some o1 ∧ shO s o = some o1
  | [], l', i, o, h, hi => by simp at hi
  | x :: l, l', i, o, h, hi => by
    simp only [shOL] at h
    split at h
    · rename_i x' l2 e1 e2
      simp only [Option.some.injEq] at h
      subst h
      cases i with
      | zero =>
        simp only [List.getElem?_cons_zero, Option.some.injEq] at hi
        subst hi
        exact ⟨x', rfl, e1⟩
      | succ i =>
        obtain ⟨o1, h1, h2⟩ := shOL_some e2 (i := i) (by simpa using hi)
        exact ⟨o1, by simpa using h1, h2⟩
    · cases h
theorem shL_get {s : Shift} : ∀ {l l' : List NV} {i : Nat} {c : NV}, shL s l = some l' → l'[i]? = some c → ∃ c0, l[i]? = some c0 ∧ sh1 s c0 = some c
  | [], l', i, c, h, hi => by
    simp only [shL, Option.some.injEq] at h
    subst h
    simp at hi
  | x :: l, l', i, c, h, hi => by
    simp only [shL] at h
    split at h
    · rename_i x' l2 e1 e2
      simp only [Option.some.injEq] at h
      subst h
      cases i with
      | zero =>
        simp only [List.getElem?_cons_zero, Option.some.injEq] at hi
        subst hi
        exact ⟨x, rfl, e1⟩
      | succ i =>
        obtain ⟨o0, h1, h2⟩ := shL_get e2 (i := i) (by simpa using hi)
        exact ⟨o0, by simpa using h1, h2⟩
    · cases h
theorem shL_len {s : Shift} : ∀ {l l' : List NV}, shL s l = some l' → l'.length = l.length
  | [], l', h => by simp only [shL, Option.some.injEq] at h; subst h; rfl
  | x :: l, l', h => by
    simp only [shL] at h
    split at h
    · rename_i x' l2 e1 e2
      simp only [Option.some.injEq] at h
      subst h
      simp [shL_len e2]
    · cases h
theorem ObjR.sh {s : Shift} {G G' : Gh} {rb : Nat} {o o' : NObj} (hs : Shifts s G G') (H : ObjR G w rb o) (h : shO s o = some o') : ObjR G' w rb o' := by
  cases H with
  | cells cs vs el fz h1 h2 h3 h4 =>
    simp only [shO] at h
    split at h
    · rename_i cs' e
      simp only [Option.some.injEq] at h
      subst h
      have hl := shL_len e
      refine .cells cs' vs el fz h1 (by omega) (fun j c hj => ?_) (fun j hj => h4 j (by omega))
      obtain ⟨c0, h5, h6⟩ := shL_get e hj
      obtain ⟨V, h7, h8⟩ := h3 j c0 h5
      exact ⟨V, h7, h8.sh hs h6⟩
    · cases h
  | mp es ents ck h1 h2 =>
    cases es with
    | nil =>
      simp only [shO, Option.some.injEq] at h
      subst h
      refine .mp [] ents ck h1 ?_
      have := h2.nil_inv
      rw [this]
      exact .nil
    | cons e es => simp [shO] at h
theorem blk_sink {fr fr2 : Fr} {rest : Mem} {bs : List NObj} (hb : shOL (sinkS fr2.blks.length fr2.toks.length) fr.blks = some bs) {l i : Nat} {o : NObj} (h : blk? (fr :: fr2 :: rest) (from1 fr2.blks.length l i).1 (from1 fr2.blks.length l i).2 = some o) :
    ∃ o', blk? (⟨fr2.blks ++ bs, fr2.toks ++ fr.toks⟩ :: rest) l i = some o' ∧ ((l = 0 ∧ fr2.blks.length ≤ i ∧ shO (sinkS fr2.blks.length fr2.toks.length) o = some o') ∨ (¬ (l = 0 ∧ fr2.blks.length ≤ i) ∧ o' = o)) := by
  cases l with
  | zero =>
    simp only [from1] at h
    by_cases hi : i < fr2.blks.length
    · simp only [hi, if_true] at h
      refine ⟨o, ?_, .inr ⟨by omega, rfl⟩⟩
      simp only [blk?, List.getElem?_cons_zero] at h ⊢
      rw [List.getElem?_append_left hi]
      exact h
    · simp only [hi, if_false] at h
      simp only [blk?, List.getElem?_cons_zero] at h
      obtain ⟨o1, h1, h2⟩ := shOL_some hb h
      refine ⟨o1, ?_, .inl ⟨rfl, by omega, h2⟩⟩
      simp only [blk?, List.getElem?_cons_zero]
      rw [List.getElem?_append_right (by omega)]
      exact h1
  | succ l => exact ⟨o, h, .inr ⟨by omega, rfl⟩⟩
theorem tok_sink {fr fr2 : Fr} {rest : Mem} {bs : List NObj} {l t : Nat} : tok? (⟨fr2.blks ++ bs, fr2.toks ++ fr.toks⟩ :: rest) l t = tok? (fr :: fr2 :: rest) (from1 fr2.toks.length l t).1 (from1 fr2.toks.length l t).2 := by
  cases l with
  | zero =>
    simp only [from1]
    by_cases hi : t < fr2.toks.length
    · simp only [hi, if_true, tok?, List.getElem?_cons_zero, List.getElem?_cons_succ]
      rw [List.getElem?_append_left hi]
    · simp only [hi, if_false, tok?, List.getElem?_cons_zero]
      rw [List.getElem?_append_right (by omega)]
  | succ l => rfl
theorem rel_sink {fr fr2 : Fr} {rest : Mem} {bs : List NObj} (hM : Rel G (fr :: fr2 :: rest) w) (hb : shOL (sinkS fr2.blks.length fr2.toks.length) fr.blks = some bs) : Rel (G.sink fr2.blks.length fr2.toks.length) (⟨fr2.blks ++ bs, fr2.toks ++ fr.toks⟩ :: rest) w := by
  refine ⟨hM.pub, fun l i rb h => ?_, fun l i rb hv h => ?_, fun l i rb h => ?_, fun l i l' i' rb h h' => ?_, fun l t h => ?_, fun l t l' t' T T' a1 a2 b1 b2 hq => ?_, fun l t T h => ?_⟩
  · rw [sink_blks] at h
    obtain ⟨h1, o, h2⟩ := hM.lt _ _ _ h
    obtain ⟨o', h3, _⟩ := blk_sink hb h2
    exact ⟨h1, o', h3⟩
  · rw [sink_blks] at h
    rw [sink_vis] at hv
    obtain ⟨o, h1, h2⟩ := hM.blk _ _ _ hv h
    obtain ⟨o', h3, h4⟩ := blk_sink hb h1
    refine ⟨o', h3, ?_⟩
    rcases h4 with ⟨rfl, hge, h5⟩ | ⟨hn, rfl⟩
    · simp only [from1, Nat.not_lt.2 hge, if_false] at h2
      rw [sub0] at h2 ⊢
      exact h2.sh (sink_shifts hM) h5
    · cases l with
      | zero =>
        have hi : i < fr2.blks.length := by omega
        simp only [from1, hi, if_true] at h2
        have h2' : ObjR (G.sub 1) w rb o' := h2
        refine h2'.mono (w := w) (Ext.mk (G := G.sub 1) (fun _ _ _ h => h) (fun l j rb hq => ?_) (fun l t T hq => ?_)) rfl
        · show (G.sink fr2.blks.length fr2.toks.length).blks (0 + l) j = some rb
          rw [Nat.zero_add, sink_blks]
          cases l with
          | zero =>
            have hq' : G.blks 1 j = some rb := hq
            simp only [from1, blk_lt hM hq', if_true]; exact hq'
          | succ l =>
            have hq' : G.blks (1 + (l + 1)) j = some rb := hq
            rw [show 1 + (l + 1) = l + 2 by omega] at hq'
            exact hq'
        · show (G.sink fr2.blks.length fr2.toks.length).toks (0 + l) t = some T
          rw [Nat.zero_add, sink_toks]
          cases l with
          | zero =>
            have hq' : G.toks 1 t = some T := hq
            simp only [from1, tok_lt1 hM hq', if_true]; exact hq'
          | succ l =>
            have hq' : G.toks (1 + (l + 1)) t = some T := hq
            rw [show 1 + (l + 1) = l + 2 by omega] at hq'
            exact hq'
      | succ l =>
        have h2' : ObjR (G.sub (l + 2)) w rb o' := h2
        refine h2'.mono (w := w) (Ext.mk (G := G.sub (l + 2)) (fun _ _ _ h => h) (fun l' j rb hq => ?_) (fun l' t T hq => ?_)) rfl
        · show (G.sink fr2.blks.length fr2.toks.length).blks (l + 1 + l') j = some rb
          have hq' : G.blks (l + 2 + l') j = some rb := hq
          rw [sink_blks, show l + 1 + l' = (l + l') + 1 by omega]
          rw [show l + 2 + l' = (l + l') + 2 by omega] at hq'
          exact hq'
        · show (G.sink fr2.blks.length fr2.toks.length).toks (l + 1 + l') t = some T
          have hq' : G.toks (l + 2 + l') t = some T := hq
          rw [sink_toks, show l + 1 + l' = (l + l') + 1 by omega]
          rw [show l + 2 + l' = (l + l') + 2 by omega] at hq'
          exact hq'
  · rw [sink_blks] at h
    exact hM.clean _ _ _ h
  · rw [sink_blks] at h h'
    obtain ⟨h1, h2⟩ := hM.inj _ _ _ _ _ h h'
    exact from1_inj (Prod.ext h1 h2)
  · rw [sink_live] at h
    obtain ⟨T, h1, h2, h3, h4, h5⟩ := hM.tok _ _ h
    refine ⟨T, by rw [sink_toks]; exact h1, by rw [tok_sink]; exact h2, h3, h4, fun l' i' hq => ?_⟩
    rw [sink_blks] at hq
    exact h5 _ _ hq
  · rw [sink_live] at a1 a2
    rw [sink_toks] at b1 b2
    obtain ⟨h1, h2⟩ := hM.tinj _ _ _ _ _ _ a1 a2 b1 b2 hq
    exact from1_inj (Prod.ext h1 h2)
  · rw [sink_toks] at h
    obtain ⟨fr', h1, h2⟩ := hM.toks _ _ _ h
    cases l with
    | zero =>
      refine ⟨_, rfl, ?_⟩
      simp only [List.length_append]
      simp only [from1] at h1 h2
      split at h1
      · omega
      · rename_i hc
        simp only [List.getElem?_cons_zero, Option.some.injEq] at h1
        subst h1
        simp only [hc, if_false] at h2
        omega
    | succ l => exact ⟨fr', h1, h2⟩
theorem sink_owned {n k b : Nat} (h : (G.sink n k).Owned b) : G.Owned b := by
  rcases h with ⟨l, i, hv, h⟩ | ⟨l, t, T, h1, h2, h3⟩
  · rw [sink_vis] at hv
    rw [sink_blks] at h
    exact .inl ⟨_, _, hv, h⟩
  · rw [sink_live] at h1
    rw [sink_toks] at h2
    exact .inr ⟨_, _, T, h1, h2, h3⟩
theorem full_sink {fr fr2 : Fr} {rest : Mem} {bs : List NObj} (hF : G.Full (fr :: fr2 :: rest)) : (G.sink fr2.blks.length fr2.toks.length).Full (⟨fr2.blks ++ bs, fr2.toks ++ fr.toks⟩ :: rest) := by
  refine ⟨fun l t h => ?_, fun l i rb h => ?_⟩
  · rw [tok_sink] at h
    rw [sink_live]
    exact hF.1 _ _ h
  · rw [sink_blks] at h
    rw [sink_vis]
    exact hF.2 _ _ _ h
/-- Back from a callee. -/
theorem pop_ok {G1 : Gh} {m1 : Mem} {w1 : World} {v1 : NV} {V : Value} (hadv : Adv G.push (⟨[], []⟩ :: m) w G1 m1 w1) (hR : R G1 v1 V) (hp : pop v1 m1 = some (v, m')) : ∃ G', R G' v V ∧ Adv G m w G' m' w1 := by
  cases m1 with
  | nil => cases hp
  | cons fr rest =>
    simp only [pop] at hp
    split at hp
    · rename_i q hq
      simp only [Option.some.injEq, Prod.mk.injEq] at hp
      obtain ⟨rfl, rfl⟩ := hp
      refine ⟨G1.drop1, hR.sh down_shifts hq, ⟨⟨hadv.ext.pub, fun l i rb h => hadv.ext.blks (l + 1) i rb h, fun l t T h => hadv.ext.toks (l + 1) t T h⟩, rel_drop hadv.rel, ?_, fun hF => full_drop (hadv.full (full_push hF))⟩⟩
      exact ⟨hadv.st.os, hadv.st.tape, hadv.st.output, hadv.st.size, fun b hb ho => hadv.st.heap b hb (fun h => ho (push_owned.1 h)), fun b hb h => push_owned.1 (hadv.st.owned b hb (drop1_owned h)), fun b o hb ho => hadv.st.pub b o hb (fun h => ho (push_owned.1 h))⟩
    · split at hp
      · rename_i fr2 rest'
        split at hp
        · rename_i q bs hq hb
          simp only [Option.some.injEq, Prod.mk.injEq] at hp
          obtain ⟨rfl, rfl⟩ := hp
          have hrel := hadv.rel
          refine ⟨G1.sink fr2.blks.length fr2.toks.length, hR.sh (sink_shifts hrel) hq, ⟨⟨hadv.ext.pub, fun l i rb h => ?_, fun l t T h => ?_⟩, rel_sink hrel hb, ?_, fun hF => full_sink (hadv.full (full_push hF))⟩⟩
          · have h1 : G1.blks (l + 1) i = some rb := hadv.ext.blks (l + 1) i rb h
            rw [sink_blks]
            cases l with
            | zero => simp only [from1, blk_lt hrel h1, if_true]; exact h1
            | succ l => exact h1
          · have h1 : G1.toks (l + 1) t = some T := hadv.ext.toks (l + 1) t T h
            rw [sink_toks]
            cases l with
            | zero => simp only [from1, tok_lt1 hrel h1, if_true]; exact h1
            | succ l => exact h1
          · exact ⟨hadv.st.os, hadv.st.tape, hadv.st.output, hadv.st.size, fun b hb ho => hadv.st.heap b hb (fun h => ho (push_owned.1 h)), fun b hb h => push_owned.1 (hadv.st.owned b hb (sink_owned h)), fun b o hb ho => hadv.st.pub b o hb (fun h => ho (push_owned.1 h))⟩
        · cases hp
      · cases hp

/-! ### All calls -/
/-- What is said of functions that are not walked. -/
def XOk (P : Program) (X : FuncId → List NV → NV → Prop) : Prop := ∀ f args v, X f args v → callable P f = true ∧ ∀ (G : Gh) (m : Mem) (w : World) (A : List Value), Rel G m w → G.Full m → RL (R G) args A →
  Calls P f A.toArray w fun e w' => ∃ V G', e = .returned V ∧ R G' v V ∧ Adv G m w G' m w'
theorem compF_some {f : FuncId} {nf : NF} (h : compF P f = some nf) : ∃ fn c rs, P.funcs[f]? = some fn ∧ callable P f = true ∧ fn.body = some c ∧ compRes P fn.results.toList = some rs ∧ nf = ⟨fn.ntmps, rs, compC P fn.ntmps c⟩ := by
  unfold compF at h
  split at h
  · rename_i fn hf
    split at h
    · rename_i hc
      split at h
      · rename_i c rs hb hr
        simp only [Option.some.injEq] at h
        exact ⟨fn, c, rs, hf, hc, hb, hr, h.symm⟩
      · cases h
    · cases h
  · cases h
theorem evN_callable {F : FuncId → Option NF} {X : FuncId → List NV → NV → Prop} (hF : ∀ f nf, F f = some nf → compF P f = some nf) (hX : XOk P X) : ∀ n, Callable P (EvN F X n)
  | 0, _, _, _, _, _, h => h.elim
  | n + 1, f, args, m, v, m', h => by
    rcases h with ⟨h, _⟩ | ⟨nf, as, x, e1, m1, v1, h1, _⟩
    · exact (hX _ _ _ h).1
    · obtain ⟨fn, c, rs, _, h2, _⟩ := compF_some (hF _ _ h1)
      exact h2
theorem evN_sim {F : FuncId → Option NF} {X : FuncId → List NV → NV → Prop} (hmix : P.follows .mixedOrders = true) (hF : ∀ f nf, F f = some nf → compF P f = some nf) (hX : XOk P X) : ∀ n, KSim P (EvN F X n)
  | 0, _, _, _, _, _, h, _, _, _, _, _, _ => h.elim
  | n + 1, f, args, m, v, m', h, G, w, A, hM, hfull, hA => by
    rcases h with ⟨h, rfl⟩ | ⟨nf, as, x, e1, m1, v1, h1, hn, h2, h3, hx, h4, h5⟩
    · exact (hX _ _ _ h).2 G m' w A hM hfull hA
    · obtain ⟨fn, c, rs, hf, _, hb, hr, rfl⟩ := compF_some (hF _ _ h1)
      simp only at hn h3 h4
      have hAs := args_sh up_shifts hA h2
      have hE := env_args hAs hn
      refine calls_of_wp hf hb ?_
      refine (sim_all (n := fn.ntmps) hmix (evN_sim hmix hF hX n) (evN_callable hF hX n) (fun _ _ _ h m => (EvN.app (b := m) n).1 _ _ _ _ _ h) h3).1 c rfl G.push _ w _ hE (rel_push hM) (full_push hfull) fun G1 a1 w1 hadv hE1 hd => ?_
      have hfull1 := hadv.full (full_push hfull)
      obtain ⟨V, hV, hRV⟩ := result_run (P := P) hE1 hadv.rel hfull1 hr h4 h5
      obtain ⟨G', hR', hadv'⟩ := pop_ok hadv hRV h5
      have post : a1.defers = [] ∧ ∃ q, (results fn a1.tmps).run P w1 = .ok q w1 ∧ ∃ V G', Ending.returned q = .returned V ∧ R G' v V ∧ Adv G m w G' m' w1 := ⟨hd, V, hV, V, G', rfl, hR', hadv'⟩
      rcases hx with rfl | rfl <;> exact post
theorem evF_sim {F : FuncId → Option NF} {X : FuncId → List NV → NV → Prop} (hmix : P.follows .mixedOrders = true) (hF : ∀ f nf, F f = some nf → compF P f = some nf) (hX : XOk P X) : KSim P (EvF F X) :=
  fun f args m v m' ⟨n, h⟩ => evN_sim hmix hF hX n f args m v m' h
end
end Go.Proofs.Ythecdihimfddgaa.Nv
