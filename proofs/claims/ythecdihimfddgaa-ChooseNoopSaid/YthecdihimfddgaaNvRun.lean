/- Regions in one order: the model does what Nv reckons. Of no program. -/
import Derived.Test.YthecdihimfddgaaNvStep
import Derived.Tactics
namespace Go.Proofs.Ythecdihimfddgaa.Nv
open Go Go.RowKit

section
variable {P : Program} {w : World} {G : Gh} {m m' : Mem} {e e' : Env} {a : Act} {v : NV} {n : Nat}

/-- The slots. -/
structure EnvR (G : Gh) (e : Env) (a : Act) (n : Nat) : Prop where
  size : a.tmps.size = n
  get : ∀ t, R G (e t) (a.tmps.getD t Go.undef)
theorem EnvR.mono {G G' : Gh} (h : Ext G G') (H : EnvR G e a n) : EnvR G' e a n := ⟨H.size, fun t => (H.get t).mono h⟩
theorem EnvR.on (H : EnvR G e a n) (ts : List Nat) : Env.On G e a ts := fun t _ => H.get t
theorem getD_set {xs : Array Value} {d t : Nat} {V : Value} (hd : d < xs.size) : (xs.setIfInBounds d V).getD t Go.undef = if t = d then V else xs.getD t Go.undef := by
  simp only [Array.getD_eq_getD_getElem?, Array.getElem?_setIfInBounds]
  by_cases h : d = t
  · subst h; simp [hd]
  · rw [if_neg h, if_neg (fun q => h q.symm)]
theorem EnvR.put (H : EnvR G e a n) {dst : Option Nat} {V : Value} (hd : ∀ d, dst = some d → d < n) (hR : R G v V) : EnvR G (updO e dst v) (a.put dst V) n := by
  cases dst with
  | none => exact H
  | some d =>
    have hlt := hd d rfl
    refine ⟨by simp [Act.put, H.size], fun t => ?_⟩
    show R G (upd e d v t) ((a.tmps.setIfInBounds d V).getD t Go.undef)
    rw [getD_set (by rw [H.size]; exact hlt)]
    rw [upd_def]
    split
    · exact hR
    · exact H.get t
theorem EnvR.skip (H : EnvR G e a n) {dst : Option Nat} : EnvR G (updO e dst .undef) (a.put dst Go.undef) n := by
  cases dst with
  | none => exact H
  | some d =>
    by_cases hlt : d < n
    · exact H.put (fun x hx => by simp only [Option.some.injEq] at hx; omega) (.two .undef)
    · refine ⟨by simp [Act.put, H.size], fun t => ?_⟩
      have hs : a.tmps.setIfInBounds d Go.undef = a.tmps := by
        rw [Array.setIfInBounds, dif_neg (by rw [H.size]; exact hlt)]
      show R G (upd e d .undef t) ((a.tmps.setIfInBounds d Go.undef).getD t Go.undef)
      rw [hs]
      rw [upd_def]
      split
      · rename_i ht
        subst ht
        have : a.tmps.getD t Go.undef = Go.undef := by
          rw [Array.getD_eq_getD_getElem?, Array.getElem?_eq_none (by rw [H.size]; omega)]
          rfl
        rw [this]
        exact .two .undef
      · exact H.get t
theorem R.of_bool {b : Bool} (h : R G v (.bool b)) : v = .bool b := by
  cases h with
  | two h => cases h with
    | one h => cases h with
      | pl h => cases h; rfl
/-- Is it wanted? -/
theorem yields_none {x : Option Value} (h : ∀ b, x ≠ some (.bool b)) : (match x with | some (.bool b) => some b | _ => none) = none := by
  cases x with
  | none => rfl
  | some V => cases V <;> first | rfl | exact absurd rfl (h _)
theorem wantedN_not {t : Nat} {want : Bool} (h : ∀ b, e t ≠ .bool b) : wantedN e (some (t, want)) = false := by
  unfold wantedN
  cases hx : e t with
  | bool b => exact absurd hx (h b)
  | _ => simp only [hx]
theorem wanted_eq {ops : Array Oper} {o : Oper} {g : Nat} {want : Bool} {t : Nat} (hg : o.guard = some (g, want)) (ht : (ops[g]?).bind (·.dst) = some t) (h : R G (e t) (a.tmps.getD t Go.undef)) :
    Region.wanted o (yielded ops a.tmps) = wantedN e (some (t, want)) := by
  rw [Array.getD_eq_getD_getElem?] at h
  by_cases hb : ∃ b, e t = .bool b
  · obtain ⟨b, hb⟩ := hb
    rw [hb] at h
    have hx : a.tmps[t]? = some (.bool b) := by
      cases hx : a.tmps[t]? with
      | none => rw [hx] at h; have := h.bool_inv; cases this
      | some V => rw [hx] at h; rw [← h.bool_inv]; rfl
    unfold Region.wanted yielded wantedN
    rw [hg]
    simp only [ht, Option.bind_some, hx, hb]
    rfl
  · have hn : ∀ b, e t ≠ .bool b := fun b h => hb ⟨b, h⟩
    rw [wantedN_not hn]
    unfold Region.wanted yielded
    rw [hg]
    simp only [ht, Option.bind_some]
    have hy : ∀ b, a.tmps[t]? ≠ some (.bool b) := by
      intro b hx
      rw [hx] at h
      exact hn b h.of_bool
    generalize a.tmps[t]? = x at hy
    cases x with
    | none => rfl
    | some V => cases V <;> first | rfl | exact absurd rfl (hy _)
theorem wanted_none {ops : Array Oper} {o : Oper} (hg : o.guard = none) : Region.wanted o (yielded ops a.tmps) = true := by
  simp [Region.wanted, hg]
theorem wanted_lost {ops : Array Oper} {o : Oper} {g : Nat} {want : Bool} (hg : o.guard = some (g, want)) (ht : (ops[g]?).bind (·.dst) = none) : Region.wanted o (yielded ops a.tmps) = false := by
  unfold Region.wanted yielded
  rw [hg]
  simp [ht]
/-- An operation that is wanted, and not 'bad': what it was. -/
theorem compI_ok {ops : Array Oper} {o : Oper} (h : (compI P n ops o).op ≠ .bad) : comp1 P o.op o.type = some (compI P n ops o).op ∧ (∀ d, o.dst = some d → d < n) ∧ (∀ g want, o.guard = some (g, want) → ∃ t, (ops[g]?).bind (·.dst) = some t) := by
  obtain ⟨dst, opr, ty, pos, aft, grd⟩ := o
  simp only [compI] at h ⊢
  split at h
  · rename_i h1 h2
    refine ⟨?_, fun d hd => ?_, fun g want hg => ?_⟩
    · cases hc : comp1 P opr ty with
      | none => rw [hc] at h; exact absurd rfl h
      | some op => rfl
    · subst hd
      simpa using h2
    · subst hg
      exact Option.isSome_iff_exists.1 h1
  · exact absurd rfl h
theorem step_bad {op : NOp} (h : step op e m = some (v, m')) : op ≠ .bad := by rintro rfl; cases h
theorem asks_bad {op : NOp} {f : FuncId} {args : List NV} (h : asks op e = some (f, args)) : op ≠ .bad := by rintro rfl; cases h
/-- Whether an operation is wanted, by both. -/
theorem wanted_ok {ops : Array Oper} {o : Oper} (hE : ∀ t, (∃ want, (compI P n ops o).guard = some (t, want)) → R G (e t) (a.tmps.getD t Go.undef)) :
    (wantedN e (compI P n ops o).guard = true → (compI P n ops o).op ≠ .bad → Region.wanted o (yielded ops a.tmps) = true) ∧ (wantedN e (compI P n ops o).guard = false → Region.wanted o (yielded ops a.tmps) = false) := by
  cases hg : o.guard with
  | none =>
    have hg' : (compI P n ops o).guard = none := by simp [compI, hg]
    rw [hg']
    exact ⟨fun _ _ => wanted_none hg, fun h => by simp [wantedN] at h⟩
  | some gw =>
    obtain ⟨g, want⟩ := gw
    cases ht : (ops[g]?).bind (·.dst) with
    | none =>
      refine ⟨fun _ hb => ?_, fun _ => wanted_lost hg ht⟩
      obtain ⟨_, _, h3⟩ := compI_ok hb
      obtain ⟨t, h4⟩ := h3 g want hg
      rw [ht] at h4
      cases h4
    | some t =>
      have hg' : (compI P n ops o).guard = some (t, want) := by simp [compI, hg, ht]
      have := wanted_eq (G := G) (e := e) hg ht (hE t ⟨want, hg'⟩)
      rw [hg', this]
      exact ⟨fun h _ => h, fun h => h⟩

/-! ### Calls -/
/-- What a relation on calls says of the model. -/
def KSim (P : Program) (K : Rel4) : Prop := ∀ f args m v m', K f args m v m' → ∀ (G : Gh) (w : World) (A : List Value), Rel G m w → G.Full m → RL (R G) args A →
  Calls P f A.toArray w fun e w' => ∃ V G', e = .returned V ∧ R G' v V ∧ Adv G m w G' m' w'
/-- Whom a plain value calls, may be called. -/
def Callable (P : Program) (K : Rel4) : Prop := ∀ f args m v m', K f args m v m' → callable P f = true
theorem run_callFunc {f : FuncId} {args : Array Value} (h : callable P f = true) : (callFunc f args).run P w = .ok (.enter f args) w := by
  unfold callable at h
  split at h
  · rename_i fn hf
    simp only [Bool.and_eq_true, bne_iff_ne, ne_eq] at h
    have hb : fn.body.isNone = false := by cases hq : fn.body <;> simp [hq] at h ⊢
    have hn : (fn.name == "runtime.NumGoroutine") = false := by simpa using h.1
    simp only [callFunc, Sem.run_bind, run_program, Result.andThen_ok, hf, hn, hb, Bool.false_eq_true, if_false, Sem.run_pure]
  · cases h
theorem RL.mapR {l : List NV} {L : List Value} (h : RL (R G) l L) {l' : List NV} {L' : List Value} (h' : RL (RA G) l' L') : RL (R G) (l ++ l') (L ++ L') := h.append (h'.imp fun _ _ q => .two q.two)
/-- An operation that calls. -/
theorem comp_call {opr : Op} {ty : TypeId} {op : NOp} (hc : comp1 P opr ty = some op) (hq : isCall op = true) : ∃ c, opr = .call c ∧ compCall P c = some op := by
  have o2 : ∀ {f : Opd → Opd → NOp} {x y : Option Opd}, opt2 f x y = some op → (∀ a b, isCall (f a b) = false) → False := by
    intro f x y h hf
    obtain ⟨a, b, _, _, rfl⟩ := opt2_some h
    rw [hf] at hq; cases hq
  have mp : ∀ {α : Type} {f : α → NOp} {x : Option α}, x.map f = some op → (∀ a, isCall (f a) = false) → False := by
    intro α f x h hf
    obtain ⟨a, _, rfl⟩ := map_some h
    rw [hf] at hq; cases hq
  have on : ∀ {q : NOp}, some q = some op → isCall q = false → False := by
    intro q h hf
    simp only [Option.some.injEq] at h
    subst h
    rw [hf] at hq; cases hq
  cases opr <;> simp only [comp1] at hc
  case call c => exact ⟨c, rfl, hc⟩
  all_goals first
    | exact (mp hc (fun _ => rfl)).elim
    | exact (o2 hc (fun _ _ => rfl)).elim
    | (exfalso
       repeat' (split at hc)
       all_goals first
         | (cases hc; done)
         | exact mp hc (fun _ => rfl)
         | exact o2 hc (fun _ _ => rfl)
         | exact on hc rfl
         | cases ‹Op.makeFunc _ _ _ = Op.call _›)
theorem call_ok {o : Oper} {op : NOp} {f : FuncId} {args : List NV} (hc : comp1 P o.op o.type = some op) (hs : asks op e = some (f, args)) (hE : Env.On G e a (opTs op)) (hcall : callable P f = true) :
    ∃ A : List Value, (execOp a.eval o).run P w = .ok (.enter f A.toArray) w ∧ RL (R G) args A := by
  obtain ⟨dst, opr, ty, pos, aft, grd⟩ := o
  have hq : isCall op = true := by cases op <;> first | rfl | cases hs
  obtain ⟨⟨callee, xs, ats⟩, rfl, hc'⟩ := comp_call hc hq
  clear hc
  have hc := hc'
  clear hc'
  unfold compCall at hc
  split at hc
  · rename_i g hcal
    simp only at hcal
    subst hcal
    split at hc
    · obtain ⟨ys, h1, rfl⟩ := map_some hc
      simp only [asks, Option.some.injEq, Prod.mk.injEq] at hs
      obtain ⟨rfl, rfl⟩ := hs
      refine ⟨xs.toList.map a.eval, ?_, opdL_R h1 hE⟩
      have e1 : (xs.toList.map a.eval).toArray = xs.map a.eval := by rw [← Array.toList_map]
      have e2 : a.eval (.func g) = .func (.func g) #[] #[] := rfl
      simp only [execOp, resolve, Sem.run_bind, e2, Deferred.ofValue, Sem.run_pure, Result.andThen_ok, invoke, Array.empty_append, Array.append_empty, run_callFunc hcall, e1]
    · cases hc
  · rename_i t hcal
    simp only at hcal
    subst hcal
    obtain ⟨ys, h1, rfl⟩ := map_some hc
    simp only [asks] at hs
    split at hs
    · rename_i g caps hx
      simp only [Option.some.injEq, Prod.mk.injEq] at hs
      obtain ⟨rfl, rfl⟩ := hs
      have r1 := hE t (by simp [opTs, opdT])
      have hx' : e t = .fn g caps := hx
      rw [hx'] at r1
      obtain ⟨Vs, hV, hR⟩ := r1.fn_inv
      refine ⟨xs.toList.map a.eval ++ Vs, ?_, (opdL_R h1 (hE.mono (by simp [opTs]; intro t x hx ht; exact .inr ⟨x, hx, ht⟩))).mapR hR⟩
      have e1 : (xs.toList.map a.eval ++ Vs).toArray = xs.map a.eval ++ Vs.toArray := by rw [← Array.toList_map]; apply Array.ext'; simp
      have e2 : a.eval (.tmp t) = .func (.func g) #[] Vs.toArray := hV
      simp only [execOp, resolve, Sem.run_bind, e2, Deferred.ofValue, Sem.run_pure, Result.andThen_ok, invoke, Array.empty_append, run_callFunc hcall, e1]
    · cases hs
  all_goals first
    | (cases hc; done)
    | (exfalso
       repeat' (split at hc)
       all_goals first
         | (cases hc; done)
         | (obtain ⟨_, _, rfl⟩ := map_some hc; cases hs)
         | (simp only [Option.some.injEq] at hc; subst hc; cases hs))

/-! ### One order -/
/-- What comes of a run of operations. -/
def After (Q : Exit → Act → World → Prop) (x : Exit) (G : Gh) (m : Mem) (w : World) (e' : Env) (m' : Mem) (n : Nat) (ds : List Deferred) : Prop :=
  ∀ (G' : Gh) (a' : Act) (w' : World), Adv G m w G' m' w' → EnvR G' e' a' n → a'.defers = ds → Q x a' w'
theorem After.step {Q : Exit → Act → World → Prop} {x : Exit} {G G1 : Gh} {m m1 m' : Mem} {w w1 : World} {e' : Env} {n : Nat} {ds : List Deferred} (h : After Q x G m w e' m' n ds) (hadv : Adv G m w G1 m1 w1) : After Q x G1 m1 w1 e' m' n ds :=
  fun G' a' w' h1 h2 h3 => h G' a' w' (hadv.trans h1) h2 h3
theorem put_defers {dst : Option Nat} {V : Value} : (a.put dst V).defers = a.defers := by cases dst <;> rfl
theorem ops_seq {K : Rel4} (hK : KSim P K) (hKc : Callable P K) {ops : Array Oper} {Q : Exit → Act → World → Prop} : ∀ {l : List Oper} {e e' : Env} {m m' : Mem} {G : Gh} {a : Act} {w : World}, RunOps K (l.map (compI P n ops)) e m e' m' → EnvR G e a n → Rel G m w → G.Full m →
    After Q .normal G m w e' m' n a.defers → wpList P ops Q l a w
  | [], e, e', m, m', G, a, w, H, hE, hM, _, hQ => by
    obtain ⟨rfl, rfl⟩ := H
    exact wpList_nil (hQ G a w (.refl hM) hE rfl)
  | o :: l, e, e', m, m', G, a, w, H, hE, hM, hF, hQ => by
    simp only [List.map_cons, RunOps] at H
    obtain ⟨w1, w2⟩ := wanted_ok (P := P) (n := n) (G := G) (ops := ops) (o := o) (e := e) (a := a) (fun t _ => hE.get t)
    split at H
    · rename_i hw
      obtain ⟨v, m1, H1, H2⟩ := H
      have hnb : (compI P n ops o).op ≠ .bad := by
        rcases H1 with H1 | ⟨f, args, H1, _⟩
        · exact step_bad H1
        · exact asks_bad H1
      obtain ⟨hc, hd, _⟩ := compI_ok hnb
      have hwant := w1 hw hnb
      have hdst : (compI P n ops o).dst = o.dst := rfl
      rw [hdst] at H2
      have next : ∀ {V : Value} {G1 : Gh} {w1 : World}, R G1 v V → Adv G m w G1 m1 w1 → wpList P ops Q l (a.put o.dst V) w1 := fun {V G1 w1} hR hadv =>
        ops_seq hK hKc (l := l) H2 ((hE.mono hadv.ext).put hd hR) hadv.rel (hadv.full hF) (by rw [put_defers]; exact hQ.step hadv)
      unfold wpList
      rw [if_pos hwant]
      refine .inl ?_
      rcases H1 with H1 | ⟨f, args, H1, H3⟩
      · obtain ⟨V, w', G', hr, hR, hadv⟩ := step_ok hc H1 (hE.on _) hM (fun l i rb _ hb => hF.2 _ _ _ hb) (fun l i rb _ hb => hF.2 _ _ _ hb) (fun _ => .inr hF) (fun _ l t h => hF.1 l t h) (.inr hF)
        · unfold Oper.wp
          rcases hr with hr | ⟨hr, rfl⟩
          · rw [hr]; exact next hR hadv
          · rw [hr]; exact next hR hadv
      · obtain ⟨A, hr, hRA⟩ := call_ok (w := w) hc H1 (hE.on _) (hKc _ _ _ _ _ H3)
        unfold Oper.wp
        rw [hr]
        refine (hK _ _ _ _ _ H3 G w A hM hF hRA).mono fun ed w' hq => ?_
        obtain ⟨V, G', rfl, hR, hadv⟩ := hq
        exact next hR hadv
    · rename_i hw
      have hwant := w2 (by simpa using hw)
      unfold wpList
      rw [if_neg (by rw [hwant]; simp)]
      exact ops_seq hK hKc (l := l) H hE.skip hM hF (by rw [put_defers]; exact hQ)
end
end Go.Proofs.Ythecdihimfddgaa.Nv
