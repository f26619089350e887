/- Comparisons as operations; maps that are read: the model does what Nv reckons. Of no program. -/
import Derived.Test.YthecdihimfddgaaNvLoad
namespace Go.Proofs.Ythecdihimfddgaa.Nv
open Go Go.RowKit

section
variable {P : Program} {w : World} {G : Gh} {m m' : Mem} {e : Env} {a : Act} {v : NV} {dst : Option Nat} {ty : TypeId} {pos : String} {aft : Array Edge} {grd : Option (Nat × Bool)}

theorem run_eqneq {neg : Bool} {t : TypeId} {ox oy : Operand} {X Y : Value} {b : Bool} (hg : ∀ op, (eqGuard op t ox oy X Y).run P w = .ok () w) (hb : (Op.equal t X Y).run P w = .ok b w)
    (hn : (∀ k n, X ≠ .int k n) ∧ (∀ s, X ≠ .string s) ∧ (∀ k n, X ≠ .float k n) ∧ (∀ k n q, X ≠ .complex k n q)) :
    (do eqGuard (if neg then .neq else .eql) t ox oy X Y; binOp (if neg then .neq else .eql) t X Y : Sem Value).run P w = .ok (.bool (if neg then !b else b)) w := by
  simp only [Sem.run_bind, hg, Result.andThen_ok]
  obtain ⟨h1, h2, h3, h4⟩ := hn
  cases neg
  · have : binOp .eql t X Y = (Op.equal t X Y >>= fun b => pure (.bool b)) := by
      cases X <;> first
        | rfl
        | exact absurd rfl (h1 _ _)
        | exact absurd rfl (h2 _)
        | exact absurd rfl (h3 _ _)
        | exact absurd rfl (h4 _ _ _)
        | (cases Y <;> rfl)
    simp only [Bool.false_eq_true, if_false, this, Sem.run_bind, hb, Result.andThen_ok, Sem.run_pure]
  · have : binOp .neq t X Y = (Op.equal t X Y >>= fun b => pure (.bool (!b))) := by
      cases X <;> first
        | rfl
        | exact absurd rfl (h1 _ _)
        | exact absurd rfl (h2 _)
        | exact absurd rfl (h3 _ _)
        | exact absurd rfl (h4 _ _ _)
        | (cases Y <;> rfl)
    simp only [if_true, this, Sem.run_bind, hb, Result.andThen_ok, Sem.run_pure]
theorem equal_nil_ptr {t el : TypeId} (hu : P.underlying t = some (.pointer el)) (B : Option Addr) : (Op.equal t (.pointer none) (.pointer B)).run P w = .ok B.isNone w := by
  have : ∀ d, (Op.equalIn (d + 1) t (.pointer none) (.pointer B)).run P w = .ok B.isNone w := by intro d; simp [Op.equalIn, run_underlying hu]
  exact this 9999
theorem equal_ptr_nil {t el : TypeId} (hu : P.underlying t = some (.pointer el)) (A : Addr) : (Op.equal t (.pointer (some A)) (.pointer none)).run P w = .ok false w := by
  have : ∀ d, (Op.equalIn (d + 1) t (.pointer (some A)) (.pointer none)).run P w = .ok false w := by intro d; simp [Op.equalIn, run_underlying hu]
  exact this 9999
theorem equal_bool {t : TypeId} (hu : P.underlying t = some .bool) (x y : Bool) : (Op.equal t (.bool x) (.bool y)).run P w = .ok (x == y) w := run_equalIn_bool' w 9999 t x y hu
def EKof (P : Program) (t : TypeId) (k : EK) : Prop :=
  match k with
  | .ptr => ∃ el, P.underlying t = some (.pointer el)
  | .key kt => (kt = ⟨false, [.bool]⟩ ∧ P.underlying t = some .bool) ∨ (kt.agg = true ∧ keyT P t = some kt ∧ P.eqGuardType P.depth t = false)
theorem st_eq {k : EK} {neg : Bool} {t yt : TypeId} {x y : Operand} {x' y' : Opd} (hk : EKof P t k) (h1 : opd x = some x') (h2 : opd y = some y') (hs : step (.eq k neg x' y') e m = some (v, m'))
    (hE : Env.On G e a (opdT x' ++ opdT y')) (hM : Rel G m w) : Good ((execOp a.eval ⟨dst, .binOp (if neg then .neq else .eql) t x y yt, ty, pos, aft, grd⟩).run P w) G m m' w v := by
  have r1 := opd_R h1 (hE.mono (by simp; intro t ht; exact .inl ht))
  have r2 := opd_R h2 (hE.mono (by simp; intro t ht; exact .inr ht))
  simp only [step] at hs
  split at hs
  · rename_i b hb
    simp only [Option.some.injEq, Prod.mk.injEq] at hs
    obtain ⟨rfl, rfl⟩ := hs
    have go : ∀ {X Y : Value}, a.eval x = X → a.eval y = Y → (∀ op, (eqGuard op t x y X Y).run P w = .ok () w) → (Op.equal t X Y).run P w = .ok b w →
        (∀ k n, X ≠ .int k n) ∧ (∀ s, X ≠ .string s) ∧ (∀ k n, X ≠ .float k n) ∧ (∀ k n q, X ≠ .complex k n q) →
        Good ((execOp a.eval ⟨dst, .binOp (if neg then .neq else .eql) t x y yt, ty, pos, aft, grd⟩).run P w) G m m w (.bool (if neg then !b else b)) := by
      intro X Y e1 e2 h3 h4 h5
      refine good_pure ?_ (R.bool _) hM
      simp only [execOp, e1, e2]
      rw [Sem.run_bind, run_eqneq h3 h4 h5]
      rfl
    cases k with
    | ptr =>
      obtain ⟨el, hu⟩ := hk
      generalize x'.ev e = p at hb r1
      generalize y'.ev e = q at hb r2
      cases p <;> cases q <;> simp only [eqK] at hb <;> (try (cases hb; done)) <;> simp only [Option.some.injEq] at hb <;> subst hb
      · exact go r1.nilp_inv r2.nilp_inv (fun op => run_eqGuard_ptr op t x y _ _) (equal_nil_ptr hu _) (by simp)
      · obtain ⟨rb, hV, _⟩ := r2.ptr_inv
        exact go r1.nilp_inv hV (fun op => run_eqGuard_ptr op t x y _ _) (equal_nil_ptr hu _) (by simp)
      · obtain ⟨b', o, W, hV, _⟩ := r2.eptr_inv
        exact go r1.nilp_inv hV (fun op => run_eqGuard_ptr op t x y _ _) (equal_nil_ptr hu _) (by simp)
      · obtain ⟨rb, hV, _⟩ := r1.ptr_inv
        exact go hV r2.nilp_inv (fun op => run_eqGuard_ptr op t x y _ _) (equal_ptr_nil hu _) (by simp)
      · obtain ⟨b', o, W, hV, _⟩ := r1.eptr_inv
        exact go hV r2.nilp_inv (fun op => run_eqGuard_ptr op t x y _ _) (equal_ptr_nil hu _) (by simp)
    | key kt =>
      simp only [eqK] at hb
      rcases hk with ⟨rfl, hu⟩ | ⟨hag, hk, hg⟩
      · simp only [eqV] at hb
        generalize x'.ev e = p at hb r1
        generalize y'.ev e = q at hb r2
        cases p <;> cases q <;> simp only [eqC] at hb <;> try (cases hb; done)
        simp only [Option.some.injEq] at hb
        subst hb
        exact go r1.bool_inv r2.bool_inv (fun op => run_eqGuard_bool op t x y _ _) (equal_bool hu _ _) (by simp)
      · obtain ⟨ag, ks⟩ := kt
        simp only at hag
        subst hag
        have hq := eqV_run (w := w) hk hb r1 r2
        simp only [eqV] at hb
        split at hb
        · rename_i xs ys hx hy
          rw [hx] at r1
          rw [hy] at r2
          obtain ⟨Xs, hX, _⟩ := r1.agg_inv
          obtain ⟨Ys, hY, _⟩ := r2.agg_inv
          rw [hX, hY] at hq
          exact go hX hY (fun op => run_eqGuard_agg w op t x y _ _ hg) hq (by simp)
        · cases hb
  · cases hs

/-! ### Keys -/
theorem checkKey_scal {em : Bool} {n : Nat} {t : TypeId} {V : Value} (hu : P.underlying t = some .bool ∨ (∃ k, P.underlying t = some (.int k)) ∨ P.underlying t = some .string) : (Instr.checkKey em (n + 1) t V).run P w = .ok () w := by
  rcases hu with hu | ⟨k, hu⟩ | hu <;> (simp only [Instr.checkKey, Sem.run_bind, run_underlying hu, Result.andThen_ok]; cases V <;> rfl)
theorem checkFields_run {em : Bool} {d : Nat} (ih : ∀ {t : TypeId} {ks : List SK} {Xs : List Value}, kinds P d t = some ks → Xs.length = ks.length → ∀ k, d ≤ k → (Instr.checkKey em k t (valT P t Xs)).run P w = .ok () w)
    {k : Nat} (hk : d ≤ k) {Xs : List Value} : ∀ {fs : List Field} {off : Nat} {ks : List SK}, kindsF P (kinds P d) fs off = some ks → Xs.length = off + ks.length →
    (forIn (m := Sem) fs PUnit.unit fun f _ => (if f.name ≠ "_" then (part f.type Xs.toArray f.offset >>= fun x => Instr.checkKey em k f.type x >>= fun _ => pure (ForInStep.yield PUnit.unit)) else pure (ForInStep.yield PUnit.unit) : Sem (ForInStep PUnit))).run P w = .ok PUnit.unit w
  | [], off, ks, _, _ => rfl
  | f :: fs, off, ks, hf, hl => by
    simp only [kindsF] at hf
    split at hf
    · rename_i hname
      obtain ⟨hn, hoff⟩ := hname
      split at hf
      · rename_i q ha
        split at hf
        · rename_i hsz
          split at hf
          · rename_i b' hb'
            simp only [Option.some.injEq] at hf
            subst hf
            rw [List.length_append] at hl
            have hag : ∃ ag, aggS P f.type = some ag ∧ (ag = false → q.length = 1) := by
              cases d with
              | zero => cases ha
              | succ d =>
                have ha' := ha
                simp only [kinds] at ha
                cases h : aggS P f.type with
                | none =>
                  unfold aggS at h
                  cases hu : P.underlying f.type with
                  | none => rw [hu] at ha; cases ha
                  | some x => rw [hu] at h; cases x <;> cases h
                | some ag => exact ⟨ag, rfl, fun h' => kinds_one ha' (by rw [h, h'])⟩
            obtain ⟨ag, hag, h1⟩ := hag
            have p1 := part_val (P := P) (w := w) (off := f.offset) (Vs := Xs) hag hsz (by omega) h1
            rw [hoff] at p1
            have c1 := ih (Xs := (Xs.drop off).take q.length) ha (by simp; omega) k hk
            have c2 := checkFields_run ih hk (Xs := Xs) (ks := b') (fs := fs) (off := off + q.length) hb' (by omega)
            have hn' : f.name ≠ "_" := by simpa using hn
            simp only [List.forIn_cons, hn', ne_eq, not_false_eq_true, if_true, Sem.run_bind, hoff, p1, c1, Result.andThen_ok, Sem.run_pure]
            exact c2
          · cases hf
        · cases hf
      · cases hf
    · cases hf
theorem checkKey_run {em : Bool} : ∀ (d : Nat) {t : TypeId} {ks : List SK} {Xs : List Value}, kinds P d t = some ks → Xs.length = ks.length → ∀ k, d ≤ k → (Instr.checkKey em k t (valT P t Xs)).run P w = .ok () w
  | 0, _, _, _, h, _, _, _ => by cases h
  | d + 1, t, ks, Xs, h, hl, k, hk => by
    obtain ⟨k, rfl⟩ : ∃ k', k = k' + 1 := ⟨k - 1, by omega⟩
    simp only [kinds] at h
    split at h
    · rename_i hu; exact checkKey_scal (.inl hu)
    · rename_i hu; exact checkKey_scal (.inr (.inl ⟨_, hu⟩))
    · rename_i hu; exact checkKey_scal (.inr (.inr hu))
    · rename_i fs hu
      split at h
      · cases h
      · have ha : aggS P t = some true := by simp [aggS, hu]
        have := checkFields_run (em := em) (w := w) (Xs := Xs) (fun {t ks Xs} h1 h2 k hk => checkKey_run d h1 h2 k hk) (k := k) (by omega) h (by simpa using hl)
        simp only [valT, ha, Instr.checkKey, Sem.run_bind, run_underlying hu, Result.andThen_ok]
        rw [← Array.forIn_toList]
        rw [this]
        rfl
    · cases h
theorem eqV_val {t : TypeId} {kt : KT} {x y : NV} {X : Value} {b : Bool} (h : keyT P t = some kt) (he : eqV kt x y = some b) (hx : R G x X) : ∃ Xs : List Value, X = valT P t Xs ∧ Xs.length = kt.ks.length := by
  obtain ⟨h1, h2⟩ := keyT_spec h
  obtain ⟨ag, ks⟩ := kt
  cases ag with
  | true =>
    simp only [eqV] at he
    split at he
    · rename_i xs ys
      obtain ⟨Xs, rfl, hX⟩ := hx.agg_inv
      exact ⟨Xs, by simp [valT, h2], by rw [hX.length, (eqL_len he).1]⟩
    · cases he
  | false =>
    exact ⟨[X], by simp [valT, h2], by simpa using (kinds_one h1 h2).symm⟩
abbrev G0 : Gh := ⟨fun _ _ => none, fun _ _ => none, fun _ _ => none, fun _ _ => False, fun _ _ => False⟩
/-- An entry, as it is found. -/
inductive FoundR (S : NV → Value → Prop) : Option (Nat × NV) → Option (Nat × Value) → Prop where
  | none : FoundR S none none
  | some {i v V} (h : S v V) : FoundR S (some (i, v)) (some (i, V))
theorem findAsking_run {t : TypeId} {kt : KT} {S : NV → Value → Prop} {k : NV} {K : Value} (h : keyT P t = some kt) (hk : R G k K) : ∀ {es : List (NV × NV)} {ents : List MapEntry} {i : Nat} {r : Option (Nat × NV)}, findE kt k es i = some r → RL (fun (e : NV × NV) (f : MapEntry) => R2 G0 e.1 f.key ∧ S e.2 f.val) es ents →
    ∃ r', (Instr.findAsking t K ents i).run P w = .ok r' w ∧ FoundR S r r'
  | [], _, i, r, hf, hr => by
    obtain rfl := hr.nil_inv
    simp only [findE, Option.some.injEq] at hf
    subst hf
    exact ⟨none, rfl, .none⟩
  | x :: es, ents, i, r, hf, hr => by
    obtain ⟨E, ents', rfl, ⟨h1, h2⟩, hr'⟩ := hr.cons_inv
    simp only [findE] at hf
    split at hf
    · rename_i hq
      simp only [Option.some.injEq] at hf
      subst hf
      refine ⟨some (i, E.val), ?_, .some h2⟩
      simp [Instr.findAsking, eqV_run (w := w) h hq hk (.two h1)]
    · rename_i hq
      obtain ⟨r', h3, h4⟩ := findAsking_run h hk hf hr'
      refine ⟨r', ?_, h4⟩
      simp [Instr.findAsking, eqV_run (w := w) h hq hk (.two h1), h3]
    · cases hf
theorem findNow_run {t : TypeId} {kt : KT} {S : NV → Value → Prop} {d : TypeDesc} {k : NV} {K : Value} (h : keyT P t = some kt) (hu : P.underlying t = some d) (hk : R G k K) : ∀ {es : List (NV × NV)} {ents : List MapEntry} {i : Nat} {r : Option (Nat × NV)} {r' : Option (Nat × Value)}, findE kt k es i = some r → RL (fun (e : NV × NV) (f : MapEntry) => R2 G0 e.1 f.key ∧ S e.2 f.val) es ents →
    Instr.findNow d K ents i = some r' → FoundR S r r'
  | [], _, i, r, r', hf, hr, hn => by
    obtain rfl := hr.nil_inv
    simp only [findE, Option.some.injEq] at hf
    simp only [Instr.findNow, Option.some.injEq] at hn
    subst hf
    subst hn
    exact .none
  | x :: es, ents, i, r, r', hf, hr, hn => by
    obtain ⟨E, ents', rfl, ⟨h1, h2⟩, hr'⟩ := hr.cons_inv
    simp only [findE] at hf
    simp only [Instr.findNow] at hn
    have same : ∀ b c, eqV kt k x.1 = some b → Instr.sameNow d K E.key = some c → b = c := by
      intro b c hb hc
      have hq := eqV_run (w := (default : World)) h hb hk (.two h1)
      have hall : ∀ n, (Op.equalIn (n + 1) t K E.key).run P (default : World) = .ok c default := by
        intro n
        unfold Instr.sameNow at hc
        split at hc
        · split at hc
          · rename_i heq hkk
            simp only [Option.some.injEq] at hc
            subst hc; subst hkk
            rw [heq]
            exact run_equalIn_int _ n t _ _ _ _ hu
          · cases hc
        · rename_i heq
          simp only [Option.some.injEq] at hc
          subst hc
          rw [heq, run_equalIn_string _ n t _ _ hu, beq_toListBytes]
        · rename_i heq
          simp only [Option.some.injEq] at hc
          subst hc
          rw [heq]
          exact run_equalIn_bool' _ n t _ _ hu
        · cases hc
      have := hq.symm.trans (hall 9999)
      injection this
    split at hf
    · rename_i hq
      simp only [Option.some.injEq] at hf
      subst hf
      split at hn
      · simp only [Option.some.injEq] at hn
        subst hn
        exact .some h2
      · rename_i hs
        have := same _ _ hq hs
        cases this
      · cases hn
    · rename_i hq
      split at hn
      · rename_i hs
        have := same _ _ hq hs
        cases this
      · exact findNow_run h hu hk hf hr' hn
      · cases hn
    · cases hf
theorem keyT_under {t : TypeId} {kt : KT} (h : keyT P t = some kt) : ∃ d, P.underlying t = some d := by
  obtain ⟨h1, h2⟩ := keyT_spec h
  unfold aggS at h2
  cases hu : P.underlying t with
  | none => rw [hu] at h2; cases h2
  | some d => exact ⟨d, rfl⟩
theorem findKey_run {t : TypeId} {kt : KT} {S : NV → Value → Prop} {k : NV} {K : Value} (h : keyT P t = some kt) (hk : R G k K) {es : List (NV × NV)} {ents : List MapEntry} {r : Option (Nat × NV)} (hf : findE kt k es 0 = some r) (hr : RL (fun (e : NV × NV) (f : MapEntry) => R2 G0 e.1 f.key ∧ S e.2 f.val) es ents) :
    ∃ r', (Instr.findKey t K ents).run P w = .ok r' w ∧ FoundR S r r' := by
  obtain ⟨d, hu⟩ := keyT_under h
  simp only [Instr.findKey, Sem.run_bind, run_underlying hu, Result.andThen_ok]
  split
  · rename_i r' hn
    exact ⟨r', rfl, findNow_run h hu hk hf hr hn⟩
  · exact findAsking_run h hk hf hr
/-- A key that a plain map may be asked for. -/
theorem key_ok {t : TypeId} {kt : KT} {k : NV} {K : Value} {em : Bool} (h : keyT P t = some kt) (hk : R G k K) (hfit : (eqV kt k k).isSome = true) : (Instr.checkKey em 10000 t K).run P w = .ok () w := by
  obtain ⟨b, hb⟩ := Option.isSome_iff_exists.1 hfit
  obtain ⟨Xs, rfl, hl⟩ := eqV_val h hb hk
  exact checkKey_run 100 (keyT_spec h).1 hl 10000 (by omega)
theorem run_zeroV {t : TypeId} {z : NV} (h : zeroV P t = some z) : ∃ Z, (zeroValue t).run P w = .ok Z w ∧ R G z Z := by
  unfold zeroV at h
  split at h
  · rename_i i hi
    split at h
    · rename_i V hz
      exact ⟨V, by simp [zeroValue, typeInfo, hi, hz], constV_R h⟩
    · cases h
  · cases h
/-- A value of two kinds: what a table or a tuple may hold. -/
theorem R.two_of {z : NV} {Z : Value} (h : R G z Z) (hn : ∀ l, z ≠ .tup l) : R2 G z Z := by
  cases h with
  | two h => exact h
  | tup cs => exact absurd rfl (hn _)
theorem constV_tup {V : Value} {l : List NV} (h : constV V = some (.tup l)) : False := by
  unfold constV at h
  split at h
  · obtain ⟨q, _, h⟩ := Option.map_eq_some_iff.1 h; cases h
  · split at h <;> cases h
  · unfold const1 at h
    split at h <;> first | (cases h; done) | (split at h <;> cases h)
theorem zeroV_tup {t : TypeId} {l : List NV} (h : zeroV P t = some (.tup l)) : False := by
  unfold zeroV at h
  split at h
  · split at h
    · exact constV_tup h
    · cases h
  · cases h
theorem st_look {t kt el : TypeId} {key : KT} {ok : Bool} {zero : NV} {x k : Operand} {x' k' : Opd} (hu : P.underlying t = some (.map kt el)) (hz : zeroV P el = some zero) (hk : keyT P kt = some key)
    (h1 : opd x = some x') (h2 : opd k = some k') (hs : step (.look key ok zero x' k') e m = some (v, m')) (hE : Env.On G e a (opdT x' ++ opdT k')) (hM : Rel G m w) (hV : ∀ l i rb, rdOf (.look key ok zero x' k') e = some (l, i) → G.blks l i = some rb → G.vis l i) :
    Good ((execOp a.eval ⟨dst, .lookup t x k ok, ty, pos, aft, grd⟩).run P w) G m m' w v := by
  have r1 := opd_R h1 (hE.mono (by simp; intro t ht; exact .inl ht))
  have r2 := opd_R h2 (hE.mono (by simp; intro t ht; exact .inr ht))
  obtain ⟨Z, hZ, hRZ⟩ := run_zeroV (P := P) (w := w) (G := G) hz
  have hZ2 : R2 G zero Z := hRZ.two_of (fun l h => zeroV_tup (h ▸ hz))
  have fin : ∀ {b : Bool} {q : NV} {Q : Value}, R2 G q Q → R G (if ok then .tup [q, .bool b] else q) (if ok then .tuple #[Q, .bool b] else Q) := by
    intro b q Q h
    cases ok
    · exact .two h
    · exact .tup [q, .bool b] [Q, .bool b] (.cons h (.cons (.one (.pl (.bool b))) .nil))
  simp only [step] at hs
  split at hs
  · rename_i l i hx
    rw [hx] at r1
    obtain ⟨rb, hA, hb⟩ := r1.map_inv
    have hv := hV l i rb (by simp [rdOf, hx]) hb
    split at hs
    · rename_i es ho
      split at hs
      · rename_i hfit
        split at hs
        · rename_i r hf
          obtain ⟨ents, ck, hh, hr⟩ := hM.map_blk hv hb ho
          obtain ⟨r', h3, h4⟩ := findKey_run (P := P) (w := w) hk r2 hf hr
          have h5 := key_ok (P := P) (w := w) (em := ents.isEmpty) hk r2 hfit
          split at hs
          · rename_i q hq
            simp only [Option.some.injEq, Prod.mk.injEq] at hs
            obtain ⟨rfl, rfl⟩ := hs
            have core : ∀ {Q : Value}, R2 G q Q → (Instr.lookup t (.map (some rb)) (a.eval k) ok).run P w = .ok (if ok then .tuple #[Q, .bool r.isSome] else Q) w →
                Good ((execOp a.eval ⟨dst, .lookup t x k ok, ty, pos, aft, grd⟩).run P w) G m m w (if ok then .tup [q, .bool r.isSome] else q) := by
              intro Q hQ hrun
              refine good_pure ?_ (fin hQ) hM
              simp only [execOp, Sem.run_bind, hA, hrun, Result.andThen_ok, Sem.run_pure]
            cases h4 with
            | none =>
              simp only [Option.some.injEq] at hq
              subst hq
              refine core hZ2 ?_
              simp only [Instr.lookup, Sem.run_bind, run_underlying hu, Result.andThen_ok, run_getObj_map hh, Sem.run_pure, h5, h3, hZ, Option.isSome_none]
            | some hS =>
              refine core (hS.sh (out_shifts G l) hq) ?_
              simp only [Instr.lookup, Sem.run_bind, run_underlying hu, Result.andThen_ok, run_getObj_map hh, Sem.run_pure, h5, h3, Option.isSome_some]
          · cases hs
        · cases hs
      · cases hs
    · cases hs
  · rename_i hx
    split at hs
    · rename_i hfit
      simp only [Option.some.injEq, Prod.mk.injEq] at hs
      obtain ⟨rfl, rfl⟩ := hs
      rw [hx] at r1
      have h5 := key_ok (P := P) (w := w) (em := true) hk r2 hfit
      obtain ⟨r', h3, h4⟩ := findKey_run (P := P) (w := w) (S := fun _ _ => True) hk r2 (es := []) (ents := []) (r := none) rfl .nil
      cases h4
      refine good_pure ?_ (fin hZ2) hM
      simp only [execOp, Sem.run_bind, r1.nilm_inv, Instr.lookup, run_underlying hu, Result.andThen_ok, Sem.run_pure, Array.isEmpty_empty, h5, h3, hZ]
    · cases hs
  · cases hs
end
end Go.Proofs.Ythecdihimfddgaa.Nv
