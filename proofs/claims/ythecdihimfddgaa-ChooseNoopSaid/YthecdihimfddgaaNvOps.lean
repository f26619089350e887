/- The operations that write nothing: the model does what Nv reckons. Of no program. -/
import Derived.Test.YthecdihimfddgaaNvRel
import Derived.Laws.Sem
import Derived.Laws.Cells
import Derived.Laws.StructEq
import Derived.Laws.Entries
import Derived.Laws.BytesString
namespace Go.Proofs.Ythecdihimfddgaa.Nv
open Go Go.RowKit

/-- What an operation of the model comes to, as Nv says. -/
def Good (r : Result Next) (G : Gh) (m m' : Mem) (w : World) (v : NV) : Prop :=
  ∃ V w' G', (r = .ok (.value V) w' ∨ (r = .ok .skip w' ∧ V = Go.undef)) ∧ R G' v V ∧ Ext G G' ∧ Rel G' m' w' ∧ St G w G' w' ∧ (G.Full m → G'.Full m')
theorem good_pure {r : Result Next} {G : Gh} {m : Mem} {w : World} {v : NV} {V : Value} (hr : r = .ok (.value V) w) (h : R G v V) (hM : Rel G m w) : Good r G m m w v :=
  ⟨V, w, G, .inl hr, h, .refl _, hM, .refl _ _, fun h => h⟩

theorem const1_R {G : Gh} {V : Value} {v : NV} (h : const1 V = some v) : R1 G v V := by
  unfold const1 at h
  split at h
  · simp only [Option.some.injEq] at h; subst h; exact .pl (.bool _)
  · simp only [Option.some.injEq] at h; subst h; exact .pl (.int _ _)
  · simp only [Option.some.injEq] at h; subst h; exact .pl (.str _)
  · simp only [Option.some.injEq] at h; subst h; exact .nilp
  · split at h
    · rename_i hz
      simp only [Option.some.injEq] at h
      subst h
      obtain ⟨rfl, rfl⟩ := hz
      exact .pl (.slc0 0 true none 0 (fun _ => rfl))
    · cases h
  · simp only [Option.some.injEq] at h; subst h; exact .nilm
  · cases h
theorem constL_R {G : Gh} : ∀ {L : List Value} {l : List NV}, constL L = some l → RL (R1 G) l L
  | [], l, h => by simp only [constL, Option.some.injEq] at h; subst h; exact .nil
  | V :: L, l, h => by
    simp only [constL] at h
    split at h
    · rename_i v l' e1 e2
      simp only [Option.some.injEq] at h
      subst h
      exact .cons (const1_R e1) (constL_R e2)
    · cases h
theorem constV_R {G : Gh} {V : Value} {v : NV} (h : constV V = some v) : R G v V := by
  unfold constV at h
  split at h
  · rename_i cs
    obtain ⟨l, hl, rfl⟩ := Option.map_eq_some_iff.1 h
    have := R2.agg (G := G) l cs.toList (constL_R hl)
    simpa using R.two this
  · rename_i f first cap
    split at h
    · rename_i hz
      simp only [Option.some.injEq] at h
      subst h
      obtain ⟨h1, h2⟩ := hz
      obtain rfl : first = #[] := Array.size_eq_zero_iff.1 h1
      obtain rfl : cap = #[] := Array.size_eq_zero_iff.1 h2
      exact .two (.one (.fn0 f))
    · cases h
  · exact .two (.one (const1_R h))
/-- The slots that an operand names. -/
def Env.On (G : Gh) (e : Env) (a : Act) (ts : List Nat) : Prop := ∀ t ∈ ts, R G (e t) (a.tmps.getD t Go.undef)
theorem Env.On.mono {G : Gh} {e : Env} {a : Act} {ts ts' : List Nat} (h : Env.On G e a ts) (hs : ∀ t ∈ ts', t ∈ ts) : Env.On G e a ts' := fun t ht => h t (hs t ht)
theorem opd_R {G : Gh} {e : Env} {a : Act} {x : Operand} {y : Opd} (h : opd x = some y) (hE : Env.On G e a (opdT y)) : R G (y.ev e) (a.eval x) := by
  cases x with
  | tmp t =>
    simp only [opd, Option.some.injEq] at h
    subst h
    exact hE t (by simp [opdT])
  | const v =>
    obtain ⟨z, hz, rfl⟩ := Option.map_eq_some_iff.1 h
    exact constV_R hz
  | func f =>
    simp only [opd, Option.some.injEq] at h
    subst h
    exact .two (.one (.fn0 f))
  | «global» g => cases h
theorem opdL_R {G : Gh} {e : Env} {a : Act} : ∀ {l : List Operand} {r : List Opd}, opdL l = some r → Env.On G e a (r.flatMap opdT) → RL (R G) (evL e r) (l.map a.eval)
  | [], r, h, _ => by simp only [opdL, Option.some.injEq] at h; subst h; exact .nil
  | x :: l, r, h, hE => by
    simp only [opdL] at h
    split at h
    · rename_i y r' e1 e2
      simp only [Option.some.injEq] at h
      subst h
      exact .cons (opd_R e1 (hE.mono (by simp; intro t ht; exact .inl ht))) (opdL_R e2 (hE.mono (by simp; intro t x hx ht; exact .inr ⟨x, hx, ht⟩)))
    · cases h

/-! Values: which they are. -/
section
variable {G : Gh} {V : Value}
theorem R.int_inv {k : IntKind} {n : Int} (h : R G (.int k n) V) : V = .int k n := by
  cases h with | two h => cases h with | one h => cases h with | pl h => cases h; rfl
theorem R.bool_inv {b : Bool} (h : R G (.bool b) V) : V = .bool b := by
  cases h with | two h => cases h with | one h => cases h with | pl h => cases h; rfl
theorem R.str_inv {s : ByteArray} (h : R G (.str s) V) : V = .string s := by
  cases h with | two h => cases h with | one h => cases h with | pl h => cases h; rfl
theorem R.agg_inv {cs : List NV} (h : R G (.agg cs) V) : ∃ Vs : List Value, V = .agg Vs.toArray ∧ RL (R1 G) cs Vs := by
  cases h with | two h => cases h with
    | one h => cases h with | pl h => cases h
    | agg _ Vs h => exact ⟨Vs, rfl, h⟩
theorem R.tup_inv {cs : List NV} (h : R G (.tup cs) V) : ∃ Vs : List Value, V = .tuple Vs.toArray ∧ RL (R2 G) cs Vs := by
  cases h with
  | two h => cases h with | one h => cases h with | pl h => cases h
  | tup _ Vs h => exact ⟨Vs, rfl, h⟩
theorem R.fn_inv {f : FuncId} {cs : List NV} (h : R G (.fn f cs) V) : ∃ Vs : List Value, V = .func (.func f) #[] Vs.toArray ∧ RL (RA G) cs Vs := by
  cases h with | two h => cases h with
    | one h => cases h with
      | pl h => cases h
      | fn0 f => exact ⟨[], rfl, .nil⟩
    | fn _ _ Vs h => exact ⟨Vs, rfl, h⟩
theorem R.ptr_inv {l i o : Nat} (h : R G (.ptr l i o) V) : ∃ rb, V = .pointer (some ⟨rb, o, none⟩) ∧ G.blks l i = some rb := by
  cases h with | two h => cases h with | one h => cases h with
    | pl h => cases h
    | ptr _ _ _ rb h => exact ⟨rb, rfl, h⟩
theorem R.eptr_inv {cs : List NV} (h : R G (.eptr cs) V) : ∃ (b o : Nat) (W : Nat → Value), V = .pointer (some ⟨b, o, none⟩) ∧ (∀ (j : Nat) d, cs[j]? = some d → G.pub b (o + j) = some (W j)) ∧ ∀ (j : Nat) d, cs[j]? = some d → R0 G.pub d (W j) := by
  cases h with | two h => cases h with | one h => cases h with
    | pl h => cases h
    | eptr _ b o W h1 h2 => exact ⟨b, o, W, rfl, h1, h2⟩
theorem R.map_inv {l i : Nat} (h : R G (.map l i) V) : ∃ rb, V = .map (some rb) ∧ G.blks l i = some rb := by
  cases h with | two h => cases h with | one h => cases h with
    | pl h => cases h
    | map _ _ rb h => exact ⟨rb, rfl, h⟩
theorem R.nilm_inv (h : R G .nilm V) : V = .map none := by
  cases h with | two h => cases h with | one h => cases h with
    | pl h => cases h
    | nilm => rfl
theorem R.nilp_inv (h : R G .nilp V) : V = .pointer none := by
  cases h with | two h => cases h with | one h => cases h with
    | pl h => cases h
    | nilp => rfl
theorem R.msl_inv {l i o n z : Nat} (h : R G (.msl l i o n z) V) : ∃ rb cap, V = .slice (some ⟨rb, o, none⟩) n cap ∧ G.blks l i = some rb ∧ n ≤ cap := by
  cases h with | two h => cases h with | one h => cases h with
    | pl h => cases h
    | msl _ _ _ _ _ rb cap h hc => exact ⟨rb, cap, rfl, h, hc⟩
theorem R.slc_inv {sz : Nat} {full : Bool} {rows : List (List NV)} (h : R G (.slc sz full rows) V) : R0 G.pub (.slc sz full rows) V := by
  cases h with | two h => cases h with | one h => cases h with
    | pl h => exact h
theorem R0.slc_inv {p : Pub} {sz : Nat} {full : Bool} {rows : List (List NV)} (h : R0 p (.slc sz full rows) V) : ∃ a cap, V = .slice a rows.length cap ∧ rows.length ≤ cap ∧ (full = true → cap = rows.length) ∧ (∀ r ∈ rows, r.length = sz) ∧
    (rows ≠ [] → ∃ (b o : Nat) (W : Nat → Nat → Value), a = some ⟨b, o, none⟩ ∧ (∀ (i j : Nat) r d, rows[i]? = some r → r[j]? = some d → p b (o + i * sz + j) = some (W i j)) ∧ ∀ (i j : Nat) r d, rows[i]? = some r → r[j]? = some d → R0 p d (W i j)) := by
  cases h with
  | slc0 _ _ a cap hf => exact ⟨a, cap, rfl, Nat.zero_le _, hf, fun r hr => by simp at hr, fun h => absurd rfl h⟩
  | slc _ _ _ b o cap W hl hc hf hp hr => exact ⟨_, cap, rfl, hc, hf, hl, fun _ => ⟨b, o, W, rfl, hp, hr⟩⟩
theorem R.own_inv {sz : Nat} {rows : List (List NV)} {l t : Nat} (h : R G (.own sz rows l t) V) : ∃ (b o cap : Nat) (T : Tok), V = .slice (some ⟨b, o, none⟩) rows.length cap ∧ rows ≠ [] ∧ R0 G.pub (.slc sz false rows) V ∧ G.toks l t = some T ∧ T.blk = b ∧
    T.pos = o + rows.length * sz ∧ T.fin = o + cap * sz := by
  cases h with | two h => cases h with | one h => cases h with
    | pl h => cases h
    | own _ _ _ _ b o cap T hne h ht hb hp hf => exact ⟨b, o, cap, T, rfl, hne, h, ht, hb, hp, hf⟩
end

theorem asNat_inv {G : Gh} {x : NV} {V : Value} {n : Nat} (h : asNat x = some n) (hR : R G x V) : ∃ k, V = .int k n := by
  unfold asNat Nv.asInt at h
  cases x <;> simp only at h <;> try (cases h)
  rename_i k z
  split at h
  · simp only [Option.some.injEq] at h
    subst h
    exact ⟨k, by rw [hR.int_inv, Int.toNat_of_nonneg (by assumption)]⟩
  · cases h

/-! Types -/
section
variable {P : Program} {w : World}
theorem info_of_size {t : TypeId} {n : Nat} (h : sizeS P t = some n) : ∃ i, P.info? t = some i ∧ i.size = n := by
  obtain ⟨i, hi, rfl⟩ := Option.map_eq_some_iff.1 h
  exact ⟨i, hi, rfl⟩
theorem run_sizeS {t : TypeId} {n : Nat} (h : sizeS P t = some n) : (sizeOf t).run P w = .ok n w := by
  obtain ⟨i, hi, rfl⟩ := info_of_size h
  simp [sizeOf, typeInfo, hi]
theorem run_aggS {t : TypeId} {b : Bool} (h : aggS P t = some b) : (isAgg t).run P w = .ok b w := by
  unfold aggS at h
  cases hu : P.underlying t with
  | none => rw [hu] at h; cases h
  | some d =>
    rw [hu] at h
    simp only [isAgg, Sem.run_bind, run_underlying hu, Result.andThen_ok]
    cases d <;> simp only [Option.some.injEq] at h <;> subst h <;> rfl
end
end Go.Proofs.Ythecdihimfddgaa.Nv
