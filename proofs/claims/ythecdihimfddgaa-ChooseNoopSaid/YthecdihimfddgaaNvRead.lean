/- Addresses, slices, loads, comparisons: the model does what Nv reckons. Of no program. -/
import Derived.Test.YthecdihimfddgaaNvPure
namespace Go.Proofs.Ythecdihimfddgaa.Nv
open Go Go.RowKit

theorem out_shifts (G : Gh) (k : Nat) : Shifts (outS k) (G.sub k) G :=
  ⟨fun _ _ _ h => h, fun l i l' i' rb h hb => by
    simp only [outS, Option.some.injEq, Prod.mk.injEq] at h
    obtain ⟨rfl, rfl⟩ := h
    rw [Nat.add_comm]; exact hb, fun l t l' t' T h hb => by
    simp only [outS, Option.some.injEq, Prod.mk.injEq] at h
    obtain ⟨rfl, rfl⟩ := h
    rw [Nat.add_comm]; exact hb⟩

section
variable {P : Program} {w : World} {G : Gh} {m m' : Mem} {e : Env} {a : Act} {v : NV} {dst : Option Nat} {ty : TypeId} {pos : String} {aft : Array Edge} {grd : Option (Nat × Bool)}

/-- One element of a slice that nobody writes. -/
theorem row_eptr {sz : Nat} {full : Bool} {rows : List (List NV)} {V : Value} (h : R0 G.pub (.slc sz full rows) V) {i : Nat} {c : List NV} (hi : rows[i]? = some c) :
    ∃ b o cap, V = .slice (some ⟨b, o, none⟩) rows.length cap ∧ i < rows.length ∧ R G (.eptr c) (.pointer (some ⟨b, o + i * sz, none⟩)) := by
  obtain ⟨A, cap, hV, _, _, hl, hne⟩ := h.slc_inv
  have hlt : i < rows.length := (List.getElem?_eq_some_iff.1 hi).1
  obtain ⟨b, o, W, rfl, hp, hr⟩ := hne (fun h => by rw [h] at hlt; simp at hlt)
  refine ⟨b, o, cap, hV, hlt, .two (.one (.eptr c b _ (fun j => W i j) (fun j d hj => ?_) (fun j d hj => ?_)))⟩
  · exact hp i j c d hi hj
  · exact hr i j c d hi hj
theorem run_indexAt_slice {t el : TypeId} {n cap z b o i : Nat} {k : IntKind} (hu : P.underlying t = some (.slice el)) (hz : sizeS P el = some z) (hi : i < n) :
    (Instr.indexAt t (.slice (some ⟨b, o, none⟩) n cap) (.int k i)).run P w = .ok (.pointer (some ⟨b, o + i * z, none⟩)) w := by
  have hb : (0 : Int) ≤ (i : Int) ∧ (i : Int) < (n : Int) := by omega
  simp only [Instr.indexAt, Sem.run_bind, run_asInt, Result.andThen_ok, run_underlying hu, Sem.run_pure, hb, and_self, if_true, run_sizeS hz, Int.toNat_natCast, addr_add]
theorem run_indexAt_array {t el : TypeId} {n z b o i : Nat} {k : IntKind} (hu : P.underlying t = some (.array n el)) (hz : sizeS P el = some z) (hi : i < n) :
    (Instr.indexAt t (.pointer (some ⟨b, o, none⟩)) (.int k i)).run P w = .ok (.pointer (some ⟨b, o + i * z, none⟩)) w := by
  have hb : (0 : Int) ≤ (i : Int) ∧ (i : Int) < (n : Int) := by omega
  simp only [Instr.indexAt, Sem.run_bind, run_asInt, Result.andThen_ok, run_underlying hu, Sem.run_pure, Instr.sureAddr, hb, and_self, if_true, run_sizeS hz, Int.toNat_natCast, addr_add]
theorem st_iaddr {t : TypeId} {x i : Operand} {x' i' : Opd} {k : Knd} (hc : (∃ n el z, k = .arr n z ∧ P.underlying t = some (.array n el) ∧ sizeS P el = some z) ∨ ∃ el z, k = .slc z ∧ P.underlying t = some (.slice el) ∧ sizeS P el = some z)
    (h1 : opd x = some x') (h2 : opd i = some i') (hs : step (.iaddr k x' i') e m = some (v, m')) (hE : Env.On G e a (opdT x' ++ opdT i')) (hM : Rel G m w) :
    Good ((execOp a.eval ⟨dst, .indexAddr t x i, ty, pos, aft, grd⟩).run P w) G m m' w v := by
  have r1 := opd_R h1 (hE.mono (by simp; intro t ht; exact .inl ht))
  have r2 := opd_R h2 (hE.mono (by simp; intro t ht; exact .inr ht))
  simp only [step] at hs
  obtain ⟨hv, rfl⟩ := pureM_some hs
  unfold iaddrV at hv
  split at hv
  · cases hv
  · rename_i n hn
    obtain ⟨k0, hk⟩ := asNat_some hn
    rw [hk] at r2
    have hi := r2.int_inv
    have ex : ∀ {V : Value}, (Instr.indexAt t (a.eval x) (a.eval i)).run P w = .ok V w → (execOp a.eval ⟨dst, .indexAddr t x i, ty, pos, aft, grd⟩).run P w = .ok (.value V) w := by
      intro V h
      simp only [execOp, Sem.run_bind, h, Result.andThen_ok, Sem.run_pure]
    rcases hc with ⟨len, el, z, rfl, hu, hz⟩ | ⟨el, z, rfl, hu, hz⟩
    · simp only at hv
      split at hv
      · rename_i hlt
        split at hv
        · rename_i l b o hx
          simp only [Option.some.injEq] at hv
          subst hv
          rw [hx] at r1
          obtain ⟨rb, hV, hb⟩ := r1.ptr_inv
          refine good_pure (ex ?_) (.two (.one (.ptr _ _ _ _ hb))) hM
          rw [hV, hi]
          exact run_indexAt_array hu hz hlt
        · rename_i cs hx
          simp only [Option.some.injEq] at hv
          subst hv
          rw [hx] at r1
          obtain ⟨b, o, W, hV, hp, hr⟩ := r1.eptr_inv
          refine good_pure (ex ?_) (.two (.one (.eptr _ b (o + n * z) (fun j => W (n * z + j)) (fun j d hj => ?_) (fun j d hj => ?_)))) hM
          · rw [hV, hi]
            exact run_indexAt_array hu hz hlt
          · rw [List.getElem?_drop] at hj
            rw [Nat.add_assoc]
            exact hp _ _ hj
          · rw [List.getElem?_drop] at hj
            exact hr _ _ hj
        · cases hv
      · cases hv
    · simp only at hv
      split at hv
      · rename_i sz' f r hx
        split at hv
        · rename_i hsz
          subst hsz
          split at hv
          · rename_i c hc
            simp only [Option.some.injEq] at hv
            subst hv
            rw [hx] at r1
            obtain ⟨b, o, cap, hV, hlt, hR⟩ := row_eptr r1.slc_inv hc
            refine good_pure (ex ?_) hR hM
            rw [hV, hi]
            exact run_indexAt_slice hu hz hlt
          · cases hv
        · cases hv
      · rename_i sz' r l t hx
        split at hv
        · rename_i hsz
          subst hsz
          split at hv
          · rename_i c hc
            simp only [Option.some.injEq] at hv
            subst hv
            rw [hx] at r1
            obtain ⟨_, _, _, _, _, _, h0, _⟩ := r1.own_inv
            obtain ⟨b, o, cap, hV, hlt, hR⟩ := row_eptr h0 hc
            refine good_pure (ex ?_) hR hM
            rw [hV, hi]
            exact run_indexAt_slice hu hz hlt
          · cases hv
        · cases hv
      · rename_i l b o n' z' hx
        split at hv
        · rename_i hsz
          obtain ⟨rfl, hlt⟩ := hsz
          simp only [Option.some.injEq] at hv
          subst hv
          rw [hx] at r1
          obtain ⟨rb, cap, hV, hb, _⟩ := r1.msl_inv
          refine good_pure (ex ?_) (.two (.one (.ptr _ _ _ _ hb))) hM
          rw [hV, hi]
          exact run_indexAt_slice hu hz hlt
        · cases hv
      · cases hv

theorem optNat_run {x : Option Opd} {y : Option Operand} (h : opdO y = some x) (hE : Env.On G e a (optT x)) {n : Option Nat} (hn : optNat (evO e x) = some n) :
    (n = none ∧ y.map a.eval = none) ∨ ∃ k i, n = some i ∧ y.map a.eval = some (.int k i) := by
  cases y with
  | none =>
    simp only [opdO, Option.some.injEq] at h
    subst h
    simp only [evO, optNat, Option.some.injEq] at hn
    exact .inl ⟨hn.symm, rfl⟩
  | some y =>
    obtain ⟨z, hz, rfl⟩ := Option.map_eq_some_iff.1 h
    simp only [evO, optNat] at hn
    split at hn
    · rename_i i hi
      simp only [Option.some.injEq] at hn
      obtain ⟨k, hk⟩ := asNat_some hi
      have r := opd_R hz hE
      rw [hk] at r
      exact .inr ⟨k, i, hn.symm, by simp [r.int_inv]⟩
    · cases hn
theorem run_sliceBound {k : IntKind} {i y : Nat} {c : BoundsCode} (h : i ≤ y) : (Instr.sliceBound (.int k i) y c).run P w = .ok i w := by
  have hb : (0 : Int) ≤ (i : Int) ∧ (i : Int) ≤ (y : Int) := by omega
  simp only [Instr.sliceBound, Sem.run_bind, run_asInt, Result.andThen_ok, hb, and_self, if_true, Sem.run_pure, Int.toNat_natCast]
/-- The bounds, where there is no third one. -/
theorem run_bounds2 {b : Bool} {len cap : Nat} {lo hi : Option Nat} {LO HI : Option Value} (hlo : (lo = none ∧ LO = none) ∨ ∃ k i, lo = some i ∧ LO = some (.int k i)) (hhi : (hi = none ∧ HI = none) ∨ ∃ k i, hi = some i ∧ HI = some (.int k i))
    (h1 : hi.getD len ≤ cap) (h2 : lo.getD 0 ≤ hi.getD len) : (Instr.sliceBounds b len cap LO HI none).run P w = .ok (lo.getD 0, hi.getD len, cap) w := by
  unfold Instr.sliceBounds
  rcases hlo with ⟨rfl, rfl⟩ | ⟨k, i, rfl, rfl⟩ <;> rcases hhi with ⟨rfl, rfl⟩ | ⟨k', i', rfl, rfl⟩ <;> simp only [Option.getD_none, Option.getD_some] at h1 h2 ⊢ <;>
    simp [run_sliceBound, h1, h2]
theorem run_bounds3 {b : Bool} {len cap h mx : Nat} {lo : Option Nat} {LO : Option Value} {k k' : IntKind} (hlo : (lo = none ∧ LO = none) ∨ ∃ k i, lo = some i ∧ LO = some (.int k i))
    (h1 : mx ≤ cap) (h2 : h ≤ mx) (h3 : lo.getD 0 ≤ h) : (Instr.sliceBounds b len cap LO (some (.int k h)) (some (.int k' mx))).run P w = .ok (lo.getD 0, h, mx) w := by
  unfold Instr.sliceBounds
  rcases hlo with ⟨rfl, rfl⟩ | ⟨k, i, rfl, rfl⟩ <;> simp only [Option.getD_none, Option.getD_some] at h3 ⊢ <;> simp [run_sliceBound, h1, h2, h3]
/-- A part of a slice that nobody writes. -/
theorem R0.part {p : Pub} {sz : Nat} {full : Bool} {rows : List (List NV)} {A : Option Addr} {cap : Nat} (h : R0 p (.slc sz full rows) (.slice A rows.length cap)) {lo hi mx : Nat} {f' : Bool} (h1 : lo ≤ hi) (h2 : hi ≤ rows.length) (h3 : hi ≤ mx) (h4 : mx ≤ cap)
    (hf : f' = true → mx = hi) : R0 p (.slc sz f' ((rows.take hi).drop lo)) (.slice (if mx = lo then A else A.map (·.add (lo * sz))) (hi - lo) (mx - lo)) := by
  obtain ⟨A', cap', hV, hc, hfu, hl, hne⟩ := h.slc_inv
  injection hV with e1 _ e2
  subst e1; subst e2
  have hlen : ((rows.take hi).drop lo).length = hi - lo := by simp; omega
  by_cases hz : hi = lo
  · subst hz
    have : (rows.take hi).drop hi = [] := by
      apply List.eq_nil_of_length_eq_zero
      rw [hlen]; omega
    rw [this, Nat.sub_self]
    exact .slc0 _ _ _ _ (fun h => by rw [hf h]; omega)
  · obtain ⟨b, o, W, rfl, hp, hr⟩ := hne (fun h => by rw [h] at h2; simp at h2; omega)
    rw [if_neg (by omega)]
    simp only [Option.map_some, addr_add]
    have := R0.slc (pub := p) sz f' ((rows.take hi).drop lo) b (o + lo * sz) (mx - lo) (fun i j => W (lo + i) j) (fun r hr => hl r (List.mem_of_mem_take (List.mem_of_mem_drop hr))) (by rw [hlen]; omega) (fun h => by rw [hlen, hf h])
      (fun i j r d hi' hj => by
        rw [List.getElem?_drop, List.getElem?_take] at hi'
        split at hi'
        · have := hp (lo + i) j r d hi' hj
          rwa [show o + lo * sz + i * sz + j = o + (lo + i) * sz + j by rw [Nat.add_mul]; omega]
        · cases hi')
      (fun i j r d hi' hj => by
        rw [List.getElem?_drop, List.getElem?_take] at hi'
        split at hi'
        · exact hr (lo + i) j r d hi' hj
        · cases hi')
    rw [hlen] at this
    exact this
theorem sliceRows_run {sz : Nat} {full : Bool} {rows : List (List NV)} {A : Option Addr} {cap : Nat} (h : R0 G.pub (.slc sz full rows) (.slice A rows.length cap)) {lo : Option Nat} {hi mx : Option Nat} {LO HI MX : Option Value}
    (hlo : (lo = none ∧ LO = none) ∨ ∃ k i, lo = some i ∧ LO = some (.int k i)) (hhi : (hi = none ∧ HI = none) ∨ ∃ k i, hi = some i ∧ HI = some (.int k i)) (hmx : (mx = none ∧ MX = none) ∨ ∃ k i, mx = some i ∧ MX = some (.int k i))
    {u : NV} (hu : sliceRows sz full rows (lo.getD 0) hi mx = some u) {t el : TypeId} (ht : P.underlying t = some (.slice el)) (hz : sizeS P el = some sz) :
    ∃ V, (Instr.sliceAt t (.slice A rows.length cap) LO HI MX).run P w = .ok V w ∧ R G u V := by
  have hc : rows.length ≤ cap := by
    obtain ⟨_, _, hV, hc, _⟩ := h.slc_inv
    injection hV with _ _ e
    omega
  have hfull : full = true → cap = rows.length := by
    obtain ⟨_, _, hV, _, hf, _⟩ := h.slc_inv
    injection hV with _ _ e
    intro h'
    rw [e]; exact hf h'
  have go : ∀ (l h' m' : Nat) (f' : Bool), (Instr.sliceBounds true rows.length cap LO HI MX).run P w = .ok (l, h', m') w → l ≤ h' → h' ≤ rows.length → h' ≤ m' → m' ≤ cap → (f' = true → m' = h') →
      ∃ V, (Instr.sliceAt t (.slice A rows.length cap) LO HI MX).run P w = .ok V w ∧ R G (.slc sz f' ((rows.take h').drop l)) V := by
    intro l h' m' f' hb h1 h2 h3 h4 hf
    refine ⟨_, ?_, .two (.one (.pl (h.part h1 h2 h3 h4 hf)))⟩
    simp only [Instr.sliceAt, Instr.slice, Sem.run_bind, run_underlying ht, Result.andThen_ok, hb, run_sizeS hz, Sem.run_pure]
  unfold sliceRows at hu
  rcases hhi with ⟨rfl, rfl⟩ | ⟨k, h', rfl, rfl⟩
  · rcases hmx with ⟨rfl, rfl⟩ | ⟨k2, m2, rfl, rfl⟩
    · simp only at hu
      split at hu
      · rename_i hle
        simp only [Option.some.injEq] at hu
        subst hu
        have := go (lo.getD 0) rows.length cap full (by simpa using run_bounds2 (P := P) (w := w) (b := true) hlo (.inl ⟨rfl, rfl⟩) (by simpa using hc) (by simpa using hle)) hle (Nat.le_refl _) hc (Nat.le_refl _) hfull
        rwa [List.take_length] at this
      · cases hu
    · cases hu
  · rcases hmx with ⟨rfl, rfl⟩ | ⟨k2, m2, rfl, rfl⟩
    · simp only at hu
      split at hu
      · rename_i hle
        simp only [Option.some.injEq] at hu
        subst hu
        exact go (lo.getD 0) h' cap _ (by simpa using run_bounds2 (P := P) (w := w) (b := true) (len := rows.length) hlo (.inr ⟨k, h', rfl, rfl⟩) (by simp; omega) (by simpa using hle.2)) hle.2 hle.1 (by omega) (Nat.le_refl _) (fun h => by
          simp only [Bool.and_eq_true, decide_eq_true_eq] at h
          rw [hfull h.1, h.2])
      · cases hu
    · simp only at hu
      split at hu
      · rename_i hle
        simp only [Option.some.injEq] at hu
        subst hu
        exact go (lo.getD 0) h' m2 _ (run_bounds3 hlo (by omega) hle.2.1 hle.2.2) hle.2.2 (by omega) hle.2.1 (by omega) (fun h => by simp only [decide_eq_true_eq] at h; exact h.symm)
      · cases hu
theorem st_slice {t : TypeId} {x : Operand} {lo hi mx : Option Operand} {x' : Opd} {lo' hi' mx' : Option Opd} {k : Knd}
    (hc : (k = .str ∧ P.underlying t = some .string) ∨ (∃ n el z, k = .arr n z ∧ P.underlying t = some (.array n el) ∧ sizeS P el = some z) ∨ ∃ el z, k = .slc z ∧ P.underlying t = some (.slice el) ∧ sizeS P el = some z)
    (h1 : opd x = some x') (h2 : opdO lo = some lo') (h3 : opdO hi = some hi') (h4 : opdO mx = some mx') (hs : step (.slice k x' lo' hi' mx') e m = some (v, m')) (hE : Env.On G e a (opdT x' ++ optT lo' ++ optT hi' ++ optT mx')) (hM : Rel G m w) :
    Good ((execOp a.eval ⟨dst, .slice t x lo hi mx, ty, pos, aft, grd⟩).run P w) G m m' w v := by
  have r1 := opd_R h1 (hE.mono (by simp; intro t ht; exact .inl ht))
  simp only [step] at hs
  obtain ⟨hv, rfl⟩ := pureM_some hs
  unfold sliceV at hv
  split at hv
  · rename_i L H M hL hH hX
    have n1 := optNat_run h2 (hE.mono (by simp; intro t ht; exact .inr (.inl ht))) hL
    have n2 := optNat_run h3 (hE.mono (by simp; intro t ht; exact .inr (.inr (.inl ht)))) hH
    have n3 := optNat_run h4 (hE.mono (by simp; intro t ht; exact .inr (.inr (.inr ht)))) hX
    have ex : ∀ {V : Value}, (Instr.sliceAt t (a.eval x) (lo.map a.eval) (hi.map a.eval) (mx.map a.eval)).run P w = .ok V w → (execOp a.eval ⟨dst, .slice t x lo hi mx, ty, pos, aft, grd⟩).run P w = .ok (.value V) w := by
      intro V h
      simp only [execOp, Sem.run_bind, h, Result.andThen_ok, Sem.run_pure]
    rcases hc with ⟨rfl, hu⟩ | ⟨n, el, z, rfl, hu, hz⟩ | ⟨el, z, rfl, hu, hz⟩
    · simp only at hv
      split at hv
      · rename_i s hx
        split at hv
        · rcases n3 with ⟨_, hm⟩ | ⟨_, _, h, _⟩
          · split at hv
            · rename_i hle
              simp only [Option.some.injEq] at hv
              subst hv
              rw [hx] at r1
              refine good_pure (ex ?_) (R.str _) hM
              simp only [Instr.sliceAt, Instr.slice, Sem.run_bind, run_underlying hu, Result.andThen_ok, r1.str_inv, hm, Option.isSome_none, Bool.false_eq_true, if_false, run_bounds2 n1 n2 hle.1 hle.2, Sem.run_pure]
            · cases hv
          · cases h
        · cases hv
      · cases hv
    · simp only at hv
      split at hv
      · rename_i l i o hx
        split at hv
        · rcases n3 with ⟨_, hm⟩ | ⟨_, _, h, _⟩
          · split at hv
            · rename_i hle
              rw [hx] at r1
              obtain ⟨rb, hV, hb⟩ := r1.ptr_inv
              split at hv
              · rename_i hq
                simp only [Option.some.injEq] at hv
                subst hv
                refine good_pure (V := .slice (some (if n = L.getD 0 then ⟨rb, o, none⟩ else ⟨rb, o + L.getD 0 * z, none⟩)) 0 (n - L.getD 0)) (ex ?_) (.two (.one (.pl (.slc0 _ _ _ _ (fun h => by cases h))))) hM
                simp only [Instr.sliceAt, Sem.run_bind, run_underlying hu, Result.andThen_ok, hV, Instr.sureAddr, hm, run_bounds2 n1 n2 hle.1 hle.2, Sem.run_pure, run_sizeS hz, addr_add]
                rw [← hq, Nat.sub_self]
              · rename_i hq'
                have hq : ¬ n = L.getD 0 := by omega
                simp only [Option.some.injEq] at hv
                subst hv
                refine good_pure (ex ?_) (.two (.one (.msl _ _ _ _ _ rb (n - L.getD 0) hb (by omega)))) hM
                simp only [Instr.sliceAt, Sem.run_bind, run_underlying hu, Result.andThen_ok, hV, Instr.sureAddr, hm, run_bounds2 n1 n2 hle.1 hle.2, Sem.run_pure, run_sizeS hz, if_neg hq, addr_add]
            · cases hv
          · cases h
        · cases hv
      · cases hv
    · simp only at hv
      split at hv
      · rename_i sz' f r hx
        split at hv
        · rename_i hsz
          rw [hx] at r1
          obtain ⟨A, cap, hV, hcap, hfu, hl, hne⟩ := r1.slc_inv.slc_inv
          have r0 : R0 G.pub (.slc z f r) (.slice A r.length cap) := by
            rcases hsz with rfl | hemp
            · rw [← hV]; exact r1.slc_inv
            · obtain rfl : r = [] := by simpa using hemp
              exact .slc0 _ _ _ _ hfu
          obtain ⟨V, hr, hR⟩ := sliceRows_run (P := P) (w := w) r0 n1 n2 n3 hv hu hz
          refine good_pure (ex ?_) hR hM
          rw [hV]; exact hr
        · cases hv
      · rename_i sz' r l t hx
        split at hv
        · rename_i hsz
          subst hsz
          rw [hx] at r1
          obtain ⟨b, o, cap, T, hV, hne, r0, _⟩ := r1.own_inv
          rw [hV] at r0
          obtain ⟨V, hr, hR⟩ := sliceRows_run (P := P) (w := w) r0 n1 n2 n3 hv hu hz
          refine good_pure (ex ?_) hR hM
          rw [hV]; exact hr
        · cases hv
      · rename_i l i o n' z' hx
        split at hv
        · rcases n3 with ⟨_, hm⟩ | ⟨_, _, h, _⟩
          · split at hv
            · rename_i hle
              obtain ⟨rfl, hle1, hle2⟩ := hle
              rw [hx] at r1
              obtain ⟨rb, cap, hV, hb, hcap⟩ := r1.msl_inv
              split at hv
              · rename_i hq
                simp only [Option.some.injEq] at hv
                subst hv
                refine good_pure (V := .slice (if cap = L.getD 0 then some ⟨rb, o, none⟩ else some ⟨rb, o + L.getD 0 * z', none⟩) 0 (cap - L.getD 0)) (ex ?_) (.two (.one (.pl (.slc0 _ _ _ _ (fun h => by cases h))))) hM
                simp only [Instr.sliceAt, Instr.slice, Sem.run_bind, run_underlying hu, Result.andThen_ok, hV, hm, run_bounds2 n1 n2 (Nat.le_trans hle1 hcap) hle2, Sem.run_pure, run_sizeS hz, Option.map_some, addr_add]
                rw [← hq, Nat.sub_self]
              · rename_i hq'
                have hq : ¬ cap = L.getD 0 := by omega
                simp only [Option.some.injEq] at hv
                subst hv
                refine good_pure (ex ?_) (.two (.one (.msl _ _ _ _ _ rb (cap - L.getD 0) hb (by omega)))) hM
                simp only [Instr.sliceAt, Instr.slice, Sem.run_bind, run_underlying hu, Result.andThen_ok, hV, hm, run_bounds2 n1 n2 (Nat.le_trans hle1 hcap) hle2, Sem.run_pure, run_sizeS hz, if_neg hq, Option.map_some, addr_add]
            · cases hv
          · cases h
        · cases hv
      · cases hv
  · cases hv
end
end Go.Proofs.Ythecdihimfddgaa.Nv
