/- Stores, maps that are written, new arrays: the model does what Nv reckons. Of no program. -/
import Derived.Test.YthecdihimfddgaaNvMake
import Derived.Laws.IdiomCopy
import Derived.Laws.AppendOwn
namespace Go.Proofs.Ythecdihimfddgaa.Nv
open Go Go.RowKit

section
variable {P : Program} {w : World} {G : Gh} {m m' : Mem} {e : Env} {a : Act} {v : NV} {dst : Option Nat} {ty : TypeId} {pos : String} {aft : Array Edge} {grd : Option (Nat × Bool)}

theorem R0.one {p : Pub} {v : NV} {V : Value} (h : R0 p v V) : V.oneCell' = true := by cases h <;> rfl
theorem R1.oneCell {v : NV} {V : Value} (h : R1 G v V) : V.oneCell' = true := by
  cases h with
  | pl h => exact h.one
  | _ => rfl
theorem RL.oneCell {l : List NV} {L : List Value} (h : RL (R1 G) l L) : ∀ V ∈ L, V.oneCell' = true := by
  induction h with
  | nil => intro V hV; cases hV
  | cons h1 _ ih =>
    intro V hV
    rcases List.mem_cons.1 hV with rfl | hV
    · exact h1.oneCell
    · exact ih V hV
/-- A row of cells that is set. -/
theorem setCells_heap {b : Nat} : ∀ {L : List Value} {o : Nat} {w : World} {vs : Array Value} {el : TypeId} {fz : Nat × Nat}, w.heap[b]? = some (.cells vs el fz) → o + L.length ≤ vs.size →
    ∃ vs' : Array Value, (w.setCells b o L).heap[b]? = some (.cells vs' el fz) ∧ vs'.size = vs.size ∧ (∀ j, vs'[j]? = if o ≤ j ∧ j < o + L.length then L[j - o]? else vs[j]?) ∧
      (∀ k, k ≠ b → (w.setCells b o L).heap[k]? = w.heap[k]?) ∧ (w.setCells b o L).os = w.os ∧ (w.setCells b o L).tape = w.tape ∧ (w.setCells b o L).output = w.output ∧ (w.setCells b o L).heap.size = w.heap.size
  | [], o, w, vs, el, fz, hw, _ => ⟨vs, hw, rfl, fun j => by rw [if_neg (by rintro ⟨h1, h2⟩; simp only [List.length_nil] at h2; omega)], fun _ _ => rfl, rfl, rfl, rfl, rfl⟩
  | V :: L, o, w, vs, el, fz, hw, hl => by
    simp only [List.length_cons] at hl
    have h0 : (w.setCell ⟨b, o, none⟩ V).heap[b]? = some (.cells (vs.setIfInBounds o V) el fz) := by
      simp [World.setCell, Array.getElem?_modify, hw]
    obtain ⟨vs', h1, h2, h3, h4, h5, h6, h7, h8⟩ := setCells_heap (L := L) (o := o + 1) h0 (by simp; omega)
    refine ⟨vs', h1, h2.trans (by simp), fun j => ?_, fun k hk => (h4 k hk).trans ?_, h5, h6, h7, h8.trans (by simp)⟩
    · rw [h3, Array.getElem?_setIfInBounds]
      simp only [List.length_cons]
      by_cases c1 : o + 1 ≤ j ∧ j < o + 1 + L.length
      · rw [if_pos c1, if_pos ⟨by omega, by omega⟩, show j - o = (j - (o + 1)) + 1 by omega, List.getElem?_cons_succ]
      · rw [if_neg c1]
        by_cases c2 : o = j
        · have hlt : o < vs.size := by omega
          subst c2
          simp [hlt]
        · rw [if_neg c2, if_neg (by omega)]
    · exact Below.heap_setCell _ _ _ _ hk
theorem not_frozen {rb : Nat} {vs : Array Value} {el : TypeId} {fz : Nat × Nat} (hw : w.heap[rb]? = some (.cells vs el fz)) {o : Nat} (h : ¬ (fz.1 ≤ o ∧ o < fz.2)) : w.frozen? ⟨rb, o, none⟩ = false := by
  obtain ⟨lo, hi⟩ := fz
  simp only [World.frozen?, hw]
  simpa using h
theorem run_storeVar_at {t : TypeId} {n rb o : Nat} {V : Value} {vs : Array Value} {el : TypeId} {fz : Nat × Nat} (hn : sizeS P t = some n) (hV : V.cells.size = n) (hw : w.heap[rb]? = some (.cells vs el fz)) (hl : o + n ≤ vs.size)
    (hz : ∀ j, j < n → ¬ (fz.1 ≤ o + j ∧ o + j < fz.2)) (h1 : ∀ x ∈ V.cells.toList, x.oneCell' = true) : (Instr.storeAt t (.pointer (some ⟨rb, o, none⟩)) V).run P w = .ok () (w.setCells rb o V.cells.toList) := by
  have hlen : V.cells.toList.length = n := by rw [Array.length_toList]; exact hV
  have h2 := run_storeCells_cells (P := P) rb o V.cells.toList 0 w (fun j hj => by
    rw [Nat.add_zero, cell_of_block hw, Array.getElem?_eq_getElem (by omega)]; rfl) (fun j hj => by
    rw [Nat.add_zero]; exact not_frozen hw (hz j (by omega))) h1
  simp only [Nat.add_zero] at h2
  simp only [Instr.storeAt, Instr.sureAddr, Sem.run_bind, Sem.run_pure, Result.andThen_ok, storeVar, run_sizeS hn, hV, ne_eq, not_true_eq_false, if_false, h2]
/-- A store, its value being laid in by way of 'into'. -/
theorem store_core (hM : Rel G m w) {l i o n rb : Nat} {cs vs : List NV} {Vs : List Value} (hv : G.vis l i) (hb : G.blks l i = some rb) (ho : blk? m l i = some (.cells cs)) (hle : o + n ≤ cs.length) (hR : RL (R1 (G.sub l)) vs Vs) (hn : vs.length = n) :
    Adv G m w G (setBlk m l i (.cells (cs.take o ++ vs ++ cs.drop (o + n)))) (w.setCells rb o Vs) ∧ ∃ ws el fz, w.heap[rb]? = some (.cells ws el fz) ∧ o + n ≤ ws.size ∧ ∀ (j : Nat), j < n → ¬ (fz.1 ≤ o + j ∧ o + j < fz.2) := by
  obtain ⟨ws, el, fz, hw, hl, hc, hz⟩ := hM.cells_blk hv hb ho
  have hVl : Vs.length = n := by rw [hR.length, hn]
  obtain ⟨ws', h1, h2, h3, h4, h5, h6, h7, h8⟩ := setCells_heap (L := Vs) (o := o) hw (by omega)
  refine ⟨adv_set hM hv hb h5 h6 h7 h8 h4 (.cells _ ws' el fz h1 (by simp; omega) (fun j c hj => ?_) (fun j hj => hz j (by simp at hj; omega))), ws, el, fz, hw, by omega, fun j hj => hz _ (by omega)⟩
  rw [h3]
  by_cases c1 : o ≤ j ∧ j < o + Vs.length
  · rw [if_pos c1]
    rw [List.append_assoc, List.getElem?_append_right (by simp; omega), List.getElem?_append_left (by simp; omega)] at hj
    rw [show j - (cs.take o).length = j - o by simp; omega] at hj
    exact hR.get hj
  · rw [if_neg c1]
    rcases Nat.lt_or_ge j o with hlt | hge
    · rw [List.append_assoc, List.getElem?_append_left (by simp; omega), List.getElem?_take, if_pos hlt] at hj
      exact hc j c hj
    · rw [List.getElem?_append_right (by simp; omega), List.getElem?_drop] at hj
      refine hc j c ?_
      rw [← hj]
      congr 1
      simp; omega
theorem st_store {t : TypeId} {n : Nat} {x y : Operand} {x' y' : Opd} (hn : sizeS P t = some n) (h1 : opd x = some x') (h2 : opd y = some y') (hs : step (.store n x' y') e m = some (v, m')) (hE : Env.On G e a (opdT x' ++ opdT y')) (hM : Rel G m w)
    (hV : ∀ l i rb, wrOf (.store n x' y') e = some (l, i) → G.blks l i = some rb → G.vis l i) (hT : calmS (.store n x' y') e = true ∨ G.Full m) : Fares ((execOp a.eval ⟨dst, .store t x y, ty, pos, aft, grd⟩).run P w) G m m' w v := by
  have r1 := opd_R h1 (hE.mono (by simp; intro t ht; exact .inl ht))
  have r2 := opd_R h2 (hE.mono (by simp; intro t ht; exact .inr ht))
  simp only [step] at hs
  split at hs
  · rename_i m1 hst
    simp only [Option.some.injEq, Prod.mk.injEq] at hs
    obtain ⟨rfl, rfl⟩ := hs
    unfold storeV at hst
    split at hst
    · rename_i l i o hx
      rw [hx] at r1
      obtain ⟨rb, hA, hb⟩ := r1.ptr_inv
      have hv := hV l i rb (by simp [wrOf, hx]) hb
      split at hst
      · rename_i hlen
        split at hst
        · rename_i vs m2 hi
          have hok := cells_into r2 hi
          have hcs := r2.cells hok
          have hVn : (a.eval y).cells.size = n := by
            have := hcs.length
            rw [Array.length_toList] at this
            omega
          have key : ∃ G', Adv G m w G' m2 w ∧ RL (R1 (G'.sub l)) vs (a.eval y).cells.toList ∧ G'.blks = G.blks ∧ G'.vis = G.vis := by
            rcases hT with hT | hF
            · have hcalm : (cellsOf (y'.ev e)).all (calm l) = true := by simpa [calmS, hx] using hT
              obtain ⟨rfl, h3⟩ := intoL_calm hcalm hi hcs
              exact ⟨G, .refl hM, h3, rfl, rfl⟩
            · obtain ⟨G', h3, h4, h5, h6, _⟩ := intoL_full hM hF hi hcs
              exact ⟨G', h3, h4, h5, h6⟩
          obtain ⟨G', hadv, hR, hbk, hvs⟩ := key
          split at hst
          · rename_i cs ho
            split at hst
            · rename_i hle
              simp only [Option.some.injEq] at hst
              subst hst
              have hvl : vs.length = n := by
                have := hR.length
                rw [Array.length_toList] at this
                omega
              obtain ⟨h3, ws, el, fz, hw, hsz, hz⟩ := store_core hadv.rel (l := l) (i := i) (rb := rb) (by rw [hvs]; exact hv) (by rw [hbk]; exact hb) ho hle hR hvl
              refine ⟨Go.undef, _, G', .inr ⟨?_, rfl⟩, .two .undef, hadv.trans h3⟩
              simp only [execOp, Sem.run_bind, hA, run_storeVar_at hn hVn hw hsz hz hcs.oneCell, Result.andThen_ok, Sem.run_pure]
            · cases hst
          · cases hst
        · cases hst
      · cases hst
    · cases hst
  · cases hs

/-! ### Maps that are written -/
theorem adv_map (hM : Rel G m w) {l i rb : Nat} (hv : G.vis l i) (hb : G.blks l i = some rb) {es : List (NV × NV)} {ents : Array MapEntry} {ck : Nat}
    (hR : RL (fun (e : NV × NV) (f : MapEntry) => R2 G0 e.1 f.key ∧ R2 (G.sub l) e.2 f.val) es ents.toList) : Adv G m w G (setBlk m l i (.mp es)) { w with heap := w.heap.setIfInBounds rb (.map ents ck) } := by
  have hlt := (hM.lt _ _ _ hb).1
  exact adv_set hM hv hb rfl rfl rfl (by simp) (fun k hk => by simp [Array.getElem?_setIfInBounds, Ne.symm hk]) (.mp es ents ck (by simp [hlt]) hR)
theorem run_setObj_map {rb : Nat} {ents ents' : Array MapEntry} {ck ck' : Nat} (h : w.heap[rb]? = some (.map ents ck)) : (setObj rb (.map ents' ck')).run P w = .ok () { w with heap := w.heap.setIfInBounds rb (.map ents' ck') } := by
  simp only [setObj, Sem.run, h]
/-- A plain key says the same of whatever memory. -/
theorem eqL_G0 : ∀ {ks : List SK} {x y : List NV} {X : List Value} {b : Bool}, eqL ks x y = some b → RL (R1 G) x X → RL (R1 G0) x X
  | [], [], [], X, b, _, hx => by obtain rfl := hx.nil_inv; exact .nil
  | k :: ks, v :: x, u :: y, X, b, h, hx => by
    obtain ⟨V, X', rfl, h1, h2⟩ := hx.cons_inv
    simp only [eqL] at h
    split at h
    · rename_i q hq
      split at h
      · rename_i c hc
        refine .cons ?_ (eqL_G0 hc h2)
        cases k <;> cases v <;> simp only [eqC] at hq <;> try (cases hq; done)
        · rw [R.bool_inv (.two (.one h1))]; exact .pl (.bool _)
        · rw [R.int_inv (.two (.one h1))]; exact .pl (.int _ _)
        · rw [R.str_inv (.two (.one h1))]; exact .pl (.str _)
      · cases h
    · cases h
  | [], [], _ :: _, _, _, h, _ => by simp [eqL] at h
  | [], _ :: _, _, _, _, h, _ => by simp [eqL] at h
  | _ :: _, [], _, _, _, h, _ => by simp [eqL] at h
  | _ :: _, _ :: _, [], _, _, h, _ => by simp [eqL] at h
theorem key_G0 {kt : KT} {k : NV} {K : Value} (hk : R G k K) (h : (eqV kt k k).isSome = true) : R2 G0 k K := by
  obtain ⟨b, hb⟩ := Option.isSome_iff_exists.1 h
  obtain ⟨ag, ks⟩ := kt
  cases ag with
  | true =>
    simp only [eqV] at hb
    split at hb
    · obtain ⟨Xs, rfl, hX⟩ := hk.agg_inv
      exact .agg _ _ (eqL_G0 hb hX)
    · cases hb
  | false =>
    cases ks with
    | nil => simp [eqV] at hb
    | cons s ks =>
      simp only [eqV] at hb
      refine .one ?_
      cases s <;> cases k <;> simp only [eqC] at hb <;> try (cases hb; done)
      · rw [hk.bool_inv]; exact .pl (.bool _)
      · rw [hk.int_inv]; exact .pl (.int _ _)
      · rw [hk.str_inv]; exact .pl (.str _)
theorem findE_lt {kt : KT} {k : NV} : ∀ {es : List (NV × NV)} {i j : Nat} {v : NV}, findE kt k es i = some (some (j, v)) → i ≤ j ∧ ∃ q, es[j - i]? = some (q, v) ∧ eqV kt k q = some true
  | [], i, j, v, h => by simp [findE] at h
  | x :: es, i, j, v, h => by
    simp only [findE] at h
    split at h
    · rename_i hq
      simp only [Option.some.injEq, Prod.mk.injEq] at h
      obtain ⟨rfl, rfl⟩ := h
      exact ⟨Nat.le_refl _, x.1, by simp, hq⟩
    · obtain ⟨h1, q, h2, h3⟩ := findE_lt h
      refine ⟨by omega, q, ?_, h3⟩
      rw [show j - i = (j - (i + 1)) + 1 by omega]
      simpa using h2
    · cases h
/-- What goes into a map. -/
theorem intoV_full {k : Nat} {v v' : NV} {V : Value} (hM : Rel G m w) (hF : G.Full m) (h : intoV k v m = some (v', m')) (hR : R G v V) :
    ∃ G', Adv G m w G' m' w ∧ R2 (G'.sub k) v' V ∧ G'.blks = G.blks ∧ G'.vis = G.vis ∧ ∀ l i, blk? m' l i = blk? m l i := by
  have one : ∀ {v : NV}, R G v V → into k v m = some (v', m') → (∀ cs, v ≠ .agg cs) → ∃ G', Adv G m w G' m' w ∧ R2 (G'.sub k) v' V ∧ G'.blks = G.blks ∧ G'.vis = G.vis ∧ ∀ l i, blk? m' l i = blk? m l i := by
    intro v hR h hn
    have h1 : R1 G v V := by
      cases hR with
      | two hR => cases hR with
        | one h => exact h
        | undef => simp [into, sh1] at h
        | fn f cs Vs hc =>
          cases hc with
          | nil => exact .fn0 f
          | cons a b => simp [into, sh1] at h
        | agg cs => exact absurd rfl (hn cs)
      | tup cs => simp [into, sh1] at h
    obtain ⟨G', h2, h3, h4, h5, _, h6⟩ := into_full hM hF h h1
    exact ⟨G', h2, .one h3, h4, h5, h6⟩
  cases v with
  | agg cs =>
    simp only [intoV] at h
    split at h
    · rename_i cs' m1 hi
      simp only [Option.some.injEq, Prod.mk.injEq] at h
      obtain ⟨rfl, rfl⟩ := h
      obtain ⟨Vs, rfl, hc⟩ := hR.agg_inv
      obtain ⟨G', h2, h3, h4, h5, _, h6⟩ := intoL_full hM hF hi hc
      exact ⟨G', h2, .agg _ _ h3, h4, h5, h6⟩
    · cases h
  | _ => exact one hR (by simpa only [intoV] using h) (by simp)
theorem RL.set {α β : Type} {S : α → β → Prop} {l : List α} {L : List β} (H : RL S l L) : ∀ (i : Nat) {v : α} {V : β}, S v V → RL S (l.set i v) (L.set i V) := by
  induction H with
  | nil => intro i v V _; exact .nil
  | cons h1 t ih =>
    intro i v V hv
    cases i with
    | zero => exact .cons hv t
    | succ i => exact .cons h1 (ih i hv)
theorem RL.erase {α β : Type} {S : α → β → Prop} {l : List α} {L : List β} (H : RL S l L) : ∀ (i : Nat), RL S (l.eraseIdx i) (L.eraseIdx i) := by
  induction H with
  | nil => intro i; exact .nil
  | cons h1 t ih =>
    intro i
    cases i with
    | zero => exact t
    | succ i => exact .cons h1 (ih i)
theorem sameBits_C {s : SK} {x y : NV} {X Y : Value} {G' : Gh} {n : Nat} (h : eqC s x y = some true) (hx : R1 G x X) (hy : R1 G' y Y) : Instr.sameBits n Y X = true := by
  cases s <;> cases x <;> simp only [eqC] at h <;> (try (cases h; done)) <;> cases y <;> simp only at h <;> try (cases h; done)
  · rw [R.bool_inv (.two (.one hx)), R.bool_inv (.two (.one hy))]
    simp only [Option.some.injEq, beq_iff_eq] at h
    subst h
    cases n <;> simp [Instr.sameBits]
  · rw [R.int_inv (.two (.one hx)), R.int_inv (.two (.one hy))]
    split at h
    · rename_i hk
      subst hk
      simp only [Option.some.injEq, beq_iff_eq] at h
      subst h
      cases n <;> simp [Instr.sameBits]
    · cases h
  · rw [R.str_inv (.two (.one hx)), R.str_inv (.two (.one hy))]
    simp only [Option.some.injEq] at h
    cases n <;> (simp only [Instr.sameBits]; rw [beq_toListBytes, Bool.beq_comm]; simpa [Bool.beq_comm] using (by simpa using h : _ = _) ▸ (rfl : _ = _))
theorem sameBits_L {G' : Gh} {n : Nat} : ∀ {ks : List SK} {x y : List NV} {X Y : List Value}, eqL ks x y = some true → RL (R1 G) x X → RL (R1 G') y Y → X.length = Y.length ∧ (Y.zip X).all (fun (p : Value × Value) => Instr.sameBits n p.1 p.2) = true
  | [], [], [], X, Y, _, hx, hy => by
    obtain rfl := hx.nil_inv
    obtain rfl := hy.nil_inv
    exact ⟨rfl, rfl⟩
  | k :: ks, v :: x, u :: y, X, Y, h, hx, hy => by
    obtain ⟨V, X', rfl, h1, h2⟩ := hx.cons_inv
    obtain ⟨U, Y', rfl, h3, h4⟩ := hy.cons_inv
    simp only [eqL] at h
    split at h
    · rename_i q hq
      split at h
      · rename_i c hc
        simp only [Option.some.injEq, Bool.and_eq_true] at h
        obtain ⟨rfl, rfl⟩ := h
        obtain ⟨h5, h6⟩ := sameBits_L (n := n) hc h2 h4
        exact ⟨by simp [h5], by simp only [List.zip_cons_cons, List.all_cons, sameBits_C hq h1 h3, h6, Bool.and_self]⟩
      · cases h
    · cases h
  | [], [], _ :: _, _, _, h, _, _ => by simp [eqL] at h
  | [], _ :: _, _, _, _, h, _, _ => by simp [eqL] at h
  | _ :: _, [], _, _, _, h, _, _ => by simp [eqL] at h
  | _ :: _, _ :: _, [], _, _, h, _, _ => by simp [eqL] at h
theorem sameBits_V {kt : KT} {x y : NV} {X Y : Value} {G' : Gh} (h : eqV kt x y = some true) (hx : R G x X) (hy : R G' y Y) : Instr.sameBits 10000 Y X = true := by
  obtain ⟨ag, ks⟩ := kt
  cases ag with
  | true =>
    simp only [eqV] at h
    split at h
    · obtain ⟨Xs, rfl, hX⟩ := hx.agg_inv
      obtain ⟨Ys, rfl, hY⟩ := hy.agg_inv
      obtain ⟨h1, h2⟩ := sameBits_L (n := 9999) h hX hY
      show (Ys.toArray.size == Xs.toArray.size && (Ys.toArray.toList.zip Xs.toArray.toList).all fun (x, y) => Instr.sameBits 9999 x y) = true
      simp only [List.size_toArray, h1, beq_self_eq_true, Bool.true_and]
      exact h2
    · cases h
  | false =>
    cases ks with
    | nil => simp [eqV] at h
    | cons s ks =>
      simp only [eqV] at h
      obtain ⟨h1, h2⟩ := eqC_R1 h hx hy
      exact sameBits_C h h1 h2
theorem st_put {t kt el : TypeId} {key : KT} {mo k x : Operand} {mo' k' x' : Opd} (hu : P.underlying t = some (.map kt el)) (hk : keyT P kt = some key) (h1 : opd mo = some mo') (h2 : opd k = some k') (h3 : opd x = some x')
    (hs : step (.put key mo' k' x') e m = some (v, m')) (hE : Env.On G e a (opdT mo' ++ opdT k' ++ opdT x')) (hM : Rel G m w) (hF : G.Full m) :
    ∃ w' G', (Instr.mapUpdate t (a.eval mo) (a.eval k) (a.eval x)).run P w = .ok () w' ∧ v = .undef ∧ Adv G m w G' m' w' := by
  have r1 := opd_R h1 (hE.mono (by simp; intro t ht; exact .inl ht))
  have r2 := opd_R h2 (hE.mono (by simp; intro t ht; exact .inr (.inl ht)))
  have r3 := opd_R h3 (hE.mono (by simp; intro t ht; exact .inr (.inr ht)))
  simp only [step] at hs
  split at hs
  · rename_i l i hx
    rw [hx] at r1
    obtain ⟨rb, hA, hb⟩ := r1.map_inv
    have hv := hF.2 _ _ _ hb
    split at hs
    · rename_i q m1 hi
      obtain ⟨G', hadv, hR, hbk, hvs, hbl⟩ := intoV_full hM hF hi r3
      have hb' : G'.blks l i = some rb := by rw [hbk]; exact hb
      have hv' : G'.vis l i := by rw [hvs]; exact hv
      split at hs
      · rename_i es ho
        split at hs
        · rename_i hfit
          obtain ⟨ents, ck, hh, hr⟩ := hadv.rel.map_blk hv' hb' ho
          have h5 := key_ok (P := P) (w := w) (em := false) hk r2 hfit
          split at hs
          · rename_i j q' hf
            simp only [Option.some.injEq, Prod.mk.injEq] at hs
            obtain ⟨rfl, rfl⟩ := hs
            obtain ⟨r', h6, h7⟩ := findKey_run (P := P) (w := w) hk r2 hf hr
            cases h7 with
            | some hS =>
              rename_i Q
              obtain ⟨_, kk, h8, h9⟩ := findE_lt hf
              simp only [Nat.sub_zero] at h8
              obtain ⟨E, h10, h11, h12⟩ := hr.get h8
              have h10' : ents[j]? = some E := by rw [← Array.getElem?_toList]; exact h10
              have hsame := sameBits_V h9 r2 (.two h11)
              have hR' : RL (fun (e : NV × NV) (f : MapEntry) => R2 G0 e.1 f.key ∧ R2 (G'.sub l) e.2 f.val) (es.set j (k'.ev e, q)) (ents.modify j fun f => { f with key := a.eval k, val := a.eval x }).toList := by
                have e1 : (ents.modify j fun f => { f with key := a.eval k, val := a.eval x }).toList = ents.toList.set j { E with key := a.eval k, val := a.eval x } := by
                  apply List.ext_getElem?
                  intro n
                  rw [Array.getElem?_toList, Array.getElem?_modify, List.getElem?_set, Array.getElem?_toList]
                  by_cases hn : j = n
                  · subst hn
                    obtain ⟨hlt, hE'⟩ := Array.getElem?_eq_some_iff.1 h10'
                    simp [h10', hlt, hE']
                  · simp [hn]
                rw [e1]
                exact hr.set j ⟨key_G0 r2 hfit, hR⟩
              refine ⟨_, G', ?_, rfl, hadv.trans (adv_map (ents := ents.modify j fun f => { f with key := a.eval k, val := a.eval x }) (ck := ck) hadv.rel hv' hb' hR')⟩
              simp only [Instr.mapUpdate, Sem.run_bind, run_underlying hu, Result.andThen_ok, hA, run_getObj_map hh, h5, h6, h10', Option.map_some, Option.getD_some, Instr.keyThatStays, hsame, if_true, Sem.run_pure, run_setObj_map hh]
          · rename_i hf
            simp only [Option.some.injEq, Prod.mk.injEq] at hs
            obtain ⟨rfl, rfl⟩ := hs
            obtain ⟨r', h6, h7⟩ := findKey_run (P := P) (w := w) hk r2 hf hr
            cases h7
            refine ⟨_, G', ?_, rfl, hadv.trans (adv_map (ents := ents.push { key := a.eval k, val := a.eval x, born := ck }) (ck := ck + 1) hadv.rel hv' hb' ?_)⟩
            · simp only [Instr.mapUpdate, Sem.run_bind, run_underlying hu, Result.andThen_ok, hA, run_getObj_map hh, h5, h6, run_setObj_map hh]
            · rw [Array.toList_push]
              exact hr.append (.cons ⟨key_G0 r2 hfit, hR⟩ .nil)
          · cases hs
        · cases hs
      · cases hs
    · cases hs
  · cases hs
theorem st_del {t kt u rt el : TypeId} {key : KT} {mo k : Operand} {mo' k' : Opd} (hu : P.underlying t = some (.map kt el)) (hk : keyT P kt = some key) (h1 : opd mo = some mo') (h2 : opd k = some k')
    (hs : step (.del key mo' k') e m = some (v, m')) (hE : Env.On G e a (opdT mo' ++ opdT k')) (hM : Rel G m w) (hF : G.Full m) :
    Fares (((Builtin.delete_ #[t, u] rt #[a.eval mo, a.eval k]).run P w).andThen fun v w' => .ok (.value v) w') G m m' w v := by
  have r1 := opd_R h1 (hE.mono (by simp; intro t ht; exact .inl ht))
  have r2 := opd_R h2 (hE.mono (by simp; intro t ht; exact .inr ht))
  have tup : ∀ {G : Gh}, R G (.tup []) (.tuple #[]) := fun {G} => .tup [] [] .nil
  simp only [step] at hs
  split at hs
  · rename_i l i hx
    rw [hx] at r1
    obtain ⟨rb, hA, hb⟩ := r1.map_inv
    have hv := hF.2 _ _ _ hb
    split at hs
    · rename_i es ho
      split at hs
      · rename_i hfit
        obtain ⟨ents, ck, hh, hr⟩ := hM.map_blk hv hb ho
        have h5 := key_ok (P := P) (w := w) (em := ents.isEmpty) hk r2 hfit
        split at hs
        · rename_i j q' hf
          simp only [Option.some.injEq, Prod.mk.injEq] at hs
          obtain ⟨rfl, rfl⟩ := hs
          obtain ⟨r', h6, h7⟩ := findKey_run (P := P) (w := w) hk r2 hf hr
          cases h7 with
          | some hS =>
            refine ⟨.tuple #[], _, G, .inl ?_, tup, adv_map (ents := ents.eraseIdxIfInBounds j) (ck := ck) hM hv hb ?_⟩
            · simp only [Builtin.delete_, List.getElem?_toArray, List.getElem?_cons_zero, List.getElem?_cons_succ, Sem.run_bind, run_underlying hu, Result.andThen_ok, hA, run_getObj_map hh, h5, h6, run_setObj_map hh, Sem.run_pure]
            · have : (ents.eraseIdxIfInBounds j).toList = ents.toList.eraseIdx j := by
                rw [Array.eraseIdxIfInBounds]
                split
                · rw [Array.toList_eraseIdx]
                · rename_i hge
                  rw [List.eraseIdx_of_length_le (by rw [Array.length_toList]; omega)]
              rw [this]
              exact hr.erase j
        · rename_i hf
          simp only [Option.some.injEq, Prod.mk.injEq] at hs
          obtain ⟨rfl, rfl⟩ := hs
          obtain ⟨r', h6, h7⟩ := findKey_run (P := P) (w := w) hk r2 hf hr
          cases h7
          refine ⟨.tuple #[], w, G, .inl ?_, tup, .refl hM⟩
          have hsame : ({ w with heap := w.heap.setIfInBounds rb (.map ents ck) } : World) = w := by
            have : w.heap.setIfInBounds rb (.map ents ck) = w.heap := by
              apply Array.ext_getElem?
              intro n
              rw [Array.getElem?_setIfInBounds]
              split
              · rename_i hn
                subst hn
                obtain ⟨hlt, hq⟩ := Array.getElem?_eq_some_iff.1 hh
                simp [hlt, hq]
              · rfl
            rw [this]
          simp only [Builtin.delete_, List.getElem?_toArray, List.getElem?_cons_zero, List.getElem?_cons_succ, Sem.run_bind, run_underlying hu, Result.andThen_ok, hA, run_getObj_map hh, h5, h6, run_setObj_map hh, Sem.run_pure, hsame]
        · cases hs
      · cases hs
    · cases hs
  · cases hs
end
end Go.Proofs.Ythecdihimfddgaa.Nv
