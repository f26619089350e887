/- The operations that make something: the model does what Nv reckons. Of no program. -/
import Derived.Test.YthecdihimfddgaaNvMem
namespace Go.Proofs.Ythecdihimfddgaa.Nv
open Go Go.RowKit

/-- How an operation of Nv fares: what is to be shown of each. -/
def Fares (r : Result Next) (G : Gh) (m m' : Mem) (w : World) (v : NV) : Prop :=
  ∃ V w' G', (r = .ok (.value V) w' ∨ (r = .ok .skip w' ∧ V = Go.undef)) ∧ R G' v V ∧ Adv G m w G' m' w'
theorem fares_good {r : Result Next} {G : Gh} {m m' : Mem} {w : World} {v : NV} (h : Good r G m m' w v) : Fares r G m m' w v :=
  let ⟨V, w', G', h1, h2, h3, h4, h5, h6⟩ := h
  ⟨V, w', G', h1, h2, h3, h4, h5, h6⟩

section
variable {P : Program} {w : World} {G : Gh} {m m' : Mem} {e : Env} {a : Act} {v : NV} {dst : Option Nat} {ty : TypeId} {pos : String} {aft : Array Edge} {grd : Option (Nat × Bool)}

theorem R.ra {v : NV} {V : Value} (h : R G v V) (hc : cellOk v = true) : RA G v V := by
  cases h with
  | two h => cases h with
    | one h => exact .one h
    | undef => cases hc
    | fn f cs Vs h =>
      cases h with
      | nil => exact .one (.fn0 f)
      | cons h t => cases hc
    | agg cs Vs h => exact .agg cs Vs h
  | tup cs Vs h => cases hc
theorem RA.cells {v : NV} {V : Value} (h : RA G v V) : RL (R1 G) (cellsOf v) V.cells.toList := by
  cases h with
  | one h =>
    have : cellsOf v = [v] ∧ V.cells = #[V] := by
      cases h with
      | pl h => cases h <;> exact ⟨rfl, rfl⟩
      | _ => exact ⟨rfl, rfl⟩
    rw [this.1, this.2]
    exact .cons h .nil
  | agg cs Vs h => simpa [cellsOf, Value.cells] using h
theorem R.cells {v : NV} {V : Value} (h : R G v V) (hc : cellOk v = true) : RL (R1 G) (cellsOf v) V.cells.toList := (h.ra hc).cells

/-! ### Filling -/
theorem foldl_set {α : Type} : ∀ (l : List α) (k off : Nat) (cs : Array α), off + k + l.length ≤ cs.size →
    ((l.zipIdx k).foldl (fun cs (x : α × Nat) => cs.setIfInBounds (off + x.2) x.1) cs).size = cs.size ∧
    ∀ j, ((l.zipIdx k).foldl (fun cs (x : α × Nat) => cs.setIfInBounds (off + x.2) x.1) cs)[j]? = if off + k ≤ j ∧ j < off + k + l.length then l[j - (off + k)]? else cs[j]?
  | [], k, off, cs, _ => ⟨rfl, fun j => by rw [if_neg (by rintro ⟨h1, h2⟩; simp only [List.length_nil] at h2; omega)]; rfl⟩
  | x :: l, k, off, cs, h => by
    simp only [List.length_cons] at h
    obtain ⟨h1, h2⟩ := foldl_set l (k + 1) off (cs.setIfInBounds (off + k) x) (by simp; omega)
    simp only [List.zipIdx_cons, List.foldl_cons]
    refine ⟨h1.trans (by simp), fun j => ?_⟩
    rw [h2, Array.getElem?_setIfInBounds]
    simp only [List.length_cons]
    by_cases c1 : off + (k + 1) ≤ j ∧ j < off + (k + 1) + l.length
    · rw [if_pos c1, if_pos ⟨by omega, by omega⟩, show j - (off + k) = (j - (off + (k + 1))) + 1 by omega, List.getElem?_cons_succ]
    · rw [if_neg c1]
      by_cases c2 : off + k = j
      · have hlt : off + k < cs.size := by omega
        subst c2
        simp [hlt]
      · rw [if_neg c2, if_neg (by omega)]
theorem fill_one {α : Type} (l : List α) (off : Nat) (cs : Array α) (h : off + l.length ≤ cs.size) :
    (l.toArray.zipIdx.foldl (fun cs (x : α × Nat) => cs.setIfInBounds (off + x.2) x.1) cs) = (cs.toList.take off ++ l ++ cs.toList.drop (off + l.length)).toArray := by
  obtain ⟨h1, h2⟩ := foldl_set l 0 off cs (by simpa using h)
  have e : (l.toArray.zipIdx.foldl (fun cs (x : α × Nat) => cs.setIfInBounds (off + x.2) x.1) cs) = ((l.zipIdx 0).foldl (fun cs (x : α × Nat) => cs.setIfInBounds (off + x.2) x.1) cs) := by
    rw [← Array.foldl_toList]
    simp
  rw [e]
  apply Array.ext'
  rw [List.toList_toArray]
  apply List.ext_getElem?
  intro j
  rw [Array.getElem?_toList, h2]
  simp only [Nat.add_zero]
  have hsz : cs.toList.length = cs.size := Array.length_toList
  by_cases c1 : off ≤ j
  · by_cases c2 : j < off + l.length
    · rw [if_pos ⟨c1, c2⟩, List.getElem?_append_left (by simp; omega), List.getElem?_append_right (by simp; omega)]
      congr 1
      simp; omega
    · rw [if_neg (by omega), List.getElem?_append_right (by simp; omega), List.getElem?_drop, Array.getElem?_toList]
      congr 1
      simp; omega
  · rw [if_neg (by omega), List.getElem?_append_left (by simp; omega), List.getElem?_append_left (by simp; omega), List.getElem?_take, if_pos (by omega), Array.getElem?_toList]
/-- What is filled in, part by part. -/
theorem fill_run {place : Nat → Option (Nat × Nat)} : ∀ {ps : List (Nat × Nat × NV)} {Ps : List (Nat × Value)} {cs cs' : List NV} {Cs : Array Value}, fillN cs ps = some cs' → RL (R1 G) cs Cs.toList →
    RL (fun (p : Nat × Nat × NV) (q : Nat × Value) => place q.1 = some (p.1, p.2.1) ∧ R G p.2.2 q.2) ps Ps → ∃ Cs', Instr.fill place Cs Ps = some Cs' ∧ RL (R1 G) cs' Cs'.toList
  | [], Ps, cs, cs', Cs, h, hc, hp => by
    obtain rfl := hp.nil_inv
    simp only [fillN, Option.some.injEq] at h
    subst h
    exact ⟨Cs, rfl, hc⟩
  | (off, n, v) :: ps, Ps, cs, cs', Cs, h, hc, hp => by
    obtain ⟨⟨i, V⟩, Ps', rfl, ⟨h1, h2⟩, hp'⟩ := hp.cons_inv
    simp only [fillN] at h
    split at h
    · rename_i hcond
      obtain ⟨hok, hn, hle⟩ := hcond
      simp only at hn h1 h2
      have hv := h2.cells hok
      have hlen : V.cells.size = n := by
        have := hv.length
        rw [Array.length_toList] at this
        omega
      have hcs : Cs.size = cs.length := by simpa using hc.length
      have e1 := fill_one V.cells.toList off Cs (by rw [Array.length_toList]; omega)
      rw [Array.toArray_toList] at e1
      obtain ⟨Cs', h3, h4⟩ := fill_run (place := place) (Cs := (Cs.toList.take off ++ V.cells.toList ++ Cs.toList.drop (off + V.cells.toList.length)).toArray) h (by
        rw [List.toList_toArray, Array.length_toList, hlen]
        exact ((hc.take off).append hv).append (hc.drop (off + n))) hp'
      refine ⟨Cs', ?_, h4⟩
      simp only [Instr.fill, h1]
      rw [if_neg (by simp only [Bool.or_eq_true, decide_eq_true_eq, not_or]; omega)]
      rw [← h3, ← e1]
    · cases h
theorem parts_S {fs : Array Field} {t : TypeId} : ∀ {l : List (Nat × Operand)} {r : List (Nat × Nat × Opd)}, partsS P fs l = some r → Env.On G e a (r.flatMap fun p => opdT p.2.2) → ∀ {places : Array (Nat × Nat)}, (∀ (i : Nat) (f : Field) (n : Nat), fs[i]? = some f → sizeS P f.type = some n → places[i]? = some (f.offset, n)) →
    RL (fun (p : Nat × Nat × NV) (q : Nat × Value) => places[q.1]? = some (p.1, p.2.1) ∧ R G p.2.2 q.2) (evP e r) (l.map fun x => (x.1, a.eval x.2))
  | [], r, h, _, _, _ => by simp only [partsS, Option.some.injEq] at h; subst h; exact .nil
  | (i, x) :: l, r, h, hE, places, hpl => by
    simp only [partsS] at h
    split at h
    · rename_i f hf
      split at h
      · rename_i n y r' e1 e2 e3
        simp only [Option.some.injEq] at h
        subst h
        refine .cons ⟨hpl i f n hf e1, opd_R e2 (hE.mono (by simp; intro t ht; exact .inl ht))⟩ (parts_S (t := t) e3 (hE.mono (by simp; intro t a b c hx ht; exact .inr ⟨a, b, c, hx, ht⟩)) hpl)
      · cases h
    · cases h
theorem parts_A {n : Nat} : ∀ {l : List (Nat × Operand)} {r : List (Nat × Nat × Opd)}, partsA n l = some r → Env.On G e a (r.flatMap fun p => opdT p.2.2) →
    RL (fun (p : Nat × Nat × NV) (q : Nat × Value) => some (q.1 * n, n) = some (p.1, p.2.1) ∧ R G p.2.2 q.2) (evP e r) (l.map fun x => (x.1, a.eval x.2))
  | [], r, h, _ => by simp only [partsA, Option.some.injEq] at h; subst h; exact .nil
  | (i, x) :: l, r, h, hE => by
    simp only [partsA] at h
    split at h
    · rename_i y r' e2 e3
      simp only [Option.some.injEq] at h
      subst h
      exact .cons ⟨rfl, opd_R e2 (hE.mono (by simp; intro t ht; exact .inl ht))⟩ (parts_A e3 (hE.mono (by simp; intro t a b c hx ht; exact .inr ⟨a, b, c, hx, ht⟩)))
    · cases h
theorem run_zeroS {t : TypeId} {z : List NV} (h : zeroS P t = some z) : ∃ Z, (zeroValue t).run P w = .ok Z w ∧ RL (R1 G) z Z.cells.toList ∧ sizeS P t = some z.length := by
  unfold zeroS at h
  split at h
  · rename_i i hi
    split at h
    · rename_i Z hz
      split at h
      · rename_i cs hcs
        split at h
        · rename_i hl
          simp only [Option.some.injEq] at h
          subst h
          exact ⟨Z, by simp [zeroValue, typeInfo, hi, hz], constL_R hcs, by simp [sizeS, hi, hl]⟩
        · cases h
      · cases h
    · cases h
  · cases h
theorem places_list {fs : List Field} : (∀ f ∈ fs, ∃ n, sizeS P f.type = some n) → ∃ places : List (Nat × Nat), (fs.mapM (m := Sem) fun f => (do pure (f.offset, ← sizeOf f.type) : Sem (Nat × Nat))).run P w = .ok places w ∧ ∀ (i : Nat) (f : Field) (n : Nat), fs[i]? = some f → sizeS P f.type = some n → places[i]? = some (f.offset, n) := by
  intro hs
  induction fs with
  | nil => exact ⟨[], rfl, fun i f n h => by simp at h⟩
  | cons f fs ih =>
    obtain ⟨ps, h1, h2⟩ := ih (fun g hg => hs g (by simp [hg]))
    obtain ⟨n, hn⟩ := hs f (by simp)
    refine ⟨(f.offset, n) :: ps, ?_, fun i g k hg hk => ?_⟩
    · simp only [List.mapM_cons, Sem.run_bind, run_sizeS hn, Result.andThen_ok, Sem.run_pure, h1]
    · cases i with
      | zero =>
        simp only [List.getElem?_cons_zero, Option.some.injEq] at hg
        subst hg
        rw [hn] at hk
        simp only [Option.some.injEq] at hk
        subst hk
        rfl
      | succ i => exact h2 i g k (by simpa using hg) hk
theorem places_run {fs : Array Field} (hs : ∀ f ∈ fs.toList, ∃ n, sizeS P f.type = some n) : ∃ places : Array (Nat × Nat), (fs.mapM (m := Sem) fun f => (do pure (f.offset, ← sizeOf f.type) : Sem (Nat × Nat))).run P w = .ok places w ∧ ∀ (i : Nat) (f : Field) (n : Nat), fs[i]? = some f → sizeS P f.type = some n → places[i]? = some (f.offset, n) := by
  obtain ⟨ps, h1, h2⟩ := places_list (P := P) (w := w) hs
  refine ⟨ps.toArray, ?_, fun i f n hf hn => by rw [List.getElem?_toArray]; exact h2 i f n (by rw [Array.getElem?_toList]; exact hf) hn⟩
  rw [Array.mapM_eq_mapM_toList]
  simp only [Sem.run_map, h1, Result.andThen_ok]
theorem st_build {t : TypeId} {parts : Array (Nat × Operand)} {z : List NV} {ps : List (Nat × Nat × Opd)} (hz : zeroS P t = some z)
    (hc : (∃ fs, P.underlying t = some (.struct fs) ∧ partsS P fs parts.toList = some ps ∧ ∀ f ∈ fs.toList, ∃ n, sizeS P f.type = some n) ∨ ∃ n el k, P.underlying t = some (.array n el) ∧ sizeS P el = some k ∧ partsA k parts.toList = some ps)
    (hs : step (.build z ps) e m = some (v, m')) (hE : Env.On G e a (opTs (.build z ps))) (hM : Rel G m w) : Fares ((execOp a.eval ⟨dst, .build t parts, ty, pos, aft, grd⟩).run P w) G m m' w v := by
  simp only [step] at hs
  obtain ⟨hv, rfl⟩ := pureM_some hs
  obtain ⟨cs, hf, rfl⟩ := Option.map_eq_some_iff.1 hv
  obtain ⟨Z, hZ, hR, _⟩ := run_zeroS (P := P) (w := w) (G := G) hz
  have fin : ∀ {Cs : Array Value}, RL (R1 G) cs Cs.toList → (Instr.build t (parts.map fun (i, x) => (i, a.eval x))).run P w = .ok (.agg Cs) w → Fares ((execOp a.eval ⟨dst, .build t parts, ty, pos, aft, grd⟩).run P w) G m' m' w (.agg cs) := by
    intro Cs h1 h2
    refine fares_good (good_pure (V := .agg Cs) ?_ (by simpa using R.two (.agg cs Cs.toList h1)) hM)
    simp only [execOp, Sem.run_bind, h2, Result.andThen_ok, Sem.run_pure]
  have hpl : (parts.map fun (i, x) => (i, a.eval x)).toList = parts.toList.map fun x => (x.1, a.eval x.2) := by simp
  rcases hc with ⟨fs, hu, hp, hall⟩ | ⟨n, el, k, hu, hk, hp⟩
  · obtain ⟨places, h1, h2⟩ := places_run (P := P) (w := w) hall
    obtain ⟨Cs, h3, h4⟩ := fill_run (place := (places[·]?)) hf hR (parts_S (t := t) hp hE h2)
    refine fin h4 ?_
    simp only [Instr.build, Sem.run_bind, hZ, Result.andThen_ok, run_underlying hu, h1, hpl, h3, Sem.run_pure]
  · obtain ⟨Cs, h3, h4⟩ := fill_run (place := fun i => some (i * k, k)) hf hR (parts_A hp hE)
    refine fin h4 ?_
    simp only [Instr.build, Sem.run_bind, hZ, Result.andThen_ok, run_underlying hu, run_sizeS hk, hpl, h3, Sem.run_pure]

/-! ### New memory -/
theorem cells_into {k : Nat} {v : NV} {V : Value} (h : R G v V) {l' : List NV} (hi : intoL k (cellsOf v) m = some (l', m')) : cellOk v = true := by
  cases v with
  | undef => simp [cellsOf, intoL, into, sh1] at hi
  | tup vs => simp [cellsOf, intoL, into, sh1] at hi
  | fn f cs =>
    cases cs with
    | nil => rfl
    | cons c cs => simp [cellsOf, intoL, into, sh1] at hi
  | _ => rfl
theorem calm0 : ∀ (l : List NV), l.all (calm 0) = true := by
  intro l
  rw [List.all_eq_true]
  intro v _
  cases v <;> simp [calm]
theorem sub0 : G.sub 0 = G := by simp [Gh.sub]
theorem addB_sub {i rb : Nat} : (G.addB i rb).pub = G.pub := rfl
/-- A new block of cells. -/
theorem new_cells (hM : Rel G m w) {cs : List NV} {Vs : List Value} {el : TypeId} {i : Nat} (h : addBlk m (.cells cs) = some (i, m')) (hR : RL (R1 G) cs (Vs.take cs.length)) (fz : Nat × Nat) (hfz : ∀ (j : Nat), j < cs.length → ¬ (fz.1 ≤ j ∧ j < fz.2)) :
    Adv G m w (G.addB i w.heap.size) m' (w.alloc (.cells Vs.toArray el fz)) := by
  have ext : Ext G (G.addB i w.heap.size) := by
    refine ⟨fun _ _ _ e => e, fun l j rb e => ?_, fun _ _ _ e => e⟩
    show (if l = 0 ∧ j = i then some w.heap.size else G.blks l j) = some rb
    rw [if_neg]
    · exact e
    · rintro ⟨rfl, rfl⟩
      obtain ⟨_, o', ho⟩ := hM.lt _ _ _ e
      rw [addBlk_len h] at ho
      cases ho
  have hl := hR.length
  rw [List.length_take] at hl
  refine adv_alloc hM h (.cells cs Vs.toArray el fz ?_ (by simp; omega) (fun j c hj => ?_) hfz)
  · simp only [World.alloc, Array.getElem?_push_size]
  · obtain ⟨V, h1, h2⟩ := hR.get hj
    rw [List.getElem?_take] at h1
    split at h1
    · exact ⟨V, by simpa using h1, h2.mono ext⟩
    · cases h1
theorem R.newptr {i rb : Nat} : R (G.addB i rb) (.ptr 0 i 0) (.pointer (some ⟨rb, 0, none⟩)) := .two (.one (.ptr 0 i 0 rb addB_blk))
theorem st_box {t : TypeId} {x : Operand} {x' : Opd} (h1 : opd x = some x') (hs : step (.box x') e m = some (v, m')) (hE : Env.On G e a (opdT x')) (hM : Rel G m w) : Fares ((execOp a.eval ⟨dst, .box t x, ty, pos, aft, grd⟩).run P w) G m m' w v := by
  have r1 := opd_R h1 hE
  simp only [step] at hs
  split at hs
  · rename_i cs m1 hi
    have hok := cells_into r1 hi
    obtain ⟨rfl, hR⟩ := intoL_calm (G := G) (calm0 _) hi (r1.cells hok)
    rw [sub0] at hR
    split at hs
    · rename_i i m2 hb
      simp only [Option.some.injEq, Prod.mk.injEq] at hs
      obtain ⟨rfl, rfl⟩ := hs
      have hl := hR.length
      refine ⟨_, _, _, .inl ?_, R.newptr, new_cells (Vs := (a.eval x).cells.toList) (el := t) hM hb (by rw [List.take_of_length_le (by omega)]; exact hR) (0, 0) (fun j _ h => by omega)⟩
      simp [execOp, Instr.box, newVar, newRow]
    · cases hs
  · cases hs
theorem st_new {t : TypeId} {z : List NV} (hz : zeroS P t = some z) (hs : step (.new z) e m = some (v, m')) (hM : Rel G m w) : Fares ((execOp a.eval ⟨dst, .alloc t, ty, pos, aft, grd⟩).run P w) G m m' w v := by
  obtain ⟨Z, hZ, hR, _⟩ := run_zeroS (P := P) (w := w) (G := G) hz
  simp only [step] at hs
  split at hs
  · rename_i i m2 hb
    simp only [Option.some.injEq, Prod.mk.injEq] at hs
    obtain ⟨rfl, rfl⟩ := hs
    have hl := hR.length
    refine ⟨_, _, _, .inl ?_, R.newptr, new_cells (Vs := Z.cells.toList) (el := t) hM hb (by rw [List.take_of_length_le (by omega)]; exact hR) (0, 0) (fun j _ h => by omega)⟩
    simp [execOp, Instr.alloc, newVar, newRow, hZ]
  · cases hs
theorem st_mkmap {t : TypeId} {r : Option Operand} (hr : r = none ∨ (∃ k n, r = some (.const (.int k n))) ∧ ∃ kt el, P.underlying t = some (.map kt el)) (hs : step .mkmap e m = some (v, m')) (hM : Rel G m w) :
    Fares ((execOp a.eval ⟨dst, .makeMap t r, ty, pos, aft, grd⟩).run P w) G m m' w v := by
  simp only [step] at hs
  split at hs
  · rename_i i m2 hb
    simp only [Option.some.injEq, Prod.mk.injEq] at hs
    obtain ⟨rfl, rfl⟩ := hs
    refine ⟨.map (some w.heap.size), w.alloc (.map #[] 0), _, .inl ?_, .two (.one (.map 0 i w.heap.size addB_blk)), adv_alloc hM hb (.mp [] #[] 0 (by simp only [World.alloc, Array.getElem?_push_size]) .nil)⟩
    rcases hr with rfl | ⟨⟨k, n, rfl⟩, kt, el, hu⟩
    · simp [execOp, Instr.makeMap]
    · simp [execOp, Instr.makeMap, run_underlying hu, Act.eval, Go.asInt, run_asInt]
  · cases hs
theorem st_mkfn {f : FuncId} {first cap : Array Operand} {cs : List Opd} (h0 : first.size = 0) (h1 : opdL cap.toList = some cs) (hs : step (.mkfn f cs) e m = some (v, m')) (hE : Env.On G e a (cs.flatMap opdT)) (hM : Rel G m w) :
    Fares ((execOp a.eval ⟨dst, .makeFunc (.func f) first cap, ty, pos, aft, grd⟩).run P w) G m m' w v := by
  have r := opdL_R h1 hE
  obtain rfl : first = #[] := Array.size_eq_zero_iff.1 h0
  simp only [step] at hs
  split at hs
  · rename_i hok
    simp only [Option.some.injEq, Prod.mk.injEq] at hs
    obtain ⟨rfl, rfl⟩ := hs
    have r' : RL (RA G) (evL e cs) (cap.toList.map a.eval) := by
      have : ∀ {l : List NV} {L : List Value}, l.all cellOk = true → RL (R G) l L → RL (RA G) l L := by
        intro l L hl hR
        induction hR with
        | nil => exact .nil
        | cons h _ ih =>
          simp only [List.all_cons, Bool.and_eq_true] at hl
          exact .cons (h.ra hl.1) (ih hl.2)
      exact this hok r
    refine fares_good (good_pure (V := .func (.func f) #[] (cap.toList.map a.eval).toArray) ?_ (.two (.fn f _ _ r')) hM)
    have : (cap.toList.map a.eval).toArray = cap.map a.eval := by rw [← Array.toList_map]
    rw [this]
    simp [execOp, Instr.makeFunc]
  · cases hs
end
end Go.Proofs.Ythecdihimfddgaa.Nv
