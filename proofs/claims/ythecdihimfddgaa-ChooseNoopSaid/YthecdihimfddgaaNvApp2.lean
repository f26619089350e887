/- append, the operation itself: the model does what Nv reckons. Of no program. -/
import Derived.Test.YthecdihimfddgaaNvApp
namespace Go.Proofs.Ythecdihimfddgaa.Nv
open Go Go.RowKit

section
variable {P : Program} {w : World} {G : Gh} {m m' : Mem} {e : Env} {a : Act} {v : NV} {dst : Option Nat} {ty : TypeId} {pos : String} {aft : Array Edge} {grd : Option (Nat × Bool)}

/-- Where cells lie. -/
def Lies (w : World) (A : Option Addr) (cs : List Value) : Prop := (A = none ∧ cs = []) ∨ ∃ b, A = some b ∧ ∀ (j : Nat) V, cs[j]? = some V → w.cell? (b.add j) = some V
theorem run_first {size n len cap : Nat} {A : Option Addr} {cs : List Value} (hl : cs.length = n * size) (h : Lies w A cs) : (Builtin.firstCells size n (.slice A len cap)).run P w = .ok cs.toArray w := by
  rcases h with ⟨rfl, rfl⟩ | ⟨b, rfl, h⟩
  · exact run_firstCells_none w size n len cap
  · exact run_firstCells_some w size n b len cap cs hl h
theorem run_app_grow {t u rt el eu : TypeId} {size bytes : Nat} {z : List NV} (ht : P.underlying t = some (.slice el)) (hu : P.underlying u = some (.slice eu)) (hn : sizeS P el = some size) (hb : bytesS P el = some bytes) (hz : zeroS P el = some z)
    {A B : Option Addr} {sLen sCap n c : Nat} {olds news : List Value} (hlo : olds.length = sLen * size) (ho : Lies w A olds) (hln : news.length = n * size) (hnw : Lies w B news)
    (hg : sCap < sLen + n) (h63 : sLen + n ≤ 35184372088832) (hfit : (sLen + n) * bytes ≤ 35184372088832) :
    ∃ zs : Array Value, (Builtin.append_ #[t, u] rt #[.slice A sLen sCap, .slice B n c]).run P w = .ok (.slice (some ⟨w.heap.size, 0, none⟩) (sLen + n) (grownCap w (sLen + n) sCap el)) (w.drew.alloc (.cells (olds.toArray ++ news.toArray ++ zs) el)) ∧
      zs.size = (grownCap w (sLen + n) sCap el - (sLen + n)) * size := by
  obtain ⟨Z, hZ, hR, hzl⟩ := run_zeroS (P := P) (w := w.drew) (G := G0) hz
  have hZn : Z.cells.size = size := by
    have := hR.length
    rw [Array.length_toList] at this
    rw [hn] at hzl
    have := Option.some.inj hzl
    omega
  refine ⟨Builtin.zeroCells Z.cells (grownCap w (sLen + n) sCap el - (sLen + n)), ?_, by rw [size_zeroCells, hZn]⟩
  obtain ⟨i, hi, hib⟩ := Option.map_eq_some_iff.1 hb
  have hnn : ¬ (sLen + n ≤ sCap) := by omega
  have h63' : ¬ (((sLen + n : Nat) : Int) > IntKind.i64.max) := by simp only [IntKind.max, IntKind.bits]; omega
  have h48' : ¬ (Builtin.nextslicecap (sLen + n) sCap * bytes > 2 ^ 48) := by
    have := growslice_fits (need := sLen + n) (old := sCap) (bytes := bytes) hg (by omega)
    omega
  have hf := run_first (P := P) (w := w.drew) (size := size) (n := n) (len := n) (cap := c) hln (show Lies w.drew B news from by
    rcases hnw with h | ⟨b, h1, h2⟩
    · exact .inl h
    · exact .inr ⟨b, h1, fun j V hj => by rw [World.cell?_drew]; exact h2 j V hj⟩)
  have hfo := run_first (P := P) (w := w.drew) (size := size) (n := sLen) (len := sLen) (cap := sCap) hlo (show Lies w.drew A olds from by
    rcases ho with h | ⟨b, h1, h2⟩
    · exact .inl h
    · exact .inr ⟨b, h1, fun j V hj => by rw [World.cell?_drew]; exact h2 j V hj⟩)
  have hq : (Question.appendCap (sLen + n) sCap el).cut (w.tape w.drawn (.appendCap (sLen + n) sCap el)) = grownCap w (sLen + n) sCap el := rfl
  simp only [Builtin.append_, List.getElem?_toArray, List.getElem?_cons_zero, List.getElem?_cons_succ, Sem.run_bind, run_underlying ht, run_underlying hu, Result.andThen_ok, run_sizeS hn, Sem.run_pure, Bool.false_eq_true, if_false, Builtin.lenOf, hnn, typeInfo, run_program, hi, hib, h63', false_and, h48',
    run_choose, Question.forced, hq, run_askRoom, World.drew_eq, hfo, Bool.not_false, if_true, hf, hZ, newRow, run_newObj, World.alloc_eq, World.size_drew]
theorem run_app_room {t u rt el eu : TypeId} {size : Nat} (ht : P.underlying t = some (.slice el)) (hu : P.underlying u = some (.slice eu)) (hn : sizeS P el = some size)
    {b o sLen sCap n c : Nat} {B : Option Addr} {news : List Value} (hln : news.length = n * size) (hnw : Lies w B news) (hroom : sLen + n ≤ sCap) {vs : Array Value} {elt : TypeId} {fz : Nat × Nat} (hw : w.heap[b]? = some (.cells vs elt fz)) (hfit : o + sLen * size + news.length ≤ vs.size)
    (hz : ∀ j, j < news.length → ¬ (fz.1 ≤ o + sLen * size + j ∧ o + sLen * size + j < fz.2)) (h1 : ∀ V ∈ news, V.oneCell' = true) :
    (Builtin.append_ #[t, u] rt #[.slice (some ⟨b, o, none⟩) sLen sCap, .slice B n c]).run P w = .ok (.slice (some ⟨b, o, none⟩) (sLen + n) sCap) (w.setCells b (o + sLen * size) news) := by
  have hf := run_first (P := P) (w := w) (size := size) (n := n) (len := n) (cap := c) hln hnw
  have hst := run_storeCells_cells (P := P) b (o + sLen * size) news 0 w (fun j hj => by
    rw [Nat.add_zero, cell_of_block hw, Array.getElem?_eq_getElem (by omega)]; rfl) (fun j hj => by
    rw [Nat.add_zero]; exact not_frozen hw (hz j hj)) h1
  simp only [Nat.add_zero] at hst
  simp only [Builtin.append_, List.getElem?_toArray, List.getElem?_cons_zero, List.getElem?_cons_succ, Sem.run_bind, run_underlying ht, run_underlying hu, Result.andThen_ok, run_sizeS hn, Sem.run_pure, Bool.false_eq_true, if_false, Builtin.lenOf, hroom, if_true, Bool.not_false, hf, addr_add, hst]
theorem run_app_none {t u rt el eu : TypeId} {size : Nat} (ht : P.underlying t = some (.slice el)) (hu : P.underlying u = some (.slice eu)) (hn : sizeS P el = some size) {A B : Option Addr} {sLen sCap c : Nat} (hc : sLen ≤ sCap) :
    (Builtin.append_ #[t, u] rt #[.slice A sLen sCap, .slice B 0 c]).run P w = .ok (.slice A sLen sCap) w := by
  have hf : (Builtin.firstCells size 0 (.slice B 0 c)).run P w = .ok #[] w := by
    cases B with
    | none => exact run_firstCells_none w size 0 0 c
    | some B => exact run_firstCells_some w size 0 B 0 c [] (by simp) (fun j V h => by simp at h)
  cases A with
  | none => simp only [Builtin.append_, List.getElem?_toArray, List.getElem?_cons_zero, List.getElem?_cons_succ, Sem.run_bind, run_underlying ht, run_underlying hu, Result.andThen_ok, run_sizeS hn, Sem.run_pure, Bool.false_eq_true, if_false, Builtin.lenOf, Nat.add_zero, hc, if_true, Bool.not_false, hf]
  | some A =>
    have hs : ∀ X, (storeCells X []).run P w = .ok () w := fun X => rfl
    simp only [Builtin.append_, List.getElem?_toArray, List.getElem?_cons_zero, List.getElem?_cons_succ, Sem.run_bind, run_underlying ht, run_underlying hu, Result.andThen_ok, run_sizeS hn, Sem.run_pure, Bool.false_eq_true, if_false, Builtin.lenOf, Nat.add_zero, hc, if_true, Bool.not_false, hf, hs]
theorem lies_pub (hM : Rel G m w) {sz : Nat} {rows : List (List NV)} {A : Option Addr} {Vs : List Value} (h : rows = [] ∨ ∃ b o, A = some ⟨b, o, none⟩ ∧ ∀ (j : Nat) U, Vs[j]? = some U → G.pub b (o + j) = some U) (hl : Vs.length = rows.length * sz) : Lies w A Vs := by
  rcases h with rfl | ⟨b, o, rfl, h⟩
  · obtain rfl : Vs = [] := List.eq_nil_of_length_eq_zero (by simpa using hl)
    cases A with
    | none => exact .inl ⟨rfl, rfl⟩
    | some A => exact .inr ⟨A, rfl, fun j V h => by simp at h⟩
  · exact .inr ⟨_, rfl, fun j V hj => by rw [addr_add]; exact hM.pub _ _ _ (h j V hj)⟩
theorem newT_tok {p : Pub} {t' : Nat} {T' : Tok} {K : Nat → Nat → Prop} : (G.newT p t' T' K).toks 0 t' = some T' := by
  show (if 0 = 0 ∧ t' = t' then some T' else G.toks 0 t') = some T'
  rw [if_pos ⟨rfl, rfl⟩]
/-- The plain memory, in which perhaps one token has ended. -/
structure Ended (m m1 : Mem) (K : Nat → Nat → Prop) : Prop where
  blk : ∀ l i, blk? m1 l i = blk? m l i
  tok : ∀ l j, tok? m1 l j = true ↔ tok? m l j = true ∧ ¬ K l j
  len : ∀ (l : Nat) (fr : Fr), m[l]? = some fr → ∃ fr' : Fr, m1[l]? = some fr' ∧ fr'.toks.length = fr.toks.length
  back : ∀ (l : Nat) (fr : Fr), m1[l]? = some fr → ∃ fr' : Fr, m[l]? = some fr'
theorem ended_none (m : Mem) : Ended m m (fun _ _ => False) := ⟨fun _ _ => rfl, fun _ _ => by simp, fun _ fr h => ⟨fr, h, rfl⟩, fun _ fr h => ⟨fr, h⟩⟩
theorem ended_one (m : Mem) (l t : Nat) : Ended m (endTok m l t) (fun x y => x = l ∧ y = t) := by
  refine ⟨fun _ _ => blk?_endTok _ _, fun x y => ?_, fun _ fr h => len_endTok h, fun x fr h => ?_⟩
  · rw [tok?_endTok]
    split
    · rename_i h; simp [h]
    · rename_i h; simp [h]
  · unfold endTok at h
    rw [List.getElem?_modify] at h
    cases hm : m[x]? with
    | none => rw [hm] at h; cases h
    | some fr' => exact ⟨fr', rfl⟩
/-- What the lemma on tokens asks of the plain memory. -/
theorem ended_add (hM : Rel G m w) {m1 : Mem} {K : Nat → Nat → Prop} {t' : Nat} (he : Ended m m1 K) (hadd : addTok m1 0 = some (t', m')) :
    (∀ T, G.toks 0 t' ≠ some T) ∧ (∀ l i, blk? m' l i = blk? m l i) ∧ tok? m' 0 t' = true ∧ (∀ l j, ¬ (l = 0 ∧ j = t') → G.live l j → ¬ K l j → tok? m l j = true → tok? m' l j = true) ∧
    (∀ (l : Nat) (fr : Fr), m[l]? = some fr → ∃ fr' : Fr, m'[l]? = some fr' ∧ fr.toks.length ≤ fr'.toks.length ∧ (l = 0 → t' < fr'.toks.length)) ∧ (∃ fr, m[0]? = some fr) ∧ (G.Full m → ∀ l j, tok? m' l j = true → (l = 0 ∧ j = t') ∨ (tok? m l j = true ∧ ¬ K l j)) := by
  obtain ⟨hnew, fr0, hfr0, ht'⟩ := addTok_new hadd
  obtain ⟨fr1, hfr1⟩ := he.back _ _ hfr0
  refine ⟨fun T hq => ?_, fun l i => by rw [blk?_toks_addTok hadd, he.blk], by rw [tok?_addTok hadd, if_pos ⟨rfl, rfl⟩], fun l j h1 _ h3 h4 => ?_, fun l fr h => ?_, ⟨fr1, hfr1⟩, fun _ l j hq => ?_⟩
  · obtain ⟨fr, h1, h2⟩ := hM.toks _ _ _ hq
    obtain ⟨fr', h3, h4⟩ := he.len _ _ h1
    rw [hfr0] at h3
    obtain rfl := Option.some.inj h3
    omega
  · rw [tok?_addTok hadd, if_neg h1]
    exact (he.tok l j).2 ⟨h4, h3⟩
  · obtain ⟨fr', h3, h4⟩ := he.len _ _ h
    obtain ⟨fr2, h5, h6, h7⟩ := len_addTok hadd h3
    exact ⟨fr2, h5, by omega, h7⟩
  · rw [tok?_addTok hadd] at hq
    split at hq
    · rename_i h; exact .inl h
    · exact .inr ((he.tok l j).1 hq)
/-- The new array: what append comes to where it makes one. m1: the plain memory with the old token ended. -/
theorem app_new (hM : Rel G m w) {sz : Nat} {rows ys : List (List NV)} {olds news : List Value} {el : TypeId} {zs : Array Value} {cap t' : Nat} {K : Nat → Nat → Prop} {m1 : Mem} (hyn : ys ≠ [])
    (hl1 : ∀ r ∈ rows, r.length = sz) (hl2 : ∀ r ∈ ys, r.length = sz) (hR1 : RL (R0 G.pub) rows.flatten olds) (hR2 : RL (R0 G.pub) ys.flatten news) (hcap : rows.length + ys.length ≤ cap) (hzs : zs.size = (cap - (rows.length + ys.length)) * sz)
    (he : Ended m m1 K) (hadd : addTok m1 0 = some (t', m')) :
    ∃ G', R G' (.own sz (rows ++ ys) 0 t') (.slice (some ⟨w.heap.size, 0, none⟩) (rows.length + ys.length) cap) ∧ Adv G m w G' m' (w.drew.alloc (.cells (olds.toArray ++ news.toArray ++ zs) el)) := by
  have ho := hR1.length
  have hn := hR2.length
  rw [flat_length hl1] at ho
  rw [flat_length hl2] at hn
  let T' : Tok := ⟨w.heap.size, (rows.length + ys.length) * sz, cap * sz⟩
  let p : Pub := fun b o => if b = w.heap.size then (olds ++ news)[o]? else G.pub b o
  have hpnew : ∀ o, p w.heap.size o = (olds ++ news)[o]? := fun o => if_pos rfl
  have hp1 : ∀ b o V, G.pub b o = some V → p b o = some V := fun b o V h => by
    show (if b = w.heap.size then (olds ++ news)[o]? else G.pub b o) = some V
    rw [if_neg (by have := hM.pub_lt h; omega)]; exact h
  obtain ⟨a1, a2, a3, a4, a5, a6, a7⟩ := ended_add hM he hadd
  have hheap : (w.drew.alloc (.cells (olds.toArray ++ news.toArray ++ zs) el)).heap[w.heap.size]? = some (.cells (olds.toArray ++ news.toArray ++ zs) el) := by
    simp only [World.alloc, World.drew, Array.getElem?_push_size]
  have hlen : (rows ++ ys).length = rows.length + ys.length := List.length_append
  refine ⟨G.newT p t' T' K, ?_, adv_tok hM (p := p) (T' := T') hp1 (fun b o hb => if_neg hb) (fun o ho' => ?_) rfl rfl rfl (by simp) (fun k hk hlt => ?_) (fun o V hq => ?_) ⟨_, el, (0, 0), hheap, ?_, fun o _ _ h => by omega⟩ (.inl (Nat.le_refl _)) a1 a2 a3 a4 a5 a6 a7⟩
  · have hrow : R0 (G.newT p t' T' K).pub (.slc sz false (rows ++ ys)) (.slice (some ⟨w.heap.size, 0, none⟩) (rows ++ ys).length cap) := by
      refine rows_of_cells (Vs := olds ++ news) (fun r hr => ?_) ?_ (fun j U hj => ?_) (by rw [hlen]; exact hcap) (fun h => by cases h)
      · rcases List.mem_append.1 hr with h | h
        · exact hl1 r h
        · exact hl2 r h
      · rw [List.flatten_append]
        exact (hR1.imp fun _ _ h => h.mono hp1).append (hR2.imp fun _ _ h => h.mono hp1)
      · rw [Nat.zero_add]
        show p w.heap.size j = some U
        rw [hpnew]; exact hj
    have := R1.own (G := G.newT p t' T' K) sz (rows ++ ys) 0 t' w.heap.size 0 cap T' (by simp [hyn]) hrow newT_tok rfl (by show (rows.length + ys.length) * sz = 0 + (rows ++ ys).length * sz; rw [hlen, Nat.zero_add]) (by show cap * sz = 0 + cap * sz; omega)
    rw [hlen] at this
    exact .two (.one this)
  · show p w.heap.size o = none
    rw [hpnew]
    apply List.getElem?_eq_none
    rw [List.length_append, ho, hn, ← Nat.add_mul]
    exact ho'
  · exact Below.heap_alloc _ _ _ hlt
  · have hq' : (olds ++ news)[o]? = some V := by
      have : p w.heap.size o = some V := hq
      rw [hpnew] at this; exact this
    rw [cell_of_block hheap]
    have hlt := (List.getElem?_eq_some_iff.1 hq').1
    have : (olds.toArray ++ news.toArray ++ zs)[o]? = (olds ++ news)[o]? := by
      rw [← Array.getElem?_toList]
      simp only [Array.toList_append, List.toList_toArray]
      rw [List.getElem?_append_left hlt]
    rw [this]; exact hq'
  · show cap * sz ≤ _
    simp only [Array.size_append, List.size_toArray, ho, hn, hzs, ← Nat.add_mul]
    apply Nat.mul_le_mul_right
    omega
/-- In place. -/
theorem app_here (hM : Rel G m w) {sz : Nat} {rows ys : List (List NV)} {news : List Value} {b o cap l t t' : Nat} {T : Tok} (hyn : ys ≠ []) (hrn : rows ≠ []) (hr0 : R0 G.pub (.slc sz false rows) (.slice (some ⟨b, o, none⟩) rows.length cap))
    (hl2 : ∀ r ∈ ys, r.length = sz) (hR2 : RL (R0 G.pub) ys.flatten news) (hroom : rows.length + ys.length ≤ cap) (hlv : G.live l t) (hT : G.toks l t = some T) (hTb : T.blk = b) (hTp : T.pos = o + rows.length * sz) (hTf : T.fin = o + cap * sz)
    (hadd : addTok (endTok m l t) 0 = some (t', m')) :
    (∃ G', R G' (.own sz (rows ++ ys) 0 t') (.slice (some ⟨b, o, none⟩) (rows.length + ys.length) cap) ∧ Adv G m w G' m' (w.setCells b (o + rows.length * sz) news)) ∧
      ∃ vs el fz, w.heap[b]? = some (.cells vs el fz) ∧ o + rows.length * sz + news.length ≤ vs.size ∧ ∀ j, j < news.length → ¬ (fz.1 ≤ o + rows.length * sz + j ∧ o + rows.length * sz + j < fz.2) := by
  subst hTb
  have hn := hR2.length
  rw [flat_length hl2] at hn
  obtain ⟨T0, q1, q2, ⟨vs, el, fz, q3, q4, q5⟩, q6, q7⟩ := hM.tok l t hlv
  rw [hT] at q1
  obtain rfl := Option.some.inj q1
  have hmul : (rows.length + ys.length) * sz ≤ cap * sz := Nat.mul_le_mul_right _ hroom
  rw [Nat.add_mul] at hmul
  have hfit : o + rows.length * sz + news.length ≤ vs.size := by omega
  have hnz : ∀ j, j < news.length → ¬ (fz.1 ≤ o + rows.length * sz + j ∧ o + rows.length * sz + j < fz.2) := fun j hj => q5 _ (by omega) (by omega)
  refine ⟨?_, vs, el, fz, q3, hfit, hnz⟩
  obtain ⟨vs', h1, h2, h3, h4, h5, h6, h7, h8⟩ := setCells_heap (L := news) (o := o + rows.length * sz) q3 hfit
  let T' : Tok := ⟨T.blk, o + (rows.length + ys.length) * sz, T.fin⟩
  let p : Pub := fun b' o' => if b' = T.blk ∧ T.pos ≤ o' ∧ o' < T.pos + news.length then news[o' - T.pos]? else G.pub b' o'
  have hp1 : ∀ b' o' V, G.pub b' o' = some V → p b' o' = some V := fun b' o' V h => by
    show (if b' = T.blk ∧ T.pos ≤ o' ∧ o' < T.pos + news.length then news[o' - T.pos]? else G.pub b' o') = some V
    rw [if_neg]
    · exact h
    · rintro ⟨rfl, h9, _⟩
      rw [q6 _ h9] at h
      cases h
  obtain ⟨a1, a2, a3, a4, a5, a6, a7⟩ := ended_add hM (ended_one m l t) hadd
  have hlen : (rows ++ ys).length = rows.length + ys.length := List.length_append
  have hl1 : ∀ r ∈ rows, r.length = sz := by obtain ⟨_, _, _, _, _, h, _⟩ := hr0.slc_inv; exact h
  refine ⟨G.newT p t' T' (fun x y => x = l ∧ y = t), ?_, adv_tok hM (p := p) (T' := T') hp1 (fun b' o' hb => if_neg (fun h => hb h.1)) (fun o' ho' => ?_) h5 h6 h7 (Nat.le_of_eq h8.symm) (fun k hk _ => h4 k hk) (fun o' V hq => ?_) ⟨vs', el, fz, h1, by rw [h2]; exact q4, fun o' h9 h10 => ?_⟩
      (.inr ⟨l, t, T, ⟨rfl, rfl⟩, hlv, hT, rfl⟩) a1 a2 a3 a4 a5 a6 a7⟩
  · obtain ⟨A, cap0, olds, hV, hRo, hlo, _, _, _, hpo⟩ := slc_cells hr0
    injection hV with e1 _ e2
    subst e1; subst e2
    obtain ⟨b1, o1, e3, hpo⟩ := hpo.resolve_left hrn
    injection e3 with e3
    injection e3 with e4 e5 _
    subst e5
    have hrow : R0 (G.newT p t' T' (fun x y => x = l ∧ y = t)).pub (.slc sz false (rows ++ ys)) (.slice (some ⟨T.blk, o, none⟩) (rows ++ ys).length cap) := by
      refine rows_of_cells (Vs := olds ++ news) (fun r hr => ?_) ?_ (fun j U hj => ?_) (by rw [hlen]; exact hroom) (fun h => by cases h)
      · rcases List.mem_append.1 hr with h | h
        · exact hl1 r h
        · exact hl2 r h
      · rw [List.flatten_append]
        exact (hRo.imp fun _ _ h => h.mono hp1).append (hR2.imp fun _ _ h => h.mono hp1)
      · show p T.blk (o + j) = some U
        by_cases hj1 : j < olds.length
        · rw [List.getElem?_append_left hj1] at hj
          rw [e4] at *
          exact hp1 _ _ _ (hpo j U hj)
        · rw [List.getElem?_append_right (by omega)] at hj
          have hlt := (List.getElem?_eq_some_iff.1 hj).1
          show (if T.blk = T.blk ∧ T.pos ≤ o + j ∧ o + j < T.pos + news.length then news[o + j - T.pos]? else G.pub T.blk (o + j)) = some U
          rw [if_pos ⟨rfl, by omega, by omega⟩, show o + j - T.pos = j - olds.length by omega]
          exact hj
    have := R1.own (G := G.newT p t' T' (fun x y => x = l ∧ y = t)) sz (rows ++ ys) 0 t' T.blk o cap T' (by simp [hyn]) hrow newT_tok rfl (by show o + (rows.length + ys.length) * sz = o + (rows ++ ys).length * sz; rw [hlen]) hTf
    rw [hlen] at this
    exact .two (.one this)
  · show (if T.blk = T.blk ∧ T.pos ≤ o' ∧ o' < T.pos + news.length then news[o' - T.pos]? else G.pub T.blk o') = none
    have ho2 : o + (rows.length + ys.length) * sz ≤ o' := ho'
    rw [Nat.add_mul] at ho2
    rw [if_neg (by omega)]
    exact q6 _ (by omega)
  · rw [cell_of_block h1, h3]
    have hq2 : (if T.blk = T.blk ∧ T.pos ≤ o' ∧ o' < T.pos + news.length then news[o' - T.pos]? else G.pub T.blk o') = some V := hq
    rw [hTp] at hq2
    split at hq2
    · rename_i hc
      rw [if_pos hc.2]; exact hq2
    · rename_i hc
      rw [if_neg (fun h => hc ⟨rfl, h⟩)]
      have := hM.pub _ _ _ hq2
      rwa [cell_of_block q3] at this
  · have h11 : o + (rows.length + ys.length) * sz ≤ o' := h9
    rw [Nat.add_mul] at h11
    exact q5 _ (by omega) h10
theorem st_app {t u rt el eu : TypeId} {sz bytes : Nat} {z : List NV} {x y : Operand} {x' y' : Opd} (ht : P.underlying t = some (.slice el)) (hu : P.underlying u = some (.slice eu)) (hn : sizeS P el = some sz) (hb : bytesS P el = some bytes) (hz : zeroS P el = some z) (hbp : 0 < bytes)
    (h1 : opd x = some x') (h2 : opd y = some y') (hs : step (.app sz bytes x' y') e m = some (v, m')) (hE : Env.On G e a (opdT x' ++ opdT y')) (hM : Rel G m w) (hF : ∀ l t, tok? m l t = true → G.live l t) :
    Fares (((Builtin.append_ #[t, u] rt #[a.eval x, a.eval y]).run P w).andThen fun v w' => .ok (.value v) w') G m m' w v := by
  have r1 := opd_R h1 (hE.mono (by simp; intro t ht; exact .inl ht))
  have r2 := opd_R h2 (hE.mono (by simp; intro t ht; exact .inr ht))
  simp only [step] at hs
  generalize hx : x'.ev e = X at hs r1
  generalize hy : y'.ev e = Y at hs r2
  have hyR : ∀ {ysz : Nat} {ys : List (List NV)}, rowsOf Y = some (ysz, ys) → ∃ B c news, a.eval y = .slice B ys.length c ∧ RL (R0 G.pub) ys.flatten news ∧ news.length = ys.length * ysz ∧ (∀ r ∈ ys, r.length = ysz) ∧ Lies w B news := by
    intro ysz ys h
    have go : ∀ {full : Bool}, R0 G.pub (.slc ysz full ys) (a.eval y) → ∃ B c news, a.eval y = .slice B ys.length c ∧ RL (R0 G.pub) ys.flatten news ∧ news.length = ys.length * ysz ∧ (∀ r ∈ ys, r.length = ysz) ∧ Lies w B news := by
      intro full h0
      obtain ⟨A, cap, Vs, hV, hR, hl, hrl, _, _, hlie⟩ := slc_cells h0
      exact ⟨A, cap, Vs, hV, hR, hl, hrl, lies_pub hM hlie hl⟩
    cases Y <;> simp only [rowsOf, Option.some.injEq, Prod.mk.injEq] at h <;> (try (cases h; done))
    · obtain ⟨rfl, rfl⟩ := h; exact go r2.slc_inv
    · obtain ⟨rfl, rfl⟩ := h
      obtain ⟨_, _, _, _, _, _, h0, _⟩ := r2.own_inv
      exact go h0
  unfold appV at hs
  split at hs
  · cases hs
  · rename_i ysz ys hrow
    obtain ⟨B, c, news, hYV, hRn, hln, hyl, hLn⟩ := hyR hrow
    split at hs
    · rename_i hysz
      have hyl' : ∀ r ∈ ys, r.length = sz := by
        rcases hysz with rfl | he
        · exact hyl
        · intro r hr
          have : ys = [] := by simpa using he
          rw [this] at hr
          cases hr
      have hln' : news.length = ys.length * sz := by rw [hRn.length, flat_length hyl']
      split at hs
      · rename_i xsz full r
        split at hs
        · rename_i hxsz
          split at hs
          · rename_i hye
            obtain rfl : ys = [] := by simpa using hye
            simp only [Option.some.injEq, Prod.mk.injEq] at hs
            obtain ⟨rfl, rfl⟩ := hs
            obtain ⟨A, cap, hV, hcap, _⟩ := r1.slc_inv.slc_inv
            refine fares_good (good_pure (V := a.eval x) ?_ r1 hM)
            rw [hV, hYV]
            simp only [List.length_nil, run_app_none ht hu hn hcap, Result.andThen_ok]
          · rename_i hye
            have hyn : ys ≠ [] := by simpa using hye
            split at hs
            · rename_i hcond
              obtain ⟨rfl, hby, h63⟩ := hcond
              split at hs
              · rename_i t' m1 hadd
                simp only [Option.some.injEq, Prod.mk.injEq] at hs
                obtain ⟨rfl, rfl⟩ := hs
                obtain ⟨A, cap, olds, hV, hRo, hlo, hrl, hfu, hcap, hlie⟩ := slc_cells r1.slc_inv
                have hrl' : ∀ q ∈ r, q.length = sz := by
                  rcases hxsz with rfl | he
                  · exact hrl
                  · intro q hq
                    have : r = [] := by simpa using he
                    rw [this] at hq
                    cases hq
                have hlo' : olds.length = r.length * sz := by rw [hRo.length, flat_length hrl']
                have hpos : 0 < ys.length := List.length_pos_iff.2 hyn
                have hLo := lies_pub hM hlie hlo
                rw [hfu rfl] at hV
                obtain ⟨zs, hrun, hzs⟩ := run_app_grow (P := P) (w := w) (rt := rt) (c := c) ht hu hn hb hz hlo' hLo hln' hLn (by omega : r.length < r.length + ys.length) h63 hby
                obtain ⟨G', hRG, hadv⟩ := app_new (el := el) hM hyn hrl' hyl' hRo hRn (grownCap_ge w _ _ _) hzs (ended_none m) hadd
                refine ⟨_, _, G', .inl ?_, hRG, hadv⟩
                rw [hV, hYV, hrun]
                rfl
              · cases hs
            · cases hs
        · cases hs
      · rename_i xsz r l t0
        split at hs
        · rename_i hxsz
          subst hxsz
          obtain ⟨b, o, cap, T, hV, hrn, hr0, hT, hTb, hTp, hTf⟩ := r1.own_inv
          have hcap : r.length ≤ cap := by
            obtain ⟨_, _, hV', hc, _⟩ := hr0.slc_inv
            rw [hV] at hV'
            injection hV' with _ _ e
            omega
          split at hs
          · rename_i hye
            obtain rfl : ys = [] := by simpa using hye
            simp only [Option.some.injEq, Prod.mk.injEq] at hs
            obtain ⟨rfl, rfl⟩ := hs
            refine fares_good (good_pure (V := a.eval x) ?_ r1 hM)
            rw [hV, hYV]
            simp only [List.length_nil, run_app_none ht hu hn hcap, Result.andThen_ok]
          · rename_i hye
            have hyn : ys ≠ [] := by simpa using hye
            split at hs
            · rename_i hcond
              obtain ⟨htk, hby, h63⟩ := hcond
              have hlv := hF _ _ htk
              split at hs
              · rename_i t' m1 hadd
                simp only [Option.some.injEq, Prod.mk.injEq] at hs
                obtain ⟨rfl, rfl⟩ := hs
                by_cases hroom : r.length + ys.length ≤ cap
                · rw [hV] at hr0
                  obtain ⟨⟨G', hRG, hadv⟩, vs, elt, fz, hw, hfit, hnz⟩ := app_here hM hyn hrn hr0 hyl' hRn hroom hlv hT hTb hTp hTf hadd
                  refine ⟨_, _, G', .inl ?_, hRG, hadv⟩
                  have hone : ∀ V ∈ news, V.oneCell' = true := by
                    have : ∀ {l : List NV} {L : List Value}, RL (R0 G.pub) l L → ∀ V ∈ L, V.oneCell' = true := by
                      intro l L h
                      induction h with
                      | nil => intro V hV; cases hV
                      | cons h1 _ ih =>
                        intro V hV
                        rcases List.mem_cons.1 hV with rfl | hV
                        · exact h1.one
                        · exact ih V hV
                    exact this hRn
                  rw [hV, hYV, run_app_room ht hu hn hln' hLn hroom hw hfit hnz hone]
                  rfl
                · obtain ⟨A, cap0, olds, hV', hRo, hlo, hrl, _, _, hlie⟩ := slc_cells hr0
                  have hLo := lies_pub hM hlie hlo
                  rw [hV] at hV'
                  injection hV' with e1 _ e2
                  subst e1; subst e2
                  obtain ⟨zs, hrun, hzs⟩ := run_app_grow (P := P) (w := w) (rt := rt) (c := c) ht hu hn hb hz hlo hLo hln' hLn (by omega : cap < r.length + ys.length) h63 hby
                  obtain ⟨G', hRG, hadv⟩ := app_new (el := el) hM hyn hrl hyl' hRo hRn (grownCap_ge w _ _ _) hzs (ended_one m l t0) hadd
                  refine ⟨_, _, G', .inl ?_, hRG, hadv⟩
                  rw [hV, hYV, hrun]
                  rfl
              · cases hs
            · cases hs
        · cases hs
      · cases hs
    · cases hs
end
end Go.Proofs.Ythecdihimfddgaa.Nv
