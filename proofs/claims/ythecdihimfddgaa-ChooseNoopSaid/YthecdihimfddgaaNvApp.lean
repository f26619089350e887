/- append: the model does what Nv reckons. Of no program. -/
import Derived.Test.YthecdihimfddgaaNvSlice
namespace Go.Proofs.Ythecdihimfddgaa.Nv
open Go Go.RowKit

section
variable {P : Program} {w : World} {G : Gh} {m m' : Mem} {e : Env} {a : Act} {v : NV} {dst : Option Nat} {ty : TypeId} {pos : String} {aft : Array Edge} {grd : Option (Nat × Bool)}

/-- A new token, of frame 0: its array is new, or taken over from a token that ends (K). -/
def Gh.newT (G : Gh) (p : Pub) (t' : Nat) (T' : Tok) (K : Nat → Nat → Prop) : Gh :=
  { G with pub := p, toks := fun l j => if l = 0 ∧ j = t' then some T' else G.toks l j, live := fun l j => (l = 0 ∧ j = t') ∨ (G.live l j ∧ ¬ K l j) }
theorem adv_tok (hM : Rel G m w) {w' : World} {p : Pub} {t' : Nat} {T' : Tok} {K : Nat → Nat → Prop}
    (hp1 : ∀ b o V, G.pub b o = some V → p b o = some V) (hp2 : ∀ b o, b ≠ T'.blk → p b o = G.pub b o) (hp3 : ∀ o, T'.pos ≤ o → p T'.blk o = none)
    (hos : w'.os = w.os) (htape : w'.tape = w.tape) (hout : w'.output = w.output) (hsize : w.heap.size ≤ w'.heap.size) (hk : ∀ k, k ≠ T'.blk → k < w.heap.size → w'.heap[k]? = w.heap[k]?)
    (hc : ∀ o V, p T'.blk o = some V → w'.cell? ⟨T'.blk, o, none⟩ = some V)
    (hb : ∃ vs el fz, w'.heap[T'.blk]? = some (.cells vs el fz) ∧ T'.fin ≤ vs.size ∧ ∀ o, T'.pos ≤ o → o < T'.fin → ¬ (fz.1 ≤ o ∧ o < fz.2))
    (ho : w.heap.size ≤ T'.blk ∨ ∃ l t T, K l t ∧ G.live l t ∧ G.toks l t = some T ∧ T.blk = T'.blk)
    (hn : ∀ T, G.toks 0 t' ≠ some T) (hbk : ∀ l i, blk? m' l i = blk? m l i) (hmt : tok? m' 0 t' = true) (hmo : ∀ l j, ¬ (l = 0 ∧ j = t') → G.live l j → ¬ K l j → tok? m l j = true → tok? m' l j = true)
    (hml : ∀ l fr, m[l]? = some fr → ∃ fr', m'[l]? = some fr' ∧ fr.toks.length ≤ fr'.toks.length ∧ (l = 0 → t' < fr'.toks.length)) (hm0 : ∃ fr, m[0]? = some fr)
    (hfull : G.Full m → ∀ l j, tok? m' l j = true → (l = 0 ∧ j = t') ∨ (tok? m l j = true ∧ ¬ K l j)) :
    Adv G m w (G.newT p t' T' K) m' w' := by
  have notblk : ∀ l i, G.blks l i ≠ some T'.blk := by
    intro l i hq
    rcases ho with h | ⟨l1, t1, T, _, h2, h3, h4⟩
    · have := (hM.lt _ _ _ hq).1; omega
    · obtain ⟨T2, h5, _, _, _, h6⟩ := hM.tok l1 t1 h2
      rw [h3] at h5
      obtain rfl := Option.some.inj h5
      rw [← h4] at hq
      exact h6 _ _ hq
  have other : ∀ l j T, G.live l j → ¬ K l j → G.toks l j = some T → T.blk ≠ T'.blk := by
    intro l j T h1 h2 h3 hq
    rcases ho with h | ⟨l1, t1, T1, k1, k2, k3, k4⟩
    · have := hM.tok_lt h1 h3; omega
    · obtain ⟨rfl, rfl⟩ := hM.tinj l j l1 t1 T T1 h1 k2 h3 k3 (hq.trans k4.symm)
      exact h2 k1
  have tk : ∀ l j T, (G.newT p t' T' K).toks l j = some T → (l = 0 ∧ j = t' ∧ T = T') ∨ (¬ (l = 0 ∧ j = t') ∧ G.toks l j = some T) := by
    intro l j T hq
    change (if l = 0 ∧ j = t' then some T' else G.toks l j) = some T at hq
    split at hq
    · rename_i h; exact .inl ⟨h.1, h.2, (Option.some.inj hq).symm⟩
    · rename_i h; exact .inr ⟨h, hq⟩
  have tk' : ∀ l j T, G.toks l j = some T → (G.newT p t' T' K).toks l j = some T := by
    intro l j T hq
    show (if l = 0 ∧ j = t' then some T' else G.toks l j) = some T
    rw [if_neg]
    · exact hq
    · rintro ⟨rfl, rfl⟩; exact hn _ hq
  have ext : Ext G (G.newT p t' T' K) := ⟨hp1, fun _ _ _ h => h, tk'⟩
  have heap : ∀ l i rb, G.blks l i = some rb → w'.heap[rb]? = w.heap[rb]? := fun l i rb h => hk rb (fun hq => notblk l i (hq ▸ h)) (hM.lt _ _ _ h).1
  refine ⟨ext, ⟨?_, ?_, ?_, ?_, hM.inj, ?_, ?_, ?_⟩, ⟨hos, htape, hout, hsize, ?_, ?_, ?_⟩, ?_⟩
  · intro b o V hq
    by_cases hbb : b = T'.blk
    · subst hbb; exact hc o V hq
    · have hq' : G.pub b o = some V := (hp2 b o hbb).symm.trans hq
      have := hM.pub _ _ _ hq'
      unfold World.cell? at this ⊢
      simp only [hk b hbb (hM.pub_lt hq')]
      exact this
  · intro l i rb hq
    obtain ⟨h1, o, h2⟩ := hM.lt _ _ _ hq
    exact ⟨by omega, o, by rw [hbk]; exact h2⟩
  · intro l i rb hv hq
    obtain ⟨o, h1, h2⟩ := hM.blk _ _ _ hv hq
    exact ⟨o, by rw [hbk]; exact h1, h2.mono (ext.sub l) (heap l i rb hq)⟩
  · intro l i rb hq o
    show p rb o = none
    rw [hp2 rb o (fun h => notblk l i (h ▸ hq))]
    exact hM.clean _ _ _ hq o
  · rintro l j (⟨rfl, rfl⟩ | ⟨h1, h2⟩)
    · exact ⟨T', by show (if _ then _ else _) = _; rw [if_pos ⟨rfl, rfl⟩], hmt, hb, hp3, notblk⟩
    · obtain ⟨T, q1, q2, ⟨vs, el, fz, q3, q4, q5⟩, q6, q7⟩ := hM.tok _ _ h1
      have hne := other _ _ _ h1 h2 q1
      have hnew : ¬ (l = 0 ∧ j = t') := by rintro ⟨rfl, rfl⟩; exact hn _ q1
      exact ⟨T, tk' _ _ _ q1, hmo _ _ hnew h1 h2 q2, ⟨vs, el, fz, (hk _ hne (hM.tok_lt h1 q1)).trans q3, q4, q5⟩, fun o ho' => (hp2 _ _ hne).trans (q6 o ho'), q7⟩
  · intro l1 j1 l2 j2 T1 T2 a1 a2 b1 b2 hq
    rcases tk _ _ _ b1 with ⟨x1, x2, x3⟩ | ⟨n1, c1⟩ <;> rcases tk _ _ _ b2 with ⟨y1, y2, y3⟩ | ⟨n2, c2⟩
    · exact ⟨x1.trans y1.symm, x2.trans y2.symm⟩
    · have hl := a2.resolve_left n2
      subst x3
      exact absurd hq.symm (other _ _ _ hl.1 hl.2 c2)
    · have hl := a1.resolve_left n1
      subst y3
      exact absurd hq (other _ _ _ hl.1 hl.2 c1)
    · exact hM.tinj _ _ _ _ _ _ (a1.resolve_left n1).1 (a2.resolve_left n2).1 c1 c2 hq
  · intro l j T hq
    rcases tk _ _ _ hq with ⟨rfl, rfl, _⟩ | ⟨_, hq⟩
    · obtain ⟨fr, hfr⟩ := hm0
      obtain ⟨fr', h1, _, h3⟩ := hml _ _ hfr
      exact ⟨fr', h1, h3 rfl⟩
    · obtain ⟨fr, h1, h2⟩ := hM.toks _ _ _ hq
      obtain ⟨fr', h3, h4, _⟩ := hml _ _ h1
      exact ⟨fr', h3, by omega⟩
  · intro b hb' hnot
    by_cases hbb : b = T'.blk
    · subst hbb
      rcases ho with h | ⟨l1, t1, T1, k1, k2, k3, k4⟩
      · omega
      · exact absurd (.inr ⟨l1, t1, T1, k2, k3, k4⟩) hnot
    · exact hk b hbb hb'
  · rintro b hb' (⟨l, i, hv, hq⟩ | ⟨l, j, T, a1, a2, a3⟩)
    · exact .inl ⟨l, i, hv, hq⟩
    · rcases tk _ _ _ a2 with ⟨rfl, rfl, rfl⟩ | ⟨n1, c1⟩
      · rcases ho with h | ⟨l1, t1, T1, k1, k2, k3, k4⟩
        · omega
        · exact .inr ⟨l1, t1, T1, k2, k3, k4.trans a3⟩
      · exact .inr ⟨l, j, T, (a1.resolve_left n1).1, c1, a3⟩
  · intro b o hb' hnot
    refine hp2 b o (fun hq => ?_)
    subst hq
    rcases ho with h | ⟨l1, t1, T1, k1, k2, k3, k4⟩
    · omega
    · exact hnot (.inr ⟨l1, t1, T1, k2, k3, k4⟩)
  · intro hF
    refine ⟨fun l j hq => ?_, hF.2⟩
    rcases hfull hF l j hq with h | ⟨h1, h2⟩
    · exact .inl h
    · exact .inr ⟨hF.1 _ _ h1, h2⟩

/-! ### What a slice shows, cell by cell -/
theorem flat_row {sz : Nat} : ∀ {rows : List (List NV)} {q : Nat} {d : NV}, (∀ r ∈ rows, r.length = sz) → rows.flatten[q]? = some d → ∃ i j r, q = i * sz + j ∧ rows[i]? = some r ∧ r[j]? = some d
  | [], q, d, _, h => by simp at h
  | r :: rows, q, d, hl, h => by
    have h1 := hl r (by simp)
    rw [List.flatten_cons] at h
    by_cases hq : q < r.length
    · rw [List.getElem?_append_left hq] at h
      exact ⟨0, q, r, by omega, rfl, h⟩
    · rw [List.getElem?_append_right (by omega)] at h
      obtain ⟨i, j, r', h2, h3, h4⟩ := flat_row (rows := rows) (fun r hr => hl r (by simp [hr])) h
      exact ⟨i + 1, j, r', by rw [Nat.succ_mul]; omega, by simpa using h3, h4⟩
theorem flat_length {sz : Nat} : ∀ {rows : List (List NV)}, (∀ r ∈ rows, r.length = sz) → rows.flatten.length = rows.length * sz
  | [], _ => by simp
  | r :: rows, hl => by
    have h1 := hl r (by simp)
    have := flat_length (sz := sz) (rows := rows) (fun r hr => hl r (by simp [hr]))
    simp only [List.flatten_cons, List.length_append, List.length_cons, h1, this, Nat.succ_mul]
    omega
/-- The cells of a slice that nobody writes: where they lie. -/
theorem slc_cells {p : Pub} {sz : Nat} {full : Bool} {rows : List (List NV)} {V : Value} (h : R0 p (.slc sz full rows) V) : ∃ A cap Vs, V = .slice A rows.length cap ∧ RL (R0 p) rows.flatten Vs ∧ Vs.length = rows.length * sz ∧ (∀ r ∈ rows, r.length = sz) ∧ (full = true → cap = rows.length) ∧ rows.length ≤ cap ∧
    (rows = [] ∨ ∃ b o, A = some ⟨b, o, none⟩ ∧ ∀ (j : Nat) U, Vs[j]? = some U → p b (o + j) = some U) := by
  obtain ⟨A, cap, hV, hc, hf, hl, hne⟩ := h.slc_inv
  by_cases he : rows = []
  · subst he
    exact ⟨A, cap, [], hV, .nil, by simp, hl, hf, hc, .inl rfl⟩
  · obtain ⟨b, o, W, rfl, hp, hr⟩ := hne he
    by_cases hz : sz = 0
    · subst hz
      have hfl : rows.flatten = [] := List.eq_nil_of_length_eq_zero (by rw [flat_length hl]; simp)
      exact ⟨_, cap, [], hV, by rw [hfl]; exact .nil, by simp, hl, hf, hc, .inr ⟨b, o, rfl, fun j U h => by simp at h⟩⟩
    · have hget : ∀ (q : Nat) d, rows.flatten[q]? = some d → p b (o + q) = some (W (q / sz) (q % sz)) ∧ R0 p d (W (q / sz) (q % sz)) := by
        intro q d hq
        obtain ⟨i, j, r, rfl, h2, h3⟩ := flat_row hl hq
        have hj : j < sz := by
          have := hl r (List.mem_of_getElem? h2)
          have := (List.getElem?_eq_some_iff.1 h3).1
          omega
        have e1 : (i * sz + j) / sz = i := by
          rw [Nat.mul_comm, Nat.mul_add_div (by omega), Nat.div_eq_of_lt hj, Nat.add_zero]
        have e2 : (i * sz + j) % sz = j := by
          rw [Nat.mul_comm, Nat.mul_add_mod, Nat.mod_eq_of_lt hj]
        rw [e1, e2, ← Nat.add_assoc]
        exact ⟨hp i j r d h2 h3, hr i j r d h2 h3⟩
      refine ⟨_, cap, (List.range rows.flatten.length).map fun q => W (q / sz) (q % sz), hV, ?_, by rw [List.length_map, List.length_range, flat_length hl], hl, hf, hc, .inr ⟨b, o, rfl, fun j U hj => ?_⟩⟩
      · have := RL.ofFun (S := R0 p) (fun q => W (q / sz) (q % sz)) rows.flatten 0 (fun j d hj => by rw [Nat.zero_add]; exact (hget j d hj).2)
        simpa using this
      · obtain ⟨hlt, hj⟩ := List.getElem?_eq_some_iff.1 hj
        simp only [List.length_map, List.length_range] at hlt
        have := (hget j _ (List.getElem?_eq_getElem hlt)).1
        rw [this, ← hj]
        simp
/-- Rows that lie in line, told of their cells. -/
theorem rows_of_cells {p : Pub} {sz b o cap : Nat} {full : Bool} {rows : List (List NV)} {Vs : List Value} (hl : ∀ r ∈ rows, r.length = sz) (hR : RL (R0 p) rows.flatten Vs) (hp : ∀ (j : Nat) U, Vs[j]? = some U → p b (o + j) = some U) (hc : rows.length ≤ cap) (hf : full = true → cap = rows.length) :
    R0 p (.slc sz full rows) (.slice (some ⟨b, o, none⟩) rows.length cap) := by
  have get : ∀ (i j : Nat) r d, rows[i]? = some r → r[j]? = some d → rows.flatten[i * sz + j]? = some d := by
    have : ∀ (rows : List (List NV)), (∀ r ∈ rows, r.length = sz) → ∀ (i j : Nat) r d, rows[i]? = some r → r[j]? = some d → rows.flatten[i * sz + j]? = some d := by
      intro rows
      induction rows with
      | nil => intro _ i j r d h; simp at h
      | cons x rows ih =>
        intro hl i j r d hi hj
        have hx := hl x (by simp)
        rw [List.flatten_cons]
        cases i with
        | zero =>
          simp only [List.getElem?_cons_zero, Option.some.injEq] at hi
          subst hi
          have := (List.getElem?_eq_some_iff.1 hj).1
          rw [List.getElem?_append_left (by omega)]
          simpa using hj
        | succ i =>
          simp only [List.getElem?_cons_succ] at hi
          rw [List.getElem?_append_right (by rw [Nat.succ_mul]; omega), show (i + 1) * sz + j - x.length = i * sz + j by rw [Nat.succ_mul]; omega]
          exact ih (fun r hr => hl r (by simp [hr])) i j r d hi hj
    exact this rows hl
  exact .slc sz full rows b o cap (fun i j => Vs.getD (i * sz + j) Go.undef) hl hc hf (fun i j r d hi hj => by
    obtain ⟨V, h4, _⟩ := hR.get (get i j r d hi hj)
    rw [Nat.add_assoc, hp _ _ h4]
    simp [List.getD, h4]) (fun i j r d hi hj => by
    obtain ⟨V, h4, h5⟩ := hR.get (get i j r d hi hj)
    simpa [List.getD, h4] using h5)
end
end Go.Proofs.Ythecdihimfddgaa.Nv
