/- What arguments read as, as plain values; what a run of the plain level says of a law's row. Of no program. -/
import Derived.Test.YthecdihimfddgaaNvCall
import Derived.Test.YthecdihimfddgaaNvFrame
import Derived.SizedLaws
import Derived.Deep.Slices
import Derived.DataElems
import Derived.WideShapes
import Derived.ChangeArms
import Derived.Carry
namespace Go.Proofs.Ythecdihimfddgaa.Nv
open Go Go.RowKit Go.WideShapes

def pubW (w : World) : Pub := fun b o => w.cell? ⟨b, o, none⟩
/-- All cells that are there, are there to be read. -/
def g0 (w : World) : Gh := ⟨pubW w, fun _ _ => none, fun _ _ => none, fun _ _ => False, fun _ _ => False⟩
theorem rel0 (w : World) : Rel (g0 w) [] w :=
  ⟨fun _ _ _ h => h, fun _ _ _ h => (by cases h), fun _ _ _ h => False.elim h, fun _ _ _ h => (by cases h), fun _ _ _ _ _ h => (by cases h), fun _ _ h => False.elim h, fun _ _ _ _ _ _ h => False.elim h, fun _ _ _ h => (by cases h)⟩
theorem full0 (w : World) : (g0 w).Full [] := ⟨fun l t h => (by simp [tok?] at h), fun _ _ _ h => (by cases h)⟩
theorem not_owned0 (w : World) (b : Nat) : ¬ (g0 w).Owned b := by
  rintro (⟨_, _, h, _⟩ | ⟨_, _, _, h, _⟩) <;> exact h.elim
section
variable {P : Program} {F : FuncId → Option NF} {X : FuncId → List NV → NV → Prop}
/-- A law that is true. -/
theorem law_calls (hmix : P.follows .mixedOrders = true) (hF : ∀ f nf, F f = some nf → compF P f = some nf) (hX : XOk P X) {f : FuncId} {args : List NV} {b : Bool} (h : EvF F X f args [] (.bool b) []) {w : World} {A : List Value} (hA : RL (R (g0 w)) args A) :
    Calls P f A.toArray w fun e w' => e = .returned (.bool b) ∧ Below w.heap.size w w' := by
  refine (evF_sim hmix hF hX _ _ _ _ _ h (g0 w) w A (rel0 w) (full0 w) hA).mono fun e w' hq => ?_
  obtain ⟨V, G', rfl, hR, hadv⟩ := hq
  refine ⟨by rw [hR.bool_inv], hadv.st.os, hadv.st.tape, hadv.st.output, hadv.st.size, fun k hk => hadv.st.heap k hk (not_owned0 w k)⟩
end

theorem wf_int {k : IntKind} {n : Int} (h : (Lit.int k n).wf = true) : k.min ≤ n ∧ n ≤ k.max := by
  simpa [Lit.wf] using h
/-! ### Arguments -/
/-- Whatever data of type t reads as, its cells are plain ones of the shape S. -/
def NTells (P : Program) (t : TypeId) (S : List NV → Prop) : Prop :=
  ∀ {H : Type} (enc : TypeId × Value → H) (w : World) (base : Nat) (spare : Nat → Bool) (held : Bool) (fuel : Nat) (cs : List Value) (y : DataW H × List MemPlace),
    DataW.trod enc P w base spare held fuel t cs = some y → (y.1.weights P t).all (· ≤ reachBytes) = true → ∃ l, RL (R0 (pubW w)) l cs ∧ S l
section
variable {P : Program} {t : TypeId}
theorem ntells_int {k : IntKind} (hu : P.underlying t = some (.int k)) : NTells P t (fun l => ∃ x : Int, l = [.int k x] ∧ (Lit.int k x).wf = true) := by
  intro H enc w base spare held fuel cs y h _
  obtain ⟨x, rfl, _, hw⟩ := DataW.trod_int hu h
  exact ⟨[.int k x], .cons (.int k x) .nil, x, rfl, hw⟩
theorem ntells_bool (hu : P.underlying t = some .bool) : NTells P t (fun l => ∃ x : Bool, l = [.bool x]) := by
  intro H enc w base spare held fuel cs y h _
  obtain ⟨x, rfl, _⟩ := DataW.trod_bool hu h
  exact ⟨[.bool x], .cons (.bool x) .nil, x, rfl⟩
theorem ntells_string (hu : P.underlying t = some .string) : NTells P t (fun l => ∃ s : ByteArray, l = [.str s] ∧ s.size ≤ 140737488351232) := by
  intro H enc w base spare held fuel cs y h hw
  obtain ⟨s, rfl, rfl, _⟩ := DataW.trod_string hu h
  refine ⟨[.str s], .cons (.str s) .nil, s, rfl, ?_⟩
  have z := List.all_eq_true.1 hw s.data.toList.length (by simp [DataW.weights])
  rw [Array.length_toList] at z
  exact of_decide_eq_true z
theorem nweightsAll_mem {H : Type} {e : TypeId} {d : DataW H} : ∀ {l : List (DataW H)}, d ∈ l → ∀ n ∈ d.weights P e, n ∈ DataW.weightsAll P e l
  | d0 :: l, hd, n, hn => by
    simp only [DataW.weightsAll, List.mem_append]
    rcases List.mem_cons.1 hd with rfl | hd
    · exact .inl hn
    · exact .inr (nweightsAll_mem hd n hn)
  | [], hd, _, _ => by simp at hd
theorem nlist_of {α : Type} (p : Nat → α → Prop) : ∀ n, (∀ i, i < n → ∃ x, p i x) → ∃ xs : List α, xs.length = n ∧ ∀ i x, xs[i]? = some x → p i x
  | 0, _ => ⟨[], rfl, fun i x h => by simp at h⟩
  | n + 1, h => by
    obtain ⟨xs, hl, hx⟩ := nlist_of p n (fun i hi => h i (by omega))
    obtain ⟨z, hz⟩ := h n (by omega)
    refine ⟨xs ++ [z], by simp [hl], fun i x hi => ?_⟩
    by_cases hlt : i < xs.length
    · rw [List.getElem?_append_left hlt] at hi
      exact hx i x hi
    · rw [List.getElem?_append_right (by omega)] at hi
      have h0 : i - xs.length = 0 := by
        by_cases h0 : i - xs.length = 0
        · exact h0
        · rw [List.getElem?_eq_none (by simp; omega)] at hi
          cases hi
      rw [h0] at hi
      simp at hi
      subst hi
      have : i = n := by omega
      rw [this]
      exact hz
theorem ntells_slice {S : List NV → Prop} {e : TypeId} {B sz : Nat} (hu : P.underlying t = some (.slice e)) (hc : P.cellsOf e = sz) (hsz : 0 < sz) (hB : P.bytesOf e = B) (hK : NTells P e S) :
    NTells P t (fun l => ∃ rows : List (List NV), l = [.slc sz false rows] ∧ rows.length * B ≤ 140737488351232 ∧ ∀ r ∈ rows, S r ∧ r.length = sz) := by
  intro H enc w base spare held fuel cs y h hw
  rcases Deep.open_slice hu h with ⟨rfl, _⟩ | ⟨a, len, cap, m, n, D, Pl, rfl, hb, hl, hm, hmm, rfl, hx⟩
  · exact ⟨[.slc sz false []], .cons (.slc0 _ _ _ _ (fun _ => rfl)) .nil, [], rfl, by simp, fun r hr => by simp at hr⟩
  · have hlm : len ≤ m := by rw [hmm]; split <;> omega
    have hall := List.all_eq_true.1 hw
    have hlen : len * B ≤ 140737488351232 := by
      have z := hall ((((List.range len).map D).length + ((List.range (m - len)).map fun j => D (len + j)).length) * P.bytesOf e) (by simp [DataW.weights, hu])
      have z2 := of_decide_eq_true z
      rw [hB] at z2
      refine Nat.le_trans (Nat.mul_le_mul_right _ ?_) z2
      simp
    obtain ⟨rows, hrl, hrows⟩ := nlist_of (fun i (r : List NV) => ∃ c, w.cells? base (a.add (i * P.cellsOf e)) (P.cellsOf e) = some c ∧ RL (R0 (pubW w)) r c ∧ S r) len (fun i hi => by
      obtain ⟨c, h1, h2⟩ := hx i (by omega)
      obtain ⟨r, hk, hg⟩ := hK enc w base spare held n c _ h2 (List.all_eq_true.2 fun q hq => hall q (by
        simp only [DataW.weights, hu, List.mem_cons, List.mem_append]
        exact .inr (.inl (nweightsAll_mem (List.mem_map.2 ⟨i, by simpa using hi, rfl⟩) q hq))))
      exact ⟨r, c, h1, hk, hg⟩)
    have row : ∀ (i : Nat) r, rows[i]? = some r → r.length = sz ∧ ∃ c : List Value, RL (R0 (pubW w)) r c ∧ ∀ (j : Nat) v, c[j]? = some v → w.cell? (a.add (i * sz + j)) = some v := by
      intro i r hi
      obtain ⟨c, h1, h2, h3⟩ := hrows i r hi
      obtain ⟨_, hcl, hcell⟩ := World.cells?_some h1
      refine ⟨by rw [← h2.length, hcl, hc], c, h2, fun j v hj => ?_⟩
      have hj' : j < P.cellsOf e := by
        rw [← hcl]
        exact (List.getElem?_eq_some_iff.1 hj).1
      have := hcell j hj'
      rw [Addr.add_add, hc] at this
      rw [this]
      exact hj
    have mem : ∀ r ∈ rows, S r ∧ r.length = sz := by
      intro r hr
      obtain ⟨i, hi, rfl⟩ := List.getElem_of_mem hr
      have hi' := List.getElem?_eq_getElem hi
      obtain ⟨c, _, _, h3⟩ := hrows i _ hi'
      exact ⟨h3, (row i _ hi').1⟩
    refine ⟨[.slc sz false rows], .cons ?_ .nil, rows, rfl, by rw [hrl]; exact hlen, mem⟩
    cases rows with
    | nil =>
      simp only [List.length_nil] at hrl
      subst hrl
      exact .slc0 sz false (some a) cap (fun h => by cases h)
    | cons r0 rows' =>
      have hspot : a = ⟨a.block, a.off, none⟩ := by
        obtain ⟨hl0, c, h1, h2⟩ := row 0 r0 rfl
        have hcl : c.length = sz := by rw [h1.length, hl0]
        obtain ⟨v, hv⟩ : ∃ v, c[0]? = some v := ⟨_, List.getElem?_eq_getElem (by omega)⟩
        have := h2 0 v hv
        unfold World.cell? at this
        split at this
        · split at this
          · cases this
          · rename_i hs
            have hs' : a.spot = none := by
              cases hq : a.spot with
              | none => rfl
              | some x => exact absurd (by show (a.add _).spot.isSome = true; simp [Addr.add, hq]) hs
            cases a
            simp only at hs'
            rw [hs']
        · cases this
      have key : ∀ (i j : Nat) r d, (r0 :: rows')[i]? = some r → r[j]? = some d → ∃ v, w.cell? ⟨a.block, a.off + i * sz + j, none⟩ = some v ∧ R0 (pubW w) d v := by
        intro i j r d hi hj
        obtain ⟨hl0, c, h1, h2⟩ := row i r hi
        obtain ⟨v, hv, hR⟩ := h1.get hj
        refine ⟨v, ?_, hR⟩
        have := h2 j v hv
        rw [hspot, addr_add, ← Nat.add_assoc] at this
        exact this
      have := R0.slc (pub := pubW w) sz false (r0 :: rows') a.block a.off cap (fun i j => (w.cell? ⟨a.block, a.off + i * sz + j, none⟩).getD Go.undef) (fun r hr => (mem r hr).2) (by rw [hrl]; exact hl) (fun h => by cases h)
        (fun i j r d hi hj => by
          obtain ⟨v, h1, _⟩ := key i j r d hi hj
          show w.cell? _ = some _
          rw [h1]; rfl)
        (fun i j r d hi hj => by
          obtain ⟨v, h1, h2⟩ := key i j r d hi hj
          rw [h1]; exact h2)
      rw [hrl, ← hspot] at this
      exact this

/-- Values in line: types and the places where they begin. -/
def NTellsL (P : Program) (L : List (TypeId × Nat)) (off n : Nat) (S : List NV → Prop) : Prop :=
  ∀ {H : Type} (enc : TypeId × Value → H) (w : World) (base : Nat) (spare : Nat → Bool) (held : Bool) (fuel : Nat) (cs : List Value) (xs : List (DataW H × List MemPlace)),
    cs.length = off + n → L.mapM (fun f => DataW.trod enc P w base spare held fuel f.1 ((cs.drop f.2).take (P.cellsOf f.1))) = some xs →
    (DataW.weightsEach P (L.map (·.1)) (xs.map (·.1))).all (· ≤ reachBytes) = true → ∃ l, RL (R0 (pubW w)) l (cs.drop off) ∧ S l
theorem ntells_nil {off : Nat} : NTellsL P [] off 0 (fun l => l = []) := by
  intro H enc w base spare held fuel cs xs hl hm hw
  refine ⟨[], ?_, rfl⟩
  rw [List.drop_of_length_le (by omega)]
  exact .nil
theorem ntells_cons {S1 S2 : List NV → Prop} {off n k : Nat} {L : List (TypeId × Nat)} (h : NTells P t S1) (hc : P.cellsOf t = k) (hr : NTellsL P L (off + k) n S2) :
    NTellsL P ((t, off) :: L) off (k + n) (fun l => ∃ a b, l = a ++ b ∧ S1 a ∧ S2 b) := by
  intro H enc w base spare held fuel cs xs hl hm hw
  simp only [List.mapM_cons, Option.bind_eq_bind, Option.bind_eq_some_iff, Option.pure_def, Option.some.injEq] at hm
  obtain ⟨y, hy, ys, hys, rfl⟩ := hm
  simp only [List.map_cons, DataW.weightsEach, List.all_append, Bool.and_eq_true] at hw
  obtain ⟨l1, hk1, hg1⟩ := h enc w base spare held fuel _ y hy hw.1
  obtain ⟨l2, hk2, hg2⟩ := hr enc w base spare held fuel cs ys (by omega) hys hw.2
  refine ⟨l1 ++ l2, ?_, l1, l2, rfl, hg1, hg2⟩
  have := hk1.append hk2
  rw [hc] at this
  have e := List.take_append_drop k (cs.drop off)
  rw [List.drop_drop] at e
  rw [← e]
  exact this
theorem nmapM_map_some {α β γ : Type} (g : α → β) (f : β → Option γ) : ∀ l : List α, (l.map g).mapM f = l.mapM fun x => f (g x)
  | [] => rfl
  | x :: l => by simp only [List.map_cons, List.mapM_cons, nmapM_map_some g f l]
theorem ntells_struct {S : List NV → Prop} {n : Nat} {fs : Array Field} {L : List (TypeId × Nat)} (hu : P.underlying t = some (.struct fs)) (hL : fs.toList.map (fun f => (f.type, f.offset)) = L) (hc : P.cellsOf t = n) (h : NTellsL P L 0 n S) : NTells P t S := by
  subst hL
  intro H enc w base spare held fuel cs y hy hw
  cases fuel with
  | zero => simp [DataW.trod] at hy
  | succ k =>
    have hy2 : (if cs.length = P.cellsOf t then (fs.toList.mapM fun f => DataW.trod enc P w base spare held k f.type ((cs.drop f.offset).take (P.cellsOf f.type))).map fun xs => (DataW.agg (xs.map (·.1)), xs.flatMap (·.2)) else none) = some y := by
      have := hy
      unfold DataW.trod at this
      rw [hu] at this
      exact this
    split at hy2
    · rename_i hlen
      obtain ⟨xs, hxs, rfl⟩ := Option.map_eq_some_iff.1 hy2
      obtain ⟨l, hk, hg⟩ := h enc w base spare held k cs xs (by omega) (by rw [nmapM_map_some]; exact hxs) (by simpa [DataW.weights, hu, Function.comp_def] using hw)
      exact ⟨l, by simpa using hk, hg⟩
    · cases hy2
/-- An argument's weights. -/
theorem nsized_all {H : Type} {ts : List TypeId} {ds : List (DataW H)} (hsz : (DataW.weightsEach P ts ds).all (· ≤ reachBytes) = true) {j : Nat} {d : DataW H} (ht : ts[j]? = some t) (hd : ds[j]? = some d) : (d.weights P t).all (· ≤ reachBytes) = true :=
  List.all_eq_true.2 fun n hn => List.all_eq_true.1 hsz n (DataW.weights_mem_each ht hd n hn)
theorem R.ofR0 {w : World} {v : NV} {V : Value} (h : R0 (pubW w) v V) : R (g0 w) v V := .two (.one (.pl h))
/-- A struct argument. -/
theorem narg_struct {S : List NV → Prop} {H : Type} {enc : TypeId × Value → H} {W : World} {base base0 : Nat} {spare : Nat → Bool} {held : Bool} {r : Reach} {v : Value} {d : DataW H} {p : List MemPlace} {fs : Array Field}
    (hu : P.underlying t = some (.struct fs)) (hv : Value.okWide P W r base0 t v) (h : DataW.Trod enc P W base spare held t v d p) (hw : (d.weights P t).all (· ≤ reachBytes) = true) (T : NTells P t S) :
    ∃ l, R (g0 W) (.agg l) v ∧ S l := by
  obtain ⟨cs, rfl, _⟩ := okWide_struct hu hv
  obtain ⟨fuel, hf⟩ := h
  obtain ⟨l, hk, hg⟩ := T enc W base spare held fuel _ _ hf hw
  refine ⟨l, .two ?_, hg⟩
  have e : cs = (Value.agg cs).cells.toList.toArray := by simp [Value.cells]
  rw [e]
  exact .agg l _ (hk.imp fun _ _ q => .pl q)
/-- An argument of one cell. -/
theorem narg_one {S : NV → Prop} {H : Type} {enc : TypeId × Value → H} {W : World} {base : Nat} {spare : Nat → Bool} {held : Bool} {v : Value} {d : DataW H} {p : List MemPlace}
    (h1 : v.cells.toList = [v]) (h : DataW.Trod enc P W base spare held t v d p) (hw : (d.weights P t).all (· ≤ reachBytes) = true) (T : NTells P t (fun l => ∃ x, l = [x] ∧ S x)) :
    ∃ x, R (g0 W) x v ∧ S x := by
  obtain ⟨fuel, hf⟩ := h
  obtain ⟨l, hk, x, rfl, hg⟩ := T enc W base spare held fuel _ _ hf hw
  rw [h1] at hk
  obtain ⟨V, L, h2, h3, _⟩ := hk.cons_inv
  injection h2 with h2 _
  subst h2
  exact ⟨x, .ofR0 h3, hg⟩
theorem ntells_one {sz : Nat} {Q : List (List NV) → Prop} (T : NTells P t (fun l => ∃ rows : List (List NV), l = [.slc sz false rows] ∧ Q rows)) : NTells P t (fun l => ∃ x, l = [x] ∧ ∃ rows : List (List NV), x = .slc sz false rows ∧ Q rows) := by
  intro H enc w base spare held fuel cs y h hw
  obtain ⟨l, h1, rows, h2, h3⟩ := T enc w base spare held fuel cs y h hw
  exact ⟨l, h1, _, h2, rows, rfl, h3⟩
theorem nplaces_lt {H : Type} {enc : TypeId × Value → H} {W : World} {base : Nat} {spare : Nat → Bool} {held : Bool} {v : Value} {d : DataW H} {p : List MemPlace} (h : DataW.Trod enc P W base spare held t v d p) : ∀ x ∈ p, x.block < W.heap.size := by
  obtain ⟨m, hm⟩ := h
  exact DataW.trod_lt m _ _ _ hm
end
end Go.Proofs.Ythecdihimfddgaa.Nv
