/- Calls of functions that are not walked, by what their own contracts say. Of no program. -/
import Derived.Test.YtibpoeaableoeaaNvCall
namespace Go.Proofs.Ytibpoeaableoeaa.Nv
open Go Go.RowKit
section
variable {G : Gh} {m : Mem} {w w' : World}
theorem adv_below (hM : Rel G m w) (hb : Below w.heap.size w w') : Adv G m w G m w' := by
  have heap : ∀ k, k < w.heap.size → w'.heap[k]? = w.heap[k]? := hb.block
  refine ⟨.refl _, ⟨?_, ?_, ?_, hM.clean, hM.inj, ?_, hM.tinj, hM.toks⟩, ⟨hb.os, hb.tape, hb.output, hb.size, fun b h _ => heap b h, fun _ _ h => h, fun _ _ _ _ => rfl⟩, fun h => h⟩
  · intro b o V e
    have h1 := hM.pub_lt e
    have h2 := hM.pub _ _ _ e
    unfold World.cell? at h2 ⊢
    rw [heap b h1]; exact h2
  · intro l i rb e
    obtain ⟨h1, h2⟩ := hM.lt _ _ _ e
    exact ⟨Nat.lt_of_lt_of_le h1 hb.size, h2⟩
  · intro l i rb hv e
    obtain ⟨h1, _⟩ := hM.lt _ _ _ e
    obtain ⟨o, h2, h3⟩ := hM.blk _ _ _ hv e
    exact ⟨o, h2, h3.mono (.refl _) (heap _ h1)⟩
  · intro l t hl
    obtain ⟨T, h1, h2, ⟨vs, el, fz, h3, h4⟩, h5⟩ := hM.tok l t hl
    exact ⟨T, h1, h2, ⟨vs, el, fz, (heap _ (hM.tok_lt hl h1)).trans h3, h4⟩, h5⟩
/-- A slice, or one that is appended to, as it is in the model: its cells. -/
theorem rows_inv {a : NV} {V : Value} {sz : Nat} {rows : List (List NV)} (h : rowsOf a = some (sz, rows)) (hsz : 0 < sz ∨ rows = []) (hR : R G a V) (hM : Rel G m w) :
    (rows = [] ∧ ∃ p cap, V = .slice p 0 cap) ∨ ∃ b o cap, V = .slice (some ⟨b, o, none⟩) rows.length cap ∧ rows.length ≤ cap ∧ (∀ r ∈ rows, r.length = sz) ∧ b < w.heap.size ∧
      ∀ (i j : Nat) r d, rows[i]? = some r → r[j]? = some d → ∃ D, w.cell? ⟨b, o + i * sz + j, none⟩ = some D ∧ R0 G.pub d D := by
  have key : ∀ {f : Bool} {V : Value}, R0 G.pub (.slc sz f rows) V → (rows = [] ∧ ∃ p cap, V = .slice p 0 cap) ∨ ∃ b o cap, V = .slice (some ⟨b, o, none⟩) rows.length cap ∧ rows.length ≤ cap ∧ (∀ r ∈ rows, r.length = sz) ∧ b < w.heap.size ∧
      ∀ (i j : Nat) r d, rows[i]? = some r → r[j]? = some d → ∃ D, w.cell? ⟨b, o + i * sz + j, none⟩ = some D ∧ R0 G.pub d D := by
    intro f V h
    by_cases hall : ∃ (i j : Nat) (r : List NV) (d : NV), rows[i]? = some r ∧ r[j]? = some d
    · cases h with
      | slc0 _ _ a cap hf => obtain ⟨i, j, r, d, h1, _⟩ := hall; simp at h1
      | slc _ _ _ b o cap W hl hc hf hp hr =>
        obtain ⟨i, j, r, d, h1, h2⟩ := hall
        exact .inr ⟨b, o, cap, rfl, hc, hl, hM.pub_lt (hp i j r d h1 h2), fun i j r d h1 h2 => ⟨W i j, hM.pub _ _ _ (hp i j r d h1 h2), hr i j r d h1 h2⟩⟩
    · have hn : rows = [] := by
        rcases hsz with h0 | h0
        · cases h with
          | slc0 _ _ a cap hf => rfl
          | slc _ _ _ b o cap W hl hc hf hp hr =>
            cases rows with
            | nil => rfl
            | cons r rows =>
              have := hl r (List.mem_cons_self ..)
              obtain ⟨d, hd⟩ : ∃ d, r[0]? = some d := ⟨_, List.getElem?_eq_getElem (by omega)⟩
              exact absurd ⟨0, 0, r, d, rfl, hd⟩ hall
        · exact h0
      subst hn
      cases h with
      | slc0 _ _ a cap hf => exact .inl ⟨rfl, a, cap, rfl⟩
      | slc _ _ _ b o cap W hl hc hf hp hr => exact .inl ⟨rfl, _, cap, rfl⟩
  cases a <;> simp only [rowsOf] at h <;> (try (cases h; done))
  · simp only [Option.some.injEq, Prod.mk.injEq] at h
    obtain ⟨rfl, rfl⟩ := h
    exact key hR.slc_inv
  · simp only [Option.some.injEq, Prod.mk.injEq] at h
    obtain ⟨rfl, rfl⟩ := h
    obtain ⟨b, o, cap, T, rfl, hne, h1, _⟩ := hR.own_inv
    exact key h1
end
end Go.Proofs.Ytibpoeaableoeaa.Nv
