/- strings.Join, by the shelf's contract. -/
import Derived.Test.YtibpoeaableoeaaNvX
import Derived.Test.YtibpoeaableoeaaNvB
import Derived.Test.YtibpoeaableoeaaNf
import Derived.Test.YtibpoeaableoeaaShelf
import Derived.Lib.Join
namespace Go.Proofs.Ytibpoeaableoeaa.Nv
open Go Go.RowKit
def strR (s : ByteArray) : List NV := [.str s]
def joinB (xs : List ByteArray) (sep : ByteArray) : ByteArray := ⟨(Lib.join (xs.map (·.data.toList)) sep.data.toList).toArray⟩
theorem joinB_size (xs : List ByteArray) (sep : ByteArray) : (joinB xs sep).size = (Lib.join (xs.map (·.data.toList)) sep.data.toList).length := by
  show (Lib.join (xs.map (·.data.toList)) sep.data.toList).toArray.size = _
  simp
/-- What strings.Join comes to. -/
structure XJ (f : FuncId) (args : List NV) (v : NV) : Prop where
  of :: ex : f = 27 ∧ ∃ a xs sep sz, args = [a, .str sep] ∧ rowsOf a = some (sz, xs.map strR) ∧ (sz = 1 ∨ xs = []) ∧ xs.length ≤ 140737488355328 ∧ (joinB xs sep).size ≤ 140737488355328 ∧ v = .str (joinB xs sep)
theorem XJ_ok : XOk Try.prog XJ := by
  rintro f args v ⟨rfl, a, xs, sep, sz, rfl, h1, hsz, hN, hlen, rfl⟩
  refine ⟨by kernel_rfl, fun G m w A hM hF hA => ?_⟩
  obtain ⟨V, L, rfl, hV, hA⟩ := hA.cons_inv
  obtain ⟨S, L2, rfl, hS, hA⟩ := hA.cons_inv
  obtain rfl := hA.nil_inv
  obtain rfl := hS.str_inv
  have hsz' : 0 < sz ∨ xs.map strR = [] := by
    rcases hsz with h | h
    · exact .inl (by omega)
    · exact .inr (by rw [h]; rfl)
  rw [joinB_size] at hlen
  rcases rows_inv h1 hsz' hV hM with ⟨h2, p, cap, rfl⟩ | ⟨b, o, cap, rfl, hc, hl, hb, hcell⟩
  · have hx : xs = [] := by simpa using h2
    subst hx
    exact (Try.strings_Join_none p cap sep w).mono fun e w' ⟨he, hw⟩ => ⟨_, G, he, .two (.one (.pl (.str _))), by subst hw; exact Adv.refl hM⟩
  · rw [List.length_map] at hc ⊢
    have hz : sz = 1 ∨ xs = [] := hsz
    refine (Try.strings_Join b o cap xs sep w (fun j x hj => ?_) hb hN hc hlen).mono fun e w' ⟨he, hw⟩ => ⟨_, G, he, .two (.one (.pl (.str _))), adv_below hM hw⟩
    have hz1 : sz = 1 := hz.resolve_right (by rintro rfl; simp at hj)
    subst hz1
    obtain ⟨D, h3, h4⟩ := hcell j 0 (strR x) (.str x) (by rw [List.getElem?_map, hj]; rfl) rfl
    cases h4
    simpa using h3
/-- The same, reckoned. -/
def strsOf : List (List NV) → Option (List ByteArray)
  | [] => some []
  | [.str s] :: l => match strsOf l with
    | some r => some (s :: r)
    | none => none
  | _ => none
theorem strsOf_eq : ∀ {l : List (List NV)} {xs : List ByteArray}, strsOf l = some xs → l = xs.map strR
  | [], xs, h => by cases h; rfl
  | r :: l, xs, h => by
    unfold strsOf at h
    split at h
    · cases h; rename_i h0; cases h0
    · rename_i s l' h0
      split at h
      · rename_i r' h1
        cases h
        cases h0
        rw [List.map_cons, ← strsOf_eq h1]; rfl
      · cases h
    · cases h
def xjF (f : FuncId) (args : List NV) : Option NV :=
  if f = 27 then (match args with
    | [a, .str sep] => match rowsOf a with
      | some (sz, rows) => match strsOf rows with
        | some xs => if (sz = 1 ∨ xs.isEmpty = true) ∧ xs.length ≤ 140737488355328 ∧ (joinB xs sep).size ≤ 140737488355328 then some (.str (joinB xs sep)) else none
        | none => none
      | none => none
    | _ => none) else none
theorem xjF_ok (f : FuncId) (a : List NV) (v : NV) (h : xjF f a = some v) : XJ f a v := by
  unfold xjF at h
  split at h
  · rename_i hf
    split at h
    · split at h
      · rename_i sz rows h1
        split at h
        · rename_i xs h2
          split at h
          · rename_i h3
            cases h
            exact ⟨hf, _, xs, _, sz, rfl, by rw [h1, strsOf_eq h2], h3.1.imp id (by simp), h3.2.1, h3.2.2, rfl⟩
          · cases h
        · cases h
      · cases h
    · cases h
  · cases h
end Go.Proofs.Ytibpoeaableoeaa.Nv
