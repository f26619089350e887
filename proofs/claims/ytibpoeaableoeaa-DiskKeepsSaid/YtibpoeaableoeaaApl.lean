/- What one appends to, in any frame: rules. Of no program. -/
import Derived.Test.YtibpoeaableoeaaNvB
namespace Go.Proofs.Ytibpoeaableoeaa.Nv
open Go
section
variable {K : Rel4} {e : Env} {M : Mem} {m : Mem} {R : Env → Mem → Prop} {d : Nat} {g : Option (Nat × Bool)} {l : List Ins} {x y : Opd} {bs : List Nat} {fs j : Nat} {wr rd : List (Nat × Nat × Nat)} {k : IntKind} {a : Int}
/-- One appends to what lies in the caller's frame. -/
theorem sp_appL {sz bytes t z : Nat} {f : Bool} {rows ys : List (List NV)} {B0 B1 : List NObj} {T0 ts : List Bool} (hx : x.ev e = apl sz rows 1 t) (hy : y.ev e = .slc z f ys) (hz : z = sz) (hne : ys.isEmpty = false) (ht : tokOf rows ts t)
    (hn : (rows.length + ys.length) * bytes ≤ 35184372088832) (hn' : rows.length + ys.length ≤ 35184372088832) :
    step (.app sz bytes x y) e (⟨B0, T0⟩ :: ⟨B1, ts⟩ :: M) = some (.own sz (rows ++ ys) 0 T0.length, ⟨B0, T0 ++ [true]⟩ :: ⟨B1, tkE rows ts t⟩ :: M) := by
  subst hz
  cases rows with
  | nil =>
    simp only [List.length_nil] at hn hn'
    simp only [step, hx, hy, apl, appV, rowsOf, true_or, if_true, List.isEmpty_nil, or_true, hne, Bool.false_eq_true, if_false, true_and, List.nil_append, List.length_nil]
    rw [if_pos ⟨hn, hn'⟩]
    rfl
  | cons r rows =>
    have ht' : ts[t]? = some true := ht.resolve_left (by simp)
    have h3 : tok? (⟨B0, T0⟩ :: ⟨B1, ts⟩ :: M) 1 t = true := by simp [tok?, ht']
    simp only [step, hx, hy, apl, appV, rowsOf, true_or, if_true, hne, Bool.false_eq_true, if_false, h3, true_and]
    rw [if_pos ⟨hn, hn'⟩]
    rfl
theorem WO.appL {sz bytes t z : Nat} {f : Bool} {rows ys : List (List NV)} {B0 B1 : List NObj} {T0 ts : List Bool} (hg : wantedN e g = true) (hx : x.ev e = apl sz rows 1 t) (hy : y.ev e = .slc z f ys) (hz : z = sz) (hne : ys.isEmpty = false) (ht : tokOf rows ts t)
    (hn : (rows.length + ys.length) * bytes ≤ 35184372088832) (hn' : rows.length + ys.length ≤ 35184372088832)
    (h : WO K l (upd e d (.own sz (rows ++ ys) 0 T0.length)) (⟨B0, T0 ++ [true]⟩ :: ⟨B1, tkE rows ts t⟩ :: M) R) : WO K (⟨some d, g, .app sz bytes x y⟩ :: l) e (⟨B0, T0⟩ :: ⟨B1, ts⟩ :: M) R := WO.op hg (sp_appL hx hy hz hne ht hn hn') h
/-- A store into a block of the caller's frame. -/
theorem sp_stU {n b o : Nat} {v : NV} {cs vs cs' : List NV} {fr fr' : Fr} {B1 : List NObj} {ts ts' : List Bool} (hx : x.ev e = .ptr 1 b o) (hy : head0 (y.ev e) = some v) (hl : (cellsOf v).length = n) (hi : intoL 1 (cellsOf v) (fr :: ⟨B1, ts⟩ :: M) = some (vs, fr' :: ⟨B1, ts'⟩ :: M))
    (hb : B1[b]? = some (.cells cs)) (hn : o + n ≤ cs.length) (hc : cs.take o ++ vs ++ cs.drop (o + n) = cs') : step (.store n x y) e (fr :: ⟨B1, ts⟩ :: M) = some (.undef, fr' :: ⟨B1.set b (.cells cs'), ts'⟩ :: M) ∧ (B1.set b (.cells cs'))[b]? = some (.cells cs') := by
  rw [head0_eq] at hy
  have hy' := Option.some.inj hy
  subst hc
  have hb' : blk? (fr' :: ⟨B1, ts'⟩ :: M) 1 b = some (.cells cs) := hb
  refine ⟨?_, ?_⟩
  · simp only [step, storeV, hx, hy', hl, if_true, hi, hb', if_pos hn]
    rfl
  · rw [List.getElem?_set_self (List.getElem?_eq_some_iff.1 hb).1]
theorem WO.stU {n b o : Nat} {v : NV} {cs vs cs' : List NV} {fr fr' : Fr} {B1 : List NObj} {ts ts' : List Bool} (hg : wantedN e g = true) (hx : x.ev e = .ptr 1 b o) (hy : head0 (y.ev e) = some v) (hl : (cellsOf v).length = n) (hi : intoL 1 (cellsOf v) (fr :: ⟨B1, ts⟩ :: M) = some (vs, fr' :: ⟨B1, ts'⟩ :: M))
    (hb : B1[b]? = some (.cells cs)) (hn : o + n ≤ cs.length) (hc : cs.take o ++ vs ++ cs.drop (o + n) = cs') (h : (B1.set b (.cells cs'))[b]? = some (.cells cs') → WO K l e (fr' :: ⟨B1.set b (.cells cs'), ts'⟩ :: M) R) : WO K (⟨none, g, .store n x y⟩ :: l) e (fr :: ⟨B1, ts⟩ :: M) R :=
  WO.op (v := .undef) hg (sp_stU hx hy hl hi hb hn hc).1 (h (sp_stU hx hy hl hi hb hn hc).2)
theorem WH.stU {n b o : Nat} {v : NV} {cs vs cs' : List NV} {fr fr' : Fr} {B1 : List NObj} {ts ts' : List Bool} (hg : wantedN e g = true) (hx : x.ev e = .ptr 1 b o) (hy : head0 (y.ev e) = some v) (hl : (cellsOf v).length = n) (hi : intoL 1 (cellsOf v) (fr :: ⟨B1, ts⟩ :: M) = some (vs, fr' :: ⟨B1, ts'⟩ :: M))
    (hb : B1[b]? = some (.cells cs)) (hn : o + n ≤ cs.length) (hc : cs.take o ++ vs ++ cs.drop (o + n) = cs') (hf : fitsH bs j wr rd (.store n x y) e = true)
    (h : (B1.set b (.cells cs'))[b]? = some (.cells cs') → WH K bs fs l (j + 1) (noteH j wr (wrOf (.store n x y) e)) (noteH j rd (rdOf (.store n x y) e)) e (fr' :: ⟨B1.set b (.cells cs'), ts'⟩ :: M) R) : WH K bs fs (⟨none, g, .store n x y⟩ :: l) j wr rd e (fr :: ⟨B1, ts⟩ :: M) R :=
  WH.op (v := .undef) hg (sp_stU hx hy hl hi hb hn hc).1 hf (h (sp_stU hx hy hl hi hb hn hc).2)
end
theorem map_get {α β : Type} {f : α → β} {l : List α} {i : Nat} {x : α} (h : l[i]? = some x) : (l.map f)[i]? = some (f x) := by rw [List.getElem?_map, h]; rfl
theorem get_lt {α : Type} {l : List α} {i : Nat} (h : i < l.length) : ∃ x, l[i]? = some x := ⟨_, List.getElem?_eq_getElem h⟩
theorem map_nil {α β : Type} {f : α → β} {l : List α} : l.map f = [] ↔ l = [] := by simp
theorem take_succ_get {α : Type} {l : List α} {k : Nat} {x : α} (h : l[k]? = some x) : l.take (k + 1) = l.take k ++ [x] := by
  obtain ⟨hi, rfl⟩ := List.getElem?_eq_some_iff.1 h
  exact List.take_succ_eq_append_getElem hi
theorem rows_map {α : Type} {f : α → List NV} {P : α → Prop} : ∀ {rows : List (List NV)}, (∀ r ∈ rows, ∃ x, r = f x ∧ P x) → ∃ xs : List α, rows = xs.map f ∧ ∀ x ∈ xs, P x
  | [], _ => ⟨[], rfl, fun x h => by simp at h⟩
  | r :: rows, h => by
    obtain ⟨x, rfl, hx⟩ := h r (List.mem_cons_self ..)
    obtain ⟨xs, rfl, hxs⟩ := rows_map (f := f) (P := P) (rows := rows) fun r hr => h r (List.mem_cons_of_mem _ hr)
    exact ⟨x :: xs, rfl, fun y hy => by rcases List.mem_cons.1 hy with rfl | hy; exact hx; exact hxs y hy⟩
end Go.Proofs.Ytibpoeaableoeaa.Nv
