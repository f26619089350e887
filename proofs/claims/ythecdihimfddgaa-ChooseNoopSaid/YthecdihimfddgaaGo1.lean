/- Attrs of few, and what merging keeps. -/
import Derived.Test.YthecdihimfddgaaAttr1
namespace Go.Proofs.Ythecdihimfddgaa.Nv
open Go
theorem order_self (x : ID) : order x x = 0 := order_zero.2 rfl
theorem merge_self : ∀ l : List ID, merge true l l = l
  | [] => by simp [merge]
  | x :: xs => by
    rw [merge, if_neg (by rw [order_self]; omega), if_pos (order_self x), merge_self xs]
    rfl
theorem merge_nil : ∀ l : List ID, merge true l [] = l
  | [] => by simp [merge]
  | x :: xs => by rw [merge, merge_nil xs]
theorem nil_merge : ∀ l : List ID, merge true [] l = l
  | [] => by simp [merge]
  | x :: xs => by rw [merge, nil_merge xs]; rfl
theorem rows_map {α : Type} {f : α → List NV} {P : α → Prop} : ∀ {rows : List (List NV)}, (∀ r ∈ rows, ∃ x, r = f x ∧ P x) → ∃ xs : List α, rows = xs.map f ∧ ∀ x ∈ xs, P x
  | [], _ => ⟨[], rfl, fun x h => by simp at h⟩
  | r :: rows, h => by
    obtain ⟨x, rfl, hx⟩ := h r (List.mem_cons_self ..)
    obtain ⟨xs, rfl, hxs⟩ := rows_map (f := f) (P := P) (rows := rows) fun r hr => h r (List.mem_cons_of_mem _ hr)
    exact ⟨x :: xs, rfl, fun y hy => by rcases List.mem_cons.1 hy with rfl | hy; exact hx; exact hxs y hy⟩
theorem bytes_of {rows : List (List NV)} (h : ∀ r ∈ rows, (fun l => ∃ x : Int, l = [.int .u8 x] ∧ (Lit.int .u8 x).wf = true) r ∧ r.length = 1) : byteRows rows := by
  intro r hr
  obtain ⟨⟨x, rfl, hx⟩, _⟩ := h r hr
  have h1 : IntKind.u8.min ≤ x ∧ x ≤ IntKind.u8.max := by simpa [Lit.wf] using hx
  have h2 : (0 : Int) ≤ x ∧ x ≤ 255 := h1
  exact ⟨x, rfl, h2.1, h2.2⟩
set_option maxRecDepth 8000 in
theorem c_GoOwn (s : Int) (hs : 0 ≤ s) (za : Nat) (fa : Bool) (ra : List (List NV)) (z : Nat) (f : Bool) (rows : List (List NV)) (l : List ID) (hl : ∀ m : Mem, E0 46 [.slc z f rows] m (mkS 2 (l.map ID.c)) m) (m : Mem) :
    E0 21 [.agg [.int .u32 s, .slc za fa ra, .bool true, .slc z f rows]] m (.agg (attrR (s % 5) l)) m := by
  refine EvF.by (nf := nf21) (args := [.agg [.int .u32 s, .slc za fa ra, .bool true, .slc z f rows]]) rfl (of_decide_eq_true rfl) rfl ?_
  repeat' (first | refine W.seq ?_ | refine W.region ?_ | refine W.drawn ?_ | refine WH.nil ?_ | refine WO.nil ?_ | (refine WO.isUn ?_; first | refine WO.go rfl rfl ?_) | (refine WO.isLoad ?_; first | refine WO.go rfl rfl ?_) | (refine WO.isStore ?_; first | refine WO.st rfl rfl ?_) | refine WO.go rfl rfl ?_ | refine WO.st rfl rfl ?_ | (refine WH.isBin ?_; first | refine WH.rem rfl rfl rfl (by omega) (by omega) ?_ | refine WH.go rfl rfl rfl ?_) | (refine WH.isCall ?_; first | refine WH.ask rfl rfl rfl rfl (hl _) ?_) | (refine WH.isLoad ?_; first | refine WH.go rfl rfl rfl ?_) | (refine WH.isSlice ?_; first | refine WH.go rfl rfl rfl ?_) | (refine WH.isLen ?_; first | refine WH.go rfl rfl rfl ?_) | refine WH.go rfl rfl rfl ?_ | refine W.skip ?_ | refine W.condT rfl ?_ | refine W.condF rfl ?_ | (refine W.fork rfl ?_ ?_ <;> intro hc <;> (fail_if_success (exfalso; cases hc; done)) <;> (first | subst hc | (simp at hc; try omega) | skip)) | refine W.ret ?_)
  exact ⟨.inr rfl, _, rfl, fin rfl rfl rfl⟩
end Go.Proofs.Ythecdihimfddgaa.Nv
