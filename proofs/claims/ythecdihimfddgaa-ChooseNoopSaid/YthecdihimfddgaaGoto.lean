/- Plain lemmas on a scope with labels: what holds at a jump, a loop made of a label and a goto. Of no program. -/
import Derived.Scope
import Derived.ScopeJumps
import Derived.Deep.LoopGhost
import Derived.Tactics
namespace Go.Proofs.Ythecdihimfddgaa.Goto
open Go

def JumpA (J : Nat → Act → World → Prop) (Q : Exit → Act → World → Prop) : Exit → Act → World → Prop
  | .goto l, a, w => J l a w
  | e, a, w => Q e a w
def JumpK (l : Nat) (K : Act → World → Prop) (J : Nat → Act → World → Prop) (Q : Exit → Act → World → Prop) : Exit → Act → World → Prop
  | .goto l', a, w => (l' = l ∧ K a w) ∨ (l' ≠ l ∧ J l' a w)
  | e, a, w => Q e a w

theorem sig_u8 : IntKind.u8.signed = false := rfl
theorem sig_u16 : IntKind.u16.signed = false := rfl
theorem sig_u32 : IntKind.u32.signed = false := rfl
theorem sig_u64 : IntKind.u64.signed = false := rfl
theorem top_u8 : IntKind.u8.max = 255 := rfl
theorem top_u16 : IntKind.u16.max = 65535 := rfl
theorem top_u32 : IntKind.u32.max = 4294967295 := rfl
theorem top_u64 : IntKind.u64.max = 18446744073709551615 := rfl

/-- A cell that is stored what it holds. -/
theorem setCell_same {w : World} {p : Addr} {v : Value} (h : w.cell? p = some v) : w.setCell p v = w := by
  have e : w.heap.modify p.block (fun | .cells c elem frozen => .cells (if p.spot.isSome then c else c.setIfInBounds p.off v) elem frozen | o => o) = w.heap := by
    refine Array.ext (by simp) (fun i h1 h2 => ?_)
    rw [Array.getElem_modify]
    split
    · rename_i hi
      subst hi
      unfold World.cell? at h
      rw [Array.getElem?_eq_getElem h2] at h
      cases ho : w.heap[p.block] with
      | cells c t fr =>
        rw [ho] at h
        dsimp only at h ⊢
        cases hs : p.spot.isSome with
        | true => simp [hs] at h
        | false =>
          simp only [hs, Bool.false_eq_true, if_false] at h ⊢
          congr 1
          obtain ⟨hlt, hv⟩ := Array.getElem?_eq_some_iff.1 h
          refine Array.ext (by simp) (fun j h3 h4 => ?_)
          rw [Array.getElem_setIfInBounds]
          split
          · rename_i hj
            subst hj
            exact hv.symm
          · rfl
      | _ => rfl
    · rfl
  exact congrArg (fun h : Array Obj => ({ w with heap := h } : World)) e

section
variable {P : Program} {Q : Exit → Act → World → Prop} {a : Act} {w : World} {J : Nat → Act → World → Prop} {K : Act → World → Prop} {l : Nat}
theorem jumpA_go (h : J l a w) : JumpA J Q (.goto l) a w := h
theorem jumpA_ret (h : Q .ret a w) : JumpA J Q .ret a w := h
theorem jumpA_normal (h : Q .normal a w) : JumpA J Q .normal a w := h
theorem jumpK_hit (h : K a w) : JumpK l K J Q (.goto l) a w := .inl ⟨rfl, h⟩
theorem jumpK_miss {l' : Nat} (h' : l' ≠ l) (h : J l' a w) : JumpK l K J Q (.goto l') a w := .inr ⟨h', h⟩
theorem jumpK_ret (h : Q .ret a w) : JumpK l K J Q .ret a w := h
theorem jumpK_normal (h : Q .normal a w) : JumpK l K J Q .normal a w := h
theorem then_goto {n : Act → World → Prop} (h : Q (.goto l) a w) : Exit.then n Q (.goto l) a w := h
theorem then_ret {n : Act → World → Prop} (h : Q .ret a w) : Exit.then n Q .ret a w := h

/-- A scope: what holds at every jump is whatever is closed under 'from the label on'. -/
theorem scope_all {c : Code}
    (h : ∀ J : Nat → Act → World → Prop, (∀ l rest a w, findLabel c l = some rest → rest.wp P (JumpA J Q) a w → J l a w) → c.wp P (JumpA J Q) a w) : (Code.scope c).wp P Q a w := by
  intro b k cs
  have close : ∀ l rest a w, findLabel c l = some rest →
      rest.wp P (JumpA (fun l a w => ∃ rest, findLabel c l = some rest ∧ ∃ e a' w', Q e a' w' ∧ Arrives P (lone (b.at a (.code rest :: .inScope c :: k)) cs w) b k cs e a' w') Q) a w →
      ∃ rest, findLabel c l = some rest ∧ ∃ e a' w', Q e a' w' ∧ Arrives P (lone (b.at a (.code rest :: .inScope c :: k)) cs w) b k cs e a' w' := by
    intro l rest a w hf hr
    refine ⟨rest, hf, ?_⟩
    obtain ⟨e, a₁, w₁, hq, harr⟩ := hr b (.inScope c :: k) cs
    cases e with
    | normal => exact ⟨.normal, a₁, w₁, hq, Steps.trans harr (.one step_inScope)⟩
    | exit id => exact ⟨.exit id, a₁, w₁, hq, fun k' hk => harr k' (by simp [exitTo, hk])⟩
    | goto l' =>
      obtain ⟨rest', hf', e₂, a₂, w₂, hq₂, harr₂⟩ := hq
      exact ⟨e₂, a₂, w₂, hq₂, .of_steps (harr _ (by simp [gotoIn, hf'])) harr₂⟩
    | ret => exact ⟨_, a₁, w₁, hq, harr⟩
    | panic ch => exact ⟨_, a₁, w₁, hq, harr⟩
    | outgrown => exact ⟨_, a₁, w₁, hq, harr⟩
  obtain ⟨e, a₁, w₁, hq, harr⟩ := h _ close b (.inScope c :: k) cs
  cases e with
  | normal => exact ⟨.normal, a₁, w₁, hq, .head step_scope (Steps.trans harr (.one step_inScope))⟩
  | exit id => exact ⟨.exit id, a₁, w₁, hq, fun k' hk => .head step_scope (harr k' (by simp [exitTo, hk]))⟩
  | goto l' =>
    obtain ⟨rest', hf', e₂, a₂, w₂, hq₂, harr₂⟩ := hq
    exact ⟨e₂, a₂, w₂, hq₂, .of_steps (.head step_scope (harr _ (by simp [gotoIn, hf']))) harr₂⟩
  | ret => exact ⟨_, a₁, w₁, hq, .of_steps (.one step_scope) harr⟩
  | panic ch => exact ⟨_, a₁, w₁, hq, .of_steps (.one step_scope) harr⟩
  | outgrown => exact ⟨_, a₁, w₁, hq, .of_steps (.one step_scope) harr⟩

/-- What a jump to a label wants: the walk from behind the label on. -/
theorem at_label {c rest : Code} (hJ : ∀ l rest a w, findLabel c l = some rest → rest.wp P (JumpA J Q) a w → J l a w) (l : Nat) (hf : findLabel c l = some (.seq .skip rest)) :
    ∀ a w, rest.wp P (JumpA J Q) a w → J l a w :=
  fun a w h => hJ l _ a w hf (wp_seq (wp_skip h))
theorem at_label_last {c : Code} (hJ : ∀ l rest a w, findLabel c l = some rest → rest.wp P (JumpA J Q) a w → J l a w) (l : Nat) (hf : findLabel c l = some .skip) :
    ∀ a w, Q .normal a w → J l a w :=
  fun a w h => hJ l _ a w hf (wp_skip h)

/-- A LOOP OF A LABEL AND A GOTO: an invariant that bears a number, which every jump back lowers. -/
theorem label_loop {rest : Code} (hl : ∀ a w, rest.wp P (JumpA J Q) a w → J l a w) (I : Act → Nat → Act → World → Prop) (n₀ : Nat) (h₀ : I a n₀ a w)
    (round : ∀ n a' w', I a n a' w' → ∀ (J' : Nat → Act → World → Prop) (K : Act → World → Prop), (∀ k a'' w'', I a k a'' w'' → J' k a'' w'') → (∀ a'' w'', Handed J' n a'' w'' → K a'' w'') → rest.wp P (JumpK l K J Q) a' w') :
    rest.wp P (JumpA J Q) a w := by
  have key : ∀ n a' w', I a n a' w' → rest.wp P (JumpA J Q) a' w' := by
    intro n
    induction n using Nat.strongRecOn with
    | _ n ih =>
      intro a' w' hI
      refine wp_mono (round n a' w' hI (I a) (fun a'' w'' => Handed (I a) n a'' w'') (fun _ _ _ h => h) (fun _ _ h => h)) ?_
      intro e a₁ w₁ hq
      cases e with
      | normal => exact hq
      | exit id => exact hq
      | goto l' =>
        rcases hq with ⟨rfl, m, hlt, hm⟩ | ⟨_, hj⟩
        · exact hl _ _ (ih m hlt _ _ hm)
        · exact hj
      | ret => exact hq
      | panic ch => exact hq
      | outgrown => exact hq
  exact key n₀ a w h₀
end
end Go.Proofs.Ythecdihimfddgaa.Goto
