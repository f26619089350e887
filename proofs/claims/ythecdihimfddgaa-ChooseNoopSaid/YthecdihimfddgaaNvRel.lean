/- What the plain values and memory of Nv say of the model's. Of no program. -/
import Derived.Test.YthecdihimfddgaaNvComp
import Derived.Below
namespace Go.Proofs.Ythecdihimfddgaa.Nv
open Go Go.RowKit

abbrev Pub := Nat → Nat → Option Value
/-- Where a token's spare places lie: in block blk, cells pos to fin. -/
structure Tok where
  blk : Nat
  pos : Nat
  fin : Nat
/-- Ghosts: cells that nobody writes any more; where the blocks of the plain memory lie; where the tokens' places lie; which tokens, which blocks are reckoned with. -/
structure Gh where
  pub : Pub
  blks : Nat → Nat → Option Nat
  toks : Nat → Nat → Option Tok
  live : Nat → Nat → Prop
  vis : Nat → Nat → Prop

inductive R0 (pub : Pub) : NV → Value → Prop where
  | bool (b) : R0 pub (.bool b) (.bool b)
  | int (k n) : R0 pub (.int k n) (.int k n)
  | str (s) : R0 pub (.str s) (.string s)
  | slc0 (sz full a cap) (hf : full = true → cap = 0) : R0 pub (.slc sz full []) (.slice a 0 cap)
  | slc (sz full rows b o cap) (V : Nat → Nat → Value) (hl : ∀ r ∈ rows, r.length = sz) (hc : rows.length ≤ cap) (hf : full = true → cap = rows.length)
      (hp : ∀ i j r d, rows[i]? = some r → r[j]? = some d → pub b (o + i * sz + j) = some (V i j))
      (hr : ∀ i j r d, rows[i]? = some r → r[j]? = some d → R0 pub d (V i j)) : R0 pub (.slc sz full rows) (.slice (some ⟨b, o, none⟩) rows.length cap)

inductive R1 (G : Gh) : NV → Value → Prop where
  | pl {v V} (h : R0 G.pub v V) : R1 G v V
  | own (sz rows l t b o cap T) (hne : rows ≠ []) (h : R0 G.pub (.slc sz false rows) (.slice (some ⟨b, o, none⟩) rows.length cap))
      (ht : G.toks l t = some T) (hb : T.blk = b) (hp : T.pos = o + rows.length * sz) (hf : T.fin = o + cap * sz) : R1 G (.own sz rows l t) (.slice (some ⟨b, o, none⟩) rows.length cap)
  | nilp : R1 G .nilp (.pointer none)
  | ptr (l i o rb) (h : G.blks l i = some rb) : R1 G (.ptr l i o) (.pointer (some ⟨rb, o, none⟩))
  | eptr (cs b o) (V : Nat → Value) (hp : ∀ j d, cs[j]? = some d → G.pub b (o + j) = some (V j)) (hr : ∀ j d, cs[j]? = some d → R0 G.pub d (V j)) : R1 G (.eptr cs) (.pointer (some ⟨b, o, none⟩))
  | nilm : R1 G .nilm (.map none)
  | map (l i rb) (h : G.blks l i = some rb) : R1 G (.map l i) (.map (some rb))
  | msl (l i o n z rb cap) (h : G.blks l i = some rb) (hc : n ≤ cap) : R1 G (.msl l i o n z) (.slice (some ⟨rb, o, none⟩) n cap)
  | fn0 (f) : R1 G (.fn f []) (.func (.func f) #[] #[])

inductive RL {α β : Type} (S : α → β → Prop) : List α → List β → Prop where
  | nil : RL S [] []
  | cons {v V l L} (h : S v V) (t : RL S l L) : RL S (v :: l) (V :: L)

inductive RA (G : Gh) : NV → Value → Prop where
  | one {v V} (h : R1 G v V) : RA G v V
  | agg (cs Vs) (h : RL (R1 G) cs Vs) : RA G (.agg cs) (.agg Vs.toArray)

inductive R2 (G : Gh) : NV → Value → Prop where
  | one {v V} (h : R1 G v V) : R2 G v V
  | undef : R2 G .undef Go.undef
  | fn (f cs Vs) (h : RL (RA G) cs Vs) : R2 G (.fn f cs) (.func (.func f) #[] Vs.toArray)
  | agg (cs Vs) (h : RL (R1 G) cs Vs) : R2 G (.agg cs) (.agg Vs.toArray)
theorem RA.two {G : Gh} {v : NV} {V : Value} (h : RA G v V) : R2 G v V := by
  cases h with
  | one h => exact .one h
  | agg cs Vs h => exact .agg cs Vs h

inductive R (G : Gh) : NV → Value → Prop where
  | two {v V} (h : R2 G v V) : R G v V
  | tup (cs Vs) (h : RL (R2 G) cs Vs) : R G (.tup cs) (.tuple Vs.toArray)

/-- Ghosts that say as much. -/
structure Ext (G G' : Gh) : Prop where
  pub : ∀ b o V, G.pub b o = some V → G'.pub b o = some V
  blks : ∀ l i rb, G.blks l i = some rb → G'.blks l i = some rb
  toks : ∀ l t T, G.toks l t = some T → G'.toks l t = some T
theorem Ext.refl (G : Gh) : Ext G G := ⟨fun _ _ _ h => h, fun _ _ _ h => h, fun _ _ _ h => h⟩
theorem Ext.trans {a b c : Gh} (h : Ext a b) (k : Ext b c) : Ext a c :=
  ⟨fun _ _ _ e => k.pub _ _ _ (h.pub _ _ _ e), fun _ _ _ e => k.blks _ _ _ (h.blks _ _ _ e), fun _ _ _ e => k.toks _ _ _ (h.toks _ _ _ e)⟩

theorem RL.imp {α β : Type} {S S' : α → β → Prop} (h : ∀ v V, S v V → S' v V) {l : List α} {L : List β} (H : RL S l L) : RL S' l L := by
  induction H with
  | nil => exact .nil
  | cons h1 _ ih => exact .cons (h _ _ h1) ih
theorem RL.length {α β : Type} {S : α → β → Prop} {l : List α} {L : List β} (H : RL S l L) : L.length = l.length := by
  induction H with
  | nil => rfl
  | cons _ _ ih => simp [ih]
theorem RL.get {α β : Type} {S : α → β → Prop} {l : List α} {L : List β} (H : RL S l L) : ∀ {i : Nat} {v : α}, l[i]? = some v → ∃ V, L[i]? = some V ∧ S v V := by
  induction H with
  | nil => intro i v h; simp at h
  | cons h1 _ ih =>
    intro i v h
    cases i with
    | zero => simp at h; subst h; exact ⟨_, rfl, h1⟩
    | succ i => simpa using ih (by simpa using h)
theorem RL.append {α β : Type} {S : α → β → Prop} {l l' : List α} {L L' : List β} (H : RL S l L) (H' : RL S l' L') : RL S (l ++ l') (L ++ L') := by
  induction H with
  | nil => exact H'
  | cons h1 _ ih => exact .cons h1 ih
theorem RL.take {α β : Type} {S : α → β → Prop} {l : List α} {L : List β} (H : RL S l L) : ∀ n, RL S (l.take n) (L.take n) := by
  induction H with
  | nil => intro n; simpa using .nil
  | cons h1 _ ih =>
    intro n
    cases n with
    | zero => exact .nil
    | succ n => exact .cons h1 (ih n)
theorem RL.drop {α β : Type} {S : α → β → Prop} {l : List α} {L : List β} (H : RL S l L) : ∀ n, RL S (l.drop n) (L.drop n) := by
  induction H with
  | nil => intro n; simpa using .nil
  | cons h1 t ih =>
    intro n
    cases n with
    | zero => exact .cons h1 t
    | succ n => exact ih n
theorem RL.mk {α β : Type} {S : α → β → Prop} : ∀ {l : List α} {L : List β}, L.length = l.length → (∀ (i : Nat) (v : α) (V : β), l[i]? = some v → L[i]? = some V → S v V) → RL S l L
  | [], [], _, _ => .nil
  | v :: l, V :: L, hl, h => .cons (h 0 v V rfl rfl) (RL.mk (by simpa using hl) (fun i v' V' h1 h2 => h (i + 1) v' V' (by simpa using h1) (by simpa using h2)))
  | [], _ :: _, hl, _ => by simp at hl
  | _ :: _, [], hl, _ => by simp at hl
theorem RL.nil_inv {α β : Type} {S : α → β → Prop} {L : List β} (H : RL S ([] : List α) L) : L = [] := by cases H; rfl
theorem RL.cons_inv {α β : Type} {S : α → β → Prop} {v : α} {l : List α} {L : List β} (H : RL S (v :: l) L) : ∃ V L', L = V :: L' ∧ S v V ∧ RL S l L' := by
  cases H with
  | cons h t => exact ⟨_, _, rfl, h, t⟩

theorem R0.mono {p p' : Pub} (h : ∀ b o V, p b o = some V → p' b o = some V) {v : NV} {V : Value} (H : R0 p v V) : R0 p' v V := by
  induction H with
  | bool b => exact .bool b
  | int k n => exact .int k n
  | str s => exact .str s
  | slc0 sz full a cap hf => exact .slc0 sz full a cap hf
  | slc sz full rows b o cap V hl hc hf hp _ ih => exact .slc sz full rows b o cap V hl hc hf (fun i j r d h1 h2 => h _ _ _ (hp i j r d h1 h2)) ih
theorem R1.mono {G G' : Gh} (h : Ext G G') {v : NV} {V : Value} (H : R1 G v V) : R1 G' v V := by
  cases H with
  | pl H => exact .pl (H.mono h.pub)
  | own sz rows l t b o cap T hne H ht hb hp hf => exact .own sz rows l t b o cap T hne (H.mono h.pub) (h.toks _ _ _ ht) hb hp hf
  | nilp => exact .nilp
  | ptr l i o rb H => exact .ptr l i o rb (h.blks _ _ _ H)
  | eptr cs b o V hp hr => exact .eptr cs b o V (fun j d h1 => h.pub _ _ _ (hp j d h1)) (fun j d h1 => (hr j d h1).mono h.pub)
  | nilm => exact .nilm
  | map l i rb H => exact .map l i rb (h.blks _ _ _ H)
  | msl l i o n z rb cap H hc => exact .msl l i o n z rb cap (h.blks _ _ _ H) hc
  | fn0 f => exact .fn0 f
theorem RA.mono {G G' : Gh} (h : Ext G G') {v : NV} {V : Value} (H : RA G v V) : RA G' v V := by
  cases H with
  | one H => exact .one (H.mono h)
  | agg cs Vs H => exact .agg cs Vs (H.imp fun _ _ k => k.mono h)
theorem R2.mono {G G' : Gh} (h : Ext G G') {v : NV} {V : Value} (H : R2 G v V) : R2 G' v V := by
  cases H with
  | one H => exact .one (H.mono h)
  | undef => exact .undef
  | fn f cs Vs H => exact .fn f cs Vs (H.imp fun _ _ k => k.mono h)
  | agg cs Vs H => exact .agg cs Vs (H.imp fun _ _ k => k.mono h)
theorem R.mono {G G' : Gh} (h : Ext G G') {v : NV} {V : Value} (H : R G v V) : R G' v V := by
  cases H with
  | two H => exact .two (H.mono h)
  | tup cs Vs H => exact .tup cs Vs (H.imp fun _ _ k => k.mono h)

/-! ### Other names -/
structure Shifts (s : Shift) (G G' : Gh) : Prop where
  pub : ∀ b o V, G.pub b o = some V → G'.pub b o = some V
  blks : ∀ l i l' i' rb, s.g l i = some (l', i') → G.blks l i = some rb → G'.blks l' i' = some rb
  toks : ∀ l t l' t' T, s.h l t = some (l', t') → G.toks l t = some T → G'.toks l' t' = some T
theorem R1.sh {s : Shift} {G G' : Gh} (hs : Shifts s G G') {v v' : NV} {V : Value} (H : R1 G v V) (h : sh1 s v = some v') : R1 G' v' V := by
  cases H with
  | pl H =>
    have H' := H.mono hs.pub
    cases H <;> (simp only [sh1, Option.some.injEq] at h; subst h; exact .pl H')
  | own sz rows l t b o cap T hne H ht hb hp hf =>
    simp only [sh1] at h
    split at h
    · rename_i l' t' hh
      simp only [Option.some.injEq] at h
      subst h
      exact .own sz rows l' t' b o cap T hne (H.mono hs.pub) (hs.toks _ _ _ _ _ hh ht) hb hp hf
    · simp only [Option.some.injEq] at h
      subst h
      exact .pl (H.mono hs.pub)
  | nilp => simp only [sh1, Option.some.injEq] at h; subst h; exact .nilp
  | ptr l i o rb H =>
    simp only [sh1] at h
    split at h
    · rename_i l' i' hh
      simp only [Option.some.injEq] at h
      subst h
      exact .ptr _ _ _ _ (hs.blks _ _ _ _ _ hh H)
    · cases h
  | eptr cs b o V hp hr =>
    simp only [sh1, Option.some.injEq] at h
    subst h
    exact .eptr cs b o V (fun j d h1 => hs.pub _ _ _ (hp j d h1)) (fun j d h1 => (hr j d h1).mono hs.pub)
  | nilm => simp only [sh1, Option.some.injEq] at h; subst h; exact .nilm
  | map l i rb H =>
    simp only [sh1] at h
    split at h
    · rename_i l' i' hh
      simp only [Option.some.injEq] at h
      subst h
      exact .map _ _ _ (hs.blks _ _ _ _ _ hh H)
    · cases h
  | msl l i o n z rb cap H hc =>
    simp only [sh1] at h
    split at h
    · rename_i l' i' hh
      simp only [Option.some.injEq] at h
      subst h
      exact .msl _ _ _ _ _ _ _ (hs.blks _ _ _ _ _ hh H) hc
    · cases h
  | fn0 f => simp only [sh1, Option.some.injEq] at h; subst h; exact .fn0 f
theorem RL.sh1 {s : Shift} {G G' : Gh} (hs : Shifts s G G') {l : List NV} {L : List Value} (H : RL (R1 G) l L) : ∀ {l' : List NV}, shL s l = some l' → RL (R1 G') l' L := by
  induction H with
  | nil => intro l' h; simp only [shL, Option.some.injEq] at h; subst h; exact .nil
  | cons h1 _ ih =>
    intro l' h
    simp only [shL] at h
    split at h
    · rename_i v' l'' e1 e2
      simp only [Option.some.injEq] at h
      subst h
      exact .cons (h1.sh hs e1) (ih e2)
    · cases h
theorem RA.sh {s : Shift} {G G' : Gh} (hs : Shifts s G G') {v v' : NV} {V : Value} (H : RA G v V) (h : shA s v = some v') : RA G' v' V := by
  cases H with
  | one H =>
    have : sh1 s v = some v' := by
      cases H with
      | pl H => cases H <;> simpa only [shA] using h
      | _ => simpa only [shA] using h
    exact .one (H.sh hs this)
  | agg cs Vs H =>
    simp only [shA] at h
    split at h
    · rename_i cs' e
      simp only [Option.some.injEq] at h
      subst h
      exact .agg cs' Vs (H.sh1 hs e)
    · cases h
theorem RL.shA {s : Shift} {G G' : Gh} (hs : Shifts s G G') {l : List NV} {L : List Value} (H : RL (RA G) l L) : ∀ {l' : List NV}, shAL s l = some l' → RL (RA G') l' L := by
  induction H with
  | nil => intro l' h; simp only [shAL, Option.some.injEq] at h; subst h; exact .nil
  | cons h1 _ ih =>
    intro l' h
    simp only [shAL] at h
    split at h
    · rename_i v' l'' e1 e2
      simp only [Option.some.injEq] at h
      subst h
      exact .cons (h1.sh hs e1) (ih e2)
    · cases h
theorem R2.sh {s : Shift} {G G' : Gh} (hs : Shifts s G G') {v v' : NV} {V : Value} (H : R2 G v V) (h : sh2 s v = some v') : R2 G' v' V := by
  cases H with
  | one H =>
    have hq : (∃ f, v = .fn f []) ∨ Nv.shA s v = some v' := by
      cases H with
      | fn0 f => exact .inl ⟨f, rfl⟩
      | pl H => cases H <;> exact .inr (by simpa only [sh2] using h)
      | _ => exact .inr (by simpa only [sh2] using h)
    rcases hq with ⟨f, rfl⟩ | hq
    · simp only [sh2, shAL, Option.some.injEq] at h
      subst h
      cases H with
      | pl H => cases H
      | fn0 f => exact .one (.fn0 f)
    · exact (RA.sh hs (.one H) hq).two
  | undef => simp only [sh2, Option.some.injEq] at h; subst h; exact .undef
  | fn f cs Vs H =>
    simp only [sh2] at h
    split at h
    · rename_i cs' e
      simp only [Option.some.injEq] at h
      subst h
      exact .fn f cs' Vs (H.shA hs e)
    · cases h
  | agg cs Vs H => exact (RA.sh hs (.agg cs Vs H) (by simpa only [sh2] using h)).two
theorem RL.sh2 {s : Shift} {G G' : Gh} (hs : Shifts s G G') {l : List NV} {L : List Value} (H : RL (R2 G) l L) : ∀ {l' : List NV}, sh2L s l = some l' → RL (R2 G') l' L := by
  induction H with
  | nil => intro l' h; simp only [sh2L, Option.some.injEq] at h; subst h; exact .nil
  | cons h1 _ ih =>
    intro l' h
    simp only [sh2L] at h
    split at h
    · rename_i v' l'' e1 e2
      simp only [Option.some.injEq] at h
      subst h
      exact .cons (h1.sh hs e1) (ih e2)
    · cases h
theorem R.sh {s : Shift} {G G' : Gh} (hs : Shifts s G G') {v v' : NV} {V : Value} (H : R G v V) (h : shF s v = some v') : R G' v' V := by
  cases H with
  | two H =>
    have : sh2 s v = some v' := by
      cases H with
      | one H => cases H with
        | pl H => cases H <;> simpa only [shF] using h
        | _ => simpa only [shF] using h
      | _ => simpa only [shF] using h
    exact .two (H.sh hs this)
  | tup cs Vs H =>
    simp only [shF] at h
    split at h
    · rename_i cs' e
      simp only [Option.some.injEq] at h
      subst h
      exact .tup cs' Vs (H.sh2 hs e)
    · cases h

/-! ### Memory -/
/-- What frame k's places are said of. -/
def Gh.sub (G : Gh) (k : Nat) : Gh := ⟨G.pub, fun l i => G.blks (k + l) i, fun l t => G.toks (k + l) t, fun l t => G.live (k + l) t, fun l i => G.vis (k + l) i⟩
inductive ObjR (G : Gh) (w : World) (rb : Nat) : NObj → Prop where
  | cells (cs vs el fz) (hw : w.heap[rb]? = some (.cells vs el fz)) (hl : cs.length ≤ vs.size) (hc : ∀ (j : Nat) (c : NV), cs[j]? = some c → ∃ V, vs[j]? = some V ∧ R1 G c V)
      (hz : ∀ (j : Nat), j < cs.length → ¬ (fz.1 ≤ j ∧ j < fz.2)) : ObjR G w rb (.cells cs)
  | mp (es ents ck) (hw : w.heap[rb]? = some (.map ents ck)) (hc : RL (fun (e : NV × NV) (f : MapEntry) => R2 ⟨fun _ _ => none, fun _ _ => none, fun _ _ => none, fun _ _ => False, fun _ _ => False⟩ e.1 f.key ∧ R2 G e.2 f.val) es ents.toList) : ObjR G w rb (.mp es)
def Gh.Owned (G : Gh) (b : Nat) : Prop := (∃ l i, G.vis l i ∧ G.blks l i = some b) ∨ ∃ l t T, G.live l t ∧ G.toks l t = some T ∧ T.blk = b
structure Rel (G : Gh) (m : Mem) (w : World) : Prop where
  pub : ∀ b o V, G.pub b o = some V → w.cell? ⟨b, o, none⟩ = some V
  lt : ∀ l i rb, G.blks l i = some rb → rb < w.heap.size ∧ ∃ o, blk? m l i = some o
  blk : ∀ l i rb, G.vis l i → G.blks l i = some rb → ∃ o, blk? m l i = some o ∧ ObjR (G.sub l) w rb o
  clean : ∀ l i rb, G.blks l i = some rb → ∀ o, G.pub rb o = none
  inj : ∀ l i l' i' rb, G.blks l i = some rb → G.blks l' i' = some rb → l = l' ∧ i = i'
  tok : ∀ l t, G.live l t → ∃ T, G.toks l t = some T ∧ tok? m l t = true ∧ (∃ vs el fz, w.heap[T.blk]? = some (.cells vs el fz) ∧ T.fin ≤ vs.size ∧ ∀ o, T.pos ≤ o → o < T.fin → ¬ (fz.1 ≤ o ∧ o < fz.2)) ∧
    (∀ o, T.pos ≤ o → G.pub T.blk o = none) ∧ ∀ l' i', G.blks l' i' ≠ some T.blk
  tinj : ∀ l t l' t' T T', G.live l t → G.live l' t' → G.toks l t = some T → G.toks l' t' = some T' → T.blk = T'.blk → l = l' ∧ t = t'
  toks : ∀ l t T, G.toks l t = some T → ∃ fr, m[l]? = some fr ∧ t < fr.toks.length
/-- All tokens that the plain memory says are live are reckoned with. -/
def Gh.Full (G : Gh) (m : Mem) : Prop := (∀ l t, tok? m l t = true → G.live l t) ∧ ∀ l i rb, G.blks l i = some rb → G.vis l i
/-- What a step may turn. -/
structure St (G : Gh) (w : World) (G' : Gh) (w' : World) : Prop where
  os : w'.os = w.os
  tape : w'.tape = w.tape
  output : w'.output = w.output
  size : w.heap.size ≤ w'.heap.size
  heap : ∀ b, b < w.heap.size → ¬ G.Owned b → w'.heap[b]? = w.heap[b]?
  owned : ∀ b, b < w.heap.size → G'.Owned b → G.Owned b
  pub : ∀ b o, b < w.heap.size → ¬ G.Owned b → G'.pub b o = G.pub b o
theorem St.refl (G : Gh) (w : World) : St G w G w := ⟨rfl, rfl, rfl, Nat.le_refl _, fun _ _ _ => rfl, fun _ _ h => h, fun _ _ _ _ => rfl⟩
theorem St.trans {a b c : Gh} {w w1 w2 : World} (h : St a w b w1) (k : St b w1 c w2) : St a w c w2 :=
  ⟨k.os.trans h.os, k.tape.trans h.tape, k.output.trans h.output, Nat.le_trans h.size k.size,
    fun x hx ho => (k.heap x (Nat.lt_of_lt_of_le hx h.size) (fun hb => ho (h.owned x hx hb))).trans (h.heap x hx ho),
    fun x hx ho => h.owned x hx (k.owned x (Nat.lt_of_lt_of_le hx h.size) ho),
    fun x o hx ho => (k.pub x o (Nat.lt_of_lt_of_le hx h.size) (fun hb => ho (h.owned x hx hb))).trans (h.pub x o hx ho)⟩
theorem R0.ofNone {v : NV} {V : Value} (h : R0 (fun _ _ => Option.none) v V) {p : Pub} : R0 p v V := h.mono (fun _ _ _ h => by cases h)
end Go.Proofs.Ythecdihimfddgaa.Nv
