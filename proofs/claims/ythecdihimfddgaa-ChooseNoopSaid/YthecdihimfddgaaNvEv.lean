/- Runs of the plain level, reckoned: for calls whose arguments are known. Of no program. -/
import Derived.Test.YthecdihimfddgaaNv
namespace Go.Proofs.Ythecdihimfddgaa.Nv
open Go

/-! ### Are two memories the same? -/
mutual
def sameV : NV → NV → Bool
  | .undef, .undef => true
  | .bool a, .bool b => a == b
  | .int k n, .int j o => decide (k = j) && decide (n = o)
  | .str a, .str b => decide (a.data.toList = b.data.toList)
  | .slc a f r, .slc b g s => a == b && f == g && sameLL r s
  | .own a r l t, .own b s m u => a == b && l == m && t == u && sameLL r s
  | .nilp, .nilp => true
  | .ptr a b c, .ptr d e f => a == d && b == e && c == f
  | .eptr a, .eptr b => sameL a b
  | .nilm, .nilm => true
  | .map a b, .map d e => a == d && b == e
  | .msl a b c d e, .msl a' b' c' d' e' => a == a' && b == b' && c == c' && d == d' && e == e'
  | .fn f a, .fn g b => f == g && sameL a b
  | .agg a, .agg b => sameL a b
  | .tup a, .tup b => sameL a b
  | _, _ => false
def sameL : List NV → List NV → Bool
  | [], [] => true
  | a :: l, b :: r => sameV a b && sameL l r
  | _, _ => false
def sameLL : List (List NV) → List (List NV) → Bool
  | [], [] => true
  | a :: l, b :: r => sameL a b && sameLL l r
  | _, _ => false
end
mutual
theorem sameV_eq : ∀ (a b : NV), sameV a b = true → a = b
  | .undef, b, h => by cases b <;> simp [sameV] at h ⊢
  | .bool a, b, h => by cases b <;> simp [sameV] at h ⊢; exact h
  | .int k n, b, h => by cases b <;> simp [sameV] at h ⊢; exact h
  | .str a, b, h => by
    cases b <;> simp [sameV] at h ⊢
    rename_i s
    cases a; cases s; simp only [ByteArray.mk.injEq]; exact h
  | .slc a f r, b, h => by cases b <;> simp [sameV] at h ⊢; exact ⟨h.1.1, h.1.2, sameLL_eq _ _ h.2⟩
  | .own a r l t, b, h => by cases b <;> simp [sameV] at h ⊢; exact ⟨h.1.1.1, sameLL_eq _ _ h.2, h.1.1.2, h.1.2⟩
  | .nilp, b, h => by cases b <;> simp [sameV] at h ⊢
  | .ptr x y z, b, h => by cases b <;> simp [sameV] at h ⊢; exact ⟨h.1.1, h.1.2, h.2⟩
  | .eptr a, b, h => by cases b <;> simp [sameV] at h ⊢; exact sameL_eq _ _ h
  | .nilm, b, h => by cases b <;> simp [sameV] at h ⊢
  | .map x y, b, h => by cases b <;> simp [sameV] at h ⊢; exact h
  | .msl _ _ _ _ _, b, h => by cases b <;> simp [sameV] at h ⊢; exact ⟨h.1.1.1.1, h.1.1.1.2, h.1.1.2, h.1.2, h.2⟩
  | .fn f a, b, h => by cases b <;> simp [sameV] at h ⊢; exact ⟨h.1, sameL_eq _ _ h.2⟩
  | .agg a, b, h => by cases b <;> simp [sameV] at h ⊢; exact sameL_eq _ _ h
  | .tup a, b, h => by cases b <;> simp [sameV] at h ⊢; exact sameL_eq _ _ h
theorem sameL_eq : ∀ (a b : List NV), sameL a b = true → a = b
  | [], b, h => by cases b <;> simp [sameL] at h ⊢
  | x :: a, b, h => by
    cases b <;> simp [sameL] at h ⊢
    exact ⟨sameV_eq _ _ h.1, sameL_eq _ _ h.2⟩
theorem sameLL_eq : ∀ (a b : List (List NV)), sameLL a b = true → a = b
  | [], b, h => by cases b <;> simp [sameLL] at h ⊢
  | x :: a, b, h => by
    cases b <;> simp [sameLL] at h ⊢
    exact ⟨sameL_eq _ _ h.1, sameLL_eq _ _ h.2⟩
end
def sameE : List (NV × NV) → List (NV × NV) → Bool
  | [], [] => true
  | a :: l, b :: r => sameV a.1 b.1 && sameV a.2 b.2 && sameE l r
  | _, _ => false
theorem sameE_eq : ∀ (a b : List (NV × NV)), sameE a b = true → a = b
  | [], b, h => by cases b <;> simp [sameE] at h ⊢
  | x :: a, b, h => by
    cases b with
    | nil => simp [sameE] at h
    | cons y b =>
      simp only [sameE, Bool.and_eq_true] at h
      obtain ⟨x1, x2⟩ := x
      obtain ⟨y1, y2⟩ := y
      have h1 : x1 = y1 := sameV_eq _ _ h.1.1
      have h2 : x2 = y2 := sameV_eq _ _ h.1.2
      rw [h1, h2, sameE_eq _ _ h.2]
def sameO : NObj → NObj → Bool
  | .cells a, .cells b => sameL a b
  | .mp a, .mp b => sameE a b
  | _, _ => false
theorem sameO_eq (a b : NObj) (h : sameO a b = true) : a = b := by
  cases a <;> cases b <;> simp [sameO] at h ⊢
  · exact sameL_eq _ _ h
  · exact sameE_eq _ _ h
def sameOL : List NObj → List NObj → Bool
  | [], [] => true
  | a :: l, b :: r => sameO a b && sameOL l r
  | _, _ => false
theorem sameOL_eq : ∀ (a b : List NObj), sameOL a b = true → a = b
  | [], b, h => by cases b <;> simp [sameOL] at h ⊢
  | x :: a, b, h => by
    cases b <;> simp [sameOL] at h ⊢
    exact ⟨sameO_eq _ _ h.1, sameOL_eq _ _ h.2⟩
def sameM : Mem → Mem → Bool
  | [], [] => true
  | a :: l, b :: r => sameOL a.blks b.blks && decide (a.toks = b.toks) && sameM l r
  | _, _ => false
theorem sameM_eq : ∀ (a b : Mem), sameM a b = true → a = b
  | [], b, h => by cases b <;> simp [sameM] at h ⊢
  | x :: a, b, h => by
    cases b with
    | nil => simp [sameM] at h
    | cons y b =>
      simp only [sameM, Bool.and_eq_true, decide_eq_true_eq] at h
      obtain ⟨x1, x2⟩ := x
      obtain ⟨y1, y2⟩ := y
      simp only at h
      rw [sameOL_eq _ _ h.1.1, h.1.2, sameM_eq _ _ h.2]

/-! ### Runs -/
abbrev Call4 := FuncId → List NV → Mem → Option (NV × Mem)
def ev1 (call : Call4) (op : NOp) (e : Env) (m : Mem) : Option (NV × Mem) :=
  match asks op e with
  | some (f, args) => call f args m
  | none => step op e m
def evOps (call : Call4) : List Ins → Env → Mem → Option (Env × Mem)
  | [], e, m => some (e, m)
  | i :: l, e, m =>
    match wantedN e i.guard with
    | true => match ev1 call i.op e m with
      | some (v, m) => evOps call l (updO e i.dst v) m
      | none => none
    | false => evOps call l (updO e i.dst .undef) m
def evPure (call : Call4) : Call4 := fun f a m =>
  match call f a m with
  | some (v, m') => if sameM m' m = true then some (v, m) else none
  | none => none
/-- As a call in a drawn head. -/
def evHd (call : Call4) (fr im : Bool) : Call4 := fun f a m =>
  if fr then (match call f a [] with
    | some (v, []) => some (v, m)
    | _ => none) else if im then call f a m else evPure call f a m
def diffB (l : Nat) : List NObj → List NObj → Nat → List (Nat × Nat)
  | o :: bs, o' :: bs', i => if sameO o o' then diffB l bs bs' (i + 1) else (l, i) :: diffB l bs bs' (i + 1)
  | _ :: bs, [], i => (l, i) :: diffB l bs [] (i + 1)
  | [], _, _ => []
def diffM : Mem → Mem → Nat → List (Nat × Nat)
  | fr :: m, fr' :: m1, l => diffB l fr.blks fr'.blks 0 ++ diffM m m1 (l + 1)
  | _, _, _ => []
theorem diffB_spec {l : Nat} {o : NObj} : ∀ (bs bs' : List NObj) (s j : Nat), (l, s + j) ∉ diffB l bs bs' s → bs[j]? = some o → bs'[j]? = some o
  | [], _, _, _, _, h => by simp at h
  | x :: bs, [], s, j, hn, h => by
    unfold diffB at hn
    simp only [List.mem_cons, not_or] at hn
    cases j with
    | zero => exact absurd rfl hn.1
    | succ j => exact diffB_spec bs [] (s + 1) j (by rw [show s + 1 + j = s + (j + 1) by omega]; exact hn.2) (by simpa using h)
  | x :: bs, y :: bs', s, j, hn, h => by
    unfold diffB at hn
    cases j with
    | zero =>
      split at hn
      · rename_i hq
        have := sameO_eq _ _ hq
        simp at h ⊢
        rw [← this]; exact h
      · simp at hn
    | succ j =>
      have hn' : (l, s + 1 + j) ∉ diffB l bs bs' (s + 1) := by
        rw [show s + 1 + j = s + (j + 1) by omega]
        split at hn
        · exact hn
        · simp only [List.mem_cons, not_or] at hn; exact hn.2
      have := diffB_spec bs bs' (s + 1) j hn' (by simpa using h)
      simpa using this
theorem diffM_spec {i : Nat} {o : NObj} : ∀ (m m1 : Mem) (s l : Nat), m1.length = m.length → (s + l, i) ∉ diffM m m1 s → blk? m l i = some o → blk? m1 l i = some o
  | [], _, _, _, _, _, h => by simp [blk?] at h
  | fr :: m, [], _, _, hl, _, _ => by simp at hl
  | fr :: m, fr' :: m1, s, l, hl, hn, h => by
    unfold diffM at hn
    simp only [List.mem_append, not_or] at hn
    cases l with
    | zero => exact diffB_spec fr.blks fr'.blks 0 i (by rw [Nat.zero_add]; exact hn.1) h
    | succ l => exact diffM_spec m m1 (s + 1) l (by simpa using hl) (by rw [show s + 1 + l = s + (l + 1) by omega]; exact hn.2) h
def wsOf (op : NOp) (m m1 : Mem) : List (Nat × Nat) := if isCall op then diffM m m1 0 else []
theorem wsOf_ok {op : NOp} {m m1 : Mem} (h : m1.length = m.length) : keepsC op (wsOf op m m1) m m1 := by
  intro hc
  refine ⟨h, fun l i o hn hb => ?_⟩
  unfold wsOf at hn
  rw [if_pos hc] at hn
  exact diffM_spec m m1 0 l h (by rw [Nat.zero_add]; exact hn) hb
def evHead (call : Call4) (bs : List Nat) (fs : Nat) : List Ins → Nat → List (Nat × Nat × Nat) → List (Nat × Nat × Nat) → Env → Mem → Option (Env × Mem)
  | [], _, _, _, e, m => some (e, m)
  | i :: l, j, wr, rd, e, m =>
    match wantedN e i.guard with
    | true => match ev1 (evHd call (frB fs j) (imB fs j)) i.op e m with
      | some (v, m1) => match fitsH bs j wr rd i.op e && fitsW bs j rd (wsOf i.op m m1) && decide (m1.length = m.length) with
        | true => evHead call bs fs l (j + 1) (notesH j (wsOf i.op m m1) (noteH j wr (wrOf i.op e))) (noteH j rd (rdOf i.op e)) (updO e i.dst v) m1
        | false => none
      | none => none
    | false => evHead call bs fs l (j + 1) wr rd (updO e i.dst .undef) m
def evC (call : Call4) : Nat → NC → Env → Mem → Option (NX × Env × Mem)
  | 0, _, _, _ => none
  | n + 1, c, e, m =>
    match c with
    | .skip => some (.normal, e, m)
    | .label _ => some (.normal, e, m)
    | .ret => some (.ret, e, m)
    | .exit i => some (.exit i, e, m)
    | .goto l => some (.goto l, e, m)
    | .region l none => match evOps call l e m with
      | some (e, m) => some (.normal, e, m)
      | none => none
    | .region l (some (k, bs, fs)) => match evHead call bs fs (l.take k) 0 [] [] e m with
      | some (e, m) => match evOps call (l.drop k) e m with
        | some (e, m) => some (.normal, e, m)
        | none => none
      | none => none
    | .seq a b => match evC call n a e m with
      | some (.normal, e, m) => evC call n b e m
      | r => r
    | .cond c a b => match c.ev e with
      | .bool true => evC call n a e m
      | .bool false => evC call n b e m
      | _ => none
    | .block i c => match evC call n c e m with
      | some (x, e, m) => some (if x = .exit i then .normal else x, e, m)
      | none => none
    | .loop c => match evC call n c e m with
      | some (.normal, e, m) => evC call n (.loop c) e m
      | r => r
    | .scope c => evC call n (.inscope c c) e m
    | .inscope s c => match evC call n c e m with
      | some (.goto l, e, m) => match findLab s l with
        | some rest => evC call n (.inscope s rest) e m
        | none => none
      | r => r
    | .bad => none
/-- xf: what functions that are not walked come to. -/
def evX (F : FuncId → Option NF) (xf : FuncId → List NV → Option NV) : Nat → Call4
  | 0 => fun _ _ _ => none
  | n + 1 => fun f args m =>
    match F f with
    | some nf => match shArgs args with
      | some as => if as.length ≤ nf.ntmps then (match evC (evX F xf n) n nf.code (envOf as) (⟨[], []⟩ :: m) with
        | some (x, e1, m1) => match x with
          | .normal => (match resultOf e1 m1 nf.results with
            | some v1 => pop v1 m1
            | none => none)
          | .ret => (match resultOf e1 m1 nf.results with
            | some v1 => pop v1 m1
            | none => none)
          | _ => none
        | none => none) else none
      | none => none
    | none => match xf f args with
      | some v => some (v, m)
      | none => none
def evF (F : FuncId → Option NF) : Nat → Call4 := evX F fun _ _ => none

def Sound (call : Call4) (K : Rel4) : Prop := ∀ f a m v m', call f a m = some (v, m') → K f a m v m'
theorem Sound.pure {call : Call4} {K : Rel4} (h : Sound call K) : Sound (evPure call) (pureK K) := by
  intro f a m v m' hc
  unfold evPure at hc
  split at hc
  · rename_i v' m2 h1
    split at hc
    · rename_i hm
      simp only [Option.some.injEq, Prod.mk.injEq] at hc
      obtain ⟨rfl, rfl⟩ := hc
      rw [sameM_eq _ _ hm] at h1
      exact ⟨h _ _ _ _ _ h1, rfl⟩
    · cases hc
  · cases hc
theorem Sound.head {call : Call4} {K : Rel4} (h : Sound call K) (fr im : Bool) : Sound (evHd call fr im) (headK K fr im) := by
  intro f a m v m' hc
  unfold evHd at hc
  unfold headK
  cases fr with
  | false =>
    rw [if_neg (by simp)] at hc ⊢
    cases im with
    | false =>
      rw [if_neg (by simp)] at hc
      obtain ⟨h1, h2⟩ := h.pure _ _ _ _ _ hc
      exact ⟨h1, fun _ => h2⟩
    | true =>
      rw [if_pos rfl] at hc
      exact ⟨h _ _ _ _ _ hc, fun q => by cases q⟩
  | true =>
    rw [if_pos rfl] at hc ⊢
    split at hc
    · rename_i v' h1
      simp only [Option.some.injEq, Prod.mk.injEq] at hc
      obtain ⟨rfl, rfl⟩ := hc
      exact ⟨h _ _ _ _ _ h1, rfl⟩
    · cases hc
theorem ev1_run {call : Call4} {K : Rel4} (hK : Sound call K) {op : NOp} {e : Env} {m m' : Mem} {v : NV} (h : ev1 call op e m = some (v, m')) : Run1 K op e m v m' := by
  unfold ev1 at h
  split at h
  · rename_i f args ha
    exact .inr ⟨f, args, ha, hK _ _ _ _ _ h⟩
  · exact .inl h
theorem evOps_run {call : Call4} {K : Rel4} (hK : Sound call K) : ∀ (l : List Ins) (e : Env) (m : Mem) (e' : Env) (m' : Mem), evOps call l e m = some (e', m') → RunOps K l e m e' m'
  | [], e, m, e', m', h => by
    simp only [evOps, Option.some.injEq, Prod.mk.injEq] at h
    exact ⟨h.1.symm, h.2.symm⟩
  | i :: l, e, m, e', m', h => by
    simp only [evOps] at h
    unfold RunOps
    split at h
    · rename_i hw
      rw [if_pos hw]
      split at h
      · rename_i v m1 h1
        exact ⟨v, m1, ev1_run hK h1, evOps_run hK l _ _ _ _ h⟩
      · cases h
    · rename_i hw
      rw [if_neg (by rw [hw]; simp)]
      exact evOps_run hK l _ _ _ _ h
theorem evHead_run {call : Call4} {K : Rel4} (hK : Sound call K) {bs : List Nat} {fs : Nat} : ∀ (l : List Ins) (j : Nat) (wr rd : List (Nat × Nat × Nat)) (e : Env) (m : Mem) (e' : Env) (m' : Mem), evHead call bs fs l j wr rd e m = some (e', m') → RunHead K bs fs l j wr rd e m e' m'
  | [], j, wr, rd, e, m, e', m', h => by
    simp only [evHead, Option.some.injEq, Prod.mk.injEq] at h
    exact ⟨h.1.symm, h.2.symm⟩
  | i :: l, j, wr, rd, e, m, e', m', h => by
    simp only [evHead] at h
    unfold RunHead
    split at h
    · rename_i hw
      rw [if_pos hw]
      split at h
      · rename_i v m1 h1
        split at h
        · rename_i hf
          simp only [Bool.and_eq_true, decide_eq_true_eq] at hf
          exact ⟨v, m1, _, ev1_run (hK.head _ _) h1, wsOf_ok hf.2, hf.1.1, hf.1.2, evHead_run hK l _ _ _ _ _ _ _ h⟩
        · cases h
      · cases h
    · rename_i hw
      rw [if_neg (by rw [hw]; simp)]
      exact evHead_run hK l _ _ _ _ _ _ _ h
theorem evC_run {call : Call4} {K : Rel4} (hK : Sound call K) : ∀ (n : Nat) (c : NC) (e : Env) (m : Mem) (x : NX) (e' : Env) (m' : Mem), evC call n c e m = some (x, e', m') → RunC K c e m x e' m'
  | 0, _, _, _, _, _, _, h => by cases h
  | n + 1, c, e, m, x, e', m', h => by
    have ih := evC_run hK n
    have fin : ∀ {x1 : NX} {e1 : Env} {m1 : Mem}, some (x1, e1, m1) = some (x, e', m') → x1 = x ∧ e1 = e' ∧ m1 = m' := fun h => by
      simp only [Option.some.injEq, Prod.mk.injEq] at h; exact h
    cases c <;> simp only [evC] at h
    case skip => obtain ⟨rfl, rfl, rfl⟩ := fin h; exact .skip _ _
    case label => obtain ⟨rfl, rfl, rfl⟩ := fin h; exact .label _ _ _
    case ret => obtain ⟨rfl, rfl, rfl⟩ := fin h; exact .ret _ _
    case exit => obtain ⟨rfl, rfl, rfl⟩ := fin h; exact .exit _ _ _
    case goto => obtain ⟨rfl, rfl, rfl⟩ := fin h; exact .goto _ _ _
    case bad => cases h
    case region l d =>
      cases d with
      | none =>
        simp only at h
        split at h
        · rename_i h1
          obtain ⟨rfl, rfl, rfl⟩ := fin h
          exact .region (evOps_run hK _ _ _ _ _ h1)
        · cases h
      | some d =>
        obtain ⟨k, bs⟩ := d
        simp only at h
        split at h
        · rename_i h1
          split at h
          · rename_i h2
            obtain ⟨rfl, rfl, rfl⟩ := fin h
            exact .drawn (evHead_run hK _ _ _ _ _ _ _ _ h1) (evOps_run hK _ _ _ _ _ h2)
          · cases h
        · cases h
    case seq a b =>
      cases h1 : evC call n a e m with
      | none => rw [h1] at h; cases h
      | some r =>
        obtain ⟨y, e1, m1⟩ := r
        rw [h1] at h
        cases y with
        | normal => exact .seq (ih _ _ _ _ _ _ h1) (ih _ _ _ _ _ _ h)
        | _ => obtain ⟨rfl, rfl, rfl⟩ := fin h; exact .seqx (ih _ _ _ _ _ _ h1) (by simp)
    case cond c a b =>
      split at h
      · rename_i hc; exact .condt hc (ih _ _ _ _ _ _ h)
      · rename_i hc; exact .condf hc (ih _ _ _ _ _ _ h)
      · cases h
    case block i c =>
      split at h
      · rename_i h1
        obtain ⟨rfl, rfl, rfl⟩ := fin h
        exact .block (ih _ _ _ _ _ _ h1)
      · cases h
    case loop c =>
      cases h1 : evC call n c e m with
      | none => rw [h1] at h; cases h
      | some r =>
        obtain ⟨y, e1, m1⟩ := r
        rw [h1] at h
        cases y with
        | normal => exact .loop (ih _ _ _ _ _ _ h1) (ih _ _ _ _ _ _ h)
        | _ => obtain ⟨rfl, rfl, rfl⟩ := fin h; exact .loopx (ih _ _ _ _ _ _ h1) (by simp)
    case scope c => exact .scope (ih _ _ _ _ _ _ h)
    case inscope s c =>
      cases h1 : evC call n c e m with
      | none => rw [h1] at h; cases h
      | some r =>
        obtain ⟨y, e1, m1⟩ := r
        rw [h1] at h
        cases y with
        | goto l =>
          simp only at h
          split at h
          · rename_i rest hf; exact .ingo (ih _ _ _ _ _ _ h1) hf (ih _ _ _ _ _ _ h)
          · cases h
        | _ => obtain ⟨rfl, rfl, rfl⟩ := fin h; exact .inx (ih _ _ _ _ _ _ h1) (by simp)
theorem evX_run {F : FuncId → Option NF} {X : FuncId → List NV → NV → Prop} {xf : FuncId → List NV → Option NV} (hx : ∀ f a v, xf f a = some v → X f a v) : ∀ (n : Nat), Sound (evX F xf n) (EvN F X n)
  | 0 => fun f a m v m' h => by cases h
  | n + 1 => fun f a m v m' h => by
    have ih := evX_run (F := F) hx n
    simp only [evX] at h
    split at h
    · rename_i nf hf
      split at h
      · rename_i as ha
        split at h
        · rename_i hl
          split at h
          · rename_i x e1 m1 h1
            have hr := evC_run ih _ _ _ _ _ _ _ h1
            split at h
            · split at h
              · rename_i v1 h2; exact .inr ⟨nf, as, _, e1, m1, v1, hf, hl, ha, hr, .inl rfl, h2, h⟩
              · cases h
            · split at h
              · rename_i v1 h2; exact .inr ⟨nf, as, _, e1, m1, v1, hf, hl, ha, hr, .inr rfl, h2, h⟩
              · cases h
            · cases h
          · cases h
        · cases h
      · cases h
    · split at h
      · rename_i v' hv
        simp only [Option.some.injEq, Prod.mk.injEq] at h
        obtain ⟨rfl, rfl⟩ := h
        exact .inl ⟨hx _ _ _ hv, rfl⟩
      · cases h
/-- A call that is reckoned. -/
theorem EvF.ev {F : FuncId → Option NF} {X : FuncId → List NV → NV → Prop} (n : Nat) {f : FuncId} {a : List NV} {m : Mem} {v : NV} {m' : Mem} (h : evF F n f a m = some (v, m')) : EvF F X f a m v m' :=
  ⟨n, evX_run (fun _ _ _ h => by cases h) n _ _ _ _ _ h⟩
theorem EvF.evx {F : FuncId → Option NF} {X : FuncId → List NV → NV → Prop} {xf : FuncId → List NV → Option NV} (hx : ∀ f a v, xf f a = some v → X f a v) (n : Nat) {f : FuncId} {a : List NV} {m : Mem} {v : NV} {m' : Mem} (h : evX F xf n f a m = some (v, m')) : EvF F X f a m v m' :=
  ⟨n, evX_run hx n _ _ _ _ _ h⟩
end Go.Proofs.Ythecdihimfddgaa.Nv
