/- Rules for runs of the plain level, from the end backward. Of no program. -/
import Derived.Test.YthecdihimfddgaaNvEv
namespace Go.Proofs.Ythecdihimfddgaa.Nv
open Go

abbrev Post := NX → Env → Mem → Prop
structure W (K : Rel4) (c : NC) (e : Env) (m : Mem) (Q : Post) : Prop where
  of :: ex : ∃ x e' m', RunC K c e m x e' m' ∧ Q x e' m'
structure WO (K : Rel4) (l : List Ins) (e : Env) (m : Mem) (Q : Env → Mem → Prop) : Prop where
  of :: ex : ∃ e' m', RunOps K l e m e' m' ∧ Q e' m'
structure WH (K : Rel4) (bs : List Nat) (fs : Nat) (l : List Ins) (j : Nat) (wr rd : List (Nat × Nat × Nat)) (e : Env) (m : Mem) (Q : Env → Mem → Prop) : Prop where
  of :: ex : ∃ e' m', RunHead K bs fs l j wr rd e m e' m' ∧ Q e' m'
section
variable {K : Rel4} {e : Env} {m : Mem} {Q Q' : Post}
theorem W.mono {c : NC} (h : W K c e m Q) (hq : ∀ x e m, Q x e m → Q' x e m) : W K c e m Q' := let ⟨x, e', m', a, b⟩ := h.ex; ⟨x, e', m', a, hq _ _ _ b⟩
theorem W.skip (h : Q .normal e m) : W K .skip e m Q := ⟨_, _, _, .skip _ _, h⟩
theorem W.label {l : Nat} (h : Q .normal e m) : W K (.label l) e m Q := ⟨_, _, _, .label _ _ _, h⟩
theorem W.ret (h : Q .ret e m) : W K .ret e m Q := ⟨_, _, _, .ret _ _, h⟩
theorem W.exit {i : Nat} (h : Q (.exit i) e m) : W K (.exit i) e m Q := ⟨_, _, _, .exit _ _ _, h⟩
theorem W.goto {i : Nat} (h : Q (.goto i) e m) : W K (.goto i) e m Q := ⟨_, _, _, .goto _ _ _, h⟩
def thenQ (K : Rel4) (b : NC) (Q : Post) : Post
  | .normal, e, m => W K b e m Q
  | x, e, m => Q x e m
theorem W.seq {a b : NC} (h : W K a e m (thenQ K b Q)) : W K (.seq a b) e m Q := by
  obtain ⟨x, e1, m1, h1, h2⟩ := h
  cases x with
  | normal => obtain ⟨y, e2, m2, h3, h4⟩ := h2; exact ⟨y, e2, m2, .seq h1 h3, h4⟩
  | _ => exact ⟨_, _, _, .seqx h1 (by simp), h2⟩
theorem W.cond {c : Opd} {a b : NC} {t : Bool} (hc : c.ev e = .bool t) (h1 : t = true → W K a e m Q) (h2 : t = false → W K b e m Q) : W K (.cond c a b) e m Q := by
  cases t with
  | true => obtain ⟨x, e', m', h, k⟩ := h1 rfl; exact ⟨x, e', m', .condt hc h, k⟩
  | false => obtain ⟨x, e', m', h, k⟩ := h2 rfl; exact ⟨x, e', m', .condf hc h, k⟩
def blockQ (i : Nat) (Q : Post) : Post := fun x e m => Q (if x = .exit i then .normal else x) e m
theorem W.block {i : Nat} {c : NC} (h : W K c e m (blockQ i Q)) : W K (.block i c) e m Q :=
  let ⟨_, _, _, h1, h2⟩ := h
  ⟨_, _, _, .block h1, h2⟩
theorem W.region {l : List Ins} (h : WO K l e m (Q .normal)) : W K (.region l none) e m Q :=
  let ⟨_, _, h1, h2⟩ := h
  ⟨_, _, _, .region h1, h2⟩
theorem W.drawn {l : List Ins} {n : Nat} {bs : List Nat} {fs : Nat} (h : WH K bs fs (l.take n) 0 [] [] e m fun e m => WO K (l.drop n) e m (Q .normal)) : W K (.region l (some (n, bs, fs))) e m Q :=
  let ⟨_, _, h1, _, _, h2, h3⟩ := h
  ⟨_, _, _, .drawn h1 h2, h3⟩
def scopeQ (K : Rel4) (s : NC) (Q : Post) : Post := fun x e m => match x with
  | .goto l => ∃ rest, findLab s l = some rest ∧ W K (.inscope s rest) e m Q
  | x => Q x e m
theorem W.inscope {s c : NC} (h : W K c e m (scopeQ K s Q)) : W K (.inscope s c) e m Q := by
  obtain ⟨x, e1, m1, h1, h2⟩ := h
  cases x with
  | goto l => obtain ⟨rest, hf, y, e2, m2, h3, h4⟩ := h2; exact ⟨y, e2, m2, .ingo h1 hf h3, h4⟩
  | _ => exact ⟨_, _, _, .inx h1 (by simp), h2⟩
theorem W.scope {c : NC} (h : W K c e m (scopeQ K c Q)) : W K (.scope c) e m Q := by
  obtain ⟨x, e', m', h1, h2⟩ := W.inscope (s := c) h
  exact ⟨x, e', m', .scope h1, h2⟩
/-- A loop: each round comes to an end, or to a state of less measure. -/
theorem W.loop {c : NC} (I : Nat → Env → Mem → Prop) (hI : ∀ k e m, I k e m → W K c e m fun x e' m' => (x = .normal ∧ ∃ k', k' < k ∧ I k' e' m') ∨ (x ≠ .normal ∧ Q x e' m')) : ∀ (k : Nat) {e : Env} {m : Mem}, I k e m → W K (.loop c) e m Q := by
  intro k
  induction k using Nat.strongRecOn with
  | ind k ih =>
    intro e m h
    obtain ⟨x, e1, m1, h1, h2⟩ := hI k e m h
    rcases h2 with ⟨rfl, k', hk, h2⟩ | ⟨hx, h2⟩
    · obtain ⟨y, e2, m2, h3, h4⟩ := ih k' hk h2
      exact ⟨y, e2, m2, .loop h1 h3, h4⟩
    · exact ⟨x, e1, m1, .loopx h1 hx, h2⟩

/-- A loop, one round at a time. -/
def roundQ (K : Rel4) (c : NC) (Q : Post) : Post
  | .normal, e, m => W K (.loop c) e m Q
  | x, e, m => Q x e m
theorem W.round {c : NC} (h : W K c e m (roundQ K c Q)) : W K (.loop c) e m Q := by
  obtain ⟨x, e1, m1, h1, h2⟩ := h.ex
  cases x with
  | normal => obtain ⟨y, e2, m2, h3, h4⟩ := h2.ex; exact ⟨y, e2, m2, .loop h1 h3, h4⟩
  | _ => exact ⟨_, _, _, .loopx h1 (by simp), h2⟩

variable {R : Env → Mem → Prop}
theorem WO.nil (h : R e m) : WO K [] e m R := ⟨e, m, ⟨rfl, rfl⟩, h⟩
theorem WO.op {i : Ins} {l : List Ins} {v : NV} {m1 : Mem} (hg : wantedN e i.guard = true) (hs : step i.op e m = some (v, m1)) (h : WO K l (updO e i.dst v) m1 R) : WO K (i :: l) e m R := by
  obtain ⟨e', m', h1, h2⟩ := h
  refine ⟨e', m', ?_, h2⟩
  unfold RunOps
  rw [if_pos hg]
  exact ⟨v, m1, .inl hs, h1⟩
theorem WO.off {i : Ins} {l : List Ins} (hg : wantedN e i.guard = false) (h : WO K l (updO e i.dst .undef) m R) : WO K (i :: l) e m R := by
  obtain ⟨e', m', h1, h2⟩ := h
  refine ⟨e', m', ?_, h2⟩
  unfold RunOps
  rw [if_neg (by rw [hg]; simp)]
  exact h1
theorem WO.call {i : Ins} {l : List Ins} {f : FuncId} {args : List NV} {v : NV} {m1 : Mem} (hg : wantedN e i.guard = true) (ha : asks i.op e = some (f, args)) (hk : K f args m v m1) (h : WO K l (updO e i.dst v) m1 R) : WO K (i :: l) e m R := by
  obtain ⟨e', m', h1, h2⟩ := h
  refine ⟨e', m', ?_, h2⟩
  unfold RunOps
  rw [if_pos hg]
  exact ⟨v, m1, .inr ⟨f, args, ha, hk⟩, h1⟩
variable {bs : List Nat} {fs : Nat} {j : Nat} {wr rd : List (Nat × Nat × Nat)}
theorem WH.nil (h : R e m) : WH K bs fs [] j wr rd e m R := ⟨e, m, ⟨rfl, rfl⟩, h⟩
theorem keepsC_step {op : NOp} {v : NV} {m1 : Mem} (hs : step op e m = some (v, m1)) : keepsC op [] m m1 := by
  intro hc
  cases op <;> first | (cases hc; done) | (cases hs; done)
theorem keepsC_same {op : NOp} : keepsC op [] m m := fun _ => ⟨rfl, fun _ _ _ _ h => h⟩
theorem WH.op {i : Ins} {l : List Ins} {v : NV} {m1 : Mem} (hg : wantedN e i.guard = true) (hs : step i.op e m = some (v, m1)) (hf : fitsH bs j wr rd i.op e = true)
    (h : WH K bs fs l (j + 1) (noteH j wr (wrOf i.op e)) (noteH j rd (rdOf i.op e)) (updO e i.dst v) m1 R) : WH K bs fs (i :: l) j wr rd e m R := by
  obtain ⟨e', m', h1, h2⟩ := h
  refine ⟨e', m', ?_, h2⟩
  unfold RunHead
  rw [if_pos hg]
  exact ⟨v, m1, [], .inl hs, keepsC_step hs, hf, rfl, h1⟩
theorem WH.off {i : Ins} {l : List Ins} (hg : wantedN e i.guard = false) (h : WH K bs fs l (j + 1) wr rd (updO e i.dst .undef) m R) : WH K bs fs (i :: l) j wr rd e m R := by
  obtain ⟨e', m', h1, h2⟩ := h
  refine ⟨e', m', ?_, h2⟩
  unfold RunHead
  rw [if_neg (by rw [hg]; simp)]
  exact h1
theorem WH.callK {i : Ins} {l : List Ins} {f : FuncId} {args : List NV} {v : NV} {m1 : Mem} {ws : List (Nat × Nat)} (hg : wantedN e i.guard = true) (ha : asks i.op e = some (f, args)) (hk : headK K (frB fs j) (imB fs j) f args m v m1) (hw : keepsC i.op ws m m1) (hf : fitsH bs j wr rd i.op e = true) (hf2 : fitsW bs j rd ws = true)
    (h : WH K bs fs l (j + 1) (notesH j ws (noteH j wr (wrOf i.op e))) (noteH j rd (rdOf i.op e)) (updO e i.dst v) m1 R) : WH K bs fs (i :: l) j wr rd e m R := by
  obtain ⟨e', m', h1, h2⟩ := h
  refine ⟨e', m', ?_, h2⟩
  unfold RunHead
  rw [if_pos hg]
  exact ⟨v, m1, ws, .inr ⟨f, args, ha, hk⟩, hw, hf, hf2, h1⟩
theorem headK_on {fr im : Bool} {f : FuncId} {args : List NV} {v : NV} (hr : fr = false) (hk : K f args m v m) : headK K fr im f args m v m := by
  subst hr; exact ⟨hk, fun _ => rfl⟩
theorem headK_free {fr im : Bool} {f : FuncId} {args : List NV} {v : NV} (hr : fr = true) (hk : K f args [] v []) : headK K fr im f args m v m := by
  subst hr; exact ⟨hk, rfl⟩
theorem headK_im {fr im : Bool} {f : FuncId} {args : List NV} {v : NV} {m1 : Mem} (hr : fr = false) (hi : im = true) (hk : K f args m v m1) : headK K fr im f args m v m1 := by
  subst hr; subst hi; exact ⟨hk, fun q => by cases q⟩
/-! ### The same, with what an operation comes to reckoned to its head -/
def head0 (v : NV) : Option NV :=
  match v with
  | .undef => some .undef
  | .bool b => some (.bool b)
  | .int k n => some (.int k n)
  | .str s => some (.str s)
  | .slc a b c => some (.slc a b c)
  | .own a b c d => some (.own a b c d)
  | .nilp => some .nilp
  | .ptr a b c => some (.ptr a b c)
  | .eptr a => some (.eptr a)
  | .nilm => some .nilm
  | .map a b => some (.map a b)
  | .fn a b => some (.fn a b)
  | .agg a => some (.agg a)
  | .tup a => some (.tup a)
  | .msl a b c d e => some (.msl a b c d e)
theorem head0_eq (v : NV) : head0 v = some v := by cases v <;> rfl
def headL : List NV → Option (List NV)
  | [] => some []
  | v :: l => match head0 v, headL l with
    | some v, some l => some (v :: l)
    | _, _ => none
theorem headL_eq : ∀ l, headL l = some l
  | [] => rfl
  | v :: l => by simp only [headL, head0_eq, headL_eq l]
def head1 (v : NV) (m : Mem) : Option (NV × Mem) :=
  match v with
  | .undef => some (.undef, m)
  | .bool b => some (.bool b, m)
  | .int k n => some (.int k n, m)
  | .str s => some (.str s, m)
  | .slc a b c => some (.slc a b c, m)
  | .own a b c d => some (.own a b c d, m)
  | .nilp => some (.nilp, m)
  | .ptr a b c => some (.ptr a b c, m)
  | .eptr a => some (.eptr a, m)
  | .nilm => some (.nilm, m)
  | .map a b => some (.map a b, m)
  | .fn a b => match headL b with
    | some b => some (.fn a b, m)
    | none => none
  | .agg a => match headL a with
    | some a => some (.agg a, m)
    | none => none
  | .tup a => match headL a with
    | some a => some (.tup a, m)
    | none => none
  | .msl a b c d e => some (.msl a b c d e, m)
theorem head1_eq (v : NV) (m : Mem) : head1 v m = some (v, m) := by cases v <;> simp only [head1, headL_eq]
def stepH (op : NOp) (e : Env) (m : Mem) : Option (NV × Mem) :=
  match step op e m with
  | some (v, m) => head1 v m
  | none => none
theorem stepH_eq {op : NOp} {e : Env} {m m1 : Mem} {v : NV} (h : stepH op e m = some (v, m1)) : step op e m = some (v, m1) := by
  unfold stepH at h
  split at h
  · rename_i v' m' hs
    rw [head1_eq] at h
    rw [hs]; exact h
  · cases h
theorem WO.go {d : Nat} {g : Option (Nat × Bool)} {op : NOp} {l : List Ins} {v : NV} {m1 : Mem} (hg : wantedN e g = true) (hs : stepH op e m = some (v, m1)) (h : WO K l (upd e d v) m1 R) : WO K (⟨some d, g, op⟩ :: l) e m R := WO.op hg (stepH_eq hs) h
theorem WO.st {g : Option (Nat × Bool)} {op : NOp} {l : List Ins} {v : NV} {m1 : Mem} (hg : wantedN e g = true) (hs : stepH op e m = some (v, m1)) (h : WO K l e m1 R) : WO K (⟨none, g, op⟩ :: l) e m R := WO.op hg (stepH_eq hs) h
theorem WO.no {d : Nat} {g : Option (Nat × Bool)} {op : NOp} {l : List Ins} (hg : wantedN e g = false) (h : WO K l (upd e d .undef) m R) : WO K (⟨some d, g, op⟩ :: l) e m R := WO.off hg h
theorem WO.no' {g : Option (Nat × Bool)} {op : NOp} {l : List Ins} (hg : wantedN e g = false) (h : WO K l e m R) : WO K (⟨none, g, op⟩ :: l) e m R := WO.off hg h
theorem WO.ask {d : Nat} {g : Option (Nat × Bool)} {op : NOp} {l : List Ins} {f : FuncId} {args : List NV} {v : NV} {m1 : Mem} (hg : wantedN e g = true) (ha : asks op e = some (f, args)) (hk : K f args m v m1) (h : WO K l (upd e d v) m1 R) : WO K (⟨some d, g, op⟩ :: l) e m R := WO.call hg ha hk h
theorem WO.ask' {g : Option (Nat × Bool)} {op : NOp} {l : List Ins} {f : FuncId} {args : List NV} {v : NV} {m1 : Mem} (hg : wantedN e g = true) (ha : asks op e = some (f, args)) (hk : K f args m v m1) (h : WO K l e m1 R) : WO K (⟨none, g, op⟩ :: l) e m R := WO.call hg ha hk h
theorem WH.go {d : Nat} {g : Option (Nat × Bool)} {op : NOp} {l : List Ins} {v : NV} {m1 : Mem} (hg : wantedN e g = true) (hs : stepH op e m = some (v, m1)) (hf : fitsH bs j wr rd op e = true) (h : WH K bs fs l (j + 1) (noteH j wr (wrOf op e)) (noteH j rd (rdOf op e)) (upd e d v) m1 R) : WH K bs fs (⟨some d, g, op⟩ :: l) j wr rd e m R := WH.op hg (stepH_eq hs) hf h
theorem WH.st {g : Option (Nat × Bool)} {op : NOp} {l : List Ins} {v : NV} {m1 : Mem} (hg : wantedN e g = true) (hs : stepH op e m = some (v, m1)) (hf : fitsH bs j wr rd op e = true) (h : WH K bs fs l (j + 1) (noteH j wr (wrOf op e)) (noteH j rd (rdOf op e)) e m1 R) : WH K bs fs (⟨none, g, op⟩ :: l) j wr rd e m R := WH.op hg (stepH_eq hs) hf h
theorem WH.no {d : Nat} {g : Option (Nat × Bool)} {op : NOp} {l : List Ins} (hg : wantedN e g = false) (h : WH K bs fs l (j + 1) wr rd (upd e d .undef) m R) : WH K bs fs (⟨some d, g, op⟩ :: l) j wr rd e m R := WH.off hg h
theorem WH.ask {d : Nat} {g : Option (Nat × Bool)} {op : NOp} {l : List Ins} {f : FuncId} {args : List NV} {v : NV} (hg : wantedN e g = true) (ha : asks op e = some (f, args)) (hf : fitsH bs j wr rd op e = true) (hr : frB fs j = false) (hk : K f args m v m)
    (h : WH K bs fs l (j + 1) (noteH j wr (wrOf op e)) (noteH j rd (rdOf op e)) (upd e d v) m R) : WH K bs fs (⟨some d, g, op⟩ :: l) j wr rd e m R := WH.callK (ws := []) hg ha (headK_on hr hk) keepsC_same hf rfl h
theorem WH.askF {d : Nat} {g : Option (Nat × Bool)} {op : NOp} {l : List Ins} {f : FuncId} {args : List NV} {v : NV} (hg : wantedN e g = true) (ha : asks op e = some (f, args)) (hf : fitsH bs j wr rd op e = true) (hr : frB fs j = true) (hk : K f args [] v [])
    (h : WH K bs fs l (j + 1) (noteH j wr (wrOf op e)) (noteH j rd (rdOf op e)) (upd e d v) m R) : WH K bs fs (⟨some d, g, op⟩ :: l) j wr rd e m R := WH.callK (ws := []) hg ha (headK_free hr hk) keepsC_same hf rfl h
/-- A call that turns the memory: ws: which blocks. -/
theorem WH.askI {d : Nat} {g : Option (Nat × Bool)} {op : NOp} {l : List Ins} {f : FuncId} {args : List NV} {v : NV} {m1 : Mem} (ws : List (Nat × Nat)) (hg : wantedN e g = true) (ha : asks op e = some (f, args)) (hf : fitsH bs j wr rd op e = true) (hr : frB fs j = false) (hi : imB fs j = true) (hk : K f args m v m1)
    (hl : m1.length = m.length ∧ ∀ l i o, (l, i) ∉ ws → blk? m l i = some o → blk? m1 l i = some o) (hf2 : fitsW bs j rd ws = true)
    (h : WH K bs fs l (j + 1) (notesH j ws (noteH j wr (wrOf op e))) (noteH j rd (rdOf op e)) (upd e d v) m1 R) : WH K bs fs (⟨some d, g, op⟩ :: l) j wr rd e m R := WH.callK hg ha (headK_im hr hi hk) (fun _ => hl) hf hf2 h
theorem keep_set {bs : List NObj} {ts ts' : List Bool} {M : Mem} {b : Nat} {o : NObj} : (⟨bs.set b o, ts'⟩ :: M : Mem).length = (⟨bs, ts⟩ :: M : Mem).length ∧ ∀ l i o', (l, i) ∉ [(0, b)] → blk? (⟨bs, ts⟩ :: M) l i = some o' → blk? (⟨bs.set b o, ts'⟩ :: M) l i = some o' := by
  refine ⟨rfl, fun l i o' hn h => ?_⟩
  cases l with
  | zero =>
    have hi : i ≠ b := by rintro rfl; exact hn (List.mem_singleton.2 rfl)
    show (bs.set b o)[i]? = some o'
    rw [List.getElem?_set_ne hi.symm]
    exact h
  | succ l => exact h
theorem W.condT {c : Opd} {a b : NC} (hc : c.ev e = .bool true) (h : W K a e m Q) : W K (.cond c a b) e m Q := W.cond hc (fun _ => h) (fun h => by cases h)
theorem W.condF {c : Opd} {a b : NC} (hc : c.ev e = .bool false) (h : W K b e m Q) : W K (.cond c a b) e m Q := W.cond hc (fun h => by cases h) (fun _ => h)
/-! ### Tests: each way by itself -/
theorem WO.testT {d : Nat} {g : Option (Nat × Bool)} {o : BinOp} {x y : Opd} {l : List Ins} (hg : wantedN e g = true) (hs : stepH (.bin o x y) e m = some (.bool true, m)) (h : WO K l (upd e d (.bool true)) m R) : WO K (⟨some d, g, .bin o x y⟩ :: l) e m R := WO.op hg (stepH_eq hs) h
theorem WO.testF {d : Nat} {g : Option (Nat × Bool)} {o : BinOp} {x y : Opd} {l : List Ins} (hg : wantedN e g = true) (hs : stepH (.bin o x y) e m = some (.bool false, m)) (h : WO K l (upd e d (.bool false)) m R) : WO K (⟨some d, g, .bin o x y⟩ :: l) e m R := WO.op hg (stepH_eq hs) h
theorem WO.test {d : Nat} {g : Option (Nat × Bool)} {o : BinOp} {x y : Opd} {l : List Ins} {b : Bool} (hg : wantedN e g = true) (hs : stepH (.bin o x y) e m = some (.bool b, m)) (h1 : b = true → WO K l (upd e d (.bool true)) m R) (h0 : b = false → WO K l (upd e d (.bool false)) m R) : WO K (⟨some d, g, .bin o x y⟩ :: l) e m R := by
  cases b with
  | true => exact WO.op hg (stepH_eq hs) (h1 rfl)
  | false => exact WO.op hg (stepH_eq hs) (h0 rfl)
theorem WO.fork {d : Option Nat} {t : Nat} {want : Bool} {op : NOp} {l : List Ins} {b : Bool} (hb : head1 (e t) m = some (.bool b, m)) (h1 : b = true → WO K (⟨d, some (t, want), op⟩ :: l) (upd e t (.bool true)) m R) (h0 : b = false → WO K (⟨d, some (t, want), op⟩ :: l) (upd e t (.bool false)) m R) : WO K (⟨d, some (t, want), op⟩ :: l) e m R := by
  rw [head1_eq] at hb
  simp only [Option.some.injEq, Prod.mk.injEq, and_true] at hb
  have pin : ∀ c, b = c → upd e t (.bool c) = e := by
    rintro c rfl
    funext s
    rw [upd_def]
    split
    · rename_i hs; rw [hs, hb]
    · rfl
  cases b with
  | true => rw [← pin true rfl]; exact h1 rfl
  | false => rw [← pin false rfl]; exact h0 rfl
theorem W.fork {t : Nat} {a c : NC} {b : Bool} (hb : head1 (e t) m = some (.bool b, m)) (h1 : b = true → W K a (upd e t (.bool true)) m Q) (h0 : b = false → W K c (upd e t (.bool false)) m Q) : W K (.cond (.t t) a c) e m Q := by
  rw [head1_eq] at hb
  simp only [Option.some.injEq, Prod.mk.injEq, and_true] at hb
  have pin : ∀ c, b = c → upd e t (.bool c) = e := by
    rintro c rfl
    funext s
    rw [upd_def]
    split
    · rename_i hs; rw [hs, hb]
    · rfl
  cases b with
  | true => exact W.condT hb (by have := h1 rfl; rwa [pin true rfl] at this)
  | false => exact W.condF hb (by have := h0 rfl; rwa [pin false rfl] at this)
theorem WH.testT {d : Nat} {g : Option (Nat × Bool)} {o : BinOp} {x y : Opd} {l : List Ins} (hg : wantedN e g = true) (hs : stepH (.bin o x y) e m = some (.bool true, m)) (h : WH K bs fs l (j + 1) wr rd (upd e d (.bool true)) m R) : WH K bs fs (⟨some d, g, .bin o x y⟩ :: l) j wr rd e m R := WH.op hg (stepH_eq hs) rfl h
theorem WH.testF {d : Nat} {g : Option (Nat × Bool)} {o : BinOp} {x y : Opd} {l : List Ins} (hg : wantedN e g = true) (hs : stepH (.bin o x y) e m = some (.bool false, m)) (h : WH K bs fs l (j + 1) wr rd (upd e d (.bool false)) m R) : WH K bs fs (⟨some d, g, .bin o x y⟩ :: l) j wr rd e m R := WH.op hg (stepH_eq hs) rfl h
theorem WH.test {d : Nat} {g : Option (Nat × Bool)} {o : BinOp} {x y : Opd} {l : List Ins} {b : Bool} (hg : wantedN e g = true) (hs : stepH (.bin o x y) e m = some (.bool b, m)) (h1 : b = true → WH K bs fs l (j + 1) wr rd (upd e d (.bool true)) m R) (h0 : b = false → WH K bs fs l (j + 1) wr rd (upd e d (.bool false)) m R) : WH K bs fs (⟨some d, g, .bin o x y⟩ :: l) j wr rd e m R := by
  cases b with
  | true => exact WH.op hg (stepH_eq hs) rfl (h1 rfl)
  | false => exact WH.op hg (stepH_eq hs) rfl (h0 rfl)
theorem WH.fork {d : Option Nat} {t : Nat} {want : Bool} {op : NOp} {l : List Ins} {b : Bool} (hb : head1 (e t) m = some (.bool b, m)) (h1 : b = true → WH K bs fs (⟨d, some (t, want), op⟩ :: l) j wr rd (upd e t (.bool true)) m R) (h0 : b = false → WH K bs fs (⟨d, some (t, want), op⟩ :: l) j wr rd (upd e t (.bool false)) m R) : WH K bs fs (⟨d, some (t, want), op⟩ :: l) j wr rd e m R := by
  rw [head1_eq] at hb
  simp only [Option.some.injEq, Prod.mk.injEq, and_true] at hb
  have pin : ∀ c, b = c → upd e t (.bool c) = e := by
    rintro c rfl
    funext s
    rw [upd_def]
    split
    · rename_i hs; rw [hs, hb]
    · rfl
  cases b with
  | true => rw [← pin true rfl]; exact h1 rfl
  | false => rw [← pin false rfl]; exact h0 rfl
/-- A function, by its code. -/
theorem EvF.by {F : FuncId → Option NF} {X : FuncId → List NV → NV → Prop} {f : FuncId} {args as : List NV} {nf : NF} {v : NV} {m' : Mem}
    (hf : F f = some nf) (hn : as.length ≤ nf.ntmps) (ha : shArgs args = some as)
    (hc : W (EvF F X) nf.code (envOf as) (⟨[], []⟩ :: m) fun x e1 m1 => (x = .normal ∨ x = .ret) ∧ ∃ v1, resultOf e1 m1 nf.results = some v1 ∧ pop v1 m1 = some (v, m')) : EvF F X f args m v m' := by
  obtain ⟨x, e1, m1, h1, h2, v1, h3, h4⟩ := hc
  exact EvF.of hf hn ha h1 h2 h3 h4
/-! ### What is known of the memory -/
theorem ld_of {n : Nat} {a : Opd} {l i o : Nat} {cs : List NV} {v v' : NV} (ha : a.ev e = .ptr l i o) (hb : blk? m l i = some (.cells cs)) (hv : cs[o]? = some v) (hs : sh1 (outS l) v = some v') : stepH (.load false n a) e m = some (v', m) := by
  unfold stepH
  simp only [step, ha, loadV, hb, hv, hs, pureM, head1_eq, Bool.false_eq_true, if_false]
theorem lda_of {n : Nat} {a : Opd} {l i o : Nat} {cs vs : List NV} (ha : a.ev e = .ptr l i o) (hb : blk? m l i = some (.cells cs)) (hn : o + n ≤ cs.length) (hs : shL (outS l) ((cs.drop o).take n) = some vs) : stepH (.load true n a) e m = some (.agg vs, m) := by
  unfold stepH
  simp only [step, ha, loadV, hb, hn, if_true, outL, hs, pureM, head1_eq]
theorem sto_of {n : Nat} {a x : Opd} {l i o : Nat} {cs vs : List NV} {m1 : Mem} (ha : a.ev e = .ptr l i o) (hl : (cellsOf (x.ev e)).length = n) (hi : intoL l (cellsOf (x.ev e)) m = some (vs, m1)) (hb : blk? m1 l i = some (.cells cs)) (hn : o + n ≤ cs.length) :
    stepH (.store n a x) e m = some (.undef, setBlk m1 l i (.cells (cs.take o ++ vs ++ cs.drop (o + n)))) := by
  unfold stepH
  simp only [step, ha, storeV, hl, hi, hb, hn, if_true, head1_eq]
theorem ia_of {len sz : Nat} {x y : Opd} {l i o : Nat} {k : IntKind} {n : Int} {n' : Nat} (hx : x.ev e = .ptr l i o) (hy : y.ev e = .int k n) (hn : n = (n' : Int)) (hl : n' < len) : stepH (.iaddr (.arr len sz) x y) e m = some (.ptr l i (o + n' * sz), m) := by
  subst hn
  unfold stepH
  have h1 : asNat (.int k (n' : Int)) = some n' := by simp [asNat, asInt]
  simp only [step, iaddrV, hx, hy, h1, hl, if_true, pureM, head1_eq]
theorem is_of {sz : Nat} {x y : Opd} {f : Bool} {rows : List (List NV)} {c : List NV} {k : IntKind} {n : Int} {n' : Nat} (hx : x.ev e = .slc sz f rows) (hy : y.ev e = .int k n) (hn : n = (n' : Int)) (hc : rows[n']? = some c) : stepH (.iaddr (.slc sz) x y) e m = some (.eptr c, m) := by
  subst hn
  unfold stepH
  have h1 : asNat (.int k (n' : Int)) = some n' := by simp [asNat, asInt]
  simp only [step, iaddrV, hx, hy, h1, hc, if_true, pureM, head1_eq]
theorem setBlk_succ {fr : Fr} {M : Mem} {l i : Nat} {o : NObj} : setBlk (fr :: M) (l + 1) i o = fr :: setBlk M l i o := rfl
theorem set_eq {α : Type} {x : α} : ∀ {cs : List α} {o : Nat}, o < cs.length → cs.take o ++ [x] ++ cs.drop (o + 1) = cs.set o x
  | [], _, h => by simp at h
  | _ :: _, 0, _ => rfl
  | c :: cs, o + 1, h => by
    show c :: (cs.take o ++ [x] ++ cs.drop (o + 1)) = c :: cs.set o x
    rw [set_eq (by simpa using h)]
/-- One cell of an older frame is written. -/
theorem st1_of {a x : Opd} {fr : Fr} {M : Mem} {l i o : Nat} {cs : List NV} {v v' : NV} (ha : a.ev e = .ptr (l + 1) i o) (hx' : head0 (x.ev e) = some v) (hc : cellsOf v = [v]) (hv : into (l + 1) v (fr :: M) = some (v', fr :: M)) (hb : blk? M l i = some (.cells cs)) (ho : o < cs.length) :
    stepH (.store 1 a x) e (fr :: M) = some (.undef, fr :: setBlk M l i (.cells (cs.set o v'))) := by
  have hx : x.ev e = v := by rw [head0_eq] at hx'; exact Option.some.inj hx'
  have := sto_of (n := 1) (x := x) (vs := [v']) (m := fr :: M) (m1 := fr :: M) ha (by rw [hx, hc]; rfl) (by rw [hx, hc]; simp only [intoL, hv]) (show blk? (fr :: M) (l + 1) i = some (.cells cs) from hb) (by omega)
  rw [this, set_eq ho, setBlk_succ]
/-- The end of a function. -/
def popH (v : NV) (m : Mem) : Option (NV × Mem) :=
  match pop v m with
  | some (v, m) => head1 v m
  | none => none
theorem fin {v1 v v' : NV} {m1 m' m2 : Mem} (h : popH v1 m1 = some (v, m')) (hv : v = v') (hm : m' = m2) : pop v1 m1 = some (v', m2) := by
  subst hv; subst hm
  unfold popH at h
  split at h
  · rename_i hp
    rw [head1_eq] at h
    rw [hp]; exact h
  · cases h
theorem pin {t : Nat} {v : NV} (h : e t = v) : upd e t v = e := by
  funext s
  rw [upd_def]
  split
  · rename_i hs; rw [hs, h]
  · rfl
end
end Go.Proofs.Ythecdihimfddgaa.Nv
