/- More rules for runs of the plain level: slots held, induction, whole numbers, slices, what is appended to. Of no program. -/
import Derived.Test.YthecdihimfddgaaNvW
import Derived.Test.YthecdihimfddgaaNvFrame
namespace Go.Proofs.Ythecdihimfddgaa.Nv
open Go

/-! ### Slots -/
def pins (b : Env) : List (Nat × NV) → Env
  | [] => b
  | p :: l => upd (pins b l) p.1 p.2
def Pinned (e : Env) : List (Nat × NV) → Prop
  | [] => True
  | p :: l => e p.1 = p.2 ∧ Pinned e l
theorem pins_eq {e : Env} : ∀ {l : List (Nat × NV)}, Pinned e l → pins e l = e
  | [], _ => rfl
  | p :: l, ⟨h, t⟩ => by
    show upd (pins e l) p.1 p.2 = e
    rw [pins_eq t]; exact pin h
section
variable {K : Rel4} {e : Env} {m : Mem} {Q : Post} {c : NC}
theorem W.pin (l : List (Nat × NV)) (h : Pinned e l) (hw : W K c (pins e l) m Q) : W K c e m Q := by rwa [pins_eq h] at hw
/-- By induction on a measure of states: s is a state, st what the slots hold in it, mm the memory. -/
theorem W.ind {σ : Type} (st : σ → List (Nat × NV)) (mm : σ → Mem) (P : σ → Prop) (μ : σ → Nat) (s : σ) (hP : P s) (hp : Pinned e (st s)) (hm : m = mm s)
    (h : ∀ (s : σ) (b : Env), P s → (∀ (s' : σ) (e' : Env) (m' : Mem), μ s' < μ s → P s' → Pinned e' (st s') → m' = mm s' → W K c e' m' Q) → W K c (pins b (st s)) (mm s) Q) : W K c e m Q := by
  have key : ∀ n s b, μ s = n → P s → W K c (pins b (st s)) (mm s) Q := by
    intro n
    induction n using Nat.strongRecOn with
    | ind n ih =>
      intro s b hn hP
      subst hn
      refine h s b hP fun s' e' m' hlt hP' hp' hm' => ?_
      subst hm'
      have := ih _ hlt s' e' rfl hP'
      rwa [pins_eq hp'] at this
  subst hm
  have := key _ s e rfl hP
  rwa [pins_eq hp] at this
theorem W.unskip {r : NC} (h : W K (.seq .skip r) e m Q) : W K r e m Q := by
  obtain ⟨x, e1, m1, h1, h2⟩ := h.ex
  cases h1 with
  | seq a b => cases a; exact ⟨_, _, _, b, h2⟩
  | seqx a hx => cases a; exact absurd rfl hx
end

/-! ### Guards, and what an operation is -/
section
variable {K : Rel4} {e : Env} {m : Mem} {R : Env → Mem → Prop} {d : Nat} {dd : Option Nat} {g : Nat × Bool} {op : NOp} {l : List Ins} {x y : Opd} {o : BinOp} {uo : UnOp} {k : IntKind} {f : FuncId} {as : List Opd} {ag : Bool} {n n2 : Nat} {kd : Knd} {lo hi mx : Option Opd} {lk : LK} {ek : EK} {bs : List Nat} {fs : Nat} {j : Nat} {wr rd : List (Nat × Nat × Nat)}
theorem WO.onG (hg : wantedN e (some g) = true) (h : WO K (⟨dd, none, op⟩ :: l) e m R) : WO K (⟨dd, some g, op⟩ :: l) e m R := by
  obtain ⟨e', m', h1, h2⟩ := h
  refine ⟨e', m', ?_, h2⟩
  unfold RunOps at h1 ⊢
  rw [if_pos hg]
  exact h1
theorem WH.onG (hg : wantedN e (some g) = true) (h : WH K bs fs (⟨dd, none, op⟩ :: l) j wr rd e m R) : WH K bs fs (⟨dd, some g, op⟩ :: l) j wr rd e m R := by
  obtain ⟨e', m', h1, h2⟩ := h
  refine ⟨e', m', ?_, h2⟩
  unfold RunHead at h1 ⊢
  rw [if_pos hg]
  exact h1
theorem WO.offG (hg : wantedN e (some g) = false) (h : WO K l (upd e d .undef) m R) : WO K (⟨some d, some g, op⟩ :: l) e m R := WO.off hg h
theorem WO.offG' (hg : wantedN e (some g) = false) (h : WO K l e m R) : WO K (⟨none, some g, op⟩ :: l) e m R := WO.off hg h
theorem WH.offG (hg : wantedN e (some g) = false) (h : WH K bs fs l (j + 1) wr rd (upd e d .undef) m R) : WH K bs fs (⟨some d, some g, op⟩ :: l) j wr rd e m R := WH.off hg h
theorem WH.offG' (hg : wantedN e (some g) = false) (h : WH K bs fs l (j + 1) wr rd e m R) : WH K bs fs (⟨none, some g, op⟩ :: l) j wr rd e m R := WH.off hg h
theorem WO.isMv (h : WO K (⟨dd, none, .mv x⟩ :: l) e m R) : WO K (⟨dd, none, .mv x⟩ :: l) e m R := h
theorem WH.isMv (h : WH K bs fs (⟨dd, none, .mv x⟩ :: l) j wr rd e m R) : WH K bs fs (⟨dd, none, .mv x⟩ :: l) j wr rd e m R := h
theorem WO.isBin (h : WO K (⟨dd, none, .bin o x y⟩ :: l) e m R) : WO K (⟨dd, none, .bin o x y⟩ :: l) e m R := h
theorem WH.isBin (h : WH K bs fs (⟨dd, none, .bin o x y⟩ :: l) j wr rd e m R) : WH K bs fs (⟨dd, none, .bin o x y⟩ :: l) j wr rd e m R := h
theorem WO.isUn (h : WO K (⟨dd, none, .un uo x⟩ :: l) e m R) : WO K (⟨dd, none, .un uo x⟩ :: l) e m R := h
theorem WH.isUn (h : WH K bs fs (⟨dd, none, .un uo x⟩ :: l) j wr rd e m R) : WH K bs fs (⟨dd, none, .un uo x⟩ :: l) j wr rd e m R := h
theorem WO.isI2i (h : WO K (⟨dd, none, .i2i k x⟩ :: l) e m R) : WO K (⟨dd, none, .i2i k x⟩ :: l) e m R := h
theorem WH.isI2i (h : WH K bs fs (⟨dd, none, .i2i k x⟩ :: l) j wr rd e m R) : WH K bs fs (⟨dd, none, .i2i k x⟩ :: l) j wr rd e m R := h
theorem WO.isCall (h : WO K (⟨dd, none, .call f as⟩ :: l) e m R) : WO K (⟨dd, none, .call f as⟩ :: l) e m R := h
theorem WH.isCall (h : WH K bs fs (⟨dd, none, .call f as⟩ :: l) j wr rd e m R) : WH K bs fs (⟨dd, none, .call f as⟩ :: l) j wr rd e m R := h
theorem WO.isDyn (h : WO K (⟨dd, none, .dyn x as⟩ :: l) e m R) : WO K (⟨dd, none, .dyn x as⟩ :: l) e m R := h
theorem WH.isDyn (h : WH K bs fs (⟨dd, none, .dyn x as⟩ :: l) j wr rd e m R) : WH K bs fs (⟨dd, none, .dyn x as⟩ :: l) j wr rd e m R := h
theorem WO.isLoad (h : WO K (⟨dd, none, .load ag n x⟩ :: l) e m R) : WO K (⟨dd, none, .load ag n x⟩ :: l) e m R := h
theorem WH.isLoad (h : WH K bs fs (⟨dd, none, .load ag n x⟩ :: l) j wr rd e m R) : WH K bs fs (⟨dd, none, .load ag n x⟩ :: l) j wr rd e m R := h
theorem WO.isStore (h : WO K (⟨dd, none, .store n x y⟩ :: l) e m R) : WO K (⟨dd, none, .store n x y⟩ :: l) e m R := h
theorem WH.isStore (h : WH K bs fs (⟨dd, none, .store n x y⟩ :: l) j wr rd e m R) : WH K bs fs (⟨dd, none, .store n x y⟩ :: l) j wr rd e m R := h
theorem WO.isIaddr (h : WO K (⟨dd, none, .iaddr kd x y⟩ :: l) e m R) : WO K (⟨dd, none, .iaddr kd x y⟩ :: l) e m R := h
theorem WH.isIaddr (h : WH K bs fs (⟨dd, none, .iaddr kd x y⟩ :: l) j wr rd e m R) : WH K bs fs (⟨dd, none, .iaddr kd x y⟩ :: l) j wr rd e m R := h
theorem WO.isIndex (h : WO K (⟨dd, none, .index kd ag x y⟩ :: l) e m R) : WO K (⟨dd, none, .index kd ag x y⟩ :: l) e m R := h
theorem WH.isIndex (h : WH K bs fs (⟨dd, none, .index kd ag x y⟩ :: l) j wr rd e m R) : WH K bs fs (⟨dd, none, .index kd ag x y⟩ :: l) j wr rd e m R := h
theorem WO.isSlice (h : WO K (⟨dd, none, .slice kd x lo hi mx⟩ :: l) e m R) : WO K (⟨dd, none, .slice kd x lo hi mx⟩ :: l) e m R := h
theorem WH.isSlice (h : WH K bs fs (⟨dd, none, .slice kd x lo hi mx⟩ :: l) j wr rd e m R) : WH K bs fs (⟨dd, none, .slice kd x lo hi mx⟩ :: l) j wr rd e m R := h
theorem WO.isLen (h : WO K (⟨dd, none, .len lk x⟩ :: l) e m R) : WO K (⟨dd, none, .len lk x⟩ :: l) e m R := h
theorem WH.isLen (h : WH K bs fs (⟨dd, none, .len lk x⟩ :: l) j wr rd e m R) : WH K bs fs (⟨dd, none, .len lk x⟩ :: l) j wr rd e m R := h
theorem WO.isApp (h : WO K (⟨dd, none, .app n n2 x y⟩ :: l) e m R) : WO K (⟨dd, none, .app n n2 x y⟩ :: l) e m R := h
theorem WH.isApp (h : WH K bs fs (⟨dd, none, .app n n2 x y⟩ :: l) j wr rd e m R) : WH K bs fs (⟨dd, none, .app n n2 x y⟩ :: l) j wr rd e m R := h
theorem WO.isEq (h : WO K (⟨dd, none, .eq ek ag x y⟩ :: l) e m R) : WO K (⟨dd, none, .eq ek ag x y⟩ :: l) e m R := h
theorem WH.isEq (h : WH K bs fs (⟨dd, none, .eq ek ag x y⟩ :: l) j wr rd e m R) : WH K bs fs (⟨dd, none, .eq ek ag x y⟩ :: l) j wr rd e m R := h
end
/-! ### Whole numbers -/
theorem wrap_i64 {x : Int} (h0 : -9223372036854775808 ≤ x) (h1 : x ≤ 9223372036854775807) : IntKind.i64.wrap x = x := by
  simp only [IntKind.wrap, IntKind.signed, IntKind.bits]
  simp
  omega
theorem wrap_u64 {x : Int} (h0 : 0 ≤ x) (h1 : x ≤ 18446744073709551615) : IntKind.u64.wrap x = x := by
  simp only [IntKind.wrap, IntKind.signed, IntKind.bits]
  simp
  omega
theorem wrap_u32 {x : Int} (h0 : 0 ≤ x) (h1 : x ≤ 4294967295) : IntKind.u32.wrap x = x := by
  simp only [IntKind.wrap, IntKind.signed, IntKind.bits]
  simp
  omega
theorem wrap_u8 {x : Int} (h0 : 0 ≤ x) (h1 : x ≤ 255) : IntKind.u8.wrap x = x := by
  simp only [IntKind.wrap, IntKind.signed, IntKind.bits]
  simp
  omega
theorem wrapU32 (x : Int) : IntKind.u32.wrap x = x % 4294967296 := by simp [IntKind.wrap, IntKind.signed, IntKind.bits]
theorem wrapU64 (x : Int) : IntKind.u64.wrap x = x % 18446744073709551616 := by simp [IntKind.wrap, IntKind.signed, IntKind.bits]
theorem wrapU8 (x : Int) : IntKind.u8.wrap x = x % 256 := by simp [IntKind.wrap, IntKind.signed, IntKind.bits]
theorem ba_toList (s : ByteArray) : s.toList = s.data.toList := by
  have key : ∀ (n i : Nat) (r : List UInt8), s.size - i = n → ByteArray.toList.loop s i r = r.reverse ++ s.data.toList.drop i := by
    intro n
    induction n with
    | zero =>
      intro i r h
      unfold ByteArray.toList.loop
      rw [if_neg (by omega), List.drop_of_length_le (by rw [Array.length_toList]; show s.size ≤ i; omega), List.append_nil]
    | succ n ih =>
      intro i r h
      unfold ByteArray.toList.loop
      have hi : i < s.size := by omega
      rw [if_pos hi, ih (i + 1) _ (by omega), List.reverse_cons, List.append_assoc]
      have hl : i < s.data.toList.length := by rw [Array.length_toList]; exact hi
      have hg : s.get! i = s.data.toList[i] := by
        simp only [ByteArray.get!, Array.getElem_toList]
        exact getElem!_pos s.data i hi
      rw [List.drop_eq_getElem_cons hl, hg]
      rfl
  have := key s.size 0 [] (by omega)
  simpa [ByteArray.toList] using this
theorem ba_ext {s t : ByteArray} (h : s.toList = t.toList) : s = t := by
  rw [ba_toList, ba_toList] at h
  cases s; cases t
  simp only [ByteArray.mk.injEq]
  exact Array.toList_inj.1 h
/-! ### Blocks behind others -/
theorem blk_l1 {bs : List NObj} {ts : List Bool} {M : Mem} {o : NObj} : blk? (⟨bs ++ [o], ts⟩ :: M) 0 bs.length = some o := by simp [blk?]
theorem blk_l2 {bs : List NObj} {ts : List Bool} {M : Mem} {o p : NObj} : blk? (⟨bs ++ [o] ++ [p], ts⟩ :: M) 0 bs.length = some o := by simp [blk?]
theorem blk_l3 {bs : List NObj} {ts : List Bool} {M : Mem} {o p q : NObj} : blk? (⟨bs ++ [o] ++ [p] ++ [q], ts⟩ :: M) 0 bs.length = some o := by simp [blk?]
theorem set_l1 {bs : List NObj} {ts : List Bool} {M : Mem} {o o' : NObj} : setBlk (⟨bs ++ [o], ts⟩ :: M) 0 bs.length o' = ⟨bs ++ [o'], ts⟩ :: M := by simp [setBlk]
theorem set_l2 {bs : List NObj} {ts : List Bool} {M : Mem} {o p o' : NObj} : setBlk (⟨bs ++ [o] ++ [p], ts⟩ :: M) 0 bs.length o' = ⟨bs ++ [o'] ++ [p], ts⟩ :: M := by simp [setBlk]
theorem set_l3 {bs : List NObj} {ts : List Bool} {M : Mem} {o p q o' : NObj} : setBlk (⟨bs ++ [o] ++ [p] ++ [q], ts⟩ :: M) 0 bs.length o' = ⟨bs ++ [o'] ++ [p] ++ [q], ts⟩ :: M := by simp [setBlk]
section
variable {K : Rel4} {e : Env} {m m1 : Mem} {R : Env → Mem → Prop} {g : Option (Nat × Bool)} {l : List Ins} {x y : Opd}
/-- A store into a block that is known. -/
theorem WO.stB {n lv b o : Nat} {v : NV} {cs vs cs' : List NV} (hg : wantedN e g = true) (hx : x.ev e = .ptr lv b o) (hy : head0 (y.ev e) = some v) (hl : (cellsOf v).length = n) (hi : intoL lv (cellsOf v) m = some (vs, m)) (hb : blk? m lv b = some (.cells cs)) (hn : o + n ≤ cs.length)
    (hc : cs.take o ++ vs ++ cs.drop (o + n) = cs') (hm : setBlk m lv b (.cells cs') = m1) (h : WO K l e m1 R) : WO K (⟨none, g, .store n x y⟩ :: l) e m R := by
  rw [head0_eq] at hy
  have hy' := Option.some.inj hy
  subst hm; subst hc
  refine WO.op (v := .undef) hg ?_ h
  simp only [step, storeV, hx, hy', hl, if_true, hi, hb, if_pos hn]
end
theorem blk_set {m : Mem} {l i : Nat} {o o' : NObj} (h : blk? m l i = some o) : blk? (setBlk m l i o') l i = some o' := by
  unfold blk? at h
  split at h
  · rename_i fr hf
    have hi : i < fr.blks.length := (List.getElem?_eq_some_iff.1 h).1
    simp [blk?, setBlk, List.getElem?_modify, hf, hi]
  · cases h
theorem set_set {m : Mem} {l i : Nat} {o o' : NObj} : setBlk (setBlk m l i o) l i o' = setBlk m l i o' := by
  unfold setBlk
  rw [List.modify_modify_eq]
  congr 1
  funext fr
  simp
theorem put2 {α : Type} {a b : α} : ∀ {cs : List α} {o : Nat}, o + 2 ≤ cs.length → cs.take o ++ [a, b] ++ cs.drop (o + 2) = (cs.set o a).set (o + 1) b
  | c :: d :: cs, 0, _ => by simp
  | c :: cs, o + 1, h => by
    simp only [List.take_succ_cons, List.cons_append, List.drop_succ_cons, List.set_cons_succ]
    rw [← put2 (cs := cs) (o := o) (by simpa using h)]
  | [c], 0, h => by simp at h
  | [], _, h => by simp at h
/-! ### Slices that are appended to -/
/-- What one appends to, in frame 0. -/
def apV (sz : Nat) (rows : List (List NV)) (t : Nat) : NV :=
  match rows with
  | [] => .slc 0 true []
  | _ :: _ => .own sz rows 0 t
/-- What such a one is to the caller. -/
def mz (sz : Nat) (rows : List (List NV)) : Nat :=
  match rows with
  | [] => 0
  | _ :: _ => sz
def mkS (sz : Nat) (rows : List (List NV)) : NV := .slc (mz sz rows) rows.isEmpty rows
theorem mz_or (sz : Nat) (rows : List (List NV)) : mz sz rows = sz ∨ rows = [] := by cases rows <;> simp [mz]
theorem mz_pos {sz : Nat} {rows : List (List NV)} {i : Nat} {r : List NV} (h : rows[i]? = some r) : mz sz rows = sz := by cases rows <;> simp [mz] at h ⊢
def tokOf (rows : List (List NV)) (ts : List Bool) (t : Nat) : Prop := rows = [] ∨ ts[t]? = some true
theorem tokOf_nil {ts : List Bool} {t : Nat} : tokOf [] ts t := .inl rfl
def apl (sz : Nat) (rows : List (List NV)) (lv t : Nat) : NV :=
  match rows with
  | [] => .slc 0 true []
  | _ :: _ => .own sz rows lv t
theorem sh_ap1 {sz k t : Nat} {rows : List (List NV)} : sh1 (outS k) (apV sz rows t) = some (apl sz rows k t) := by
  cases rows with
  | nil => rfl
  | cons r rows => show some (NV.own sz (r :: rows) (0 + k) t) = _; rw [Nat.zero_add]; rfl
theorem apl_zero {sz t : Nat} {rows : List (List NV)} : apl sz rows 0 t = apV sz rows t := by cases rows <;> rfl
theorem rows_apl {sz lv t : Nat} {rows : List (List NV)} : rowsOf (apl sz rows lv t) = some (mz sz rows, rows) := by cases rows <;> rfl
theorem rows_apV {sz t : Nat} {rows : List (List NV)} : rowsOf (apV sz rows t) = some (mz sz rows, rows) := by cases rows <;> rfl
theorem rows_mkS {sz : Nat} {rows : List (List NV)} : rowsOf (mkS sz rows) = some (mz sz rows, rows) := rfl
/-- The tokens when one appends. -/
def tkE (rows : List (List NV)) (ts : List Bool) (t : Nat) : List Bool :=
  match rows with
  | [] => ts
  | _ :: _ => ts.set t false
theorem tkE_len {rows : List (List NV)} {ts : List Bool} {t : Nat} : (tkE rows ts t).length = ts.length := by cases rows <;> simp [tkE]
section
variable {K : Rel4} {e : Env} {m : Mem} {R : Env → Mem → Prop} {d : Nat} {g : Option (Nat × Bool)} {l : List Ins} {x y : Opd} {a b : Int} {k i : IntKind} {bs : List Nat} {fs : Nat} {j : Nat} {wr rd : List (Nat × Nat × Nat)}
theorem st_add64  (hx : x.ev e = .int .i64 a) (hy : y.ev e = .int .i64 b) (h0 : -9223372036854775808 ≤ a + b) (h1 : a + b ≤ 9223372036854775807) : step (.bin .add x y) e m = some (.int .i64 (a + b), m) := by
  simp only [step, hx, hy, binV, binI, if_true, pureM, wrap_i64 h0 h1]
theorem WO.add64  (hg : wantedN e g = true) (hx : x.ev e = .int .i64 a) (hy : y.ev e = .int .i64 b) (h0 : -9223372036854775808 ≤ a + b) (h1 : a + b ≤ 9223372036854775807) (h : WO K l (upd e d (.int .i64 (a + b))) m R) : WO K (⟨some d, g, .bin .add x y⟩ :: l) e m R := WO.op hg (st_add64 hx hy h0 h1) h
theorem WH.add64  (hg : wantedN e g = true) (hx : x.ev e = .int .i64 a) (hy : y.ev e = .int .i64 b) (h0 : -9223372036854775808 ≤ a + b) (h1 : a + b ≤ 9223372036854775807) (h : WH K bs fs l (j + 1) wr rd (upd e d (.int .i64 (a + b))) m R) : WH K bs fs (⟨some d, g, .bin .add x y⟩ :: l) j wr rd e m R := WH.op hg (st_add64 hx hy h0 h1) rfl h
theorem st_sub64  (hx : x.ev e = .int .i64 a) (hy : y.ev e = .int .i64 b) (h0 : -9223372036854775808 ≤ a - b) (h1 : a - b ≤ 9223372036854775807) : step (.bin .sub x y) e m = some (.int .i64 (a - b), m) := by
  simp only [step, hx, hy, binV, binI, if_true, pureM, wrap_i64 h0 h1]
theorem WO.sub64  (hg : wantedN e g = true) (hx : x.ev e = .int .i64 a) (hy : y.ev e = .int .i64 b) (h0 : -9223372036854775808 ≤ a - b) (h1 : a - b ≤ 9223372036854775807) (h : WO K l (upd e d (.int .i64 (a - b))) m R) : WO K (⟨some d, g, .bin .sub x y⟩ :: l) e m R := WO.op hg (st_sub64 hx hy h0 h1) h
theorem WH.sub64  (hg : wantedN e g = true) (hx : x.ev e = .int .i64 a) (hy : y.ev e = .int .i64 b) (h0 : -9223372036854775808 ≤ a - b) (h1 : a - b ≤ 9223372036854775807) (h : WH K bs fs l (j + 1) wr rd (upd e d (.int .i64 (a - b))) m R) : WH K bs fs (⟨some d, g, .bin .sub x y⟩ :: l) j wr rd e m R := WH.op hg (st_sub64 hx hy h0 h1) rfl h
theorem st_mul64  (hx : x.ev e = .int .i64 a) (hy : y.ev e = .int .i64 b) (h0 : -9223372036854775808 ≤ a * b) (h1 : a * b ≤ 9223372036854775807) : step (.bin .mul x y) e m = some (.int .i64 (a * b), m) := by
  simp only [step, hx, hy, binV, binI, if_true, pureM, wrap_i64 h0 h1]
theorem WO.mul64  (hg : wantedN e g = true) (hx : x.ev e = .int .i64 a) (hy : y.ev e = .int .i64 b) (h0 : -9223372036854775808 ≤ a * b) (h1 : a * b ≤ 9223372036854775807) (h : WO K l (upd e d (.int .i64 (a * b))) m R) : WO K (⟨some d, g, .bin .mul x y⟩ :: l) e m R := WO.op hg (st_mul64 hx hy h0 h1) h
theorem WH.mul64  (hg : wantedN e g = true) (hx : x.ev e = .int .i64 a) (hy : y.ev e = .int .i64 b) (h0 : -9223372036854775808 ≤ a * b) (h1 : a * b ≤ 9223372036854775807) (h : WH K bs fs l (j + 1) wr rd (upd e d (.int .i64 (a * b))) m R) : WH K bs fs (⟨some d, g, .bin .mul x y⟩ :: l) j wr rd e m R := WH.op hg (st_mul64 hx hy h0 h1) rfl h
theorem st_addU64  (hx : x.ev e = .int .u64 a) (hy : y.ev e = .int .u64 b) (h0 : 0 ≤ a + b) (h1 : a + b ≤ 18446744073709551615) : step (.bin .add x y) e m = some (.int .u64 (a + b), m) := by
  simp only [step, hx, hy, binV, binI, if_true, pureM, wrap_u64 h0 h1]
theorem WO.addU64  (hg : wantedN e g = true) (hx : x.ev e = .int .u64 a) (hy : y.ev e = .int .u64 b) (h0 : 0 ≤ a + b) (h1 : a + b ≤ 18446744073709551615) (h : WO K l (upd e d (.int .u64 (a + b))) m R) : WO K (⟨some d, g, .bin .add x y⟩ :: l) e m R := WO.op hg (st_addU64 hx hy h0 h1) h
theorem WH.addU64  (hg : wantedN e g = true) (hx : x.ev e = .int .u64 a) (hy : y.ev e = .int .u64 b) (h0 : 0 ≤ a + b) (h1 : a + b ≤ 18446744073709551615) (h : WH K bs fs l (j + 1) wr rd (upd e d (.int .u64 (a + b))) m R) : WH K bs fs (⟨some d, g, .bin .add x y⟩ :: l) j wr rd e m R := WH.op hg (st_addU64 hx hy h0 h1) rfl h
theorem st_subU64  (hx : x.ev e = .int .u64 a) (hy : y.ev e = .int .u64 b) (h0 : 0 ≤ a - b) (h1 : a - b ≤ 18446744073709551615) : step (.bin .sub x y) e m = some (.int .u64 (a - b), m) := by
  simp only [step, hx, hy, binV, binI, if_true, pureM, wrap_u64 h0 h1]
theorem WO.subU64  (hg : wantedN e g = true) (hx : x.ev e = .int .u64 a) (hy : y.ev e = .int .u64 b) (h0 : 0 ≤ a - b) (h1 : a - b ≤ 18446744073709551615) (h : WO K l (upd e d (.int .u64 (a - b))) m R) : WO K (⟨some d, g, .bin .sub x y⟩ :: l) e m R := WO.op hg (st_subU64 hx hy h0 h1) h
theorem WH.subU64  (hg : wantedN e g = true) (hx : x.ev e = .int .u64 a) (hy : y.ev e = .int .u64 b) (h0 : 0 ≤ a - b) (h1 : a - b ≤ 18446744073709551615) (h : WH K bs fs l (j + 1) wr rd (upd e d (.int .u64 (a - b))) m R) : WH K bs fs (⟨some d, g, .bin .sub x y⟩ :: l) j wr rd e m R := WH.op hg (st_subU64 hx hy h0 h1) rfl h
theorem st_addU32  (hx : x.ev e = .int .u32 a) (hy : y.ev e = .int .u32 b) (h0 : 0 ≤ a + b) (h1 : a + b ≤ 4294967295) : step (.bin .add x y) e m = some (.int .u32 (a + b), m) := by
  simp only [step, hx, hy, binV, binI, if_true, pureM, wrap_u32 h0 h1]
theorem WO.addU32  (hg : wantedN e g = true) (hx : x.ev e = .int .u32 a) (hy : y.ev e = .int .u32 b) (h0 : 0 ≤ a + b) (h1 : a + b ≤ 4294967295) (h : WO K l (upd e d (.int .u32 (a + b))) m R) : WO K (⟨some d, g, .bin .add x y⟩ :: l) e m R := WO.op hg (st_addU32 hx hy h0 h1) h
theorem WH.addU32  (hg : wantedN e g = true) (hx : x.ev e = .int .u32 a) (hy : y.ev e = .int .u32 b) (h0 : 0 ≤ a + b) (h1 : a + b ≤ 4294967295) (h : WH K bs fs l (j + 1) wr rd (upd e d (.int .u32 (a + b))) m R) : WH K bs fs (⟨some d, g, .bin .add x y⟩ :: l) j wr rd e m R := WH.op hg (st_addU32 hx hy h0 h1) rfl h
theorem st_subU32  (hx : x.ev e = .int .u32 a) (hy : y.ev e = .int .u32 b) (h0 : 0 ≤ a - b) (h1 : a - b ≤ 4294967295) : step (.bin .sub x y) e m = some (.int .u32 (a - b), m) := by
  simp only [step, hx, hy, binV, binI, if_true, pureM, wrap_u32 h0 h1]
theorem WO.subU32  (hg : wantedN e g = true) (hx : x.ev e = .int .u32 a) (hy : y.ev e = .int .u32 b) (h0 : 0 ≤ a - b) (h1 : a - b ≤ 4294967295) (h : WO K l (upd e d (.int .u32 (a - b))) m R) : WO K (⟨some d, g, .bin .sub x y⟩ :: l) e m R := WO.op hg (st_subU32 hx hy h0 h1) h
theorem WH.subU32  (hg : wantedN e g = true) (hx : x.ev e = .int .u32 a) (hy : y.ev e = .int .u32 b) (h0 : 0 ≤ a - b) (h1 : a - b ≤ 4294967295) (h : WH K bs fs l (j + 1) wr rd (upd e d (.int .u32 (a - b))) m R) : WH K bs fs (⟨some d, g, .bin .sub x y⟩ :: l) j wr rd e m R := WH.op hg (st_subU32 hx hy h0 h1) rfl h
theorem st_addU8  (hx : x.ev e = .int .u8 a) (hy : y.ev e = .int .u8 b) (h0 : 0 ≤ a + b) (h1 : a + b ≤ 255) : step (.bin .add x y) e m = some (.int .u8 (a + b), m) := by
  simp only [step, hx, hy, binV, binI, if_true, pureM, wrap_u8 h0 h1]
theorem WO.addU8  (hg : wantedN e g = true) (hx : x.ev e = .int .u8 a) (hy : y.ev e = .int .u8 b) (h0 : 0 ≤ a + b) (h1 : a + b ≤ 255) (h : WO K l (upd e d (.int .u8 (a + b))) m R) : WO K (⟨some d, g, .bin .add x y⟩ :: l) e m R := WO.op hg (st_addU8 hx hy h0 h1) h
theorem WH.addU8  (hg : wantedN e g = true) (hx : x.ev e = .int .u8 a) (hy : y.ev e = .int .u8 b) (h0 : 0 ≤ a + b) (h1 : a + b ≤ 255) (h : WH K bs fs l (j + 1) wr rd (upd e d (.int .u8 (a + b))) m R) : WH K bs fs (⟨some d, g, .bin .add x y⟩ :: l) j wr rd e m R := WH.op hg (st_addU8 hx hy h0 h1) rfl h
theorem st_rem  (hx : x.ev e = .int k a) (hy : y.ev e = .int k b) (h0 : 0 ≤ a) (h1 : b ≠ 0) : step (.bin .rem x y) e m = some (.int k (a % b), m) := by
  simp only [step, hx, hy, binV, binI, if_true, pureM, if_neg h1, Int.tmod_eq_emod_of_nonneg h0]
theorem WO.rem  (hg : wantedN e g = true) (hx : x.ev e = .int k a) (hy : y.ev e = .int k b) (h0 : 0 ≤ a) (h1 : b ≠ 0) (h : WO K l (upd e d (.int k (a % b))) m R) : WO K (⟨some d, g, .bin .rem x y⟩ :: l) e m R := WO.op hg (st_rem hx hy h0 h1) h
theorem WH.rem  (hg : wantedN e g = true) (hx : x.ev e = .int k a) (hy : y.ev e = .int k b) (h0 : 0 ≤ a) (h1 : b ≠ 0) (h : WH K bs fs l (j + 1) wr rd (upd e d (.int k (a % b))) m R) : WH K bs fs (⟨some d, g, .bin .rem x y⟩ :: l) j wr rd e m R := WH.op hg (st_rem hx hy h0 h1) rfl h
theorem st_quoI64  (hx : x.ev e = .int .i64 a) (hy : y.ev e = .int .i64 b) (h0 : 0 ≤ a) (h1 : 0 < b) (h2 : a ≤ 9223372036854775807) : step (.bin .quo x y) e m = some (.int .i64 (a / b), m) := by
  have h3 : a / b ≤ a := Int.ediv_le_self _ h0
  have h4 : 0 ≤ a / b := Int.ediv_nonneg h0 (by omega)
  simp only [step, hx, hy, binV, binI, if_true, pureM, if_neg (show b ≠ 0 by omega), Int.tdiv_eq_ediv_of_nonneg h0, wrap_i64 (show -9223372036854775808 ≤ a / b by omega) (by omega)]
theorem WO.quoI64  (hg : wantedN e g = true) (hx : x.ev e = .int .i64 a) (hy : y.ev e = .int .i64 b) (h0 : 0 ≤ a) (h1 : 0 < b) (h2 : a ≤ 9223372036854775807) (h : WO K l (upd e d (.int .i64 (a / b))) m R) : WO K (⟨some d, g, .bin .quo x y⟩ :: l) e m R := WO.op hg (st_quoI64 hx hy h0 h1 h2) h
theorem WH.quoI64  (hg : wantedN e g = true) (hx : x.ev e = .int .i64 a) (hy : y.ev e = .int .i64 b) (h0 : 0 ≤ a) (h1 : 0 < b) (h2 : a ≤ 9223372036854775807) (h : WH K bs fs l (j + 1) wr rd (upd e d (.int .i64 (a / b))) m R) : WH K bs fs (⟨some d, g, .bin .quo x y⟩ :: l) j wr rd e m R := WH.op hg (st_quoI64 hx hy h0 h1 h2) rfl h
theorem st_toI64  (hx : x.ev e = .int i a) (h0 : -9223372036854775808 ≤ a) (h1 : a ≤ 9223372036854775807) : step (.i2i .i64 x) e m = some (.int .i64 a, m) := by
  simp only [step, hx, wrap_i64 h0 h1]
theorem WO.toI64  (hg : wantedN e g = true) (hx : x.ev e = .int i a) (h0 : -9223372036854775808 ≤ a) (h1 : a ≤ 9223372036854775807) (h : WO K l (upd e d (.int .i64 a)) m R) : WO K (⟨some d, g, .i2i .i64 x⟩ :: l) e m R := WO.op hg (st_toI64 hx h0 h1) h
theorem WH.toI64  (hg : wantedN e g = true) (hx : x.ev e = .int i a) (h0 : -9223372036854775808 ≤ a) (h1 : a ≤ 9223372036854775807) (h : WH K bs fs l (j + 1) wr rd (upd e d (.int .i64 a)) m R) : WH K bs fs (⟨some d, g, .i2i .i64 x⟩ :: l) j wr rd e m R := WH.op hg (st_toI64 hx h0 h1) rfl h
theorem st_quoU64  (hx : x.ev e = .int .u64 a) (hy : y.ev e = .int .u64 b) (h0 : 0 ≤ a) (h1 : 0 < b) (h2 : a ≤ 18446744073709551615) : step (.bin .quo x y) e m = some (.int .u64 (a / b), m) := by
  have h3 : a / b ≤ a := Int.ediv_le_self _ h0
  have h4 : 0 ≤ a / b := Int.ediv_nonneg h0 (by omega)
  simp only [step, hx, hy, binV, binI, if_true, pureM, if_neg (show b ≠ 0 by omega), Int.tdiv_eq_ediv_of_nonneg h0, wrap_u64 (show 0 ≤ a / b by omega) (by omega)]
theorem WO.quoU64  (hg : wantedN e g = true) (hx : x.ev e = .int .u64 a) (hy : y.ev e = .int .u64 b) (h0 : 0 ≤ a) (h1 : 0 < b) (h2 : a ≤ 18446744073709551615) (h : WO K l (upd e d (.int .u64 (a / b))) m R) : WO K (⟨some d, g, .bin .quo x y⟩ :: l) e m R := WO.op hg (st_quoU64 hx hy h0 h1 h2) h
theorem WH.quoU64  (hg : wantedN e g = true) (hx : x.ev e = .int .u64 a) (hy : y.ev e = .int .u64 b) (h0 : 0 ≤ a) (h1 : 0 < b) (h2 : a ≤ 18446744073709551615) (h : WH K bs fs l (j + 1) wr rd (upd e d (.int .u64 (a / b))) m R) : WH K bs fs (⟨some d, g, .bin .quo x y⟩ :: l) j wr rd e m R := WH.op hg (st_quoU64 hx hy h0 h1 h2) rfl h
theorem st_toU64  (hx : x.ev e = .int i a) (h0 : 0 ≤ a) (h1 : a ≤ 18446744073709551615) : step (.i2i .u64 x) e m = some (.int .u64 a, m) := by
  simp only [step, hx, wrap_u64 h0 h1]
theorem WO.toU64  (hg : wantedN e g = true) (hx : x.ev e = .int i a) (h0 : 0 ≤ a) (h1 : a ≤ 18446744073709551615) (h : WO K l (upd e d (.int .u64 a)) m R) : WO K (⟨some d, g, .i2i .u64 x⟩ :: l) e m R := WO.op hg (st_toU64 hx h0 h1) h
theorem WH.toU64  (hg : wantedN e g = true) (hx : x.ev e = .int i a) (h0 : 0 ≤ a) (h1 : a ≤ 18446744073709551615) (h : WH K bs fs l (j + 1) wr rd (upd e d (.int .u64 a)) m R) : WH K bs fs (⟨some d, g, .i2i .u64 x⟩ :: l) j wr rd e m R := WH.op hg (st_toU64 hx h0 h1) rfl h
theorem st_quoU32  (hx : x.ev e = .int .u32 a) (hy : y.ev e = .int .u32 b) (h0 : 0 ≤ a) (h1 : 0 < b) (h2 : a ≤ 4294967295) : step (.bin .quo x y) e m = some (.int .u32 (a / b), m) := by
  have h3 : a / b ≤ a := Int.ediv_le_self _ h0
  have h4 : 0 ≤ a / b := Int.ediv_nonneg h0 (by omega)
  simp only [step, hx, hy, binV, binI, if_true, pureM, if_neg (show b ≠ 0 by omega), Int.tdiv_eq_ediv_of_nonneg h0, wrap_u32 (show 0 ≤ a / b by omega) (by omega)]
theorem WO.quoU32  (hg : wantedN e g = true) (hx : x.ev e = .int .u32 a) (hy : y.ev e = .int .u32 b) (h0 : 0 ≤ a) (h1 : 0 < b) (h2 : a ≤ 4294967295) (h : WO K l (upd e d (.int .u32 (a / b))) m R) : WO K (⟨some d, g, .bin .quo x y⟩ :: l) e m R := WO.op hg (st_quoU32 hx hy h0 h1 h2) h
theorem WH.quoU32  (hg : wantedN e g = true) (hx : x.ev e = .int .u32 a) (hy : y.ev e = .int .u32 b) (h0 : 0 ≤ a) (h1 : 0 < b) (h2 : a ≤ 4294967295) (h : WH K bs fs l (j + 1) wr rd (upd e d (.int .u32 (a / b))) m R) : WH K bs fs (⟨some d, g, .bin .quo x y⟩ :: l) j wr rd e m R := WH.op hg (st_quoU32 hx hy h0 h1 h2) rfl h
theorem st_toU32  (hx : x.ev e = .int i a) (h0 : 0 ≤ a) (h1 : a ≤ 4294967295) : step (.i2i .u32 x) e m = some (.int .u32 a, m) := by
  simp only [step, hx, wrap_u32 h0 h1]
theorem WO.toU32  (hg : wantedN e g = true) (hx : x.ev e = .int i a) (h0 : 0 ≤ a) (h1 : a ≤ 4294967295) (h : WO K l (upd e d (.int .u32 a)) m R) : WO K (⟨some d, g, .i2i .u32 x⟩ :: l) e m R := WO.op hg (st_toU32 hx h0 h1) h
theorem WH.toU32  (hg : wantedN e g = true) (hx : x.ev e = .int i a) (h0 : 0 ≤ a) (h1 : a ≤ 4294967295) (h : WH K bs fs l (j + 1) wr rd (upd e d (.int .u32 a)) m R) : WH K bs fs (⟨some d, g, .i2i .u32 x⟩ :: l) j wr rd e m R := WH.op hg (st_toU32 hx h0 h1) rfl h
theorem st_quoU8  (hx : x.ev e = .int .u8 a) (hy : y.ev e = .int .u8 b) (h0 : 0 ≤ a) (h1 : 0 < b) (h2 : a ≤ 255) : step (.bin .quo x y) e m = some (.int .u8 (a / b), m) := by
  have h3 : a / b ≤ a := Int.ediv_le_self _ h0
  have h4 : 0 ≤ a / b := Int.ediv_nonneg h0 (by omega)
  simp only [step, hx, hy, binV, binI, if_true, pureM, if_neg (show b ≠ 0 by omega), Int.tdiv_eq_ediv_of_nonneg h0, wrap_u8 (show 0 ≤ a / b by omega) (by omega)]
theorem WO.quoU8  (hg : wantedN e g = true) (hx : x.ev e = .int .u8 a) (hy : y.ev e = .int .u8 b) (h0 : 0 ≤ a) (h1 : 0 < b) (h2 : a ≤ 255) (h : WO K l (upd e d (.int .u8 (a / b))) m R) : WO K (⟨some d, g, .bin .quo x y⟩ :: l) e m R := WO.op hg (st_quoU8 hx hy h0 h1 h2) h
theorem WH.quoU8  (hg : wantedN e g = true) (hx : x.ev e = .int .u8 a) (hy : y.ev e = .int .u8 b) (h0 : 0 ≤ a) (h1 : 0 < b) (h2 : a ≤ 255) (h : WH K bs fs l (j + 1) wr rd (upd e d (.int .u8 (a / b))) m R) : WH K bs fs (⟨some d, g, .bin .quo x y⟩ :: l) j wr rd e m R := WH.op hg (st_quoU8 hx hy h0 h1 h2) rfl h
theorem st_toU8  (hx : x.ev e = .int i a) (h0 : 0 ≤ a) (h1 : a ≤ 255) : step (.i2i .u8 x) e m = some (.int .u8 a, m) := by
  simp only [step, hx, wrap_u8 h0 h1]
theorem WO.toU8  (hg : wantedN e g = true) (hx : x.ev e = .int i a) (h0 : 0 ≤ a) (h1 : a ≤ 255) (h : WO K l (upd e d (.int .u8 a)) m R) : WO K (⟨some d, g, .i2i .u8 x⟩ :: l) e m R := WO.op hg (st_toU8 hx h0 h1) h
theorem WH.toU8  (hg : wantedN e g = true) (hx : x.ev e = .int i a) (h0 : 0 ≤ a) (h1 : a ≤ 255) (h : WH K bs fs l (j + 1) wr rd (upd e d (.int .u8 a)) m R) : WH K bs fs (⟨some d, g, .i2i .u8 x⟩ :: l) j wr rd e m R := WH.op hg (st_toU8 hx h0 h1) rfl h
theorem st_slidx {sz z n : Nat} {f : Bool} {rows : List (List NV)} {r : List NV} (hx : x.ev e = .slc z f rows) (hy : y.ev e = .int k a) (hn : a = (n : Int)) (hz : z = sz) (hr : rows[n]? = some r) : step (.iaddr (.slc sz) x y) e m = some (.eptr r, m) := by
  subst hn
  have q1 : asNat (.int k (n : Int)) = some n := by simp [asNat, asInt]
  simp only [step, iaddrV, hx, hy, q1, hz, if_true, hr, pureM]
theorem WO.slidx {sz z n : Nat} {f : Bool} {rows : List (List NV)} {r : List NV} (hg : wantedN e g = true) (hx : x.ev e = .slc z f rows) (hy : y.ev e = .int k a) (hn : a = (n : Int)) (hz : z = sz) (hr : rows[n]? = some r) (h : WO K l (upd e d (.eptr r)) m R) : WO K (⟨some d, g, .iaddr (.slc sz) x y⟩ :: l) e m R := WO.op hg (st_slidx hx hy hn hz hr) h
theorem WH.slidx {sz z n : Nat} {f : Bool} {rows : List (List NV)} {r : List NV} (hg : wantedN e g = true) (hx : x.ev e = .slc z f rows) (hy : y.ev e = .int k a) (hn : a = (n : Int)) (hz : z = sz) (hr : rows[n]? = some r) (h : WH K bs fs l (j + 1) wr rd (upd e d (.eptr r)) m R) : WH K bs fs (⟨some d, g, .iaddr (.slc sz) x y⟩ :: l) j wr rd e m R := WH.op hg (st_slidx hx hy hn hz hr) rfl h
theorem st_stridx {s : ByteArray} {n : Nat} {c : UInt8} (hx : x.ev e = .str s) (hy : y.ev e = .int k a) (hn : a = (n : Int)) (hr : s[n]? = some c) : step (.index .str false x y) e m = some (byteV c, m) := by
  subst hn
  have q1 : asNat (.int k (n : Int)) = some n := by simp [asNat, asInt]
  simp only [step, indexV, hx, hy, q1, hr, pureM]
theorem WO.stridx {s : ByteArray} {n : Nat} {c : UInt8} (hg : wantedN e g = true) (hx : x.ev e = .str s) (hy : y.ev e = .int k a) (hn : a = (n : Int)) (hr : s[n]? = some c) (h : WO K l (upd e d (byteV c)) m R) : WO K (⟨some d, g, .index .str false x y⟩ :: l) e m R := WO.op hg (st_stridx hx hy hn hr) h
theorem WH.stridx {s : ByteArray} {n : Nat} {c : UInt8} (hg : wantedN e g = true) (hx : x.ev e = .str s) (hy : y.ev e = .int k a) (hn : a = (n : Int)) (hr : s[n]? = some c) (h : WH K bs fs l (j + 1) wr rd (upd e d (byteV c)) m R) : WH K bs fs (⟨some d, g, .index .str false x y⟩ :: l) j wr rd e m R := WH.op hg (st_stridx hx hy hn hr) rfl h
theorem st_slhi {sz z n : Nat} {f : Bool} {rows : List (List NV)} (hx : x.ev e = .slc z f rows) (hy : y.ev e = .int k a) (hn : a = (n : Int)) (hz : z = sz ∨ rows = []) (hr : n ≤ rows.length) : step (.slice (.slc sz) x none (some y) none) e m = some (.slc sz (f && decide (n = rows.length)) (rows.take n), m) := by
  subst hn
  have q1 : asNat (.int k (n : Int)) = some n := by simp [asNat, asInt]
  have q2 : (z = sz ∨ rows.isEmpty = true) := by rcases hz with h | h; exact .inl h; exact .inr (by rw [h]; rfl)
  simp only [step, sliceV, evO, optNat, hx, hy, q1, if_pos q2, sliceRows, Option.getD_none, List.drop_zero, Nat.zero_le, and_true, if_pos hr, pureM]
theorem WO.slhi {sz z n : Nat} {f : Bool} {rows : List (List NV)} (hg : wantedN e g = true) (hx : x.ev e = .slc z f rows) (hy : y.ev e = .int k a) (hn : a = (n : Int)) (hz : z = sz ∨ rows = []) (hr : n ≤ rows.length) (h : WO K l (upd e d (.slc sz (f && decide (n = rows.length)) (rows.take n))) m R) : WO K (⟨some d, g, .slice (.slc sz) x none (some y) none⟩ :: l) e m R := WO.op hg (st_slhi hx hy hn hz hr) h
theorem WH.slhi {sz z n : Nat} {f : Bool} {rows : List (List NV)} (hg : wantedN e g = true) (hx : x.ev e = .slc z f rows) (hy : y.ev e = .int k a) (hn : a = (n : Int)) (hz : z = sz ∨ rows = []) (hr : n ≤ rows.length) (h : WH K bs fs l (j + 1) wr rd (upd e d (.slc sz (f && decide (n = rows.length)) (rows.take n))) m R) : WH K bs fs (⟨some d, g, .slice (.slc sz) x none (some y) none⟩ :: l) j wr rd e m R := WH.op hg (st_slhi hx hy hn hz hr) rfl h
theorem st_sllo {sz z n : Nat} {f : Bool} {rows : List (List NV)} (hx : x.ev e = .slc z f rows) (hy : y.ev e = .int k a) (hn : a = (n : Int)) (hz : z = sz ∨ rows = []) (hr : n ≤ rows.length) : step (.slice (.slc sz) x (some y) none none) e m = some (.slc sz f (rows.drop n), m) := by
  subst hn
  have q1 : asNat (.int k (n : Int)) = some n := by simp [asNat, asInt]
  have q2 : (z = sz ∨ rows.isEmpty = true) := by rcases hz with h | h; exact .inl h; exact .inr (by rw [h]; rfl)
  simp only [step, sliceV, evO, optNat, hx, hy, q1, if_pos q2, sliceRows, Option.getD_some, if_pos hr, pureM]
theorem WO.sllo {sz z n : Nat} {f : Bool} {rows : List (List NV)} (hg : wantedN e g = true) (hx : x.ev e = .slc z f rows) (hy : y.ev e = .int k a) (hn : a = (n : Int)) (hz : z = sz ∨ rows = []) (hr : n ≤ rows.length) (h : WO K l (upd e d (.slc sz f (rows.drop n))) m R) : WO K (⟨some d, g, .slice (.slc sz) x (some y) none none⟩ :: l) e m R := WO.op hg (st_sllo hx hy hn hz hr) h
theorem WH.sllo {sz z n : Nat} {f : Bool} {rows : List (List NV)} (hg : wantedN e g = true) (hx : x.ev e = .slc z f rows) (hy : y.ev e = .int k a) (hn : a = (n : Int)) (hz : z = sz ∨ rows = []) (hr : n ≤ rows.length) (h : WH K bs fs l (j + 1) wr rd (upd e d (.slc sz f (rows.drop n))) m R) : WH K bs fs (⟨some d, g, .slice (.slc sz) x (some y) none none⟩ :: l) j wr rd e m R := WH.op hg (st_sllo hx hy hn hz hr) rfl h
theorem st_strhi {s : ByteArray} {n : Nat} (hx : x.ev e = .str s) (hy : y.ev e = .int k a) (hn : a = (n : Int)) (hr : n ≤ s.size) : step (.slice .str x none (some y) none) e m = some (.str (s.extract 0 n), m) := by
  subst hn
  have q1 : asNat (.int k (n : Int)) = some n := by simp [asNat, asInt]
  simp only [step, sliceV, evO, optNat, hx, hy, q1, Option.getD_none, Option.getD_some, Nat.zero_le, and_true, if_pos hr, pureM]
theorem WO.strhi {s : ByteArray} {n : Nat} (hg : wantedN e g = true) (hx : x.ev e = .str s) (hy : y.ev e = .int k a) (hn : a = (n : Int)) (hr : n ≤ s.size) (h : WO K l (upd e d (.str (s.extract 0 n))) m R) : WO K (⟨some d, g, .slice .str x none (some y) none⟩ :: l) e m R := WO.op hg (st_strhi hx hy hn hr) h
theorem WH.strhi {s : ByteArray} {n : Nat} (hg : wantedN e g = true) (hx : x.ev e = .str s) (hy : y.ev e = .int k a) (hn : a = (n : Int)) (hr : n ≤ s.size) (h : WH K bs fs l (j + 1) wr rd (upd e d (.str (s.extract 0 n))) m R) : WH K bs fs (⟨some d, g, .slice .str x none (some y) none⟩ :: l) j wr rd e m R := WH.op hg (st_strhi hx hy hn hr) rfl h
theorem st_strlo {s : ByteArray} {n : Nat} (hx : x.ev e = .str s) (hy : y.ev e = .int k a) (hn : a = (n : Int)) (hr : n ≤ s.size) : step (.slice .str x (some y) none none) e m = some (.str (s.extract n s.size), m) := by
  subst hn
  have q1 : asNat (.int k (n : Int)) = some n := by simp [asNat, asInt]
  simp only [step, sliceV, evO, optNat, hx, hy, q1, Option.getD_none, Option.getD_some, Nat.le_refl, true_and, if_pos hr, pureM]
theorem WO.strlo {s : ByteArray} {n : Nat} (hg : wantedN e g = true) (hx : x.ev e = .str s) (hy : y.ev e = .int k a) (hn : a = (n : Int)) (hr : n ≤ s.size) (h : WO K l (upd e d (.str (s.extract n s.size))) m R) : WO K (⟨some d, g, .slice .str x (some y) none none⟩ :: l) e m R := WO.op hg (st_strlo hx hy hn hr) h
theorem WH.strlo {s : ByteArray} {n : Nat} (hg : wantedN e g = true) (hx : x.ev e = .str s) (hy : y.ev e = .int k a) (hn : a = (n : Int)) (hr : n ≤ s.size) (h : WH K bs fs l (j + 1) wr rd (upd e d (.str (s.extract n s.size))) m R) : WH K bs fs (⟨some d, g, .slice .str x (some y) none none⟩ :: l) j wr rd e m R := WH.op hg (st_strlo hx hy hn hr) rfl h
theorem st_cat {s t : ByteArray} (hx : x.ev e = .str s) (hy : y.ev e = .str t) (hr : s.size + t.size ≤ 9223372036854775807) : step (.bin .add x y) e m = some (.str (s ++ t), m) := by
  simp only [step, hx, hy, binV, binS, if_pos hr, pureM]
theorem WO.cat {s t : ByteArray} (hg : wantedN e g = true) (hx : x.ev e = .str s) (hy : y.ev e = .str t) (hr : s.size + t.size ≤ 9223372036854775807) (h : WO K l (upd e d (.str (s ++ t))) m R) : WO K (⟨some d, g, .bin .add x y⟩ :: l) e m R := WO.op hg (st_cat hx hy hr) h
theorem WH.cat {s t : ByteArray} (hg : wantedN e g = true) (hx : x.ev e = .str s) (hy : y.ev e = .str t) (hr : s.size + t.size ≤ 9223372036854775807) (h : WH K bs fs l (j + 1) wr rd (upd e d (.str (s ++ t))) m R) : WH K bs fs (⟨some d, g, .bin .add x y⟩ :: l) j wr rd e m R := WH.op hg (st_cat hx hy hr) rfl h
theorem st_lenAp {sz t : Nat} {rows : List (List NV)} (hx : x.ev e = apV sz rows t) : step (.len .slc x) e m = some (.int .i64 (rows.length : Int), m) := by
  cases rows <;> simp [step, hx, apV]
theorem WO.lenAp {sz t : Nat} {rows : List (List NV)} (hg : wantedN e g = true) (hx : x.ev e = apV sz rows t) (h : WO K l (upd e d (.int .i64 (rows.length : Int))) m R) : WO K (⟨some d, g, .len .slc x⟩ :: l) e m R := WO.op hg (st_lenAp hx) h
theorem WH.lenAp {sz t : Nat} {rows : List (List NV)} (hg : wantedN e g = true) (hx : x.ev e = apV sz rows t) (h : WH K bs fs l (j + 1) wr rd (upd e d (.int .i64 (rows.length : Int))) m R) : WH K bs fs (⟨some d, g, .len .slc x⟩ :: l) j wr rd e m R := WH.op hg (st_lenAp hx) rfl h
theorem st_idxAp {sz t n : Nat} {rows : List (List NV)} {r : List NV} (hx : x.ev e = apV sz rows t) (hy : y.ev e = .int k a) (hn : a = (n : Int)) (hr : rows[n]? = some r) : step (.iaddr (.slc sz) x y) e m = some (.eptr r, m) := by
  subst hn
  have q1 : asNat (.int k (n : Int)) = some n := by simp [asNat, asInt]
  cases rows with
  | nil => simp at hr
  | cons r0 rows => simp only [step, iaddrV, hx, hy, q1, apV, if_true, hr, pureM]
theorem WO.idxAp {sz t n : Nat} {rows : List (List NV)} {r : List NV} (hg : wantedN e g = true) (hx : x.ev e = apV sz rows t) (hy : y.ev e = .int k a) (hn : a = (n : Int)) (hr : rows[n]? = some r) (h : WO K l (upd e d (.eptr r)) m R) : WO K (⟨some d, g, .iaddr (.slc sz) x y⟩ :: l) e m R := WO.op hg (st_idxAp hx hy hn hr) h
theorem WH.idxAp {sz t n : Nat} {rows : List (List NV)} {r : List NV} (hg : wantedN e g = true) (hx : x.ev e = apV sz rows t) (hy : y.ev e = .int k a) (hn : a = (n : Int)) (hr : rows[n]? = some r) (h : WH K bs fs l (j + 1) wr rd (upd e d (.eptr r)) m R) : WH K bs fs (⟨some d, g, .iaddr (.slc sz) x y⟩ :: l) j wr rd e m R := WH.op hg (st_idxAp hx hy hn hr) rfl h
theorem st_eqT  (hx : x.ev e = .int k a) (hy : y.ev e = .int k b) (h0 : a = b) : step (.bin .eql x y) e m = some (.bool true, m) := by
  simp [step, hx, hy, binV, binI, pureM, h0]
theorem WO.eqT  (hg : wantedN e g = true) (hx : x.ev e = .int k a) (hy : y.ev e = .int k b) (h0 : a = b) (h : WO K l (upd e d (.bool true)) m R) : WO K (⟨some d, g, .bin .eql x y⟩ :: l) e m R := WO.op hg (st_eqT hx hy h0) h
theorem WH.eqT  (hg : wantedN e g = true) (hx : x.ev e = .int k a) (hy : y.ev e = .int k b) (h0 : a = b) (h : WH K bs fs l (j + 1) wr rd (upd e d (.bool true)) m R) : WH K bs fs (⟨some d, g, .bin .eql x y⟩ :: l) j wr rd e m R := WH.op hg (st_eqT hx hy h0) rfl h
theorem st_seqT {s t : ByteArray} (hx : x.ev e = .str s) (hy : y.ev e = .str t) (h0 : s = t) : step (.bin .eql x y) e m = some (.bool true, m) := by
  have q (h : s.toList = t.toList) : s = t := ba_ext h
  subst h0; simp [step, hx, hy, binV, binS, pureM]
theorem WO.seqT {s t : ByteArray} (hg : wantedN e g = true) (hx : x.ev e = .str s) (hy : y.ev e = .str t) (h0 : s = t) (h : WO K l (upd e d (.bool true)) m R) : WO K (⟨some d, g, .bin .eql x y⟩ :: l) e m R := WO.op hg (st_seqT hx hy h0) h
theorem WH.seqT {s t : ByteArray} (hg : wantedN e g = true) (hx : x.ev e = .str s) (hy : y.ev e = .str t) (h0 : s = t) (h : WH K bs fs l (j + 1) wr rd (upd e d (.bool true)) m R) : WH K bs fs (⟨some d, g, .bin .eql x y⟩ :: l) j wr rd e m R := WH.op hg (st_seqT hx hy h0) rfl h
theorem st_eqF  (hx : x.ev e = .int k a) (hy : y.ev e = .int k b) (h0 : a ≠ b) : step (.bin .eql x y) e m = some (.bool false, m) := by
  simp [step, hx, hy, binV, binI, pureM, h0]
theorem WO.eqF  (hg : wantedN e g = true) (hx : x.ev e = .int k a) (hy : y.ev e = .int k b) (h0 : a ≠ b) (h : WO K l (upd e d (.bool false)) m R) : WO K (⟨some d, g, .bin .eql x y⟩ :: l) e m R := WO.op hg (st_eqF hx hy h0) h
theorem WH.eqF  (hg : wantedN e g = true) (hx : x.ev e = .int k a) (hy : y.ev e = .int k b) (h0 : a ≠ b) (h : WH K bs fs l (j + 1) wr rd (upd e d (.bool false)) m R) : WH K bs fs (⟨some d, g, .bin .eql x y⟩ :: l) j wr rd e m R := WH.op hg (st_eqF hx hy h0) rfl h
theorem st_seqF {s t : ByteArray} (hx : x.ev e = .str s) (hy : y.ev e = .str t) (h0 : s ≠ t) : step (.bin .eql x y) e m = some (.bool false, m) := by
  have q (h : s.toList = t.toList) : s = t := ba_ext h
  have q2 : ¬ s.toList = t.toList := fun h => h0 (q h)
  simp [step, hx, hy, binV, binS, pureM, q2]
theorem WO.seqF {s t : ByteArray} (hg : wantedN e g = true) (hx : x.ev e = .str s) (hy : y.ev e = .str t) (h0 : s ≠ t) (h : WO K l (upd e d (.bool false)) m R) : WO K (⟨some d, g, .bin .eql x y⟩ :: l) e m R := WO.op hg (st_seqF hx hy h0) h
theorem WH.seqF {s t : ByteArray} (hg : wantedN e g = true) (hx : x.ev e = .str s) (hy : y.ev e = .str t) (h0 : s ≠ t) (h : WH K bs fs l (j + 1) wr rd (upd e d (.bool false)) m R) : WH K bs fs (⟨some d, g, .bin .eql x y⟩ :: l) j wr rd e m R := WH.op hg (st_seqF hx hy h0) rfl h
theorem st_neT  (hx : x.ev e = .int k a) (hy : y.ev e = .int k b) (h0 : a ≠ b) : step (.bin .neq x y) e m = some (.bool true, m) := by
  simp [step, hx, hy, binV, binI, pureM, h0]
theorem WO.neT  (hg : wantedN e g = true) (hx : x.ev e = .int k a) (hy : y.ev e = .int k b) (h0 : a ≠ b) (h : WO K l (upd e d (.bool true)) m R) : WO K (⟨some d, g, .bin .neq x y⟩ :: l) e m R := WO.op hg (st_neT hx hy h0) h
theorem WH.neT  (hg : wantedN e g = true) (hx : x.ev e = .int k a) (hy : y.ev e = .int k b) (h0 : a ≠ b) (h : WH K bs fs l (j + 1) wr rd (upd e d (.bool true)) m R) : WH K bs fs (⟨some d, g, .bin .neq x y⟩ :: l) j wr rd e m R := WH.op hg (st_neT hx hy h0) rfl h
theorem st_sneT {s t : ByteArray} (hx : x.ev e = .str s) (hy : y.ev e = .str t) (h0 : s ≠ t) : step (.bin .neq x y) e m = some (.bool true, m) := by
  have q (h : s.toList = t.toList) : s = t := ba_ext h
  have q2 : ¬ s.toList = t.toList := fun h => h0 (q h)
  simp [step, hx, hy, binV, binS, pureM, q2]
theorem WO.sneT {s t : ByteArray} (hg : wantedN e g = true) (hx : x.ev e = .str s) (hy : y.ev e = .str t) (h0 : s ≠ t) (h : WO K l (upd e d (.bool true)) m R) : WO K (⟨some d, g, .bin .neq x y⟩ :: l) e m R := WO.op hg (st_sneT hx hy h0) h
theorem WH.sneT {s t : ByteArray} (hg : wantedN e g = true) (hx : x.ev e = .str s) (hy : y.ev e = .str t) (h0 : s ≠ t) (h : WH K bs fs l (j + 1) wr rd (upd e d (.bool true)) m R) : WH K bs fs (⟨some d, g, .bin .neq x y⟩ :: l) j wr rd e m R := WH.op hg (st_sneT hx hy h0) rfl h
theorem st_neF  (hx : x.ev e = .int k a) (hy : y.ev e = .int k b) (h0 : a = b) : step (.bin .neq x y) e m = some (.bool false, m) := by
  simp [step, hx, hy, binV, binI, pureM, h0]
theorem WO.neF  (hg : wantedN e g = true) (hx : x.ev e = .int k a) (hy : y.ev e = .int k b) (h0 : a = b) (h : WO K l (upd e d (.bool false)) m R) : WO K (⟨some d, g, .bin .neq x y⟩ :: l) e m R := WO.op hg (st_neF hx hy h0) h
theorem WH.neF  (hg : wantedN e g = true) (hx : x.ev e = .int k a) (hy : y.ev e = .int k b) (h0 : a = b) (h : WH K bs fs l (j + 1) wr rd (upd e d (.bool false)) m R) : WH K bs fs (⟨some d, g, .bin .neq x y⟩ :: l) j wr rd e m R := WH.op hg (st_neF hx hy h0) rfl h
theorem st_sneF {s t : ByteArray} (hx : x.ev e = .str s) (hy : y.ev e = .str t) (h0 : s = t) : step (.bin .neq x y) e m = some (.bool false, m) := by
  have q (h : s.toList = t.toList) : s = t := ba_ext h
  subst h0; simp [step, hx, hy, binV, binS, pureM]
theorem WO.sneF {s t : ByteArray} (hg : wantedN e g = true) (hx : x.ev e = .str s) (hy : y.ev e = .str t) (h0 : s = t) (h : WO K l (upd e d (.bool false)) m R) : WO K (⟨some d, g, .bin .neq x y⟩ :: l) e m R := WO.op hg (st_sneF hx hy h0) h
theorem WH.sneF {s t : ByteArray} (hg : wantedN e g = true) (hx : x.ev e = .str s) (hy : y.ev e = .str t) (h0 : s = t) (h : WH K bs fs l (j + 1) wr rd (upd e d (.bool false)) m R) : WH K bs fs (⟨some d, g, .bin .neq x y⟩ :: l) j wr rd e m R := WH.op hg (st_sneF hx hy h0) rfl h
theorem st_shl  (hx : x.ev e = .int k a) (hy : y.ev e = .int i b) (h0 : 0 ≤ b) : step (.bin .shl x y) e m = some (.int k (k.wrap (a * 2 ^ (min b.toNat k.bits))), m) := by
  simp only [step, hx, hy, binV, shiftI, if_neg (show ¬ b < 0 by omega), pureM]
theorem WO.shl  (hg : wantedN e g = true) (hx : x.ev e = .int k a) (hy : y.ev e = .int i b) (h0 : 0 ≤ b) (h : WO K l (upd e d (.int k (k.wrap (a * 2 ^ (min b.toNat k.bits))))) m R) : WO K (⟨some d, g, .bin .shl x y⟩ :: l) e m R := WO.op hg (st_shl hx hy h0) h
theorem WH.shl  (hg : wantedN e g = true) (hx : x.ev e = .int k a) (hy : y.ev e = .int i b) (h0 : 0 ≤ b) (h : WH K bs fs l (j + 1) wr rd (upd e d (.int k (k.wrap (a * 2 ^ (min b.toNat k.bits))))) m R) : WH K bs fs (⟨some d, g, .bin .shl x y⟩ :: l) j wr rd e m R := WH.op hg (st_shl hx hy h0) rfl h
theorem st_shr  (hx : x.ev e = .int k a) (hy : y.ev e = .int i b) (h0 : 0 ≤ b) : step (.bin .shr x y) e m = some (.int k (a.fdiv (2 ^ (min b.toNat k.bits))), m) := by
  simp only [step, hx, hy, binV, shiftI, if_neg (show ¬ b < 0 by omega), pureM]
theorem WO.shr  (hg : wantedN e g = true) (hx : x.ev e = .int k a) (hy : y.ev e = .int i b) (h0 : 0 ≤ b) (h : WO K l (upd e d (.int k (a.fdiv (2 ^ (min b.toNat k.bits))))) m R) : WO K (⟨some d, g, .bin .shr x y⟩ :: l) e m R := WO.op hg (st_shr hx hy h0) h
theorem WH.shr  (hg : wantedN e g = true) (hx : x.ev e = .int k a) (hy : y.ev e = .int i b) (h0 : 0 ≤ b) (h : WH K bs fs l (j + 1) wr rd (upd e d (.int k (a.fdiv (2 ^ (min b.toNat k.bits))))) m R) : WH K bs fs (⟨some d, g, .bin .shr x y⟩ :: l) j wr rd e m R := WH.op hg (st_shr hx hy h0) rfl h
theorem st_remE {c : Int} (hx : x.ev e = .int k a) (hy : y.ev e = .int k b) (h0 : 0 ≤ a) (h1 : b ≠ 0) (h2 : a % b = c) : step (.bin .rem x y) e m = some (.int k c, m) := by
  subst h2
  simp only [step, hx, hy, binV, binI, if_true, pureM, if_neg h1, Int.tmod_eq_emod_of_nonneg h0]
theorem WO.remE {c : Int} (hg : wantedN e g = true) (hx : x.ev e = .int k a) (hy : y.ev e = .int k b) (h0 : 0 ≤ a) (h1 : b ≠ 0) (h2 : a % b = c) (h : WO K l (upd e d (.int k c)) m R) : WO K (⟨some d, g, .bin .rem x y⟩ :: l) e m R := WO.op hg (st_remE hx hy h0 h1 h2) h
theorem WH.remE {c : Int} (hg : wantedN e g = true) (hx : x.ev e = .int k a) (hy : y.ev e = .int k b) (h0 : 0 ≤ a) (h1 : b ≠ 0) (h2 : a % b = c) (h : WH K bs fs l (j + 1) wr rd (upd e d (.int k c)) m R) : WH K bs fs (⟨some d, g, .bin .rem x y⟩ :: l) j wr rd e m R := WH.op hg (st_remE hx hy h0 h1 h2) rfl h
theorem st_min3 {z : Opd} {c n : Int} (hx : x.ev e = .int k a) (hy : y.ev e = .int k b) (hz : z.ev e = .int k c) (h0 : min (min a b) c = n) : step (.mm false [x, y, z]) e m = some (.int k n, m) := by
  subst h0
  have q : ∀ u v : Int, (if v < u then v else u) = min u v := fun u v => by omega
  simp only [step, evL, mmL, mm2, hx, hy, hz, if_true, pureM, Bool.false_eq_true, if_false, q]
theorem WO.min3 {z : Opd} {c n : Int} (hg : wantedN e g = true) (hx : x.ev e = .int k a) (hy : y.ev e = .int k b) (hz : z.ev e = .int k c) (h0 : min (min a b) c = n) (h : WO K l (upd e d (.int k n)) m R) : WO K (⟨some d, g, .mm false [x, y, z]⟩ :: l) e m R := WO.op hg (st_min3 hx hy hz h0) h
theorem WH.min3 {z : Opd} {c n : Int} (hg : wantedN e g = true) (hx : x.ev e = .int k a) (hy : y.ev e = .int k b) (hz : z.ev e = .int k c) (h0 : min (min a b) c = n) (h : WH K bs fs l (j + 1) wr rd (upd e d (.int k n)) m R) : WH K bs fs (⟨some d, g, .mm false [x, y, z]⟩ :: l) j wr rd e m R := WH.op hg (st_min3 hx hy hz h0) rfl h
theorem st_min2 {n : Int} (hx : x.ev e = .int k a) (hy : y.ev e = .int k b) (h0 : min a b = n) : step (.mm false [x, y]) e m = some (.int k n, m) := by
  subst h0
  have q : ∀ u v : Int, (if v < u then v else u) = min u v := fun u v => by omega
  simp only [step, evL, mmL, mm2, hx, hy, if_true, pureM, Bool.false_eq_true, if_false, q]
theorem WO.min2 {n : Int} (hg : wantedN e g = true) (hx : x.ev e = .int k a) (hy : y.ev e = .int k b) (h0 : min a b = n) (h : WO K l (upd e d (.int k n)) m R) : WO K (⟨some d, g, .mm false [x, y]⟩ :: l) e m R := WO.op hg (st_min2 hx hy h0) h
theorem WH.min2 {n : Int} (hg : wantedN e g = true) (hx : x.ev e = .int k a) (hy : y.ev e = .int k b) (h0 : min a b = n) (h : WH K bs fs l (j + 1) wr rd (upd e d (.int k n)) m R) : WH K bs fs (⟨some d, g, .mm false [x, y]⟩ :: l) j wr rd e m R := WH.op hg (st_min2 hx hy h0) rfl h
theorem st_max2 {n : Int} (hx : x.ev e = .int k a) (hy : y.ev e = .int k b) (h0 : max a b = n) : step (.mm true [x, y]) e m = some (.int k n, m) := by
  subst h0
  have q : ∀ u v : Int, (if v > u then v else u) = max u v := fun u v => by omega
  simp only [step, evL, mmL, mm2, hx, hy, if_true, pureM, q]
theorem WO.max2 {n : Int} (hg : wantedN e g = true) (hx : x.ev e = .int k a) (hy : y.ev e = .int k b) (h0 : max a b = n) (h : WO K l (upd e d (.int k n)) m R) : WO K (⟨some d, g, .mm true [x, y]⟩ :: l) e m R := WO.op hg (st_max2 hx hy h0) h
theorem WH.max2 {n : Int} (hg : wantedN e g = true) (hx : x.ev e = .int k a) (hy : y.ev e = .int k b) (h0 : max a b = n) (h : WH K bs fs l (j + 1) wr rd (upd e d (.int k n)) m R) : WH K bs fs (⟨some d, g, .mm true [x, y]⟩ :: l) j wr rd e m R := WH.op hg (st_max2 hx hy h0) rfl h
theorem st_lenS {z n : Nat} {f : Bool} {rows : List (List NV)} (hx : x.ev e = .slc z f rows) (h0 : rows.length = n) : step (.len .slc x) e m = some (.int .i64 (n : Int), m) := by
  subst h0
  simp only [step, hx]
theorem WO.lenS {z n : Nat} {f : Bool} {rows : List (List NV)} (hg : wantedN e g = true) (hx : x.ev e = .slc z f rows) (h0 : rows.length = n) (h : WO K l (upd e d (.int .i64 (n : Int))) m R) : WO K (⟨some d, g, .len .slc x⟩ :: l) e m R := WO.op hg (st_lenS hx h0) h
theorem WH.lenS {z n : Nat} {f : Bool} {rows : List (List NV)} (hg : wantedN e g = true) (hx : x.ev e = .slc z f rows) (h0 : rows.length = n) (h : WH K bs fs l (j + 1) wr rd (upd e d (.int .i64 (n : Int))) m R) : WH K bs fs (⟨some d, g, .len .slc x⟩ :: l) j wr rd e m R := WH.op hg (st_lenS hx h0) rfl h
theorem st_mvAp {sz t : Nat} {rows : List (List NV)} (hx : x.ev e = apV sz rows t) : step (.mv x) e m = some (apV sz rows t, m) := by
  simp only [step, hx]
theorem WO.mvAp {sz t : Nat} {rows : List (List NV)} (hg : wantedN e g = true) (hx : x.ev e = apV sz rows t) (h : WO K l (upd e d (apV sz rows t)) m R) : WO K (⟨some d, g, .mv x⟩ :: l) e m R := WO.op hg (st_mvAp hx) h
theorem WH.mvAp {sz t : Nat} {rows : List (List NV)} (hg : wantedN e g = true) (hx : x.ev e = apV sz rows t) (h : WH K bs fs l (j + 1) wr rd (upd e d (apV sz rows t)) m R) : WH K bs fs (⟨some d, g, .mv x⟩ :: l) j wr rd e m R := WH.op hg (st_mvAp hx) rfl h
theorem st_mvR   : step (.mv x) e m = some (x.ev e, m) := by
  rfl
theorem WO.mvR  (hg : wantedN e g = true)  (h : WO K l (upd e d (x.ev e)) m R) : WO K (⟨some d, g, .mv x⟩ :: l) e m R := WO.op hg (st_mvR ) h
theorem WH.mvR  (hg : wantedN e g = true)  (h : WH K bs fs l (j + 1) wr rd (upd e d (x.ev e)) m R) : WH K bs fs (⟨some d, g, .mv x⟩ :: l) j wr rd e m R := WH.op hg (st_mvR ) rfl h
theorem st_pidx {lv b o n len sz : Nat} (hx : x.ev e = .ptr lv b o) (hy : y.ev e = .int k a) (hn : a = (n : Int)) (hr : n < len) : step (.iaddr (.arr len sz) x y) e m = some (.ptr lv b (o + n * sz), m) := by
  subst hn
  have q1 : asNat (.int k (n : Int)) = some n := by simp [asNat, asInt]
  simp only [step, iaddrV, hx, hy, q1, if_pos hr, pureM]
theorem WO.pidx {lv b o n len sz : Nat} (hg : wantedN e g = true) (hx : x.ev e = .ptr lv b o) (hy : y.ev e = .int k a) (hn : a = (n : Int)) (hr : n < len) (h : WO K l (upd e d (.ptr lv b (o + n * sz))) m R) : WO K (⟨some d, g, .iaddr (.arr len sz) x y⟩ :: l) e m R := WO.op hg (st_pidx hx hy hn hr) h
theorem WH.pidx {lv b o n len sz : Nat} (hg : wantedN e g = true) (hx : x.ev e = .ptr lv b o) (hy : y.ev e = .int k a) (hn : a = (n : Int)) (hr : n < len) (h : WH K bs fs l (j + 1) wr rd (upd e d (.ptr lv b (o + n * sz))) m R) : WH K bs fs (⟨some d, g, .iaddr (.arr len sz) x y⟩ :: l) j wr rd e m R := WH.op hg (st_pidx hx hy hn hr) rfl h
theorem st_pidx1 {lv b o n len : Nat} (hx : x.ev e = .ptr lv b o) (hy : y.ev e = .int k a) (hn : a = (n : Int)) (hr : n < len) : step (.iaddr (.arr len 1) x y) e m = some (.ptr lv b (o + n), m) := by
  subst hn
  have q1 : asNat (.int k (n : Int)) = some n := by simp [asNat, asInt]
  simp only [step, iaddrV, hx, hy, q1, if_pos hr, pureM, Nat.mul_one]
theorem WO.pidx1 {lv b o n len : Nat} (hg : wantedN e g = true) (hx : x.ev e = .ptr lv b o) (hy : y.ev e = .int k a) (hn : a = (n : Int)) (hr : n < len) (h : WO K l (upd e d (.ptr lv b (o + n))) m R) : WO K (⟨some d, g, .iaddr (.arr len 1) x y⟩ :: l) e m R := WO.op hg (st_pidx1 hx hy hn hr) h
theorem WH.pidx1 {lv b o n len : Nat} (hg : wantedN e g = true) (hx : x.ev e = .ptr lv b o) (hy : y.ev e = .int k a) (hn : a = (n : Int)) (hr : n < len) (h : WH K bs fs l (j + 1) wr rd (upd e d (.ptr lv b (o + n))) m R) : WH K bs fs (⟨some d, g, .iaddr (.arr len 1) x y⟩ :: l) j wr rd e m R := WH.op hg (st_pidx1 hx hy hn hr) rfl h
theorem st_aggidx {n len sz : Nat} {cs r : List NV} (hx : x.ev e = .agg cs) (hy : y.ev e = .int k a) (hn : a = (n : Int)) (hr : n < len) (hl : n * sz + sz ≤ cs.length) (ho : (cs.drop (n * sz)).take sz = r) : step (.index (.arr len sz) true x y) e m = some (.agg r, m) := by
  subst hn
  have q1 : asNat (.int k (n : Int)) = some n := by simp [asNat, asInt]
  simp only [step, indexV, hx, hy, q1, if_pos hr, partV, if_true, if_pos hl, ho, pureM]
theorem WO.aggidx {n len sz : Nat} {cs r : List NV} (hg : wantedN e g = true) (hx : x.ev e = .agg cs) (hy : y.ev e = .int k a) (hn : a = (n : Int)) (hr : n < len) (hl : n * sz + sz ≤ cs.length) (ho : (cs.drop (n * sz)).take sz = r) (h : WO K l (upd e d (.agg r)) m R) : WO K (⟨some d, g, .index (.arr len sz) true x y⟩ :: l) e m R := WO.op hg (st_aggidx hx hy hn hr hl ho) h
theorem WH.aggidx {n len sz : Nat} {cs r : List NV} (hg : wantedN e g = true) (hx : x.ev e = .agg cs) (hy : y.ev e = .int k a) (hn : a = (n : Int)) (hr : n < len) (hl : n * sz + sz ≤ cs.length) (ho : (cs.drop (n * sz)).take sz = r) (h : WH K bs fs l (j + 1) wr rd (upd e d (.agg r)) m R) : WH K bs fs (⟨some d, g, .index (.arr len sz) true x y⟩ :: l) j wr rd e m R := WH.op hg (st_aggidx hx hy hn hr hl ho) rfl h
theorem st_pidx0 {lv b n len : Nat} (hx : x.ev e = .ptr lv b 0) (hy : y.ev e = .int k a) (hn : a = (n : Int)) (hr : n < len) : step (.iaddr (.arr len 1) x y) e m = some (.ptr lv b n, m) := by
  subst hn
  have q1 : asNat (.int k (n : Int)) = some n := by simp [asNat, asInt]
  simp only [step, iaddrV, hx, hy, q1, if_pos hr, pureM, Nat.mul_one, Nat.zero_add]
theorem WO.pidx0 {lv b n len : Nat} (hg : wantedN e g = true) (hx : x.ev e = .ptr lv b 0) (hy : y.ev e = .int k a) (hn : a = (n : Int)) (hr : n < len) (h : WO K l (upd e d (.ptr lv b n)) m R) : WO K (⟨some d, g, .iaddr (.arr len 1) x y⟩ :: l) e m R := WO.op hg (st_pidx0 hx hy hn hr) h
theorem WH.pidx0 {lv b n len : Nat} (hg : wantedN e g = true) (hx : x.ev e = .ptr lv b 0) (hy : y.ev e = .int k a) (hn : a = (n : Int)) (hr : n < len) (h : WH K bs fs l (j + 1) wr rd (upd e d (.ptr lv b n)) m R) : WH K bs fs (⟨some d, g, .iaddr (.arr len 1) x y⟩ :: l) j wr rd e m R := WH.op hg (st_pidx0 hx hy hn hr) rfl h
theorem st_eqA {ks : List SK} {u v : List NV} {c : Bool} (hx : x.ev e = .agg u) (hy : y.ev e = .agg v) (h0 : eqL ks u v = some c) : step (.eq (.key ⟨true, ks⟩) false x y) e m = some (.bool c, m) := by
  simp only [step, hx, hy, eqK, eqV, h0, Bool.false_eq_true, if_false]
theorem WO.eqA {ks : List SK} {u v : List NV} {c : Bool} (hg : wantedN e g = true) (hx : x.ev e = .agg u) (hy : y.ev e = .agg v) (h0 : eqL ks u v = some c) (h : WO K l (upd e d (.bool c)) m R) : WO K (⟨some d, g, .eq (.key ⟨true, ks⟩) false x y⟩ :: l) e m R := WO.op hg (st_eqA hx hy h0) h
theorem WH.eqA {ks : List SK} {u v : List NV} {c : Bool} (hg : wantedN e g = true) (hx : x.ev e = .agg u) (hy : y.ev e = .agg v) (h0 : eqL ks u v = some c) (h : WH K bs fs l (j + 1) wr rd (upd e d (.bool c)) m R) : WH K bs fs (⟨some d, g, .eq (.key ⟨true, ks⟩) false x y⟩ :: l) j wr rd e m R := WH.op hg (st_eqA hx hy h0) rfl h
theorem st_neA {ks : List SK} {u v : List NV} {c : Bool} (hx : x.ev e = .agg u) (hy : y.ev e = .agg v) (h0 : eqL ks u v = some c) : step (.eq (.key ⟨true, ks⟩) true x y) e m = some (.bool (!c), m) := by
  simp only [step, hx, hy, eqK, eqV, h0, if_true]
theorem WO.neA {ks : List SK} {u v : List NV} {c : Bool} (hg : wantedN e g = true) (hx : x.ev e = .agg u) (hy : y.ev e = .agg v) (h0 : eqL ks u v = some c) (h : WO K l (upd e d (.bool (!c))) m R) : WO K (⟨some d, g, .eq (.key ⟨true, ks⟩) true x y⟩ :: l) e m R := WO.op hg (st_neA hx hy h0) h
theorem WH.neA {ks : List SK} {u v : List NV} {c : Bool} (hg : wantedN e g = true) (hx : x.ev e = .agg u) (hy : y.ev e = .agg v) (h0 : eqL ks u v = some c) (h : WH K bs fs l (j + 1) wr rd (upd e d (.bool (!c))) m R) : WH K bs fs (⟨some d, g, .eq (.key ⟨true, ks⟩) true x y⟩ :: l) j wr rd e m R := WH.op hg (st_neA hx hy h0) rfl h
theorem st_i2iE {n : Int} (hx : x.ev e = .int i a) (h0 : k.wrap a = n) : step (.i2i k x) e m = some (.int k n, m) := by
  subst h0
  simp only [step, hx]
theorem WO.i2iE {n : Int} (hg : wantedN e g = true) (hx : x.ev e = .int i a) (h0 : k.wrap a = n) (h : WO K l (upd e d (.int k n)) m R) : WO K (⟨some d, g, .i2i k x⟩ :: l) e m R := WO.op hg (st_i2iE hx h0) h
theorem WH.i2iE {n : Int} (hg : wantedN e g = true) (hx : x.ev e = .int i a) (h0 : k.wrap a = n) (h : WH K bs fs l (j + 1) wr rd (upd e d (.int k n)) m R) : WH K bs fs (⟨some d, g, .i2i k x⟩ :: l) j wr rd e m R := WH.op hg (st_i2iE hx h0) rfl h
theorem st_lenL {sz lv t n : Nat} {rows : List (List NV)} (hx : x.ev e = apl sz rows lv t) (h0 : rows.length = n) : step (.len .slc x) e m = some (.int .i64 (n : Int), m) := by
  subst h0
  cases rows <;> simp [step, hx, apl]
theorem WO.lenL {sz lv t n : Nat} {rows : List (List NV)} (hg : wantedN e g = true) (hx : x.ev e = apl sz rows lv t) (h0 : rows.length = n) (h : WO K l (upd e d (.int .i64 (n : Int))) m R) : WO K (⟨some d, g, .len .slc x⟩ :: l) e m R := WO.op hg (st_lenL hx h0) h
theorem WH.lenL {sz lv t n : Nat} {rows : List (List NV)} (hg : wantedN e g = true) (hx : x.ev e = apl sz rows lv t) (h0 : rows.length = n) (h : WH K bs fs l (j + 1) wr rd (upd e d (.int .i64 (n : Int))) m R) : WH K bs fs (⟨some d, g, .len .slc x⟩ :: l) j wr rd e m R := WH.op hg (st_lenL hx h0) rfl h
theorem st_idxL {sz lv t n : Nat} {rows : List (List NV)} {r : List NV} (hx : x.ev e = apl sz rows lv t) (hy : y.ev e = .int k a) (hn : a = (n : Int)) (hr : rows[n]? = some r) : step (.iaddr (.slc sz) x y) e m = some (.eptr r, m) := by
  subst hn
  have q1 : asNat (.int k (n : Int)) = some n := by simp [asNat, asInt]
  cases rows with
  | nil => simp at hr
  | cons r0 rows => simp only [step, iaddrV, hx, hy, q1, apl, if_true, hr, pureM]
theorem WO.idxL {sz lv t n : Nat} {rows : List (List NV)} {r : List NV} (hg : wantedN e g = true) (hx : x.ev e = apl sz rows lv t) (hy : y.ev e = .int k a) (hn : a = (n : Int)) (hr : rows[n]? = some r) (h : WO K l (upd e d (.eptr r)) m R) : WO K (⟨some d, g, .iaddr (.slc sz) x y⟩ :: l) e m R := WO.op hg (st_idxL hx hy hn hr) h
theorem WH.idxL {sz lv t n : Nat} {rows : List (List NV)} {r : List NV} (hg : wantedN e g = true) (hx : x.ev e = apl sz rows lv t) (hy : y.ev e = .int k a) (hn : a = (n : Int)) (hr : rows[n]? = some r) (h : WH K bs fs l (j + 1) wr rd (upd e d (.eptr r)) m R) : WH K bs fs (⟨some d, g, .iaddr (.slc sz) x y⟩ :: l) j wr rd e m R := WH.op hg (st_idxL hx hy hn hr) rfl h
theorem st_strhiE {s u : ByteArray} {n : Nat} (hx : x.ev e = .str s) (hy : y.ev e = .int k a) (hn : a = (n : Int)) (hr : n ≤ s.size) (h0 : s.extract 0 n = u) : step (.slice .str x none (some y) none) e m = some (.str u, m) := by
  subst h0
  subst hn
  have q1 : asNat (.int k (n : Int)) = some n := by simp [asNat, asInt]
  simp only [step, sliceV, evO, optNat, hx, hy, q1, Option.getD_none, Option.getD_some, Nat.zero_le, and_true, if_pos hr, pureM]
theorem WO.strhiE {s u : ByteArray} {n : Nat} (hg : wantedN e g = true) (hx : x.ev e = .str s) (hy : y.ev e = .int k a) (hn : a = (n : Int)) (hr : n ≤ s.size) (h0 : s.extract 0 n = u) (h : WO K l (upd e d (.str u)) m R) : WO K (⟨some d, g, .slice .str x none (some y) none⟩ :: l) e m R := WO.op hg (st_strhiE hx hy hn hr h0) h
theorem WH.strhiE {s u : ByteArray} {n : Nat} (hg : wantedN e g = true) (hx : x.ev e = .str s) (hy : y.ev e = .int k a) (hn : a = (n : Int)) (hr : n ≤ s.size) (h0 : s.extract 0 n = u) (h : WH K bs fs l (j + 1) wr rd (upd e d (.str u)) m R) : WH K bs fs (⟨some d, g, .slice .str x none (some y) none⟩ :: l) j wr rd e m R := WH.op hg (st_strhiE hx hy hn hr h0) rfl h
theorem st_catE {s t u : ByteArray} (hx : x.ev e = .str s) (hy : y.ev e = .str t) (hr : s.size + t.size ≤ 9223372036854775807) (h0 : s ++ t = u) : step (.bin .add x y) e m = some (.str u, m) := by
  subst h0
  simp only [step, hx, hy, binV, binS, if_pos hr, pureM]
theorem WO.catE {s t u : ByteArray} (hg : wantedN e g = true) (hx : x.ev e = .str s) (hy : y.ev e = .str t) (hr : s.size + t.size ≤ 9223372036854775807) (h0 : s ++ t = u) (h : WO K l (upd e d (.str u)) m R) : WO K (⟨some d, g, .bin .add x y⟩ :: l) e m R := WO.op hg (st_catE hx hy hr h0) h
theorem WH.catE {s t u : ByteArray} (hg : wantedN e g = true) (hx : x.ev e = .str s) (hy : y.ev e = .str t) (hr : s.size + t.size ≤ 9223372036854775807) (h0 : s ++ t = u) (h : WH K bs fs l (j + 1) wr rd (upd e d (.str u)) m R) : WH K bs fs (⟨some d, g, .bin .add x y⟩ :: l) j wr rd e m R := WH.op hg (st_catE hx hy hr h0) rfl h
theorem st_remK {c : Int} (hx : x.ev e = .int k a) (hy : y.ev e = .int k b) (h0 : a.tmod b = c) (h1 : b ≠ 0) : step (.bin .rem x y) e m = some (.int k c, m) := by
  subst h0
  simp only [step, hx, hy, binV, binI, if_true, pureM, if_neg h1]
theorem WO.remK {c : Int} (hg : wantedN e g = true) (hx : x.ev e = .int k a) (hy : y.ev e = .int k b) (h0 : a.tmod b = c) (h1 : b ≠ 0) (h : WO K l (upd e d (.int k c)) m R) : WO K (⟨some d, g, .bin .rem x y⟩ :: l) e m R := WO.op hg (st_remK hx hy h0 h1) h
theorem WH.remK {c : Int} (hg : wantedN e g = true) (hx : x.ev e = .int k a) (hy : y.ev e = .int k b) (h0 : a.tmod b = c) (h1 : b ≠ 0) (h : WH K bs fs l (j + 1) wr rd (upd e d (.int k c)) m R) : WH K bs fs (⟨some d, g, .bin .rem x y⟩ :: l) j wr rd e m R := WH.op hg (st_remK hx hy h0 h1) rfl h
theorem st_eqBB {u : Bool} (hx : x.ev e = .bool u) (hy : y.ev e = .bool u) : step (.eq (.key ⟨false, [.bool]⟩) false x y) e m = some (.bool true, m) := by
  simp [step, hx, hy, eqK, eqV, eqC]
theorem WO.eqBB {u : Bool} (hg : wantedN e g = true) (hx : x.ev e = .bool u) (hy : y.ev e = .bool u) (h : WO K l (upd e d (.bool true)) m R) : WO K (⟨some d, g, .eq (.key ⟨false, [.bool]⟩) false x y⟩ :: l) e m R := WO.op hg (st_eqBB hx hy) h
theorem WH.eqBB {u : Bool} (hg : wantedN e g = true) (hx : x.ev e = .bool u) (hy : y.ev e = .bool u) (h : WH K bs fs l (j + 1) wr rd (upd e d (.bool true)) m R) : WH K bs fs (⟨some d, g, .eq (.key ⟨false, [.bool]⟩) false x y⟩ :: l) j wr rd e m R := WH.op hg (st_eqBB hx hy) rfl h
theorem st_neBB {u : Bool} (hx : x.ev e = .bool u) (hy : y.ev e = .bool u) : step (.eq (.key ⟨false, [.bool]⟩) true x y) e m = some (.bool false, m) := by
  simp [step, hx, hy, eqK, eqV, eqC]
theorem WO.neBB {u : Bool} (hg : wantedN e g = true) (hx : x.ev e = .bool u) (hy : y.ev e = .bool u) (h : WO K l (upd e d (.bool false)) m R) : WO K (⟨some d, g, .eq (.key ⟨false, [.bool]⟩) true x y⟩ :: l) e m R := WO.op hg (st_neBB hx hy) h
theorem WH.neBB {u : Bool} (hg : wantedN e g = true) (hx : x.ev e = .bool u) (hy : y.ev e = .bool u) (h : WH K bs fs l (j + 1) wr rd (upd e d (.bool false)) m R) : WH K bs fs (⟨some d, g, .eq (.key ⟨false, [.bool]⟩) true x y⟩ :: l) j wr rd e m R := WH.op hg (st_neBB hx hy) rfl h
theorem st_ldc {n lv b o : Nat} {cs : List NV} {v v' : NV} (hx : x.ev e = .ptr lv b o) (hb : blk? m lv b = some (.cells cs)) (hv : cs[o]? = some v) (hs : sh1 (outS lv) v = some v') : step (.load false n x) e m = some (v', m) := by
  simp only [step, hx, loadV, hb, hv, hs, pureM, Bool.false_eq_true, if_false]
theorem WO.ldc {n lv b o : Nat} {cs : List NV} {v v' : NV} (hg : wantedN e g = true) (hx : x.ev e = .ptr lv b o) (hb : blk? m lv b = some (.cells cs)) (hv : cs[o]? = some v) (hs : sh1 (outS lv) v = some v') (h : WO K l (upd e d (v')) m R) : WO K (⟨some d, g, .load false n x⟩ :: l) e m R := WO.op hg (st_ldc hx hb hv hs) h
theorem WH.ldc {n lv b o : Nat} {cs : List NV} {v v' : NV} (hg : wantedN e g = true) (hx : x.ev e = .ptr lv b o) (hb : blk? m lv b = some (.cells cs)) (hv : cs[o]? = some v) (hs : sh1 (outS lv) v = some v') (hf : fitsH bs j wr rd (.load false n x) e = true) (h : WH K bs fs l (j + 1) (noteH j wr (wrOf (.load false n x) e)) (noteH j rd (rdOf (.load false n x) e)) (upd e d (v')) m R) : WH K bs fs (⟨some d, g, .load false n x⟩ :: l) j wr rd e m R := WH.op hg (st_ldc hx hb hv hs) hf h
theorem st_lda {n lv b o : Nat} {cs vs : List NV} (hx : x.ev e = .ptr lv b o) (hb : blk? m lv b = some (.cells cs)) (hn : o + n ≤ cs.length) (hs : shL (outS lv) ((cs.drop o).take n) = some vs) : step (.load true n x) e m = some (.agg vs, m) := by
  simp only [step, hx, loadV, hb, hn, if_true, outL, hs, pureM]
theorem WO.lda {n lv b o : Nat} {cs vs : List NV} (hg : wantedN e g = true) (hx : x.ev e = .ptr lv b o) (hb : blk? m lv b = some (.cells cs)) (hn : o + n ≤ cs.length) (hs : shL (outS lv) ((cs.drop o).take n) = some vs) (h : WO K l (upd e d (.agg vs)) m R) : WO K (⟨some d, g, .load true n x⟩ :: l) e m R := WO.op hg (st_lda hx hb hn hs) h
theorem WH.lda {n lv b o : Nat} {cs vs : List NV} (hg : wantedN e g = true) (hx : x.ev e = .ptr lv b o) (hb : blk? m lv b = some (.cells cs)) (hn : o + n ≤ cs.length) (hs : shL (outS lv) ((cs.drop o).take n) = some vs) (hf : fitsH bs j wr rd (.load true n x) e = true) (h : WH K bs fs l (j + 1) (noteH j wr (wrOf (.load true n x) e)) (noteH j rd (rdOf (.load true n x) e)) (upd e d (.agg vs)) m R) : WH K bs fs (⟨some d, g, .load true n x⟩ :: l) j wr rd e m R := WH.op hg (st_lda hx hb hn hs) hf h
theorem WO.tlss (hg : wantedN e g = true) (hx : x.ev e = .int k a) (hy : y.ev e = .int k b) (h1 : a < b → WO K l (upd e d (.bool true)) m R) (h0 : b ≤ a → WO K l (upd e d (.bool false)) m R) : WO K (⟨some d, g, .bin .lss x y⟩ :: l) e m R := by
  by_cases h : a < b
  · refine WO.op hg (v := .bool true) ?_ (h1 h)
    simp [step, hx, hy, binV, binI, pureM, h]
  · refine WO.op hg (v := .bool false) ?_ (h0 (by omega))
    simp [step, hx, hy, binV, binI, pureM]
    omega
theorem WH.tlss (hg : wantedN e g = true) (hx : x.ev e = .int k a) (hy : y.ev e = .int k b) (h1 : a < b → WH K bs fs l (j + 1) wr rd (upd e d (.bool true)) m R) (h0 : b ≤ a → WH K bs fs l (j + 1) wr rd (upd e d (.bool false)) m R) : WH K bs fs (⟨some d, g, .bin .lss x y⟩ :: l) j wr rd e m R := by
  by_cases h : a < b
  · refine WH.op hg (v := .bool true) ?_ rfl (h1 h)
    simp [step, hx, hy, binV, binI, pureM, h]
  · refine WH.op hg (v := .bool false) ?_ rfl (h0 (by omega))
    simp [step, hx, hy, binV, binI, pureM]
    omega
theorem WO.tleq (hg : wantedN e g = true) (hx : x.ev e = .int k a) (hy : y.ev e = .int k b) (h1 : a ≤ b → WO K l (upd e d (.bool true)) m R) (h0 : b < a → WO K l (upd e d (.bool false)) m R) : WO K (⟨some d, g, .bin .leq x y⟩ :: l) e m R := by
  by_cases h : a ≤ b
  · refine WO.op hg (v := .bool true) ?_ (h1 h)
    simp [step, hx, hy, binV, binI, pureM, h]
  · refine WO.op hg (v := .bool false) ?_ (h0 (by omega))
    simp [step, hx, hy, binV, binI, pureM]
    omega
theorem WH.tleq (hg : wantedN e g = true) (hx : x.ev e = .int k a) (hy : y.ev e = .int k b) (h1 : a ≤ b → WH K bs fs l (j + 1) wr rd (upd e d (.bool true)) m R) (h0 : b < a → WH K bs fs l (j + 1) wr rd (upd e d (.bool false)) m R) : WH K bs fs (⟨some d, g, .bin .leq x y⟩ :: l) j wr rd e m R := by
  by_cases h : a ≤ b
  · refine WH.op hg (v := .bool true) ?_ rfl (h1 h)
    simp [step, hx, hy, binV, binI, pureM, h]
  · refine WH.op hg (v := .bool false) ?_ rfl (h0 (by omega))
    simp [step, hx, hy, binV, binI, pureM]
    omega
theorem WO.tgtr (hg : wantedN e g = true) (hx : x.ev e = .int k a) (hy : y.ev e = .int k b) (h1 : b < a → WO K l (upd e d (.bool true)) m R) (h0 : a ≤ b → WO K l (upd e d (.bool false)) m R) : WO K (⟨some d, g, .bin .gtr x y⟩ :: l) e m R := by
  by_cases h : b < a
  · refine WO.op hg (v := .bool true) ?_ (h1 h)
    simp [step, hx, hy, binV, binI, pureM, h]
  · refine WO.op hg (v := .bool false) ?_ (h0 (by omega))
    simp [step, hx, hy, binV, binI, pureM]
    omega
theorem WH.tgtr (hg : wantedN e g = true) (hx : x.ev e = .int k a) (hy : y.ev e = .int k b) (h1 : b < a → WH K bs fs l (j + 1) wr rd (upd e d (.bool true)) m R) (h0 : a ≤ b → WH K bs fs l (j + 1) wr rd (upd e d (.bool false)) m R) : WH K bs fs (⟨some d, g, .bin .gtr x y⟩ :: l) j wr rd e m R := by
  by_cases h : b < a
  · refine WH.op hg (v := .bool true) ?_ rfl (h1 h)
    simp [step, hx, hy, binV, binI, pureM, h]
  · refine WH.op hg (v := .bool false) ?_ rfl (h0 (by omega))
    simp [step, hx, hy, binV, binI, pureM]
    omega
theorem WO.tgeq (hg : wantedN e g = true) (hx : x.ev e = .int k a) (hy : y.ev e = .int k b) (h1 : b ≤ a → WO K l (upd e d (.bool true)) m R) (h0 : a < b → WO K l (upd e d (.bool false)) m R) : WO K (⟨some d, g, .bin .geq x y⟩ :: l) e m R := by
  by_cases h : b ≤ a
  · refine WO.op hg (v := .bool true) ?_ (h1 h)
    simp [step, hx, hy, binV, binI, pureM, h]
  · refine WO.op hg (v := .bool false) ?_ (h0 (by omega))
    simp [step, hx, hy, binV, binI, pureM]
    omega
theorem WH.tgeq (hg : wantedN e g = true) (hx : x.ev e = .int k a) (hy : y.ev e = .int k b) (h1 : b ≤ a → WH K bs fs l (j + 1) wr rd (upd e d (.bool true)) m R) (h0 : a < b → WH K bs fs l (j + 1) wr rd (upd e d (.bool false)) m R) : WH K bs fs (⟨some d, g, .bin .geq x y⟩ :: l) j wr rd e m R := by
  by_cases h : b ≤ a
  · refine WH.op hg (v := .bool true) ?_ rfl (h1 h)
    simp [step, hx, hy, binV, binI, pureM, h]
  · refine WH.op hg (v := .bool false) ?_ rfl (h0 (by omega))
    simp [step, hx, hy, binV, binI, pureM]
    omega
theorem WO.teql (hg : wantedN e g = true) (hx : x.ev e = .int k a) (hy : y.ev e = .int k b) (h1 : a = b → WO K l (upd e d (.bool true)) m R) (h0 : ¬ a = b → WO K l (upd e d (.bool false)) m R) : WO K (⟨some d, g, .bin .eql x y⟩ :: l) e m R := by
  by_cases h : a = b
  · refine WO.op hg (v := .bool true) ?_ (h1 h)
    simp [step, hx, hy, binV, binI, pureM, h]
  · refine WO.op hg (v := .bool false) ?_ (h0 (by omega))
    simp [step, hx, hy, binV, binI, pureM]
    omega
theorem WH.teql (hg : wantedN e g = true) (hx : x.ev e = .int k a) (hy : y.ev e = .int k b) (h1 : a = b → WH K bs fs l (j + 1) wr rd (upd e d (.bool true)) m R) (h0 : ¬ a = b → WH K bs fs l (j + 1) wr rd (upd e d (.bool false)) m R) : WH K bs fs (⟨some d, g, .bin .eql x y⟩ :: l) j wr rd e m R := by
  by_cases h : a = b
  · refine WH.op hg (v := .bool true) ?_ rfl (h1 h)
    simp [step, hx, hy, binV, binI, pureM, h]
  · refine WH.op hg (v := .bool false) ?_ rfl (h0 (by omega))
    simp [step, hx, hy, binV, binI, pureM]
    omega
theorem WO.tneq (hg : wantedN e g = true) (hx : x.ev e = .int k a) (hy : y.ev e = .int k b) (h1 : ¬ a = b → WO K l (upd e d (.bool true)) m R) (h0 : a = b → WO K l (upd e d (.bool false)) m R) : WO K (⟨some d, g, .bin .neq x y⟩ :: l) e m R := by
  by_cases h : ¬ a = b
  · refine WO.op hg (v := .bool true) ?_ (h1 h)
    simp [step, hx, hy, binV, binI, pureM, h]
  · refine WO.op hg (v := .bool false) ?_ (h0 (by omega))
    simp [step, hx, hy, binV, binI, pureM]
    omega
theorem WH.tneq (hg : wantedN e g = true) (hx : x.ev e = .int k a) (hy : y.ev e = .int k b) (h1 : ¬ a = b → WH K bs fs l (j + 1) wr rd (upd e d (.bool true)) m R) (h0 : a = b → WH K bs fs l (j + 1) wr rd (upd e d (.bool false)) m R) : WH K bs fs (⟨some d, g, .bin .neq x y⟩ :: l) j wr rd e m R := by
  by_cases h : ¬ a = b
  · refine WH.op hg (v := .bool true) ?_ rfl (h1 h)
    simp [step, hx, hy, binV, binI, pureM, h]
  · refine WH.op hg (v := .bool false) ?_ rfl (h0 (by omega))
    simp [step, hx, hy, binV, binI, pureM]
    omega
theorem WO.tseql {s t : ByteArray} (hg : wantedN e g = true) (hx : x.ev e = .str s) (hy : y.ev e = .str t) (h1 : s = t → WO K l (upd e d (.bool true)) m R) (h0 : ¬ s = t → WO K l (upd e d (.bool false)) m R) : WO K (⟨some d, g, .bin .eql x y⟩ :: l) e m R := by
  have q (h : s.toList = t.toList) : s = t := ba_ext h
  by_cases h : s = t
  · subst h
    refine WO.op hg (v := .bool true) ?_ (h1 rfl)
    simp [step, hx, hy, binV, binS, pureM]
  · have q2 : ¬ s.toList = t.toList := fun h2 => h (q h2)
    refine WO.op hg (v := .bool false) ?_ (h0 h)
    simp [step, hx, hy, binV, binS, pureM, q2]
theorem WH.tseql {s t : ByteArray} (hg : wantedN e g = true) (hx : x.ev e = .str s) (hy : y.ev e = .str t) (h1 : s = t → WH K bs fs l (j + 1) wr rd (upd e d (.bool true)) m R) (h0 : ¬ s = t → WH K bs fs l (j + 1) wr rd (upd e d (.bool false)) m R) : WH K bs fs (⟨some d, g, .bin .eql x y⟩ :: l) j wr rd e m R := by
  have q (h : s.toList = t.toList) : s = t := ba_ext h
  by_cases h : s = t
  · subst h
    refine WH.op hg (v := .bool true) ?_ rfl (h1 rfl)
    simp [step, hx, hy, binV, binS, pureM]
  · have q2 : ¬ s.toList = t.toList := fun h2 => h (q h2)
    refine WH.op hg (v := .bool false) ?_ rfl (h0 h)
    simp [step, hx, hy, binV, binS, pureM, q2]
theorem WO.tsneq {s t : ByteArray} (hg : wantedN e g = true) (hx : x.ev e = .str s) (hy : y.ev e = .str t) (h1 : ¬ s = t → WO K l (upd e d (.bool true)) m R) (h0 : s = t → WO K l (upd e d (.bool false)) m R) : WO K (⟨some d, g, .bin .neq x y⟩ :: l) e m R := by
  have q (h : s.toList = t.toList) : s = t := ba_ext h
  by_cases h : s = t
  · subst h
    refine WO.op hg (v := .bool false) ?_ (h0 rfl)
    simp [step, hx, hy, binV, binS, pureM]
  · have q2 : ¬ s.toList = t.toList := fun h2 => h (q h2)
    refine WO.op hg (v := .bool true) ?_ (h1 h)
    simp [step, hx, hy, binV, binS, pureM, q2]
theorem WH.tsneq {s t : ByteArray} (hg : wantedN e g = true) (hx : x.ev e = .str s) (hy : y.ev e = .str t) (h1 : ¬ s = t → WH K bs fs l (j + 1) wr rd (upd e d (.bool true)) m R) (h0 : s = t → WH K bs fs l (j + 1) wr rd (upd e d (.bool false)) m R) : WH K bs fs (⟨some d, g, .bin .neq x y⟩ :: l) j wr rd e m R := by
  have q (h : s.toList = t.toList) : s = t := ba_ext h
  by_cases h : s = t
  · subst h
    refine WH.op hg (v := .bool false) ?_ rfl (h0 rfl)
    simp [step, hx, hy, binV, binS, pureM]
  · have q2 : ¬ s.toList = t.toList := fun h2 => h (q h2)
    refine WH.op hg (v := .bool true) ?_ rfl (h1 h)
    simp [step, hx, hy, binV, binS, pureM, q2]
end
section
variable {K : Rel4} {e : Env} {m : Mem} {R : Env → Mem → Prop} {d : Nat} {g : Option (Nat × Bool)} {l : List Ins} {x y : Opd} {a b : Int} {k j : IntKind}
/-- An operation that is known. -/
theorem WO.is {op : NOp} {v : NV} (hg : wantedN e g = true) (hs : step op e m = some (v, m)) (h : WO K l (upd e d v) m R) : WO K (⟨some d, g, op⟩ :: l) e m R := WO.op hg hs h

/-- What tokens do when one appends. -/
structure TokStep (rows : List (List NV)) (t : Nat) (ts ts' : List Bool) (t' : Nat) : Prop where
  keep : ∀ s : Nat, (rows = [] ∨ s ≠ t) → ts[s]? = some true → ts'[s]? = some true
  fresh : ∀ s : Nat, ts[s]? = some true → s ≠ t'
theorem sp_appK {sz bytes t z : Nat} {f : Bool} {rows ys : List (List NV)} {bs : List NObj} {ts : List Bool} {M : Mem} (hx : x.ev e = apV sz rows t) (hy : y.ev e = .slc z f ys) (hz : z = sz) (hne : ys.isEmpty = false)
    (ht : tokOf rows ts t) (hn : (rows.length + ys.length) * bytes ≤ 35184372088832) (hn' : rows.length + ys.length ≤ 35184372088832) :
    ∃ ts' t', tokOf (rows ++ ys) ts' t' ∧ TokStep rows t ts ts' t' ∧ step (.app sz bytes x y) e (⟨bs, ts⟩ :: M) = some (apV sz (rows ++ ys) t', ⟨bs, ts'⟩ :: M) := by
  subst hz
  cases rows with
  | nil =>
    have h2 := hne
    refine ⟨ts ++ [true], ts.length, .inr (by simp), ⟨fun s _ h => ?_, fun s h => ?_⟩, ?_⟩
    · rw [List.getElem?_append_left (List.getElem?_eq_some_iff.1 h).1]; exact h
    · have := (List.getElem?_eq_some_iff.1 h).1; omega
    have h3 : apV z ([] ++ ys) ts.length = .own z ys 0 ts.length := by cases ys; cases hne; rfl
    rw [h3]
    simp only [List.length_nil] at hn hn'
    simp only [step, hx, hy, apV, appV, rowsOf, true_or, if_true, List.isEmpty_nil, or_true, h2, Bool.false_eq_true, if_false, true_and, addTok, List.getElem?_cons_zero, List.modify_zero_cons, List.nil_append, List.length_nil]
    rw [if_pos ⟨hn, hn'⟩]
  | cons r rows =>
    have h2 := hne
    have ht' : ts[t]? = some true := by rcases ht with ht | ht; cases ht; exact ht
    refine ⟨ts.set t false ++ [true], (ts.set t false).length, .inr (by simp), ⟨fun s hs h => ?_, fun s h => ?_⟩, ?_⟩
    · have hst : s ≠ t := hs.resolve_left (by simp)
      rw [List.getElem?_append_left (by rw [List.length_set]; exact (List.getElem?_eq_some_iff.1 h).1), List.getElem?_set_ne (fun q => hst q.symm)]
      exact h
    · have := (List.getElem?_eq_some_iff.1 h).1
      rw [List.length_set]; omega
    have h3 : tok? (⟨bs, ts⟩ :: M) 0 t = true := by simp [tok?, ht']
    simp only [step, hx, hy, apV, appV, rowsOf, true_or, if_true, h2, Bool.false_eq_true, if_false, h3, true_and, addTok, endTok, List.getElem?_cons_zero, List.modify_zero_cons, List.cons_append]
    rw [if_pos ⟨hn, hn'⟩]
theorem sp_app {sz bytes t z : Nat} {f : Bool} {rows ys : List (List NV)} {bs : List NObj} {ts : List Bool} {M : Mem} (hx : x.ev e = apV sz rows t) (hy : y.ev e = .slc z f ys) (hz : z = sz) (hne : ys.isEmpty = false)
    (ht : tokOf rows ts t) (hn : (rows.length + ys.length) * bytes ≤ 35184372088832) (hn' : rows.length + ys.length ≤ 35184372088832) :
    ∃ ts' t', tokOf (rows ++ ys) ts' t' ∧ step (.app sz bytes x y) e (⟨bs, ts⟩ :: M) = some (apV sz (rows ++ ys) t', ⟨bs, ts'⟩ :: M) :=
  let ⟨ts', t', h1, _, h2⟩ := sp_appK hx hy hz hne ht hn hn'
  ⟨ts', t', h1, h2⟩
theorem WO.appK {sz bytes t z : Nat} {f : Bool} {rows ys : List (List NV)} {bs : List NObj} {ts : List Bool} {M : Mem} (hg : wantedN e g = true) (hx : x.ev e = apV sz rows t) (hy : y.ev e = .slc z f ys) (hz : z = sz) (hne : ys.isEmpty = false)
    (ht : tokOf rows ts t) (hn : (rows.length + ys.length) * bytes ≤ 35184372088832) (hn' : rows.length + ys.length ≤ 35184372088832)
    (h : ∀ (ts' : List Bool) (t' : Nat), tokOf (rows ++ ys) ts' t' → TokStep rows t ts ts' t' → WO K l (upd e d (apV sz (rows ++ ys) t')) (⟨bs, ts'⟩ :: M) R) : WO K (⟨some d, g, .app sz bytes x y⟩ :: l) e (⟨bs, ts⟩ :: M) R :=
  let ⟨ts', t', h1, h3, h2⟩ := sp_appK hx hy hz hne ht hn hn'
  WO.op hg h2 (h ts' t' h1 h3)
theorem WO.app {sz bytes t z : Nat} {f : Bool} {rows ys : List (List NV)} {bs : List NObj} {ts : List Bool} {M : Mem} (hg : wantedN e g = true) (hx : x.ev e = apV sz rows t) (hy : y.ev e = .slc z f ys) (hz : z = sz) (hne : ys.isEmpty = false)
    (ht : tokOf rows ts t) (hn : (rows.length + ys.length) * bytes ≤ 35184372088832) (hn' : rows.length + ys.length ≤ 35184372088832)
    (h : ∀ (ts' : List Bool) (t' : Nat), tokOf (rows ++ ys) ts' t' → WO K l (upd e d (apV sz (rows ++ ys) t')) (⟨bs, ts'⟩ :: M) R) : WO K (⟨some d, g, .app sz bytes x y⟩ :: l) e (⟨bs, ts⟩ :: M) R :=
  let ⟨ts', t', h1, h2⟩ := sp_app hx hy hz hne ht hn hn'
  WO.op hg h2 (h ts' t' h1)
theorem WH.app {sz bytes t z q : Nat} {f : Bool} {rows ys : List (List NV)} {bs : List NObj} {ts : List Bool} {M : Mem} {bm : List Nat} {fs : Nat} {wr rd : List (Nat × Nat × Nat)} (hg : wantedN e g = true) (hx : x.ev e = apV sz rows t) (hy : y.ev e = .slc z f ys) (hz : z = sz) (hne : ys.isEmpty = false)
    (ht : tokOf rows ts t) (hn : (rows.length + ys.length) * bytes ≤ 35184372088832) (hn' : rows.length + ys.length ≤ 35184372088832)
    (h : ∀ (ts' : List Bool) (t' : Nat), tokOf (rows ++ ys) ts' t' → WH K bm fs l (q + 1) wr rd (upd e d (apV sz (rows ++ ys) t')) (⟨bs, ts'⟩ :: M) R) : WH K bm fs (⟨some d, g, .app sz bytes x y⟩ :: l) q wr rd e (⟨bs, ts⟩ :: M) R :=
  let ⟨ts', t', h1, h2⟩ := sp_app hx hy hz hne ht hn hn'
  WH.op hg h2 rfl (h ts' t' h1)
end
theorem pop_ap {sz t : Nat} {rows : List (List NV)} {fr : Fr} {M : Mem} : popH (apV sz rows t) (fr :: M) = some (mkS sz rows, M) := by
  cases rows <;> rfl
theorem sh_ap {sz t : Nat} {rows : List (List NV)} : sh2 upS (apV sz rows t) = some (mkS sz rows) := by cases rows <;> rfl
theorem down_ap {sz t : Nat} {rows : List (List NV)} : sh2 downS (apV sz rows t) = some (mkS sz rows) := by cases rows <;> rfl
theorem sh_mk {s : Shift} {sz : Nat} {rows : List (List NV)} : sh2 s (mkS sz rows) = some (mkS sz rows) := rfl
/-- A call sees of its arguments what shArgs lets it see. -/
theorem EvF.args {F : FuncId → Option NF} {X : FuncId → List NV → NV → Prop} {f : FuncId} {args args' : List NV} {m m' : Mem} {v : NV} (hX : ∀ a v, ¬ X f a v) (h : shArgs args = shArgs args') (H : EvF F X f args m v m') : EvF F X f args' m v m' := by
  obtain ⟨n, H⟩ := H
  cases n with
  | zero => exact H.elim
  | succ n =>
    rcases H with ⟨H, _⟩ | ⟨nf, as, x, e1, m1, v1, h1, h2, h3, h4⟩
    · exact absurd H (hX _ _)
    · exact ⟨n + 1, .inr ⟨nf, as, x, e1, m1, v1, h1, h2, h ▸ h3, h4⟩⟩
end Go.Proofs.Ythecdihimfddgaa.Nv
