/- The operations that read alone: the model does what Nv reckons. Of no program. -/
import Derived.Test.YthecdihimfddgaaNvOps
namespace Go.Proofs.Ythecdihimfddgaa.Nv
open Go Go.RowKit

theorem R.int {G : Gh} (k : IntKind) (n : Int) : R G (.int k n) (.int k n) := .two (.one (.pl (.int k n)))
theorem R.bool {G : Gh} (b : Bool) : R G (.bool b) (.bool b) := .two (.one (.pl (.bool b)))
theorem R.str {G : Gh} (b : ByteArray) : R G (.str b) (.string b) := .two (.one (.pl (.str b)))

section
variable {P : Program} {w : World}
theorem run_eqGuard_int (op : BinOp) (t : TypeId) (x y : Operand) (k j : IntKind) (a b : Int) : (eqGuard op t x y (.int k a) (.int j b)).run P w = .ok () w := by
  unfold eqGuard
  cases op <;> rfl
theorem run_eqGuard_str (op : BinOp) (t : TypeId) (x y : Operand) (a b : ByteArray) : (eqGuard op t x y (.string a) (.string b)).run P w = .ok () w := by
  unfold eqGuard
  cases op <;> rfl
theorem run_eqGuard_bool (op : BinOp) (t : TypeId) (x y : Operand) (a b : Bool) : (eqGuard op t x y (.bool a) (.bool b)).run P w = .ok () w := by
  unfold eqGuard
  cases op <;> rfl
theorem run_eqGuard_ptr (op : BinOp) (t : TypeId) (x y : Operand) (a b : Option Addr) : (eqGuard op t x y (.pointer a) (.pointer b)).run P w = .ok () w := by
  unfold eqGuard
  cases op <;> rfl
theorem shift_run {op : BinOp} {k j : IntKind} {x y : Int} {v : NV} (h : shiftI op k x y = some v) : ∃ V, (Op.shift op k x j y).run P w = .ok V w ∧ ∀ G, R G v V := by
  unfold shiftI at h
  split at h
  · cases h
  · rename_i hy
    cases op <;> simp only at h <;> first
      | (cases h; done)
      | (simp only [Option.some.injEq] at h; subst h; exact ⟨_, by simp [Op.shift, hy], fun G => .int _ _⟩)
theorem binI_run {op : BinOp} {t : TypeId} {k : IntKind} {x y : Int} {v : NV} (h : binI op k x y = some v) : ∃ V, (binOp op t (.int k x) (.int k y)).run P w = .ok V w ∧ ∀ G, R G v V := by
  have hb : ∀ (o : BinOp), (binOp o t (.int k x) (.int k y)) = match o with
    | .shl => Op.shift .shl k x k y
    | .shr => Op.shift .shr k x k y
    | .add => Op.intArith .add k x y
    | .sub => Op.intArith .sub k x y
    | .mul => Op.intArith .mul k x y
    | .quo => Op.intDiv .quo k x y
    | .rem => Op.intDiv .rem k x y
    | .and => Op.intBits .and k x y
    | .or => Op.intBits .or k x y
    | .xor => Op.intBits .xor k x y
    | .andNot => Op.intBits .andNot k x y
    | o => Op.intCmp o x y := by
    intro o
    cases o <;> simp only [binOp, ne_eq, not_true_eq_false, if_false]
  cases op <;> simp only [binI] at h <;> rw [hb] <;> first
    | (cases h; done)
    | (simp only [Option.some.injEq] at h; subst h; exact ⟨_, rfl, fun G => .int _ _⟩)
    | (simp only [Option.some.injEq] at h; subst h; exact ⟨_, rfl, fun G => .bool _⟩)
    | (split at h
       · cases h
       · rename_i hy
         simp only [Option.some.injEq] at h
         subst h
         exact ⟨_, by simp only [Op.intDiv, hy, if_false]; rfl, fun G => .int _ _⟩)
theorem binS_run {op : BinOp} {t : TypeId} {x y : ByteArray} {v : NV} (h : binS op x y = some v) : ∃ V, (binOp op t (.string x) (.string y)).run P w = .ok V w ∧ ∀ G, R G v V := by
  cases op <;> simp only [binS] at h <;> first
    | (cases h; done)
    | (simp only [Option.some.injEq] at h; subst h; exact ⟨_, by simp only [binOp, Op.stringOp, Sem.run_pure], fun G => .bool _⟩)
    | (split at h
       · rename_i hy
         simp only [Option.some.injEq] at h
         subst h
         refine ⟨_, ?_, fun G => .str _⟩
         simp only [binOp, Op.stringOp]
         rw [if_neg (by simp only [IntKind.max, IntKind.bits]; omega)]
         rfl
       · cases h)
theorem binV_run {op : BinOp} {t : TypeId} {G : Gh} {x y v : NV} {X Y : Value} (h : binV op x y = some v) (hx : R G x X) (hy : R G y Y) (ox oy : Operand) :
    ∃ V, (do eqGuard op t ox oy X Y; binOp op t X Y : Sem Value).run P w = .ok V w ∧ ∀ G, R G v V := by
  cases x <;> cases y <;> simp only [binV] at h <;> try (cases h; done)
  · obtain rfl := hx.int_inv
    obtain rfl := hy.int_inv
    simp only [Sem.run_bind, run_eqGuard_int, Result.andThen_ok]
    split at h
    · simpa only [binOp] using shift_run h
    · simpa only [binOp] using shift_run h
    · split at h
      · rename_i hk
        subst hk
        exact binI_run h
      · cases h
  · obtain rfl := hx.str_inv
    obtain rfl := hy.str_inv
    simp only [Sem.run_bind, run_eqGuard_str, Result.andThen_ok]
    exact binS_run h
theorem unV_run {op : UnOp} {G : Gh} {x v : NV} {X : Value} (h : unV op x = some v) (hx : R G x X) : ∃ V, (Op.unary op X).run P w = .ok V w ∧ ∀ G, R G v V := by
  cases x <;> simp only [unV] at h <;> try (cases h; done)
  · obtain rfl := hx.bool_inv
    cases op <;> simp only at h <;> first
      | (cases h; done)
      | (simp only [Option.some.injEq] at h; subst h; exact ⟨_, rfl, fun G => .bool _⟩)
  · obtain rfl := hx.int_inv
    cases op <;> simp only at h <;> first
      | (cases h; done)
      | (simp only [Option.some.injEq] at h; subst h; exact ⟨_, rfl, fun G => .int _ _⟩)
end

theorem opt2_some {α : Type} {f : Opd → Opd → α} {x y : Option Opd} {r : α} (h : opt2 f x y = some r) : ∃ a b, x = some a ∧ y = some b ∧ r = f a b := by
  unfold opt2 at h
  split at h
  · simp only [Option.some.injEq] at h
    exact ⟨_, _, rfl, rfl, h.symm⟩
  · cases h
theorem pureM_some {v : Option NV} {m m' : Mem} {u : NV} (h : pureM v m = some (u, m')) : v = some u ∧ m' = m := by
  unfold pureM at h
  split at h
  · simp only [Option.some.injEq, Prod.mk.injEq] at h
    exact ⟨by rw [h.1], h.2.symm⟩
  · cases h

section
variable {P : Program} {w : World} {G : Gh} {m m' : Mem} {e : Env} {a : Act} {v : NV} {dst : Option Nat} {ty : TypeId} {pos : String} {aft : Array Edge} {grd : Option (Nat × Bool)}
theorem st_mv {x : Operand} {y : Opd} (h : opd x = some y) (hs : step (.mv y) e m = some (v, m')) (hE : Env.On G e a (opdT y)) (hM : Rel G m w) :
    Good (.ok (.value (a.eval x)) w) G m m' w v := by
  simp only [step, Option.some.injEq, Prod.mk.injEq] at hs
  obtain ⟨rfl, rfl⟩ := hs
  exact good_pure rfl (opd_R h hE) hM
theorem st_pick {c x y : Operand} {c' x' y' : Opd} (h1 : opd c = some c') (h2 : opd x = some x') (h3 : opd y = some y') (hs : step (.pick c' x' y') e m = some (v, m'))
    (hE : Env.On G e a (opdT c' ++ opdT x' ++ opdT y')) (hM : Rel G m w) :
    Good ((do pure (.value (if ← asBool (a.eval c) then a.eval x else a.eval y)) : Sem Next).run P w) G m m' w v := by
  have r1 := opd_R h1 (hE.mono (by simp; intro t ht; exact .inl ht))
  have r2 := opd_R h2 (hE.mono (by simp; intro t ht; exact .inr (.inl ht)))
  have r3 := opd_R h3 (hE.mono (by simp; intro t ht; exact .inr (.inr ht)))
  simp only [step] at hs
  split at hs
  · rename_i b hc
    simp only [Option.some.injEq, Prod.mk.injEq] at hs
    obtain ⟨rfl, rfl⟩ := hs
    rw [hc] at r1
    rw [r1.bool_inv]
    refine good_pure (by simp [Go.asBool]; rfl) ?_ hM
    cases b <;> simpa
  · cases hs
theorem st_nchk {x : Operand} {y : Opd} (h : opd x = some y) (hs : step (.nchk y) e m = some (v, m')) (hE : Env.On G e a (opdT y)) (hM : Rel G m w) :
    Good ((execOp a.eval ⟨dst, .nilCheck x, ty, pos, aft, grd⟩).run P w) G m m' w v := by
  have r := opd_R h hE
  simp only [step] at hs
  split at hs
  · rename_i l i o hc
    simp only [Option.some.injEq, Prod.mk.injEq] at hs
    obtain ⟨rfl, rfl⟩ := hs
    rw [hc] at r
    obtain ⟨rb, hV, hb⟩ := r.ptr_inv
    rw [hV] at r
    refine good_pure (V := .pointer (some ⟨rb, o, none⟩)) ?_ r hM
    simp only [execOp, hV]
    rfl
  · rename_i cs hc
    simp only [Option.some.injEq, Prod.mk.injEq] at hs
    obtain ⟨rfl, rfl⟩ := hs
    rw [hc] at r
    obtain ⟨b, o, W, hV, hb⟩ := r.eptr_inv
    rw [hV] at r
    refine good_pure (V := .pointer (some ⟨b, o, none⟩)) ?_ r hM
    simp only [execOp, hV]
    rfl
  · cases hs
theorem st_bin {op : BinOp} {t yt : TypeId} {x y : Operand} {x' y' : Opd} (h1 : opd x = some x') (h2 : opd y = some y') (hs : step (.bin op x' y') e m = some (v, m'))
    (hE : Env.On G e a (opdT x' ++ opdT y')) (hM : Rel G m w) : Good ((execOp a.eval ⟨dst, .binOp op t x y yt, ty, pos, aft, grd⟩).run P w) G m m' w v := by
  have r1 := opd_R h1 (hE.mono (by simp; intro t ht; exact .inl ht))
  have r2 := opd_R h2 (hE.mono (by simp; intro t ht; exact .inr ht))
  simp only [step] at hs
  obtain ⟨hv, rfl⟩ := pureM_some hs
  obtain ⟨V, hr, hR⟩ := binV_run (P := P) (w := w) (t := t) hv r1 r2 x y
  refine good_pure (V := V) ?_ (hR G) hM
  simp only [execOp]
  rw [Sem.run_bind, hr]
  rfl
theorem st_un {op : UnOp} {t : TypeId} {x : Operand} {x' : Opd} (h1 : opd x = some x') (hs : step (.un op x') e m = some (v, m'))
    (hE : Env.On G e a (opdT x')) (hM : Rel G m w) : Good ((execOp a.eval ⟨dst, .unOp op t x, ty, pos, aft, grd⟩).run P w) G m m' w v := by
  have r1 := opd_R h1 hE
  simp only [step] at hs
  obtain ⟨hv, rfl⟩ := pureM_some hs
  obtain ⟨V, hr, hR⟩ := unV_run (P := P) (w := w) hv r1
  refine good_pure (V := V) ?_ (hR G) hM
  simp only [execOp]
  rw [Sem.run_bind, hr]
  rfl
theorem st_i2i {s d : TypeId} {k k0 : IntKind} {x : Operand} {x' : Opd} (hu1 : P.underlying s = some (.int k0)) (hu2 : P.underlying d = some (.int k)) (h1 : opd x = some x') (hs : step (.i2i k x') e m = some (v, m'))
    (hE : Env.On G e a (opdT x')) (hM : Rel G m w) : Good ((execOp a.eval ⟨dst, .convert s d x, ty, pos, aft, grd⟩).run P w) G m m' w v := by
  have r1 := opd_R h1 hE
  simp only [step] at hs
  split at hs
  · rename_i k' n hc
    simp only [Option.some.injEq, Prod.mk.injEq] at hs
    obtain ⟨rfl, rfl⟩ := hs
    rw [hc] at r1
    refine good_pure ?_ (R.int _ _) hM
    simp only [execOp, convert, Sem.run_bind, run_underlying hu1, run_underlying hu2, Result.andThen_ok, r1.int_inv, Conv.intToInt, Sem.run_pure]
  · cases hs
theorem st_same {s d : TypeId} {x : Operand} {x' : Opd} (hu1 : P.underlying s = some .string) (hu2 : P.underlying d = some .string) (h1 : opd x = some x') (hs : step (.same x') e m = some (v, m'))
    (hE : Env.On G e a (opdT x')) (hM : Rel G m w) : Good ((execOp a.eval ⟨dst, .convert s d x, ty, pos, aft, grd⟩).run P w) G m m' w v := by
  have r1 := opd_R h1 hE
  simp only [step] at hs
  split at hs
  · rename_i n hc
    simp only [Option.some.injEq, Prod.mk.injEq] at hs
    obtain ⟨rfl, rfl⟩ := hs
    rw [hc] at r1
    refine good_pure ?_ (R.str _) hM
    simp only [execOp, convert, Sem.run_bind, run_underlying hu1, run_underlying hu2, Result.andThen_ok, r1.str_inv, Sem.run_pure]
  · cases hs
theorem run_part1 {t : TypeId} {n : Nat} {cs : List NV} {Vs : List Value} (hH : RL (R1 G) cs Vs) (ha : aggS P t = some false) {off : Nat} {u : NV} (hu : cs[off]? = some u) :
    ∃ V, (part t Vs.toArray off).run P w = .ok V w ∧ R G u V := by
  obtain ⟨V, hV, hR⟩ := hH.get hu
  refine ⟨V, ?_, .two (.one hR)⟩
  simp only [part, Sem.run_bind, run_aggS ha, Result.andThen_ok, Bool.false_eq_true, if_false]
  have : Vs.toArray[off]? = some V := by simpa using hV
  simp only [this]
  rfl
theorem run_part {agg : Bool} {t : TypeId} {off n : Nat} {cs : List NV} {Vs : List Value} (hH : RL (R1 G) cs Vs) (ha : aggS P t = some agg) (hn : sizeS P t = some n) {u : NV} (hu : partV agg off n (.agg cs) = some u) :
    ∃ V, (part t Vs.toArray off).run P w = .ok V w ∧ R G u V := by
  unfold partV at hu
  cases agg with
  | false => exact run_part1 (n := n) hH ha (by simpa using hu)
  | true =>
    simp only [if_true] at hu
    split at hu
    · rename_i hl
      simp only [Option.some.injEq] at hu
      subst hu
      refine ⟨.agg ((Vs.drop off).take n).toArray, ?_, .two (.agg _ _ ((hH.drop off).take n))⟩
      simp only [part, Sem.run_bind, run_aggS ha, Result.andThen_ok, if_true, run_sizeS hn]
      simp only [Sem.run_pure, List.extract_toArray, List.extract_eq_take_drop, Nat.add_sub_cancel_left]
    · cases hu
theorem partV_agg {agg : Bool} {off n : Nat} {x u : NV} (h : partV agg off n x = some u) : ∃ cs, x = .agg cs := by
  cases x <;> simp only [partV] at h <;> first | (cases h; done) | exact ⟨_, rfl⟩
theorem st_field {t : TypeId} {f : Nat} {x : Operand} {x' : Opd} {fs : Array Field} {fd : Field} {ag : Bool} {n : Nat} (hu : P.underlying t = some (.struct fs)) (hf : fs[f]? = some fd) (ha : aggS P fd.type = some ag) (hn : sizeS P fd.type = some n)
    (h1 : opd x = some x') (hs : step (.field ag fd.offset n x') e m = some (v, m')) (hE : Env.On G e a (opdT x')) (hM : Rel G m w) :
    Good ((execOp a.eval ⟨dst, .field t x f, ty, pos, aft, grd⟩).run P w) G m m' w v := by
  have r1 := opd_R h1 hE
  simp only [step] at hs
  obtain ⟨hv, rfl⟩ := pureM_some hs
  obtain ⟨cs, hcs⟩ := partV_agg hv
  rw [hcs] at hv r1
  obtain ⟨Vs, hV, hH⟩ := r1.agg_inv
  obtain ⟨V, hr, hR⟩ := run_part (P := P) (w := w) hH ha hn hv
  refine good_pure (V := V) ?_ hR hM
  simp only [execOp, Instr.field, Sem.run_bind, run_underlying hu, Result.andThen_ok, hf, hV, asAgg, Sem.run_pure, hr]
theorem st_ext {x : Operand} {x' : Opd} {i : Nat} (h1 : opd x = some x') (hs : step (.ext x' i) e m = some (v, m')) (hE : Env.On G e a (opdT x')) (hM : Rel G m w) :
    Good ((execOp a.eval ⟨dst, .extract x i, ty, pos, aft, grd⟩).run P w) G m m' w v := by
  have r1 := opd_R h1 hE
  simp only [step] at hs
  split at hs
  · rename_i vs hc
    obtain ⟨hv, rfl⟩ := pureM_some hs
    rw [hc] at r1
    obtain ⟨Vs, hV, hH⟩ := r1.tup_inv
    obtain ⟨V, hg, hR⟩ := hH.get hv
    refine good_pure (V := V) ?_ (.two hR) hM
    have : Vs.toArray[i]? = some V := by simpa using hg
    simp only [execOp, Instr.extract, hV, this, Sem.run_bind, Sem.run_pure, Result.andThen_ok]
  · cases hs
theorem run_asInt {k : IntKind} {n : Int} : (asIntOf (.int k n)).run P w = .ok (k, n) w := rfl
theorem addr_add {b o n : Nat} : (⟨b, o, none⟩ : Addr).add n = ⟨b, o + n, none⟩ := by
  unfold Addr.add
  split
  · rename_i h; subst h; rfl
  · rfl
theorem asNat_some {x : NV} {n : Nat} (h : asNat x = some n) : ∃ k, x = .int k n := by
  unfold asNat Nv.asInt at h
  cases x <;> simp only at h <;> try (cases h)
  rename_i k z
  split at h
  · simp only [Option.some.injEq] at h
    subst h
    exact ⟨k, by rw [Int.toNat_of_nonneg (by assumption)]⟩
  · cases h
theorem st_index {t : TypeId} {x i : Operand} {x' i' : Opd} {k : Knd} {ag : Bool} (hc : (k = .str ∧ P.underlying t = some .string) ∨ ∃ n el z, k = .arr n z ∧ P.underlying t = some (.array n el) ∧ sizeS P el = some z ∧ aggS P el = some ag)
    (h1 : opd x = some x') (h2 : opd i = some i') (hs : step (.index k ag x' i') e m = some (v, m')) (hE : Env.On G e a (opdT x' ++ opdT i')) (hM : Rel G m w) :
    Good ((execOp a.eval ⟨dst, .index t x i, ty, pos, aft, grd⟩).run P w) G m m' w v := by
  have r1 := opd_R h1 (hE.mono (by simp; intro t ht; exact .inl ht))
  have r2 := opd_R h2 (hE.mono (by simp; intro t ht; exact .inr ht))
  simp only [step] at hs
  obtain ⟨hv, rfl⟩ := pureM_some hs
  unfold indexV at hv
  split at hv
  · cases hv
  · rename_i n hn
    obtain ⟨k0, hk⟩ := asNat_some hn
    rw [hk] at r2
    have hi := r2.int_inv
    rcases hc with ⟨rfl, hu⟩ | ⟨len, el, z, rfl, hu, hz, ha⟩
    · simp only at hv
      split at hv
      · rename_i s hs
        rw [hs] at r1
        split at hv
        · rename_i b hb
          simp only [Option.some.injEq] at hv
          subst hv
          refine good_pure ?_ (R.int _ _) hM
          have hb' : s.data[n]? = some b := hb
          simp only [execOp, Instr.index, hi, Sem.run_bind, run_asInt, Result.andThen_ok, run_underlying hu, r1.str_inv, Int.toNat_natCast, Int.natCast_nonneg, if_true, hb, Sem.run_pure]
        · cases hv
      · cases hv
    · simp only at hv
      split at hv
      · rename_i hlt
        obtain ⟨cs, hcs⟩ := partV_agg hv
        rw [hcs] at hv r1
        obtain ⟨Vs, hV, hH⟩ := r1.agg_inv
        obtain ⟨V, hr, hR⟩ := run_part (P := P) (w := w) hH ha hz hv
        refine good_pure (V := V) ?_ hR hM
        have hb : (0 : Int) ≤ (n : Int) ∧ (n : Int) < (len : Int) := by omega
        simp only [execOp, Instr.index, hi, Sem.run_bind, run_asInt, Result.andThen_ok, run_underlying hu, hV, hb, and_self, if_true, run_sizeS hz, Int.toNat_natCast, hr, Sem.run_pure]
      · cases hv
theorem st_faddr {t : TypeId} {f : Nat} {x : Operand} {x' : Opd} {fs : Array Field} {fd : Field} {n : Nat} (hu : P.underlying t = some (.struct fs)) (hf : fs[f]? = some fd) (hn : sizeS P fd.type = some n) (hz : n ≠ 0)
    (h1 : opd x = some x') (hs : step (.faddr fd.offset x') e m = some (v, m')) (hE : Env.On G e a (opdT x')) (hM : Rel G m w) :
    Good ((execOp a.eval ⟨dst, .fieldAddr t x f, ty, pos, aft, grd⟩).run P w) G m m' w v := by
  have r1 := opd_R h1 hE
  simp only [step] at hs
  split at hs
  · rename_i l i o hc
    simp only [Option.some.injEq, Prod.mk.injEq] at hs
    obtain ⟨rfl, rfl⟩ := hs
    rw [hc] at r1
    obtain ⟨rb, hV, hb⟩ := r1.ptr_inv
    refine good_pure (V := .pointer (some ⟨rb, o + fd.offset, none⟩)) ?_ (.two (.one (.ptr _ _ _ _ hb))) hM
    simp only [execOp, Instr.fieldAt, Sem.run_bind, run_underlying hu, Result.andThen_ok, hf, hV, Instr.sureAddr, Sem.run_pure, fieldPlace, run_sizeS hn, if_neg hz, addr_add]
  · rename_i cs hc
    simp only [Option.some.injEq, Prod.mk.injEq] at hs
    obtain ⟨rfl, rfl⟩ := hs
    rw [hc] at r1
    obtain ⟨b, o, W, hV, hp, hr⟩ := r1.eptr_inv
    refine good_pure (V := .pointer (some ⟨b, o + fd.offset, none⟩)) ?_ (.two (.one (.eptr _ b (o + fd.offset) (fun j => W (fd.offset + j)) (fun j d hj => ?_) (fun j d hj => ?_)))) hM
    · simp only [execOp, Instr.fieldAt, Sem.run_bind, run_underlying hu, Result.andThen_ok, hf, hV, Instr.sureAddr, Sem.run_pure, fieldPlace, run_sizeS hn, if_neg hz, addr_add]
    · rw [List.getElem?_drop] at hj
      rw [Nat.add_assoc]
      exact hp _ _ hj
    · rw [List.getElem?_drop] at hj
      exact hr _ _ hj
  · cases hs
/-- Which memory an operation wants to be reckoned with. -/
theorem Rel.map_blk (hM : Rel G m w) {l i rb : Nat} {es : List (NV × NV)} (hv : G.vis l i) (hb : G.blks l i = some rb) (ho : blk? m l i = some (.mp es)) :
    ∃ ents ck, w.heap[rb]? = some (.map ents ck) ∧ RL (fun (e : NV × NV) (f : MapEntry) => R2 ⟨fun _ _ => none, fun _ _ => none, fun _ _ => none, fun _ _ => False, fun _ _ => False⟩ e.1 f.key ∧ R2 (G.sub l) e.2 f.val) es ents.toList := by
  obtain ⟨o, h1, h2⟩ := hM.blk _ _ _ hv hb
  rw [ho] at h1
  obtain rfl := Option.some.inj h1
  cases h2 with
  | mp _ ents ck hw hc => exact ⟨ents, ck, hw, hc⟩
theorem Rel.cells_blk (hM : Rel G m w) {l i rb : Nat} {cs : List NV} (hv : G.vis l i) (hb : G.blks l i = some rb) (ho : blk? m l i = some (.cells cs)) :
    ∃ vs el fz, w.heap[rb]? = some (.cells vs el fz) ∧ cs.length ≤ vs.size ∧ (∀ (j : Nat) (c : NV), cs[j]? = some c → ∃ V, vs[j]? = some V ∧ R1 (G.sub l) c V) ∧ ∀ (j : Nat), j < cs.length → ¬ (fz.1 ≤ j ∧ j < fz.2) := by
  obtain ⟨o, h1, h2⟩ := hM.blk _ _ _ hv hb
  rw [ho] at h1
  obtain rfl := Option.some.inj h1
  cases h2 with
  | cells _ vs el fz hw hl hc hz => exact ⟨vs, el, fz, hw, hl, hc, hz⟩
theorem run_getObj_map {rb : Nat} {ents : Array MapEntry} {ck : Nat} (h : w.heap[rb]? = some (.map ents ck)) : (getObj rb).run P w = .ok (.map ents ck) w := by
  simp only [getObj, Sem.run, h]
def LKof (P : Program) (t : TypeId) (k : LK) : Prop :=
  match k with
  | .arr n => ∃ el, P.underlying t = some (.array n el)
  | .str => P.underlying t = some .string
  | .slc => ∃ el, P.underlying t = some (.slice el)
  | .map => ∃ kt el, P.underlying t = some (.map kt el)
theorem st_len {t rt : TypeId} {x : Operand} {x' : Opd} {k : LK} (hc : LKof P t k)
    (h1 : opd x = some x') (hs : step (.len k x') e m = some (v, m')) (hE : Env.On G e a (opdT x')) (hM : Rel G m w) (hV : ∀ l i rb, rdOf (.len k x') e = some (l, i) → G.blks l i = some rb → G.vis l i) :
    Good (((Builtin.len_ #[t] rt #[a.eval x]).run P w).andThen fun v w' => .ok (.value v) w') G m m' w v := by
  have r1 := opd_R h1 hE
  simp only [step] at hs
  cases k with
  | arr n =>
    obtain ⟨el, hu⟩ := hc
    simp only [Option.some.injEq, Prod.mk.injEq] at hs
    obtain ⟨rfl, rfl⟩ := hs
    refine good_pure ?_ (R.int _ _) hM
    simp [Builtin.len_, run_underlying hu, goInt]
  | str =>
    simp only at hs
    split at hs
    · rename_i s hx
      simp only [Option.some.injEq, Prod.mk.injEq] at hs
      obtain ⟨rfl, rfl⟩ := hs
      rw [hx] at r1
      refine good_pure ?_ (R.int _ _) hM
      simp [Builtin.len_, run_underlying hc, goInt, r1.str_inv]
    · cases hs
  | slc =>
    obtain ⟨el, hu⟩ := hc
    simp only at hs
    split at hs
    · rename_i sz f r hx
      simp only [Option.some.injEq, Prod.mk.injEq] at hs
      obtain ⟨rfl, rfl⟩ := hs
      rw [hx] at r1
      obtain ⟨A, cap, hV, _⟩ := r1.slc_inv.slc_inv
      refine good_pure ?_ (R.int _ _) hM
      simp [Builtin.len_, run_underlying hu, goInt, hV]
    · rename_i sz r l t hx
      simp only [Option.some.injEq, Prod.mk.injEq] at hs
      obtain ⟨rfl, rfl⟩ := hs
      rw [hx] at r1
      obtain ⟨b, o, cap, T, hV, _⟩ := r1.own_inv
      refine good_pure ?_ (R.int _ _) hM
      simp [Builtin.len_, run_underlying hu, goInt, hV]
    · rename_i l i o n z hx
      simp only [Option.some.injEq, Prod.mk.injEq] at hs
      obtain ⟨rfl, rfl⟩ := hs
      rw [hx] at r1
      obtain ⟨rb, cap, hV, _⟩ := r1.msl_inv
      refine good_pure ?_ (R.int _ _) hM
      simp [Builtin.len_, run_underlying hu, goInt, hV]
    · cases hs
  | map =>
    obtain ⟨kt, el, hu⟩ := hc
    simp only at hs
    split at hs
    · rename_i hx
      simp only [Option.some.injEq, Prod.mk.injEq] at hs
      obtain ⟨rfl, rfl⟩ := hs
      rw [hx] at r1
      refine good_pure ?_ (R.int _ _) hM
      simp [Builtin.len_, run_underlying hu, goInt, r1.nilm_inv]
    · rename_i l i hx
      split at hs
      · rename_i es ho
        simp only [Option.some.injEq, Prod.mk.injEq] at hs
        obtain ⟨rfl, rfl⟩ := hs
        rw [hx] at r1
        obtain ⟨rb, hW, hb⟩ := r1.map_inv
        have hv := hV l i rb (by simp [rdOf, hx]) hb
        obtain ⟨ents, ck, hh, hr⟩ := hM.map_blk hv hb ho
        refine good_pure ?_ (R.int _ _) hM
        have hl : ents.size = es.length := by simpa using hr.length
        simp only [Builtin.len_, List.getElem?_toArray, List.getElem?_cons_zero, Sem.run_bind, run_underlying hu, Result.andThen_ok, hW, run_getObj_map hh, goInt, hl, Sem.run_pure]
      · cases hs
    · cases hs
theorem mm2_run {max : Bool} {x y z : NV} {X Y : Value} (h : mm2 max x y = some z) (hx : R G x X) (hy : R G y Y) : ∃ Z, ((if max then Builtin.max2 X Y else Builtin.min2 X Y) : Sem Value).run P w = .ok Z w ∧ R G z Z := by
  cases x <;> cases y <;> simp only [mm2] at h <;> try (cases h; done)
  split at h
  · simp only [Option.some.injEq] at h
    subst h
    rw [hx.int_inv, hy.int_inv]
    cases max <;> exact ⟨_, rfl, R.int _ _⟩
  · cases h
theorem mmL_run {max : Bool} : ∀ {l : List NV} {L : List Value} {x z : NV} {X : Value}, mmL max x l = some z → R G x X → RL (R G) l L →
    ∃ Z, ((if max then L.foldlM Builtin.max2 X else L.foldlM Builtin.min2 X) : Sem Value).run P w = .ok Z w ∧ R G z Z
  | [], L, x, z, X, h, hx, hl => by
    obtain rfl := hl.nil_inv
    simp only [mmL, Option.some.injEq] at h
    subst h
    cases max <;> exact ⟨X, rfl, hx⟩
  | y :: l, L, x, z, X, h, hx, hl => by
    obtain ⟨Y, L', rfl, hy, hl'⟩ := hl.cons_inv
    simp only [mmL] at h
    split at h
    · rename_i q hq
      obtain ⟨Q, hQ, hRQ⟩ := mm2_run (P := P) (w := w) hq hx hy
      obtain ⟨Z, hZ, hRZ⟩ := mmL_run h hRQ hl'
      refine ⟨Z, ?_, hRZ⟩
      cases max <;> simp only [Bool.false_eq_true, if_false, if_true] at hQ hZ ⊢ <;> simp only [List.foldlM_cons, Sem.run_bind, hQ, Result.andThen_ok, hZ]
    · cases h
theorem st_mm {max : Bool} {ts : Array TypeId} {rt : TypeId} {xs : List Operand} {xs' : List Opd} (h1 : opdL xs = some xs') (hs : step (.mm max xs') e m = some (v, m')) (hE : Env.On G e a (xs'.flatMap opdT)) (hM : Rel G m w) :
    Good (((if max then Builtin.max_ ts rt (xs.map a.eval).toArray else Builtin.min_ ts rt (xs.map a.eval).toArray).run P w).andThen fun v w' => .ok (.value v) w') G m m' w v := by
  have r := opdL_R h1 hE
  simp only [step] at hs
  split at hs
  · rename_i x l hl
    obtain ⟨hv, rfl⟩ := pureM_some hs
    rw [hl] at r
    obtain ⟨X, L, hL, hx, hr⟩ := r.cons_inv
    obtain ⟨Z, hZ, hRZ⟩ := mmL_run (P := P) (w := w) hv hx hr
    refine good_pure (V := Z) ?_ hRZ hM
    cases max <;> simp only [Bool.false_eq_true, if_false, if_true] at hZ ⊢ <;> simp only [Builtin.max_, Builtin.min_, hL, hZ, Result.andThen_ok]
  · cases hs
/-- Cells that nobody writes. -/
theorem run_loadCells_pub (hM : Rel G m w) {b o n : Nat} {V : Nat → Value} (h : ∀ j, j < n → G.pub b (o + j) = some (V j)) :
    (loadCells ⟨b, o, none⟩ n).run P w = .ok ((List.range n).map V).toArray w :=
  run_loadCells w _ n V (fun j hj => by rw [addr_add]; exact hM.pub _ _ _ (h j hj))
theorem RL.ofFun {α : Type} {S : α → Value → Prop} (V : Nat → Value) : ∀ (cs : List α) (o : Nat), (∀ (j : Nat) d, cs[j]? = some d → S d (V (o + j))) → RL S cs ((List.range cs.length).map fun j => V (o + j))
  | [], _, _ => .nil
  | c :: cs, o, h => by
    have ih := RL.ofFun V cs (o + 1) (fun j d hj => by have := h (j + 1) d (by simpa using hj); rwa [show o + (j + 1) = o + 1 + j by omega] at this)
    rw [List.length_cons, List.range_succ_eq_map, List.map_cons, List.map_map]
    refine .cons (h 0 c rfl) ?_
    have : (fun j => V (o + j)) ∘ Nat.succ = fun j => V (o + 1 + j) := by
      funext j
      show V (o + (j + 1)) = _
      rw [show o + (j + 1) = o + 1 + j by omega]
    rw [this]
    exact ih
end
end Go.Proofs.Ythecdihimfddgaa.Nv
