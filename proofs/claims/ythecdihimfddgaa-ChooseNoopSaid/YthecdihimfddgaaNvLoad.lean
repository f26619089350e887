/- Loads, comparisons, maps that are read: the model does what Nv reckons. Of no program. -/
import Derived.Test.YthecdihimfddgaaNvRead
import Derived.ChangeKeysEq
namespace Go.Proofs.Ythecdihimfddgaa.Nv
open Go Go.RowKit

section
variable {P : Program} {w : World} {G : Gh} {m m' : Mem} {e : Env} {a : Act} {v : NV} {dst : Option Nat} {ty : TypeId} {pos : String} {aft : Array Edge} {grd : Option (Nat × Bool)}

theorem cell_of_block {rb : Nat} {vs : Array Value} {el : TypeId} {fz : Nat × Nat} (hw : w.heap[rb]? = some (.cells vs el fz)) (o : Nat) : w.cell? ⟨rb, o, none⟩ = vs[o]? := by
  simp [World.cell?, hw]
/-- The cells of a block, as they are read. -/
theorem Rel.cells_list (hM : Rel G m w) {l i rb : Nat} {cs : List NV} (hv : G.vis l i) (hb : G.blks l i = some rb) (ho : blk? m l i = some (.cells cs)) :
    ∃ Vs : List Value, RL (R1 (G.sub l)) cs Vs ∧ ∀ (j : Nat) V, Vs[j]? = some V → w.cell? ⟨rb, j, none⟩ = some V := by
  obtain ⟨vs, el, fz, hw, hl, hc, _⟩ := hM.cells_blk hv hb ho
  refine ⟨vs.toList.take cs.length, RL.mk (by simp; omega) (fun j c V h1 h2 => ?_), fun j V h => ?_⟩
  · obtain ⟨V', h3, h4⟩ := hc j c h1
    rw [List.getElem?_take] at h2
    split at h2
    · have : V' = V := by simpa [h3] using h2
      exact this ▸ h4
    · cases h2
  · rw [List.getElem?_take] at h
    split at h
    · rw [cell_of_block hw]; simpa using h
    · cases h
theorem load_run {t : TypeId} {agg : Bool} {n : Nat} {x u : NV} {X : Value} (ha : aggS P t = some agg) (hn : sizeS P t = some n) (hx : R G x X) (hM : Rel G m w) (hV : ∀ l i o rb, x = .ptr l i o → G.blks l i = some rb → G.vis l i) (hu : loadV agg n x m = some u) :
    ∃ V, (Instr.loadAt t X).run P w = .ok V w ∧ R G u V := by
  unfold loadV at hu
  split at hu
  · rename_i cs
    obtain ⟨b, o, W, rfl, hp, hr⟩ := hx.eptr_inv
    cases agg with
    | true =>
      simp only [if_true] at hu
      split at hu
      · rename_i hle
        simp only [Option.some.injEq] at hu
        subst hu
        refine ⟨.agg ((List.range n).map W).toArray, ?_, .two (.agg _ _ ?_)⟩
        · have : (loadCells ⟨b, o, none⟩ n).run P w = .ok ((List.range n).map W).toArray w := run_loadCells_pub hM (fun j hj => hp j _ (List.getElem?_eq_getElem (by omega)))
          simp only [Instr.loadAt, Instr.sureAddr, Sem.run_bind, Sem.run_pure, Result.andThen_ok, loadVar, run_aggS ha, if_true, run_sizeS hn, this]
        · have := RL.ofFun (S := R1 G) W (cs.take n) 0 (fun j d hj => by
            rw [List.getElem?_take] at hj
            split at hj
            · rw [Nat.zero_add]; exact .pl (hr _ _ hj)
            · cases hj)
          simpa [List.length_take, Nat.min_eq_left hle] using this
      · cases hu
    | false =>
      simp only [Bool.false_eq_true, if_false] at hu
      refine ⟨W 0, ?_, .two (.one (.pl (hr _ _ hu)))⟩
      have hc := hM.pub _ _ _ (hp 0 _ hu)
      simp only [Nat.add_zero] at hc
      simp [Instr.loadAt, Instr.sureAddr, loadVar, run_aggS ha, hc]
  · rename_i l i o
    obtain ⟨rb, rfl, hb⟩ := hx.ptr_inv
    split at hu
    · rename_i cs ho
      obtain ⟨Vs, hR, hcell⟩ := hM.cells_list (hV _ _ _ _ rfl hb) hb ho
      cases agg with
      | true =>
        simp only [if_true] at hu
        split at hu
        · rename_i hle
          split at hu
          · rename_i cs' hcs
            simp only [Option.some.injEq] at hu
            subst hu
            refine ⟨.agg ((Vs.drop o).take n).toArray, ?_, .two (.agg _ _ (((hR.drop o).take n).sh1 (out_shifts G l) hcs))⟩
            have hlen : ((Vs.drop o).take n).length = n := by simp [hR.length]; omega
            have := run_loadCells_list (P := P) w ⟨rb, o, none⟩ ((Vs.drop o).take n) (fun j V hj => by
              rw [List.getElem?_take] at hj
              split at hj
              · rw [List.getElem?_drop] at hj
                rw [addr_add]; exact hcell _ _ hj
              · cases hj)
            rw [hlen] at this
            simp only [Instr.loadAt, Instr.sureAddr, Sem.run_bind, Sem.run_pure, Result.andThen_ok, loadVar, run_aggS ha, if_true, run_sizeS hn, this]
          · cases hu
        · cases hu
      | false =>
        simp only [Bool.false_eq_true, if_false] at hu
        split at hu
        · rename_i c hc
          obtain ⟨V, hVs, h1⟩ := hR.get hc
          refine ⟨V, ?_, .two (.one (h1.sh (out_shifts G l) hu))⟩
          simp [Instr.loadAt, Instr.sureAddr, loadVar, run_aggS ha, hcell _ _ hVs]
        · cases hu
    · cases hu
  · cases hu
theorem st_load {t : TypeId} {agg : Bool} {n : Nat} {x : Operand} {x' : Opd} (ha : aggS P t = some agg) (hn : sizeS P t = some n) (h1 : opd x = some x') (hs : step (.load agg n x') e m = some (v, m')) (hE : Env.On G e a (opdT x')) (hM : Rel G m w)
    (hV : ∀ l i rb, rdOf (.load agg n x') e = some (l, i) → G.blks l i = some rb → G.vis l i) : Good ((execOp a.eval ⟨dst, .load t x, ty, pos, aft, grd⟩).run P w) G m m' w v := by
  have r1 := opd_R h1 hE
  simp only [step] at hs
  obtain ⟨hv, rfl⟩ := pureM_some hs
  obtain ⟨V, hr, hR⟩ := load_run ha hn r1 hM (fun l i o rb h hb => hV l i rb (by simp [rdOf, h]) hb) hv
  refine good_pure (V := V) ?_ hR hM
  simp only [execOp, Sem.run_bind, hr, Result.andThen_ok, Sem.run_pure]

/-! ### bytes to a string -/
theorem bytes_ints : ∀ (l : List NV) (L : List Value) (bs : List UInt8), bytesOf l = some bs → RL (R1 G) l L → ∃ ns : List Int, L = ns.map (Value.int .u8) ∧ bs = ns.map fun n => UInt8.ofNat n.toNat
  | [], L, bs, h, hr => by
    obtain rfl := hr.nil_inv
    simp only [bytesOf, Option.some.injEq] at h
    subst h
    exact ⟨[], rfl, rfl⟩
  | v :: l, L, bs, h, hr => by
    obtain ⟨V, L', rfl, hv, hr'⟩ := hr.cons_inv
    simp only [bytesOf] at h
    split at h
    · rename_i b bs' hb hbs
      simp only [Option.some.injEq] at h
      subst h
      obtain ⟨ns, rfl, rfl⟩ := bytes_ints l L' bs' hbs hr'
      cases v <;> simp only [byteOf] at hb <;> try (cases hb; done)
      rename_i k n
      cases k <;> simp only [Option.some.injEq] at hb <;> try (cases hb; done)
      subst hb
      refine ⟨n :: ns, ?_, rfl⟩
      rw [R.int_inv (.two (.one hv))]
      rfl
    · cases h
theorem foldl_push : ∀ (ns : List Int) (s : ByteArray), ns.foldl (fun r n => r.push (UInt8.ofNat n.toNat)) s = ⟨s.data ++ (ns.map fun n => UInt8.ofNat n.toNat).toArray⟩
  | [], s => by simp
  | n :: ns, s => by
    rw [List.foldl_cons, foldl_push ns]
    congr 1
    simp [ByteArray.push]
theorem bytes_run {A : Addr} {n cap : Nat} {l : List NV} {L : List Value} {bs : List UInt8} (hb : bytesOf l = some bs) (hr : RL (R1 G) l L) (hl : l.length = n) (hc : ∀ (j : Nat) V, L[j]? = some V → w.cell? (A.add j) = some V) :
    (Conv.bytesToString (.slice (some A) n cap)).run P w = .ok (.string ⟨bs.toArray⟩) w := by
  obtain ⟨ns, rfl, rfl⟩ := bytes_ints l L bs hb hr
  have h1 := run_loadCells_list (P := P) w A _ hc
  rw [hr.length, hl] at h1
  rw [run_bytesToString w A n cap ns h1, foldl_push]
  congr 3
  exact Array.empty_append
theorem flat_get {sz : Nat} : ∀ (rows : List (List NV)) (j : Nat) (d : NV), (∀ r ∈ rows, r.length = 1) → rows.flatten[j]? = some d → ∃ r, rows[j]? = some r ∧ r[0]? = some d
  | [], j, d, _, h => by simp at h
  | r :: rows, j, d, hl, h => by
    have h1 := hl r (by simp)
    obtain ⟨x, rfl⟩ := List.length_eq_one_iff.1 h1
    rw [List.flatten_cons] at h
    cases j with
    | zero => exact ⟨[x], rfl, by simpa using h⟩
    | succ j =>
      obtain ⟨r, h2, h3⟩ := flat_get (sz := sz) rows j d (fun r hr => hl r (by simp [hr])) (by simpa using h)
      exact ⟨r, by simpa using h2, h3⟩
theorem flat_len : ∀ (rows : List (List NV)), (∀ r ∈ rows, r.length = 1) → rows.flatten.length = rows.length
  | [], _ => rfl
  | r :: rows, hl => by
    have h1 := hl r (by simp)
    have := flat_len rows (fun r hr => hl r (by simp [hr]))
    simp only [List.flatten_cons, List.length_append, List.length_cons, h1, this]
    omega
theorem bytes_pub {sz : Nat} {full : Bool} {r : List (List NV)} {bs : List UInt8} {X : Value} (hM : Rel G m w) (h : R0 G.pub (.slc sz full r) X) (hz : sz = 1 ∨ r.isEmpty = true) (hb : bytesOf r.flatten = some bs) :
    (Conv.bytesToString X).run P w = .ok (.string ⟨bs.toArray⟩) w := by
  obtain ⟨A, cap, rfl, _, _, hl, hne⟩ := h.slc_inv
  by_cases he : r = []
  · subst he
    simp only [List.flatten_nil, bytesOf, Option.some.injEq] at hb
    subst hb
    cases A with
    | none => rfl
    | some A => exact bytes_run (G := G) (l := []) rfl .nil rfl (fun j V h => by simp at h)
  · obtain rfl : sz = 1 := hz.resolve_right (by simpa using he)
    obtain ⟨b, o, W, rfl, hp, hr⟩ := hne he
    have hlen := flat_len r hl
    refine bytes_run (G := G) (l := r.flatten) (L := (List.range r.flatten.length).map fun j => W j 0) hb ?_ hlen (fun j V hj => ?_)
    · have := RL.ofFun (S := R1 G) (fun j => W j 0) r.flatten 0 (fun j d hj => by
        obtain ⟨c, h1, h2⟩ := flat_get (sz := 1) r j d hl hj
        rw [Nat.zero_add]
        exact .pl (hr j 0 c d h1 h2))
      simpa using this
    · rw [hlen] at hj
      obtain ⟨hlt, hj⟩ := List.getElem?_eq_some_iff.1 hj
      simp only [List.length_map, List.length_range] at hlt
      have hd : r.flatten[j]? = some r.flatten[j] := List.getElem?_eq_getElem (by omega)
      obtain ⟨c, h1, h2⟩ := flat_get (sz := 1) r j _ hl hd
      rw [addr_add]
      have := hM.pub _ _ _ (hp j 0 c _ h1 h2)
      simp only [Nat.mul_one, Nat.add_zero] at this
      rw [this, ← hj]
      simp
theorem bytesStr_run {x u : NV} {X : Value} (hx : R G x X) (hM : Rel G m w) (hV : ∀ l i o n z rb, x = .msl l i o n z → G.blks l i = some rb → G.vis l i) (hu : bytesStr x m = some u) :
    ∃ V, (Conv.bytesToString X).run P w = .ok V w ∧ R G u V := by
  unfold bytesStr at hu
  split at hu
  · rename_i sz full r
    split at hu
    · rename_i hz
      split at hu
      · rename_i bs hb
        simp only [Option.some.injEq] at hu
        subst hu
        exact ⟨_, bytes_pub hM hx.slc_inv hz hb, R.str _⟩
      · cases hu
    · cases hu
  · rename_i sz r l t
    split at hu
    · rename_i hz
      split at hu
      · rename_i bs hb
        simp only [Option.some.injEq] at hu
        subst hu
        obtain ⟨_, _, _, _, _, _, h0, _⟩ := hx.own_inv
        exact ⟨_, bytes_pub hM h0 (.inl hz) hb, R.str _⟩
      · cases hu
    · cases hu
  · rename_i l i o n z
    split at hu
    · rename_i cs ho
      split at hu
      · rename_i hz
        split at hu
        · rename_i bs hb
          simp only [Option.some.injEq] at hu
          subst hu
          obtain ⟨rb, cap, rfl, hbk, _⟩ := hx.msl_inv
          obtain ⟨Vs, hR, hcell⟩ := hM.cells_list (hV _ _ _ _ _ _ rfl hbk) hbk ho
          refine ⟨_, bytes_run (G := G.sub l) (l := (cs.drop o).take n) (L := (Vs.drop o).take n) hb ((hR.drop o).take n) (by simp; omega) (fun j V hj => ?_), R.str _⟩
          rw [List.getElem?_take] at hj
          split at hj
          · rw [List.getElem?_drop] at hj
            rw [addr_add]; exact hcell _ _ hj
          · cases hj
        · cases hu
      · cases hu
    · cases hu
  · cases hu
theorem st_b2s {s d el : TypeId} {x : Operand} {x' : Opd} (hu1 : P.underlying s = some (.slice el)) (hu2 : P.underlying d = some .string) (hu3 : P.underlying el = some (.int .u8)) (h1 : opd x = some x') (hs : step (.b2s x') e m = some (v, m'))
    (hE : Env.On G e a (opdT x')) (hM : Rel G m w) (hV : ∀ l i rb, rdOf (.b2s x') e = some (l, i) → G.blks l i = some rb → G.vis l i) : Good ((execOp a.eval ⟨dst, .convert s d x, ty, pos, aft, grd⟩).run P w) G m m' w v := by
  have r1 := opd_R h1 hE
  simp only [step] at hs
  obtain ⟨hv, rfl⟩ := pureM_some hs
  obtain ⟨V, hr, hR⟩ := bytesStr_run (P := P) (w := w) r1 hM (fun l i o n z rb h hb => hV l i rb (by simp [rdOf, h]) hb) hv
  refine good_pure (V := V) ?_ hR hM
  have hsl : ∃ A n cap, a.eval x = .slice A n cap := by
    have hv' := hv
    unfold bytesStr at hv'
    split at hv'
    · rename_i h; rw [h] at r1; obtain ⟨A, cap, hV, _⟩ := r1.slc_inv.slc_inv; exact ⟨_, _, _, hV⟩
    · rename_i h; rw [h] at r1; obtain ⟨b, o, cap, T, hV, _⟩ := r1.own_inv; exact ⟨_, _, _, hV⟩
    · rename_i h; rw [h] at r1; obtain ⟨rb, cap, hV, _⟩ := r1.msl_inv; exact ⟨_, _, _, hV⟩
    · cases hv'
  obtain ⟨A, n, cap, hA⟩ := hsl
  rw [hA] at hr
  simp only [execOp, Sem.run_bind, hA, run_convert_bytes_string w s d el A n cap hu1 hu3 hu2, hr, Result.andThen_ok, Sem.run_pure]

/-! ### Comparisons -/
def valT (P : Program) (t : TypeId) (Vs : List Value) : Value :=
  match aggS P t with
  | some true => .agg Vs.toArray
  | _ => Vs.headD Go.undef
theorem part_val {t : TypeId} {ag : Bool} {n off : Nat} {Vs : List Value} (ha : aggS P t = some ag) (hn : sizeS P t = some n) (hl : off + n ≤ Vs.length) (h1 : ag = false → n = 1) :
    (part t Vs.toArray off).run P w = .ok (valT P t ((Vs.drop off).take n)) w := by
  cases ag with
  | true =>
    simp only [part, Sem.run_bind, run_aggS ha, Result.andThen_ok, if_true, run_sizeS hn, Sem.run_pure, valT, ha]
    simp only [List.extract_toArray, List.extract_eq_take_drop, Nat.add_sub_cancel_left]
  | false =>
    obtain rfl := h1 rfl
    have hv : Vs[off]? = some Vs[off] := List.getElem?_eq_getElem (by omega)
    have hv' : Vs.toArray[off]? = some Vs[off] := by simp
    simp only [part, Sem.run_bind, run_aggS ha, Result.andThen_ok, Bool.false_eq_true, if_false, hv', Sem.run_pure, valT, ha]
    congr 1
    rw [List.drop_eq_getElem_cons (by omega)]
    rfl
theorem eqL_append : ∀ {ks ks' : List SK} {a b a' b' : List NV} {x : Bool}, a.length = ks.length → b.length = ks.length → eqL (ks ++ ks') (a ++ a') (b ++ b') = some x → ∃ y z, eqL ks a b = some y ∧ eqL ks' a' b' = some z ∧ x = (y && z)
  | [], ks', [], [], a', b', x, _, _, h => ⟨true, x, rfl, h, by simp⟩
  | k :: ks, ks', v :: a, u :: b, a', b', x, h1, h2, h => by
    simp only [List.cons_append, eqL] at h
    split at h
    · rename_i q hq
      split at h
      · rename_i c hc
        simp only [Option.some.injEq] at h
        obtain ⟨y, z, h1, h2, h3⟩ := eqL_append (by simpa using h1) (by simpa using h2) hc
        exact ⟨q && y, z, by simp [eqL, hq, h1], h2, by rw [← h, h3, Bool.and_assoc]⟩
      · cases h
    · cases h
  | [], _, _ :: _, _, _, _, _, h, _, _ => by simp at h
  | [], _, [], _ :: _, _, _, _, _, h, _ => by simp at h
  | _ :: _, _, [], _, _, _, _, h, _, _ => by simp at h
  | _ :: _, _, _ :: _, [], _, _, _, _, h, _ => by simp at h
theorem eqL_len : ∀ {ks : List SK} {a b : List NV} {x : Bool}, eqL ks a b = some x → a.length = ks.length ∧ b.length = ks.length
  | [], [], [], _, _ => ⟨rfl, rfl⟩
  | k :: ks, v :: a, u :: b, x, h => by
    simp only [eqL] at h
    split at h
    · split at h
      · rename_i c hc
        have := eqL_len hc
        exact ⟨by simp [this.1], by simp [this.2]⟩
      · cases h
    · cases h
  | [], [], _ :: _, _, h => by simp [eqL] at h
  | [], _ :: _, _, _, h => by simp [eqL] at h
  | _ :: _, [], _, _, h => by simp [eqL] at h
  | _ :: _, _ :: _, [], _, h => by simp [eqL] at h
theorem eqC_run {G' : Gh} {t : TypeId} {s : SK} {x y : NV} {X Y : Value} {b : Bool} (h : eqC s x y = some b) (hx : R1 G x X) (hy : R1 G' y Y)
    (ht : (s = .bool ∧ P.underlying t = some .bool) ∨ (s = .int ∧ ∃ k, P.underlying t = some (.int k)) ∨ (s = .str ∧ P.underlying t = some .string)) (k : Nat) : (Op.equalIn (k + 1) t X Y).run P w = .ok b w := by
  rcases ht with ⟨rfl, ht⟩ | ⟨rfl, k', ht⟩ | ⟨rfl, ht⟩
  · cases x <;> cases y <;> simp only [eqC] at h <;> try (cases h; done)
    obtain rfl := R.bool_inv (.two (.one hx))
    obtain rfl := R.bool_inv (.two (.one hy))
    simp only [Option.some.injEq] at h
    subst h
    exact run_equalIn_bool' w k t _ _ ht
  · cases x <;> cases y <;> simp only [eqC] at h <;> try (cases h; done)
    obtain rfl := R.int_inv (.two (.one hx))
    obtain rfl := R.int_inv (.two (.one hy))
    split at h
    · rename_i hk
      subst hk
      simp only [Option.some.injEq] at h
      subst h
      exact run_equalIn_int w k t _ _ _ _ ht
    · cases h
  · cases x <;> cases y <;> simp only [eqC] at h <;> try (cases h; done)
    obtain rfl := R.str_inv (.two (.one hx))
    obtain rfl := R.str_inv (.two (.one hy))
    simp only [Option.some.injEq] at h
    subst h
    exact run_equalIn_string w k t _ _ ht
/-- The fields from a place on. -/
theorem eqFields_run {G' : Gh} {d : Nat} (ih : ∀ {t : TypeId} {ks : List SK} {xs ys : List NV} {Xs Ys : List Value} {b : Bool}, kinds P d t = some ks → eqL ks xs ys = some b → RL (R1 G) xs Xs → RL (R1 G') ys Ys → ∀ k, d ≤ k → (Op.equalIn k t (valT P t Xs) (valT P t Ys)).run P w = .ok b w)
    {k : Nat} (hk : d ≤ k) {Xs Ys : List Value} : ∀ {fs : List Field} {off : Nat} {ks : List SK} {xs ys : List NV} {b : Bool}, kindsF P (kinds P d) fs off = some ks → eqL ks xs ys = some b → RL (R1 G) xs (Xs.drop off) → RL (R1 G') ys (Ys.drop off) → off ≤ Xs.length → off ≤ Ys.length →
    (Op.eqFields k Xs.toArray Ys.toArray fs).run P w = .ok b w
  | [], off, ks, xs, ys, b, hf, he, hx, hy, _, _ => by
    simp only [kindsF, Option.some.injEq] at hf
    subst hf
    obtain ⟨h1, h2⟩ := eqL_len he
    obtain rfl := List.eq_nil_of_length_eq_zero h1
    obtain rfl := List.eq_nil_of_length_eq_zero h2
    simp only [eqL, Option.some.injEq] at he
    subst he
    simp [Op.eqFields]
  | f :: fs, off, ks, xs, ys, b, hf, he, hx, hy, ho1, ho2 => by
    simp only [kindsF] at hf
    split at hf
    · rename_i hname
      obtain ⟨hn, hoff⟩ := hname
      split at hf
      · rename_i a ha
        split at hf
        · rename_i hsz
          split at hf
          · rename_i b' hb'
            simp only [Option.some.injEq] at hf
            subst hf
            obtain ⟨l1, l2⟩ := eqL_len he
            rw [List.length_append] at l1 l2
            have e1 : xs = xs.take a.length ++ xs.drop a.length := (List.take_append_drop _ _).symm
            have e2 : ys = ys.take a.length ++ ys.drop a.length := (List.take_append_drop _ _).symm
            rw [e1, e2] at he
            obtain ⟨y, z, q1, q2, rfl⟩ := eqL_append (by simp; omega) (by simp; omega) he
            have hX := hx.length
            have hY := hy.length
            rw [List.length_drop] at hX hY
            have hag : ∃ ag, aggS P f.type = some ag ∧ (ag = false → a.length = 1) := by
              cases d with
              | zero => cases ha
              | succ d =>
                simp only [kinds] at ha
                unfold aggS
                split at ha
                · rename_i hu; rw [hu]; simp only [Option.some.injEq] at ha; subst ha; exact ⟨false, rfl, fun _ => rfl⟩
                · rename_i hu; rw [hu]; simp only [Option.some.injEq] at ha; subst ha; exact ⟨false, rfl, fun _ => rfl⟩
                · rename_i hu; rw [hu]; simp only [Option.some.injEq] at ha; subst ha; exact ⟨false, rfl, fun _ => rfl⟩
                · rename_i hu; rw [hu]; exact ⟨true, rfl, fun h => by cases h⟩
                · cases ha
            obtain ⟨ag, hag, h1⟩ := hag
            have p1 := part_val (P := P) (w := w) (off := f.offset) (Vs := Xs) hag hsz (by omega) h1
            have p2 := part_val (P := P) (w := w) (off := f.offset) (Vs := Ys) hag hsz (by omega) h1
            rw [hoff] at p1 p2
            have c1 := ih ha q1 (hx.take a.length) (hy.take a.length) k hk
            have c2 := eqFields_run ih hk (fs := fs) (off := off + a.length) hb' q2 (by rw [← List.drop_drop]; exact hx.drop _) (by rw [← List.drop_drop]; exact hy.drop _) (by omega) (by omega)
            have hn' : f.name ≠ "_" := by simpa using hn
            simp only [Op.eqFields, hn', ne_eq, not_false_eq_true, if_true, Sem.run_bind, hoff, p1, p2, c1, Result.andThen_ok]
            cases y
            · simp
            · simpa using c2
          · cases hf
        · cases hf
      · cases hf
    · cases hf
theorem fieldsOf_struct {t : TypeId} {fs : Array Field} (hu : P.underlying t = some (.struct fs)) : P.fieldsOf t = fs := by
  simp [Program.fieldsOf, hu]
theorem eqL_run {G' : Gh} : ∀ (d : Nat) {t : TypeId} {ks : List SK} {xs ys : List NV} {Xs Ys : List Value} {b : Bool}, kinds P d t = some ks → eqL ks xs ys = some b → RL (R1 G) xs Xs → RL (R1 G') ys Ys → ∀ k, d ≤ k →
    (Op.equalIn k t (valT P t Xs) (valT P t Ys)).run P w = .ok b w
  | 0, _, _, _, _, _, _, _, h, _, _, _, _, _ => by cases h
  | d + 1, t, ks, xs, ys, Xs, Ys, b, h, he, hx, hy, k, hk => by
    obtain ⟨k, rfl⟩ : ∃ k', k = k' + 1 := ⟨k - 1, by omega⟩
    have one : ∀ (s : SK), ks = [s] → aggS P t = some false → ((s = .bool ∧ P.underlying t = some .bool) ∨ (s = .int ∧ ∃ k, P.underlying t = some (.int k)) ∨ (s = .str ∧ P.underlying t = some .string)) →
        (Op.equalIn (k + 1) t (valT P t Xs) (valT P t Ys)).run P w = .ok b w := by
      intro s hs ha ht
      subst hs
      obtain ⟨l1, l2⟩ := eqL_len he
      obtain ⟨x, rfl⟩ := List.length_eq_one_iff.1 l1
      obtain ⟨y, rfl⟩ := List.length_eq_one_iff.1 l2
      obtain ⟨X, _, rfl, hX, hn⟩ := hx.cons_inv
      obtain rfl := hn.nil_inv
      obtain ⟨Y, _, rfl, hY, hn⟩ := hy.cons_inv
      obtain rfl := hn.nil_inv
      have hc : eqC s x y = some b := by
        simp only [eqL] at he
        split at he
        · rename_i q hq
          simp only [Bool.and_true] at he
          rw [hq]; exact he
        · cases he
      simp only [valT, ha, List.headD_cons]
      exact eqC_run hc hX hY ht k
    have hk0 := h
    simp only [kinds] at h
    split at h
    · rename_i hu
      exact one .bool (by simpa using h.symm) (by simp [aggS, hu]) (.inl ⟨rfl, hu⟩)
    · rename_i k' hu
      exact one .int (by simpa using h.symm) (by simp [aggS, hu]) (.inr (.inl ⟨rfl, _, hu⟩))
    · rename_i hu
      exact one .str (by simpa using h.symm) (by simp [aggS, hu]) (.inr (.inr ⟨rfl, hu⟩))
    · rename_i fs hu
      split at h
      · cases h
      · rename_i hst
        have ha : aggS P t = some true := by simp [aggS, hu]
        simp only [valT, ha]
        rw [run_equalIn_struct w k t _ _ (by rw [fieldsOf_struct hu]; exact hu) (by simpa using hst), fieldsOf_struct hu]
        exact eqFields_run (fun {t ks xs ys Xs Ys b} h1 h2 h3 h4 k hk => eqL_run d h1 h2 h3 h4 k hk) (by omega) h he hx hy (Nat.zero_le _) (Nat.zero_le _)
    · cases h
theorem keyT_spec {t : TypeId} {kt : KT} (h : keyT P t = some kt) : kinds P 100 t = some kt.ks ∧ aggS P t = some kt.agg := by
  unfold keyT at h
  split at h
  · rename_i ks ag h1 h2
    simp only [Option.some.injEq] at h
    subst h
    exact ⟨h1, h2⟩
  · cases h
theorem kinds_one {t : TypeId} {ks : List SK} {d : Nat} (h : kinds P d t = some ks) (ha : aggS P t = some false) : ks.length = 1 := by
  cases d with
  | zero => cases h
  | succ d =>
    simp only [kinds] at h
    unfold aggS at ha
    split at h
    · simp only [Option.some.injEq] at h; subst h; rfl
    · simp only [Option.some.injEq] at h; subst h; rfl
    · simp only [Option.some.injEq] at h; subst h; rfl
    · rename_i hu; rw [hu] at ha; cases ha
    · cases h
theorem eqC_R1 {k : SK} {x y : NV} {b : Bool} {X Y : Value} {G' : Gh} (h : eqC k x y = some b) (hx : R G x X) (hy : R G' y Y) : R1 G x X ∧ R1 G' y Y := by
  cases k <;> cases x <;> simp only [eqC] at h <;> (try (cases h; done)) <;> cases y <;> simp only at h <;> try (cases h; done)
  · rw [hx.bool_inv, hy.bool_inv]; exact ⟨.pl (.bool _), .pl (.bool _)⟩
  · rw [hx.int_inv, hy.int_inv]; exact ⟨.pl (.int _ _), .pl (.int _ _)⟩
  · rw [hx.str_inv, hy.str_inv]; exact ⟨.pl (.str _), .pl (.str _)⟩
/-- Values of a plain type. -/
theorem eqV_run {t : TypeId} {kt : KT} {x y : NV} {X Y : Value} {b : Bool} {G' : Gh} (h : keyT P t = some kt) (he : eqV kt x y = some b) (hx : R G x X) (hy : R G' y Y) : (Op.equal t X Y).run P w = .ok b w := by
  obtain ⟨h1, h2⟩ := keyT_spec h
  obtain ⟨ag, ks⟩ := kt
  cases ag with
  | true =>
    simp only [eqV] at he
    split at he
    · rename_i xs ys
      obtain ⟨Xs, rfl, hX⟩ := hx.agg_inv
      obtain ⟨Ys, rfl, hY⟩ := hy.agg_inv
      have := eqL_run (P := P) (w := w) 100 h1 he hX hY 10000 (by omega)
      simp only [valT, h2] at this
      exact this
    · cases he
  | false =>
    have hl := kinds_one h1 h2
    obtain ⟨k, hk⟩ := List.length_eq_one_iff.1 hl
    subst hk
    simp only [eqV] at he
    obtain ⟨hX, hY⟩ := eqC_R1 he hx hy
    have := eqL_run (P := P) (w := w) (xs := [x]) (ys := [y]) (b := b) 100 h1 (by simp [eqL, he]) (.cons hX .nil) (.cons hY .nil) 10000 (by omega)
    simp only [valT, h2, List.headD_cons] at this
    exact this
end
end Go.Proofs.Ythecdihimfddgaa.Nv
