/- New slices and append: the model does what Nv reckons. Of no program. -/
import Derived.Test.YthecdihimfddgaaNvStore
import Derived.IntWalk
namespace Go.Proofs.Ythecdihimfddgaa.Nv
open Go Go.RowKit

section
variable {P : Program} {w : World} {G : Gh} {m m' : Mem} {e : Env} {a : Act} {v : NV} {dst : Option Nat} {ty : TypeId} {pos : String} {aft : Array Edge} {grd : Option (Nat × Bool)}

theorem range_mul_map {α : Type} (s : Nat) (f : Nat → α) : ∀ n, (List.range (n * s)).map (fun i => f (i % s)) = (List.replicate n ((List.range s).map f)).flatten
  | 0 => by simp
  | n + 1 => by
    rw [Nat.succ_mul, Nat.add_comm, List.range_add, List.map_append, List.map_map, List.replicate_succ, List.flatten_cons, ← range_mul_map s f n]
    congr 1
    · apply List.map_congr_left
      intro i hi
      rw [Nat.mod_eq_of_lt (by simpa using hi)]
    · apply List.map_congr_left
      intro i _
      simp
theorem zero_cells (Z : Array Value) (n : Nat) : ((Array.range (n * Z.size)).map (Z[· % Z.size]!)).toList = (List.replicate n Z.toList).flatten := by
  have h := range_mul_map Z.size (fun i => Z[i]!) n
  have h2 : (List.range Z.size).map (fun i => Z[i]!) = Z.toList := by
    apply List.ext_getElem?
    intro j
    rw [List.getElem?_map, Array.getElem?_toList]
    by_cases hj : j < Z.size
    · simp [hj]
    · simp [hj]
  rw [h2] at h
  rw [← h]
  simp
theorem RL.replicate {α β : Type} {S : α → β → Prop} {l : List α} {L : List β} (h : RL S l L) : ∀ n, RL S (List.replicate n l).flatten (List.replicate n L).flatten
  | 0 => .nil
  | n + 1 => by
    simp only [List.replicate_succ, List.flatten_cons]
    exact h.append (RL.replicate h n)
theorem plain1_R {x y : NV} {V : Value} (h : R1 G x V) (hp : plain1 x = some y) : R0 G.pub y V := by
  cases h with
  | pl h => cases h <;> (simp only [plain1, Option.some.injEq] at hp; subst hp; constructor <;> assumption)
  | own sz rows l t b o cap T hne h0 ht hb hp' hf => simp only [plain1, Option.some.injEq] at hp; subst hp; exact h0
  | _ => cases hp
theorem plainL_R : ∀ {x y : List NV} {V : List Value}, RL (R1 G) x V → plainL x = some y → RL (R0 G.pub) y V
  | [], y, V, h, hp => by
    obtain rfl := h.nil_inv
    simp only [plainL, Option.some.injEq] at hp
    subst hp
    exact .nil
  | v :: x, y, V, h, hp => by
    obtain ⟨U, V', rfl, h1, h2⟩ := h.cons_inv
    simp only [plainL] at hp
    split at hp
    · rename_i q r e1 e2
      simp only [Option.some.injEq] at hp
      subst hp
      exact .cons (plain1_R h1 e1) (plainL_R h2 e2)
    · cases hp
theorem rowsMk_spec {sz : Nat} : ∀ {n : Nat} {cs : List NV}, cs.length = n * sz → (rowsMk sz n cs).length = n ∧ (∀ r ∈ rowsMk sz n cs, r.length = sz) ∧ ∀ (i j : Nat) r d, (rowsMk sz n cs)[i]? = some r → r[j]? = some d → cs[i * sz + j]? = some d
  | 0, cs, _ => ⟨rfl, fun r hr => by simp [rowsMk] at hr, fun i j r d h => by simp [rowsMk] at h⟩
  | n + 1, cs, hl => by
    rw [Nat.succ_mul] at hl
    obtain ⟨h1, h2, h3⟩ := rowsMk_spec (sz := sz) (n := n) (cs := cs.drop sz) (by simp; omega)
    refine ⟨by simp [rowsMk, h1], fun r hr => ?_, fun i j r d hi hj => ?_⟩
    · simp only [rowsMk, List.mem_cons] at hr
      rcases hr with rfl | hr
      · simp; omega
      · exact h2 r hr
    · cases i with
      | zero =>
        simp only [rowsMk, List.getElem?_cons_zero, Option.some.injEq] at hi
        subst hi
        rw [List.getElem?_take] at hj
        split at hj
        · simpa using hj
        · cases hj
      | succ i =>
        simp only [rowsMk, List.getElem?_cons_succ] at hi
        have := h3 i j r d hi hj
        rw [List.getElem?_drop] at this
        rw [Nat.succ_mul, show i * sz + sz + j = sz + (i * sz + j) by omega]
        exact this
/-- Cells in line, all of them there for good: as a slice's rows. -/
theorem rows_R0 {p : Pub} {sz n b : Nat} {full : Bool} {cs : List NV} {Cs : List Value} {cap : Nat} (hl : cs.length = n * sz) (hR : RL (R0 p) cs Cs) (hp : ∀ (o : Nat) V, Cs[o]? = some V → p b o = some V) (hc : n ≤ cap) (hf : full = true → cap = n) :
    R0 p (.slc sz full (rowsMk sz n cs)) (.slice (some ⟨b, 0, none⟩) n cap) := by
  obtain ⟨h1, h2, h3⟩ := rowsMk_spec (sz := sz) hl
  have := R0.slc (pub := p) sz full (rowsMk sz n cs) b 0 cap (fun i j => Cs.getD (i * sz + j) Go.undef) h2 (by omega) (fun h => by rw [h1]; exact hf h) (fun i j r d hi hj => by
    obtain ⟨V, h4, _⟩ := hR.get (h3 i j r d hi hj)
    rw [Nat.zero_add, hp _ _ h4]
    simp [List.getD, h4]) (fun i j r d hi hj => by
    obtain ⟨V, h4, h5⟩ := hR.get (h3 i j r d hi hj)
    simpa [List.getD, h4] using h5)
  rwa [h1] at this
theorem st_bslc {t el : TypeId} {n len : Nat} {parts : Array (Nat × Operand)} {z : List NV} {ps : List (Nat × Nat × Opd)} (hu : P.underlying t = some (.slice el)) (hn : sizeS P el = some n) (hz : zeroS P el = some z) (hpos : 0 < n) (hsm : len * n ≤ 16777216)
    (hp : partsA n parts.toList = some ps) (hs : step (.bslc n len (List.replicate len z).flatten ps) e m = some (v, m')) (hE : Env.On G e a (opTs (.bslc n len (List.replicate len z).flatten ps))) (hM : Rel G m w) :
    Fares ((execOp a.eval ⟨dst, .buildSlice t len parts, ty, pos, aft, grd⟩).run P w) G m m' w v := by
  obtain ⟨Z, hZ, hR, hzl⟩ := run_zeroS (P := P) (w := w) (G := G) hz
  have hzn : z.length = n := by rw [hn] at hzl; exact (Option.some.inj hzl).symm
  have hZn : Z.cells.size = n := by
    have := hR.length
    rw [Array.length_toList] at this
    omega
  simp only [step] at hs
  split at hs
  · rename_i cs hf
    split at hs
    · rename_i cs' hpl
      split at hs
      · rename_i hlen
        simp only [Option.some.injEq, Prod.mk.injEq] at hs
        obtain ⟨rfl, rfl⟩ := hs
        have hzeroR : RL (R1 G) (List.replicate len z).flatten ((Array.range (len * n)).map (Z.cells[· % Z.cells.size]!)).toList := by
          have := zero_cells Z.cells len
          rw [hZn] at this
          rw [hZn, this]
          exact hR.replicate len
        obtain ⟨Cs, h3, h4⟩ := fill_run (place := fun i => some (i * n, n)) hf hzeroR (parts_A hp hE)
        have hpl2 := plainL_R h4 hpl
        obtain ⟨hrel, hext, hst, hfull⟩ := rel_pub hM Cs.toList Cs el (0, 0) (fun o V h => by rw [← Array.getElem?_toList]; exact h)
        refine ⟨.slice (some ⟨w.heap.size, 0, none⟩) len len, _, _, .inl ?_, .two (.one (.pl (rows_R0 (p := (G.addP w.heap.size Cs.toList).pub) hlen (hpl2.imp fun _ _ h => h.mono hext.pub) (fun o V h => ?_) (Nat.le_refl _) (fun _ => rfl)))), ⟨hext, hrel, hst, hfull⟩⟩
        · have hparts : (parts.map fun (i, x) => (i, a.eval x)).toList = parts.toList.map fun x => (x.1, a.eval x.2) := by simp
          have hbig : ¬ (len * n > 2 ^ 24) := by
            have : (2 : Nat) ^ 24 = 16777216 := by decide
            omega
          by_cases h0 : len * n = 0
          · have hl0 : len = 0 := by
              rcases Nat.mul_eq_zero.1 h0 with h | h
              · exact h
              · omega
            subst hl0
            simp only [Nat.zero_mul] at h3 hbig
            simp only [execOp, Instr.buildSlice, Sem.run_bind, run_underlying hu, Result.andThen_ok, run_sizeS hn, Nat.zero_mul, hbig, if_false, if_true, Sem.run_pure, hparts]
            have he : ∀ (q : Array Value), (Array.map (fun x => q[x % q.size]!) (Array.range 0)) = (Array.map (fun x => Z.cells[x % Z.cells.size]!) (Array.range 0)) := by intro q; simp
            simp only [he, h3, newRow, Sem.run_bind, run_newObj, Result.andThen_ok, Sem.run_pure, World.alloc_eq]
          · simp only [execOp, Instr.buildSlice, Sem.run_bind, run_underlying hu, Result.andThen_ok, run_sizeS hn, hbig, h0, if_false, Sem.run_pure, hparts, hZ, h3, newRow, run_newObj, World.alloc_eq]
        · show (if w.heap.size = w.heap.size then Cs.toList[o]? else G.pub w.heap.size o) = some V
          rw [if_pos rfl]; exact h
      · cases hs
    · cases hs
  · cases hs
theorem st_mkslc {t el : TypeId} {n b : Nat} {z : List NV} {lo co : Operand} {lo' co' : Opd} (hu : P.underlying t = some (.slice el)) (hn : sizeS P el = some n) (hb : bytesS P el = some b) (hz : zeroS P el = some z) (hpos : 0 < n) (hbp : 0 < b)
    (h1 : opd lo = some lo') (h2 : opd co = some co') (hs : step (.mkslc n b z lo' co') e m = some (v, m')) (hE : Env.On G e a (opdT lo' ++ opdT co')) (hM : Rel G m w) :
    Fares ((execOp a.eval ⟨dst, .makeSlice t lo co, ty, pos, aft, grd⟩).run P w) G m m' w v := by
  have r1 := opd_R h1 (hE.mono (by simp; intro t ht; exact .inl ht))
  have r2 := opd_R h2 (hE.mono (by simp; intro t ht; exact .inr ht))
  obtain ⟨Z, hZ, hR, hzl⟩ := run_zeroS (P := P) (w := w) (G := G) hz
  obtain ⟨i, hi, hib⟩ := Option.map_eq_some_iff.1 hb
  have hzn : z.length = n := by rw [hn] at hzl; exact (Option.some.inj hzl).symm
  have hZn : Z.cells.size = n := by
    have := hR.length
    rw [Array.length_toList] at this
    omega
  simp only [step] at hs
  split at hs
  · rename_i l c hl hc
    obtain ⟨k1, e1⟩ := asNat_some hl
    obtain ⟨k2, e2⟩ := asNat_some hc
    rw [e1] at r1
    rw [e2] at r2
    split at hs
    · rename_i hcond
      obtain ⟨rfl, hby, hsm⟩ := hcond
      split at hs
      · rename_i idx m1 hblk
        simp only [Option.some.injEq, Prod.mk.injEq] at hs
        obtain ⟨rfl, rfl⟩ := hs
        have hcells := zero_cells Z.cells l
        rw [hZn] at hcells
        have hRc : RL (R1 G) (List.replicate l z).flatten ((Array.range (l * n)).map (Z.cells[· % Z.cells.size]!)).toList := by
          rw [hZn, hcells]; exact hR.replicate l
        have hlen := hRc.length
        have hw1 : IntKind.i64.wrap (l : Int) = l := by
          exact IntWalk.i64_in _ (by omega)
        have htl : (decide ((l : Int) < 0) || decide ((b : Int) * (l : Int) > 2 ^ 48)) = false := by
          have hb1 : (b : Int) * (l : Int) ≤ 35184372088832 := by
            have h2 : l * b ≤ 35184372088832 := hby
            have h3 : (b : Int) * (l : Int) = ((l * b : Nat) : Int) := by push_cast; rw [Int.mul_comm]
            omega
          simp only [Bool.or_eq_false_iff, decide_eq_false_iff_not]
          constructor
          · omega
          · omega
        refine ⟨.slice (some ⟨w.heap.size, 0, none⟩) l l, _, _, .inl ?_, .two (.one (.msl 0 idx 0 l n w.heap.size l addB_blk (Nat.le_refl _))), new_cells (Vs := ((Array.range (l * n)).map (Z.cells[· % Z.cells.size]!)).toList) (el := el) hM hblk (by rw [List.take_of_length_le (by omega)]; exact hRc) (0, 0) (fun j _ h => by omega)⟩
        have hcn : ((l : Int)).toNat = l := Int.toNat_natCast l
        have htl2 : decide ((b : Int) * (l : Int) > 2 ^ 48) = false := by simpa using (Bool.or_eq_false_iff.1 htl).2
        have hd1 : decide ((l : Int) < 0) = false := by simp
        have hd2 : decide ((l : Int) > (l : Int)) = false := by simp
        by_cases h0 : l * n = 0
        · have hl0 : l = 0 := by
            rcases Nat.mul_eq_zero.1 h0 with h | h
            · exact h
            · omega
          subst hl0
          have he : ∀ (q : Array Value), (Array.map (fun x => q[x % q.size]!) (Array.range 0)) = (Array.map (fun x => Z.cells[x % Z.cells.size]!) (Array.range 0)) := by intro q; simp
          simp only [execOp, Instr.makeSlice, Sem.run_bind, run_underlying hu, Result.andThen_ok, r1.int_inv, r2.int_inv, Go.asInt, run_asInt, Sem.run_pure, typeInfo, run_program, hi, hib, hw1, htl2, run_sizeS hn, hcn, run_askRoom, hd1, hd2, Bool.or_self, Bool.not_false, Bool.false_eq_true, if_false, Nat.zero_mul, if_true, newRow, run_newObj, he, World.alloc_eq, Array.toArray_toList]
        · simp only [execOp, Instr.makeSlice, Sem.run_bind, run_underlying hu, Result.andThen_ok, r1.int_inv, r2.int_inv, Go.asInt, run_asInt, Sem.run_pure, typeInfo, run_program, hi, hib, hw1, htl2, run_sizeS hn, hcn, run_askRoom, hd1, hd2, Bool.or_self, Bool.false_eq_true, if_false, h0, hZ, newRow, run_newObj, World.alloc_eq, Array.toArray_toList]
      · cases hs
    · cases hs
  · cases hs
theorem freeze_new (w : World) (vs : Array Value) (el : TypeId) (n : Nat) : (w.alloc (.cells vs el (0, 0))).freeze ⟨w.heap.size, n, none⟩ 1 = w.alloc (.cells vs el (n, n + 1)) := by
  have : (w.heap.push (.cells vs el (0, 0))).modify w.heap.size (fun
      | .cells c elem (lo, hi) => .cells c elem (if lo == hi then (n, n + 1) else (min lo n, max hi (n + 1)))
      | o => o) = w.heap.push (.cells vs el (n, n + 1)) := by
    apply Array.ext_getElem?
    intro j
    rw [Array.getElem?_modify]
    rcases Nat.lt_trichotomy j w.heap.size with h | h | h
    · rw [if_neg (by omega), Array.getElem?_push_lt (by omega), Array.getElem?_push_lt (by omega)]
    · subst h
      simp
    · rw [if_neg (by omega), Array.getElem?_eq_none (by simp; omega), Array.getElem?_eq_none (by simp; omega)]
  unfold World.freeze
  rw [if_neg (by omega)]
  exact congrArg (fun h : Array Obj => ({ w with heap := h } : World)) this
theorem st_s2b {s d el : TypeId} {x : Operand} {x' : Opd} (hu1 : P.underlying s = some .string) (hu2 : P.underlying d = some (.slice el)) (hu3 : P.underlying el = some (.int .u8)) (h1 : opd x = some x') (hs : step (.s2b x') e m = some (v, m'))
    (hE : Env.On G e a (opdT x')) (hM : Rel G m w) : Fares ((execOp a.eval ⟨dst, .convert s d x, ty, pos, aft, grd⟩).run P w) G m m' w v := by
  have r1 := opd_R h1 hE
  simp only [step] at hs
  split at hs
  · rename_i str hx
    rw [hx] at r1
    split at hs
    · split at hs
      · rename_i i m1 hb
        simp only [Option.some.injEq, Prod.mk.injEq] at hs
        obtain ⟨rfl, rfl⟩ := hs
        have hge : str.size ≤ grownCap w str.size 0 el := grownCap_ge w _ _ _
        obtain ⟨hMd, hSd⟩ := rel_drew hM (w.drawn + 1)
        let vs : List Value := (str.data.map fun b => Value.int .u8 b.toNat).toList ++ List.replicate (grownCap w str.size 0 el - str.size) (Value.int .u8 0)
        have hsz : (str.data.map fun b => Value.int .u8 b.toNat).toList.length = str.size := by simp
        have hRc : RL (R1 G) (str.data.toList.map byteV) (vs.take (str.data.toList.map byteV).length) := by
          have e1 : (str.data.toList.map byteV).length = str.size := by simp
          rw [e1, List.take_append_of_le_length (by omega), List.take_of_length_le (by omega), Array.toList_map]
          generalize str.data.toList = l
          induction l with
          | nil => exact .nil
          | cons b l ih => exact .cons (.pl (.int _ _)) ih
        have hadv := new_cells (w := { w with drawn := w.drawn + 1 }) (Vs := vs) (el := el) hMd hb hRc (grownCap w str.size 0 el, grownCap w str.size 0 el + 1) (fun j hj => by
          have e1 : (str.data.toList.map byteV).length = str.size := by simp
          simp only [e1] at hj
          omega)
        refine ⟨.slice (some ⟨w.heap.size, 0, none⟩) str.size (grownCap w str.size 0 el), _, _, .inl ?_, .two (.one (.msl 0 i 0 str.size 1 w.heap.size _ addB_blk hge)), (Adv.mk (.refl _) hMd hSd (fun h => h)).trans hadv⟩
        have hq : (Question.appendCap str.size 0 el).cut (w.tape w.drawn (.appendCap str.size 0 el)) = grownCap w str.size 0 el := rfl
        have hvs : (str.data.map fun b => Value.int .u8 b.toNat) ++ Array.replicate (grownCap w str.size 0 el - str.size) (Value.int .u8 0) = vs.toArray := by
          apply Array.ext'
          simp [vs]
        have hvl : vs.toArray.size = grownCap w str.size 0 el := by
          simp only [List.size_toArray, vs, List.length_append, hsz, List.length_replicate]
          omega
        have hshape : ((World.alloc { w with drawn := w.drawn + 1 } (.cells vs.toArray el)).shape? w.heap.size) = some (el, grownCap w str.size 0 el) := by
          simp only [World.shape?, World.alloc, Array.getElem?_push_size, hvl]
        simp only [execOp, convert, Sem.run_bind, run_underlying hu1, run_underlying hu2, run_underlying hu3, Result.andThen_ok, r1.str_inv, Conv.stringToBytes, run_choose, Question.forced, Bool.false_eq_true, if_false, hq, hvs, newRow, run_newObj, Sem.run_pure, World.alloc_eq, markStringish, run_shape, hshape, run_freeze]
        rw [freeze_new { w with drawn := w.drawn + 1 }]
      · cases hs
    · cases hs
  · cases hs
end
end Go.Proofs.Ythecdihimfddgaa.Nv
