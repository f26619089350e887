/- Rules for bytes in memory, and for blocks that are known. Of no program. -/
import Derived.Test.YthecdihimfddgaaNvK
namespace Go.Proofs.Ythecdihimfddgaa.Nv
open Go

/-- Bytes in memory. -/
def bcells (l : List UInt8) : List NV := l.map byteV
theorem bcells_length (l : List UInt8) : (bcells l).length = l.length := by simp [bcells]
theorem bcells_get {l : List UInt8} {i : Nat} {b : UInt8} (h : l[i]? = some b) : (bcells l)[i]? = some (byteV b) := by simp [bcells, h]
theorem byteOf_byteV (b : UInt8) : byteOf (byteV b) = some b := by simp [byteOf, byteV]
theorem bytesOf_bcells : ∀ l : List UInt8, bytesOf (bcells l) = some l
  | [] => rfl
  | b :: l => by
    show bytesOf (byteV b :: bcells l) = _
    simp only [bytesOf, byteOf_byteV, bytesOf_bcells l]
theorem bcells_set (l : List UInt8) (i : Nat) (b : UInt8) : (bcells l).set i (byteV b) = bcells (l.set i b) := by simp [bcells, List.map_set]
theorem setBlk_last {bs : List NObj} {ts : List Bool} {M : Mem} {o o' : NObj} : setBlk (⟨bs ++ [o], ts⟩ :: M) 0 bs.length o' = ⟨bs ++ [o'], ts⟩ :: M := by
  simp [setBlk]
theorem blk_last {bs : List NObj} {ts : List Bool} {M : Mem} {o : NObj} {n : Nat} (h : n = bs.length) : blk? (⟨bs ++ [o], ts⟩ :: M) 0 n = some o := by
  subst h; simp [blk?]
theorem xor_u8 (a b : UInt8) : binI .xor .u8 (a.toNat : Int) (b.toNat : Int) = some (byteV (a ^^^ b)) := by
  have ha := a.toNat_lt
  have hb := b.toNat_lt
  simp only [binI, byteV, Option.some.injEq, NV.int.injEq, true_and]
  rw [wrapU8]
  have h1 : BitVec.ofInt IntKind.u8.bits (a.toNat : Int) = a.toBitVec := by
    apply BitVec.eq_of_toNat_eq
    show (BitVec.ofInt 8 (a.toNat : Int)).toNat = a.toBitVec.toNat
    rw [BitVec.ofInt_natCast, BitVec.toNat_ofNat, UInt8.toNat_toBitVec, Nat.mod_eq_of_lt (by omega)]
  have h2 : BitVec.ofInt IntKind.u8.bits (b.toNat : Int) = b.toBitVec := by
    apply BitVec.eq_of_toNat_eq
    show (BitVec.ofInt 8 (b.toNat : Int)).toNat = b.toBitVec.toNat
    rw [BitVec.ofInt_natCast, BitVec.toNat_ofNat, UInt8.toNat_toBitVec, Nat.mod_eq_of_lt (by omega)]
  rw [h1, h2]
  show (((a.toBitVec ^^^ b.toBitVec : BitVec 8).toNat : Nat) : Int) % 256 = _
  have h3 : (a.toBitVec ^^^ b.toBitVec : BitVec 8) = (a ^^^ b).toBitVec := by simp
  rw [h3]
  have := (a ^^^ b).toNat_lt
  rw [UInt8.toNat_toBitVec]
  omega
theorem byteV_of {n : Int} (h0 : 0 ≤ n) (h1 : n ≤ 255) : NV.int .u8 n = byteV (UInt8.ofNat n.toNat) := by
  simp only [byteV, NV.int.injEq, true_and]
  rw [UInt8.toNat_ofNat']
  omega
section
variable {K : Rel4} {e : Env} {m : Mem} {R : Env → Mem → Prop} {d : Nat} {g : Option (Nat × Bool)} {l : List Ins} {x y : Opd} {k : IntKind}
theorem WO.s2bE {s : ByteArray} {bs : List NObj} {ts : List Bool} {M : Mem} (hg : wantedN e g = true) (hx : x.ev e = .str s) (hs : s.size ≤ 9223372036854775807)
    (h : WO K l (upd e d (.msl 0 bs.length 0 s.size 1)) (⟨bs ++ [.cells (bcells s.data.toList)], ts⟩ :: M) R) : WO K (⟨some d, g, .s2b x⟩ :: l) e (⟨bs, ts⟩ :: M) R := by
  refine WO.op hg ?_ h
  simp only [step, hx, if_pos hs, addBlk]
  rfl
theorem WO.s2bL {s : ByteArray} {ls : List UInt8} {bs : List NObj} {ts : List Bool} {M : Mem} (hg : wantedN e g = true) (hx : x.ev e = .str s) (hs : s.size ≤ 9223372036854775807) (hls : s.data.toList = ls)
    (h : WO K l (upd e d (.msl 0 bs.length 0 s.size 1)) (⟨bs ++ [.cells (bcells ls)], ts⟩ :: M) R) : WO K (⟨some d, g, .s2b x⟩ :: l) e (⟨bs, ts⟩ :: M) R := by
  subst hls; exact WO.s2bE hg hx hs h
theorem WO.bstore {lv b o : Nat} {ls : List UInt8} {v : UInt8} (hg : wantedN e g = true) (hx : x.ev e = .ptr lv b o) (hy : y.ev e = byteV v) (hb : blk? m lv b = some (.cells (bcells ls))) (ho : o < ls.length)
    (h : WO K l e (setBlk m lv b (.cells (bcells (ls.set o v)))) R) : WO K (⟨none, g, .store 1 x y⟩ :: l) e m R := by
  refine WO.op (v := .undef) hg ?_ h
  have h1 : intoL lv [byteV v] m = some ([byteV v], m) := by simp only [intoL, into, byteV, sh1]
  have h2 : o + 1 ≤ (bcells ls).length := by rw [bcells_length]; omega
  have h3 : (bcells ls).take o ++ [byteV v] ++ (bcells ls).drop (o + 1) = bcells (ls.set o v) := by
    rw [set_eq (by rw [bcells_length]; omega), bcells_set]
  have h4 : cellsOf (byteV v) = [byteV v] := rfl
  simp only [step, storeV, hx, hy, h4, List.length_singleton, if_true, h1, hb, if_pos h2, h3]
end
section
variable {K : Rel4} {e : Env} {m : Mem} {R : Env → Mem → Prop} {d : Nat} {g : Option (Nat × Bool)} {l : List Ins} {x y : Opd} {a b : Int} {k i : IntKind} {bs : List Nat} {fs : Nat} {j : Nat} {wr rd : List (Nat × Nat × Nat)}
theorem st_bidx {lv b o z n : Nat} (hx : x.ev e = .msl lv b o z 1) (hy : y.ev e = .int k a) (hn : a = (n : Int)) (hj : n < z) : step (.iaddr (.slc 1) x y) e m = some (.ptr lv b (o + n), m) := by
  subst hn
  have q1 : asNat (.int k (n : Int)) = some n := by simp [asNat, asInt]
  simp only [step, iaddrV, hx, hy, q1, true_and, if_pos hj, pureM, Nat.mul_one]
theorem WO.bidx {lv b o z n : Nat} (hg : wantedN e g = true) (hx : x.ev e = .msl lv b o z 1) (hy : y.ev e = .int k a) (hn : a = (n : Int)) (hj : n < z) (h : WO K l (upd e d (.ptr lv b (o + n))) m R) : WO K (⟨some d, g, .iaddr (.slc 1) x y⟩ :: l) e m R := WO.op hg (st_bidx hx hy hn hj) h
theorem WH.bidx {lv b o z n : Nat} (hg : wantedN e g = true) (hx : x.ev e = .msl lv b o z 1) (hy : y.ev e = .int k a) (hn : a = (n : Int)) (hj : n < z) (h : WH K bs fs l (j + 1) wr rd (upd e d (.ptr lv b (o + n))) m R) : WH K bs fs (⟨some d, g, .iaddr (.slc 1) x y⟩ :: l) j wr rd e m R := WH.op hg (st_bidx hx hy hn hj) rfl h
theorem st_bidx0 {lv b z n : Nat} (hx : x.ev e = .msl lv b 0 z 1) (hy : y.ev e = .int k a) (hn : a = (n : Int)) (hj : n < z) : step (.iaddr (.slc 1) x y) e m = some (.ptr lv b n, m) := by
  subst hn
  have q1 : asNat (.int k (n : Int)) = some n := by simp [asNat, asInt]
  simp only [step, iaddrV, hx, hy, q1, true_and, if_pos hj, pureM, Nat.mul_one, Nat.zero_add]
theorem WO.bidx0 {lv b z n : Nat} (hg : wantedN e g = true) (hx : x.ev e = .msl lv b 0 z 1) (hy : y.ev e = .int k a) (hn : a = (n : Int)) (hj : n < z) (h : WO K l (upd e d (.ptr lv b n)) m R) : WO K (⟨some d, g, .iaddr (.slc 1) x y⟩ :: l) e m R := WO.op hg (st_bidx0 hx hy hn hj) h
theorem WH.bidx0 {lv b z n : Nat} (hg : wantedN e g = true) (hx : x.ev e = .msl lv b 0 z 1) (hy : y.ev e = .int k a) (hn : a = (n : Int)) (hj : n < z) (h : WH K bs fs l (j + 1) wr rd (upd e d (.ptr lv b n)) m R) : WH K bs fs (⟨some d, g, .iaddr (.slc 1) x y⟩ :: l) j wr rd e m R := WH.op hg (st_bidx0 hx hy hn hj) rfl h
theorem st_bxorZ {u v : UInt8} (hx : x.ev e = byteV u) (hy : y.ev e = .int .u8 b) (hb : b = (v.toNat : Int)) : step (.bin .xor x y) e m = some (byteV (u ^^^ v), m) := by
  subst hb
  simp only [step, hx, hy, byteV, binV, if_true, xor_u8, pureM]
theorem WO.bxorZ {u v : UInt8} (hg : wantedN e g = true) (hx : x.ev e = byteV u) (hy : y.ev e = .int .u8 b) (hb : b = (v.toNat : Int)) (h : WO K l (upd e d (byteV (u ^^^ v))) m R) : WO K (⟨some d, g, .bin .xor x y⟩ :: l) e m R := WO.op hg (st_bxorZ hx hy hb) h
theorem WH.bxorZ {u v : UInt8} (hg : wantedN e g = true) (hx : x.ev e = byteV u) (hy : y.ev e = .int .u8 b) (hb : b = (v.toNat : Int)) (h : WH K bs fs l (j + 1) wr rd (upd e d (byteV (u ^^^ v))) m R) : WH K bs fs (⟨some d, g, .bin .xor x y⟩ :: l) j wr rd e m R := WH.op hg (st_bxorZ hx hy hb) rfl h
theorem st_bxor {u v : UInt8} (hx : x.ev e = byteV u) (hy : y.ev e = byteV v) : step (.bin .xor x y) e m = some (byteV (u ^^^ v), m) := by
  simp only [step, hx, hy, byteV, binV, if_true, xor_u8, pureM]
theorem WO.bxor {u v : UInt8} (hg : wantedN e g = true) (hx : x.ev e = byteV u) (hy : y.ev e = byteV v) (h : WO K l (upd e d (byteV (u ^^^ v))) m R) : WO K (⟨some d, g, .bin .xor x y⟩ :: l) e m R := WO.op hg (st_bxor hx hy) h
theorem WH.bxor {u v : UInt8} (hg : wantedN e g = true) (hx : x.ev e = byteV u) (hy : y.ev e = byteV v) (h : WH K bs fs l (j + 1) wr rd (upd e d (byteV (u ^^^ v))) m R) : WH K bs fs (⟨some d, g, .bin .xor x y⟩ :: l) j wr rd e m R := WH.op hg (st_bxor hx hy) rfl h
theorem st_bload {lv b o : Nat} {ls : List UInt8} {v : UInt8} (hx : x.ev e = .ptr lv b o) (hb : blk? m lv b = some (.cells (bcells ls))) (hv : ls[o]? = some v) : step (.load false 1 x) e m = some (byteV v, m) := by
  simp only [step, hx, loadV, hb, bcells_get hv, Bool.false_eq_true, if_false, sh1, byteV, pureM]
theorem WO.bload {lv b o : Nat} {ls : List UInt8} {v : UInt8} (hg : wantedN e g = true) (hx : x.ev e = .ptr lv b o) (hb : blk? m lv b = some (.cells (bcells ls))) (hv : ls[o]? = some v) (h : WO K l (upd e d (byteV v)) m R) : WO K (⟨some d, g, .load false 1 x⟩ :: l) e m R := WO.op hg (st_bload hx hb hv) h
theorem WH.bload {lv b o : Nat} {ls : List UInt8} {v : UInt8} (hg : wantedN e g = true) (hx : x.ev e = .ptr lv b o) (hb : blk? m lv b = some (.cells (bcells ls))) (hv : ls[o]? = some v) (hf : fitsH bs j wr rd (.load false 1 x) e = true) (h : WH K bs fs l (j + 1) (noteH j wr (wrOf (.load false 1 x) e)) (noteH j rd (rdOf (.load false 1 x) e)) (upd e d (byteV v)) m R) : WH K bs fs (⟨some d, g, .load false 1 x⟩ :: l) j wr rd e m R := WH.op hg (st_bload hx hb hv) hf h
theorem st_b2sE {lv b n : Nat} {ls : List UInt8} (hx : x.ev e = .msl lv b 0 n 1) (hb : blk? m lv b = some (.cells (bcells ls))) (hn : n = ls.length) : step (.b2s x) e m = some (.str ⟨ls.toArray⟩, m) := by
  subst hn
  have h2 : 0 + ls.length ≤ (bcells ls).length := by rw [bcells_length]; omega
  have h3 : ((bcells ls).drop 0).take ls.length = bcells ls := by rw [List.drop_zero, List.take_of_length_le (by rw [bcells_length]; omega)]
  simp only [step, bytesStr, hx, hb, true_and, if_pos h2, h3, bytesOf_bcells, pureM]
theorem WO.b2sE {lv b n : Nat} {ls : List UInt8} (hg : wantedN e g = true) (hx : x.ev e = .msl lv b 0 n 1) (hb : blk? m lv b = some (.cells (bcells ls))) (hn : n = ls.length) (h : WO K l (upd e d (.str ⟨ls.toArray⟩)) m R) : WO K (⟨some d, g, .b2s x⟩ :: l) e m R := WO.op hg (st_b2sE hx hb hn) h
theorem WH.b2sE {lv b n : Nat} {ls : List UInt8} (hg : wantedN e g = true) (hx : x.ev e = .msl lv b 0 n 1) (hb : blk? m lv b = some (.cells (bcells ls))) (hn : n = ls.length) (hf : fitsH bs j wr rd (.b2s x) e = true) (h : WH K bs fs l (j + 1) (noteH j wr (wrOf (.b2s x) e)) (noteH j rd (rdOf (.b2s x) e)) (upd e d (.str ⟨ls.toArray⟩)) m R) : WH K bs fs (⟨some d, g, .b2s x⟩ :: l) j wr rd e m R := WH.op hg (st_b2sE hx hb hn) hf h
end
section
variable {K : Rel4} {e : Env} {m : Mem} {R : Env → Mem → Prop} {d : Nat} {g : Option (Nat × Bool)} {l : List Ins} {x y : Opd} {k : IntKind} {a : Int}
theorem bcells_zero (n : Nat) : List.flatten (List.replicate n [NV.int .u8 0]) = bcells (List.replicate n 0) := by
  induction n with
  | zero => rfl
  | succ n ih => rw [List.replicate_succ, List.flatten_cons, ih]; rfl
theorem WO.mkB {n : Nat} {bs : List NObj} {ts : List Bool} {M : Mem} (hg : wantedN e g = true) (hx : x.ev e = .int k a) (hn : a = (n : Int)) (hs : n ≤ 35184372088832)
    (h : WO K l (upd e d (.msl 0 bs.length 0 n 1)) (⟨bs ++ [.cells (bcells (List.replicate n 0))], ts⟩ :: M) R) : WO K (⟨some d, g, .mkslc 1 1 [.int .u8 0] x x⟩ :: l) e (⟨bs, ts⟩ :: M) R := by
  subst hn
  refine WO.op hg ?_ h
  have q : asNat (.int k (n : Int)) = some n := by simp [asNat, asInt]
  simp only [step, hx, q, true_and, Nat.mul_one, and_self, if_pos hs, addBlk, bcells_zero]
theorem WO.b2sU {lv b n : Nat} {ls : List UInt8} {s : ByteArray} (hg : wantedN e g = true) (hx : x.ev e = .msl lv b 0 n 1) (hb : blk? m lv b = some (.cells (bcells ls))) (hn : n = ls.length) (h0 : ⟨ls.toArray⟩ = s) (h : WO K l (upd e d (.str s)) m R) : WO K (⟨some d, g, .b2s x⟩ :: l) e m R := by
  subst h0
  exact WO.op hg (st_b2sE hx hb hn) h
end
section
variable {K : Rel4} {e : Env} {M : Mem} {m : Mem} {R : Env → Mem → Prop} {d : Nat} {g : Option (Nat × Bool)} {l : List Ins} {x y : Opd} {bs : List Nat} {fs j : Nat} {wr rd : List (Nat × Nat × Nat)} {k : IntKind} {a : Int}
/-- One appends to what lies in the caller's frame. -/
theorem sp_appL {sz bytes t z : Nat} {f : Bool} {rows ys : List (List NV)} {B0 B1 : List NObj} {T0 ts : List Bool} (hx : x.ev e = apl sz rows 1 t) (hy : y.ev e = .slc z f ys) (hz : z = sz) (hne : ys.isEmpty = false) (ht : tokOf rows ts t)
    (hn : (rows.length + ys.length) * bytes ≤ 35184372088832) (hn' : rows.length + ys.length ≤ 35184372088832) :
    step (.app sz bytes x y) e (⟨B0, T0⟩ :: ⟨B1, ts⟩ :: M) = some (.own sz (rows ++ ys) 0 T0.length, ⟨B0, T0 ++ [true]⟩ :: ⟨B1, tkE rows ts t⟩ :: M) := by
  subst hz
  cases rows with
  | nil =>
    simp only [List.length_nil] at hn hn'
    simp only [step, hx, hy, apl, appV, rowsOf, true_or, if_true, List.isEmpty_nil, or_true, hne, Bool.false_eq_true, if_false, true_and, List.nil_append, List.length_nil]
    rw [if_pos ⟨hn, hn'⟩]
    rfl
  | cons r rows =>
    have ht' : ts[t]? = some true := ht.resolve_left (by simp)
    have h3 : tok? (⟨B0, T0⟩ :: ⟨B1, ts⟩ :: M) 1 t = true := by simp [tok?, ht']
    simp only [step, hx, hy, apl, appV, rowsOf, true_or, if_true, hne, Bool.false_eq_true, if_false, h3, true_and]
    rw [if_pos ⟨hn, hn'⟩]
    rfl
theorem WO.appL {sz bytes t z : Nat} {f : Bool} {rows ys : List (List NV)} {B0 B1 : List NObj} {T0 ts : List Bool} (hg : wantedN e g = true) (hx : x.ev e = apl sz rows 1 t) (hy : y.ev e = .slc z f ys) (hz : z = sz) (hne : ys.isEmpty = false) (ht : tokOf rows ts t)
    (hn : (rows.length + ys.length) * bytes ≤ 35184372088832) (hn' : rows.length + ys.length ≤ 35184372088832)
    (h : WO K l (upd e d (.own sz (rows ++ ys) 0 T0.length)) (⟨B0, T0 ++ [true]⟩ :: ⟨B1, tkE rows ts t⟩ :: M) R) : WO K (⟨some d, g, .app sz bytes x y⟩ :: l) e (⟨B0, T0⟩ :: ⟨B1, ts⟩ :: M) R := WO.op hg (sp_appL hx hy hz hne ht hn hn') h
/-- A store into a block of the caller's frame. -/
theorem sp_stU {n b o : Nat} {v : NV} {cs vs cs' : List NV} {fr fr' : Fr} {B1 : List NObj} {ts ts' : List Bool} (hx : x.ev e = .ptr 1 b o) (hy : head0 (y.ev e) = some v) (hl : (cellsOf v).length = n) (hi : intoL 1 (cellsOf v) (fr :: ⟨B1, ts⟩ :: M) = some (vs, fr' :: ⟨B1, ts'⟩ :: M))
    (hb : B1[b]? = some (.cells cs)) (hn : o + n ≤ cs.length) (hc : cs.take o ++ vs ++ cs.drop (o + n) = cs') : step (.store n x y) e (fr :: ⟨B1, ts⟩ :: M) = some (.undef, fr' :: ⟨B1.set b (.cells cs'), ts'⟩ :: M) ∧ (B1.set b (.cells cs'))[b]? = some (.cells cs') := by
  rw [head0_eq] at hy
  have hy' := Option.some.inj hy
  subst hc
  have hb' : blk? (fr' :: ⟨B1, ts'⟩ :: M) 1 b = some (.cells cs) := hb
  refine ⟨?_, ?_⟩
  · simp only [step, storeV, hx, hy', hl, if_true, hi, hb', if_pos hn]
    rfl
  · rw [List.getElem?_set_self (List.getElem?_eq_some_iff.1 hb).1]
theorem WO.stU {n b o : Nat} {v : NV} {cs vs cs' : List NV} {fr fr' : Fr} {B1 : List NObj} {ts ts' : List Bool} (hg : wantedN e g = true) (hx : x.ev e = .ptr 1 b o) (hy : head0 (y.ev e) = some v) (hl : (cellsOf v).length = n) (hi : intoL 1 (cellsOf v) (fr :: ⟨B1, ts⟩ :: M) = some (vs, fr' :: ⟨B1, ts'⟩ :: M))
    (hb : B1[b]? = some (.cells cs)) (hn : o + n ≤ cs.length) (hc : cs.take o ++ vs ++ cs.drop (o + n) = cs') (h : (B1.set b (.cells cs'))[b]? = some (.cells cs') → WO K l e (fr' :: ⟨B1.set b (.cells cs'), ts'⟩ :: M) R) : WO K (⟨none, g, .store n x y⟩ :: l) e (fr :: ⟨B1, ts⟩ :: M) R :=
  WO.op (v := .undef) hg (sp_stU hx hy hl hi hb hn hc).1 (h (sp_stU hx hy hl hi hb hn hc).2)
theorem WH.stU {n b o : Nat} {v : NV} {cs vs cs' : List NV} {fr fr' : Fr} {B1 : List NObj} {ts ts' : List Bool} (hg : wantedN e g = true) (hx : x.ev e = .ptr 1 b o) (hy : head0 (y.ev e) = some v) (hl : (cellsOf v).length = n) (hi : intoL 1 (cellsOf v) (fr :: ⟨B1, ts⟩ :: M) = some (vs, fr' :: ⟨B1, ts'⟩ :: M))
    (hb : B1[b]? = some (.cells cs)) (hn : o + n ≤ cs.length) (hc : cs.take o ++ vs ++ cs.drop (o + n) = cs') (hf : fitsH bs j wr rd (.store n x y) e = true)
    (h : (B1.set b (.cells cs'))[b]? = some (.cells cs') → WH K bs fs l (j + 1) (noteH j wr (wrOf (.store n x y) e)) (noteH j rd (rdOf (.store n x y) e)) e (fr' :: ⟨B1.set b (.cells cs'), ts'⟩ :: M) R) : WH K bs fs (⟨none, g, .store n x y⟩ :: l) j wr rd e (fr :: ⟨B1, ts⟩ :: M) R :=
  WH.op (v := .undef) hg (sp_stU hx hy hl hi hb hn hc).1 hf (h (sp_stU hx hy hl hi hb hn hc).2)
/-- One appends to nothing what lies anywhere. -/
theorem sp_appN {sz bytes lv t : Nat} {rows : List (List NV)} {B0 : List NObj} {T0 : List Bool} (hx : x.ev e = .slc 0 true []) (hy : y.ev e = apl sz rows lv t) (hn : rows.length * bytes ≤ 35184372088832) (hn' : rows.length ≤ 35184372088832) :
    ∃ ts', tokOf rows ts' T0.length ∧ step (.app sz bytes x y) e (⟨B0, T0⟩ :: M) = some (apV sz rows T0.length, ⟨B0, ts'⟩ :: M) := by
  cases rows with
  | nil => exact ⟨T0, .inl rfl, by simp [step, hx, hy, apl, appV, rowsOf, apV]⟩
  | cons r rows =>
    refine ⟨T0 ++ [true], .inr (by simp), ?_⟩
    simp only [step, hx, hy, apl, appV, rowsOf, true_or, if_true, List.isEmpty_nil, or_true, List.isEmpty_cons, Bool.false_eq_true, if_false, true_and, List.nil_append, List.length_nil, Nat.zero_add]
    rw [if_pos ⟨hn, hn'⟩]
    rfl
theorem WO.appN {sz bytes lv t : Nat} {rows : List (List NV)} {B0 : List NObj} {T0 : List Bool} (hg : wantedN e g = true) (hx : x.ev e = .slc 0 true []) (hy : y.ev e = apl sz rows lv t) (hn : rows.length * bytes ≤ 35184372088832) (hn' : rows.length ≤ 35184372088832)
    (h : ∀ ts', tokOf rows ts' T0.length → WO K l (upd e d (apV sz rows T0.length)) (⟨B0, ts'⟩ :: M) R) : WO K (⟨some d, g, .app sz bytes x y⟩ :: l) e (⟨B0, T0⟩ :: M) R :=
  let ⟨ts', h1, h2⟩ := sp_appN hx hy hn hn'
  WO.op hg h2 (h ts' h1)
theorem WH.appN {sz bytes lv t : Nat} {rows : List (List NV)} {B0 : List NObj} {T0 : List Bool} (hg : wantedN e g = true) (hx : x.ev e = .slc 0 true []) (hy : y.ev e = apl sz rows lv t) (hn : rows.length * bytes ≤ 35184372088832) (hn' : rows.length ≤ 35184372088832)
    (h : ∀ ts', tokOf rows ts' T0.length → WH K bs fs l (j + 1) wr rd (upd e d (apV sz rows T0.length)) (⟨B0, ts'⟩ :: M) R) : WH K bs fs (⟨some d, g, .app sz bytes x y⟩ :: l) j wr rd e (⟨B0, T0⟩ :: M) R :=
  let ⟨ts', h1, h2⟩ := sp_appN hx hy hn hn'
  WH.op hg h2 rfl (h ts' h1)
/-- What was appended to is stored into a block of the caller's frame. -/
theorem sp_stO {sz t b o : Nat} {rows : List (List NV)} {cs : List NV} {B0 B1 : List NObj} {T0 ts : List Bool} (hx : x.ev e = .ptr 1 b o) (hy : y.ev e = apV sz rows t) (hne : rows.isEmpty = false) (ht : tokOf rows T0 t) (hb : B1[b]? = some (.cells cs)) (hn : o < cs.length) :
    step (.store 1 x y) e (⟨B0, T0⟩ :: ⟨B1, ts⟩ :: M) = some (.undef, ⟨B0, T0.set t false⟩ :: ⟨B1.set b (.cells (cs.set o (apV sz rows ts.length))), ts ++ [true]⟩ :: M) := by
  cases rows with
  | nil => cases hne
  | cons r rows =>
    have ht' : T0[t]? = some true := ht.resolve_left (by simp)
    have h1 : tok? (⟨B0, T0⟩ :: ⟨B1, ts⟩ :: M) 0 t = true := by simp [tok?, ht']
    have h2 : into 1 (.own sz (r :: rows) 0 t) (⟨B0, T0⟩ :: ⟨B1, ts⟩ :: M) = some (.own sz (r :: rows) 0 ts.length, ⟨B0, T0.set t false⟩ :: ⟨B1, ts ++ [true]⟩ :: M) := by
      simp only [into, Nat.le_zero_eq, Nat.one_ne_zero, if_false, h1, if_true]
      rfl
    have hb' : blk? (⟨B0, T0.set t false⟩ :: ⟨B1, ts ++ [true]⟩ :: M) 1 b = some (.cells cs) := hb
    have hy' : y.ev e = .own sz (r :: rows) 0 t := hy
    simp only [step, storeV, hx, hy', cellsOf, List.length_singleton, if_true, intoL, h2, hb', if_pos (show o + 1 ≤ cs.length by omega), set_eq hn]
    rfl
theorem WO.stO {sz t b o : Nat} {rows : List (List NV)} {cs : List NV} {B0 B1 : List NObj} {T0 ts : List Bool} (hg : wantedN e g = true) (hx : x.ev e = .ptr 1 b o) (hy : y.ev e = apV sz rows t) (hne : rows.isEmpty = false) (ht : tokOf rows T0 t) (hb : B1[b]? = some (.cells cs)) (hn : o < cs.length)
    (h : (B1.set b (.cells (cs.set o (apV sz rows ts.length))))[b]? = some (.cells (cs.set o (apV sz rows ts.length))) → WO K l e (⟨B0, T0.set t false⟩ :: ⟨B1.set b (.cells (cs.set o (apV sz rows ts.length))), ts ++ [true]⟩ :: M) R) : WO K (⟨none, g, .store 1 x y⟩ :: l) e (⟨B0, T0⟩ :: ⟨B1, ts⟩ :: M) R :=
  WO.op hg (sp_stO hx hy hne ht hb hn) (h (by rw [List.getElem?_set_self (List.getElem?_eq_some_iff.1 hb).1]))
end
end Go.Proofs.Ythecdihimfddgaa.Nv
