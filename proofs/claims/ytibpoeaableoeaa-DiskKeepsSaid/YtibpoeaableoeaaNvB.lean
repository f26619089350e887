/- Rules for bytes in memory, and for blocks that are known. Of no program. -/
import Derived.Test.YtibpoeaableoeaaNvK
namespace Go.Proofs.Ytibpoeaableoeaa.Nv
open Go

/-- Bytes in memory. -/
def bcells (l : List UInt8) : List NV := l.map byteV
theorem bcells_length (l : List UInt8) : (bcells l).length = l.length := by simp [bcells]
theorem bcells_get {l : List UInt8} {i : Nat} {b : UInt8} (h : l[i]? = some b) : (bcells l)[i]? = some (byteV b) := by simp [bcells, h]
theorem byteOf_byteV (b : UInt8) : byteOf (byteV b) = some b := by simp [byteOf, byteV]
theorem bytesOf_bcells : ∀ l : List UInt8, bytesOf (bcells l) = some l
  | [] => rfl
  | b :: l => by
    show bytesOf (byteV b :: bcells l) = _
    simp only [bytesOf, byteOf_byteV, bytesOf_bcells l]
theorem bcells_set (l : List UInt8) (i : Nat) (b : UInt8) : (bcells l).set i (byteV b) = bcells (l.set i b) := by simp [bcells, List.map_set]
theorem setBlk_last {bs : List NObj} {ts : List Bool} {M : Mem} {o o' : NObj} : setBlk (⟨bs ++ [o], ts⟩ :: M) 0 bs.length o' = ⟨bs ++ [o'], ts⟩ :: M := by
  simp [setBlk]
theorem blk_last {bs : List NObj} {ts : List Bool} {M : Mem} {o : NObj} {n : Nat} (h : n = bs.length) : blk? (⟨bs ++ [o], ts⟩ :: M) 0 n = some o := by
  subst h; simp [blk?]
theorem xor_u8 (a b : UInt8) : binI .xor .u8 (a.toNat : Int) (b.toNat : Int) = some (byteV (a ^^^ b)) := by
  have ha := a.toNat_lt
  have hb := b.toNat_lt
  simp only [binI, byteV, Option.some.injEq, NV.int.injEq, true_and]
  rw [wrapU8]
  have h1 : BitVec.ofInt IntKind.u8.bits (a.toNat : Int) = a.toBitVec := by
    apply BitVec.eq_of_toNat_eq
    show (BitVec.ofInt 8 (a.toNat : Int)).toNat = a.toBitVec.toNat
    rw [BitVec.ofInt_natCast, BitVec.toNat_ofNat, UInt8.toNat_toBitVec, Nat.mod_eq_of_lt (by omega)]
  have h2 : BitVec.ofInt IntKind.u8.bits (b.toNat : Int) = b.toBitVec := by
    apply BitVec.eq_of_toNat_eq
    show (BitVec.ofInt 8 (b.toNat : Int)).toNat = b.toBitVec.toNat
    rw [BitVec.ofInt_natCast, BitVec.toNat_ofNat, UInt8.toNat_toBitVec, Nat.mod_eq_of_lt (by omega)]
  rw [h1, h2]
  show (((a.toBitVec ^^^ b.toBitVec : BitVec 8).toNat : Nat) : Int) % 256 = _
  have h3 : (a.toBitVec ^^^ b.toBitVec : BitVec 8) = (a ^^^ b).toBitVec := by simp
  rw [h3]
  have := (a ^^^ b).toNat_lt
  rw [UInt8.toNat_toBitVec]
  omega
theorem byteV_of {n : Int} (h0 : 0 ≤ n) (h1 : n ≤ 255) : NV.int .u8 n = byteV (UInt8.ofNat n.toNat) := by
  simp only [byteV, NV.int.injEq, true_and]
  rw [UInt8.toNat_ofNat']
  omega
section
variable {K : Rel4} {e : Env} {m : Mem} {R : Env → Mem → Prop} {d : Nat} {g : Option (Nat × Bool)} {l : List Ins} {x y : Opd} {k : IntKind}
theorem WO.s2bE {s : ByteArray} {bs : List NObj} {ts : List Bool} {M : Mem} (hg : wantedN e g = true) (hx : x.ev e = .str s) (hs : s.size ≤ 9223372036854775807)
    (h : WO K l (upd e d (.msl 0 bs.length 0 s.size 1)) (⟨bs ++ [.cells (bcells s.data.toList)], ts⟩ :: M) R) : WO K (⟨some d, g, .s2b x⟩ :: l) e (⟨bs, ts⟩ :: M) R := by
  refine WO.op hg ?_ h
  simp only [step, hx, if_pos hs, addBlk]
  rfl
theorem WO.s2bL {s : ByteArray} {ls : List UInt8} {bs : List NObj} {ts : List Bool} {M : Mem} (hg : wantedN e g = true) (hx : x.ev e = .str s) (hs : s.size ≤ 9223372036854775807) (hls : s.data.toList = ls)
    (h : WO K l (upd e d (.msl 0 bs.length 0 s.size 1)) (⟨bs ++ [.cells (bcells ls)], ts⟩ :: M) R) : WO K (⟨some d, g, .s2b x⟩ :: l) e (⟨bs, ts⟩ :: M) R := by
  subst hls; exact WO.s2bE hg hx hs h
theorem WO.bstore {lv b o : Nat} {ls : List UInt8} {v : UInt8} (hg : wantedN e g = true) (hx : x.ev e = .ptr lv b o) (hy : y.ev e = byteV v) (hb : blk? m lv b = some (.cells (bcells ls))) (ho : o < ls.length)
    (h : WO K l e (setBlk m lv b (.cells (bcells (ls.set o v)))) R) : WO K (⟨none, g, .store 1 x y⟩ :: l) e m R := by
  refine WO.op (v := .undef) hg ?_ h
  have h1 : intoL lv [byteV v] m = some ([byteV v], m) := by simp only [intoL, into, byteV, sh1]
  have h2 : o + 1 ≤ (bcells ls).length := by rw [bcells_length]; omega
  have h3 : (bcells ls).take o ++ [byteV v] ++ (bcells ls).drop (o + 1) = bcells (ls.set o v) := by
    rw [set_eq (by rw [bcells_length]; omega), bcells_set]
  have h4 : cellsOf (byteV v) = [byteV v] := rfl
  simp only [step, storeV, hx, hy, h4, List.length_singleton, if_true, h1, hb, if_pos h2, h3]
end
section
variable {K : Rel4} {e : Env} {m : Mem} {R : Env → Mem → Prop} {d : Nat} {g : Option (Nat × Bool)} {l : List Ins} {x y : Opd} {a b : Int} {k i : IntKind} {bs : List Nat} {fs : Nat} {j : Nat} {wr rd : List (Nat × Nat × Nat)}
theorem st_bidx {lv b o z n : Nat} (hx : x.ev e = .msl lv b o z 1) (hy : y.ev e = .int k a) (hn : a = (n : Int)) (hj : n < z) : step (.iaddr (.slc 1) x y) e m = some (.ptr lv b (o + n), m) := by
  subst hn
  have q1 : asNat (.int k (n : Int)) = some n := by simp [asNat, asInt]
  simp only [step, iaddrV, hx, hy, q1, true_and, if_pos hj, pureM, Nat.mul_one]
theorem WO.bidx {lv b o z n : Nat} (hg : wantedN e g = true) (hx : x.ev e = .msl lv b o z 1) (hy : y.ev e = .int k a) (hn : a = (n : Int)) (hj : n < z) (h : WO K l (upd e d (.ptr lv b (o + n))) m R) : WO K (⟨some d, g, .iaddr (.slc 1) x y⟩ :: l) e m R := WO.op hg (st_bidx hx hy hn hj) h
theorem WH.bidx {lv b o z n : Nat} (hg : wantedN e g = true) (hx : x.ev e = .msl lv b o z 1) (hy : y.ev e = .int k a) (hn : a = (n : Int)) (hj : n < z) (h : WH K bs fs l (j + 1) wr rd (upd e d (.ptr lv b (o + n))) m R) : WH K bs fs (⟨some d, g, .iaddr (.slc 1) x y⟩ :: l) j wr rd e m R := WH.op hg (st_bidx hx hy hn hj) rfl h
theorem st_bidx0 {lv b z n : Nat} (hx : x.ev e = .msl lv b 0 z 1) (hy : y.ev e = .int k a) (hn : a = (n : Int)) (hj : n < z) : step (.iaddr (.slc 1) x y) e m = some (.ptr lv b n, m) := by
  subst hn
  have q1 : asNat (.int k (n : Int)) = some n := by simp [asNat, asInt]
  simp only [step, iaddrV, hx, hy, q1, true_and, if_pos hj, pureM, Nat.mul_one, Nat.zero_add]
theorem WO.bidx0 {lv b z n : Nat} (hg : wantedN e g = true) (hx : x.ev e = .msl lv b 0 z 1) (hy : y.ev e = .int k a) (hn : a = (n : Int)) (hj : n < z) (h : WO K l (upd e d (.ptr lv b n)) m R) : WO K (⟨some d, g, .iaddr (.slc 1) x y⟩ :: l) e m R := WO.op hg (st_bidx0 hx hy hn hj) h
theorem WH.bidx0 {lv b z n : Nat} (hg : wantedN e g = true) (hx : x.ev e = .msl lv b 0 z 1) (hy : y.ev e = .int k a) (hn : a = (n : Int)) (hj : n < z) (h : WH K bs fs l (j + 1) wr rd (upd e d (.ptr lv b n)) m R) : WH K bs fs (⟨some d, g, .iaddr (.slc 1) x y⟩ :: l) j wr rd e m R := WH.op hg (st_bidx0 hx hy hn hj) rfl h
theorem st_bxorZ {u v : UInt8} (hx : x.ev e = byteV u) (hy : y.ev e = .int .u8 b) (hb : b = (v.toNat : Int)) : step (.bin .xor x y) e m = some (byteV (u ^^^ v), m) := by
  subst hb
  simp only [step, hx, hy, byteV, binV, if_true, xor_u8, pureM]
theorem WO.bxorZ {u v : UInt8} (hg : wantedN e g = true) (hx : x.ev e = byteV u) (hy : y.ev e = .int .u8 b) (hb : b = (v.toNat : Int)) (h : WO K l (upd e d (byteV (u ^^^ v))) m R) : WO K (⟨some d, g, .bin .xor x y⟩ :: l) e m R := WO.op hg (st_bxorZ hx hy hb) h
theorem WH.bxorZ {u v : UInt8} (hg : wantedN e g = true) (hx : x.ev e = byteV u) (hy : y.ev e = .int .u8 b) (hb : b = (v.toNat : Int)) (h : WH K bs fs l (j + 1) wr rd (upd e d (byteV (u ^^^ v))) m R) : WH K bs fs (⟨some d, g, .bin .xor x y⟩ :: l) j wr rd e m R := WH.op hg (st_bxorZ hx hy hb) rfl h
theorem st_bxor {u v : UInt8} (hx : x.ev e = byteV u) (hy : y.ev e = byteV v) : step (.bin .xor x y) e m = some (byteV (u ^^^ v), m) := by
  simp only [step, hx, hy, byteV, binV, if_true, xor_u8, pureM]
theorem WO.bxor {u v : UInt8} (hg : wantedN e g = true) (hx : x.ev e = byteV u) (hy : y.ev e = byteV v) (h : WO K l (upd e d (byteV (u ^^^ v))) m R) : WO K (⟨some d, g, .bin .xor x y⟩ :: l) e m R := WO.op hg (st_bxor hx hy) h
theorem WH.bxor {u v : UInt8} (hg : wantedN e g = true) (hx : x.ev e = byteV u) (hy : y.ev e = byteV v) (h : WH K bs fs l (j + 1) wr rd (upd e d (byteV (u ^^^ v))) m R) : WH K bs fs (⟨some d, g, .bin .xor x y⟩ :: l) j wr rd e m R := WH.op hg (st_bxor hx hy) rfl h
theorem st_bload {lv b o : Nat} {ls : List UInt8} {v : UInt8} (hx : x.ev e = .ptr lv b o) (hb : blk? m lv b = some (.cells (bcells ls))) (hv : ls[o]? = some v) : step (.load false 1 x) e m = some (byteV v, m) := by
  simp only [step, hx, loadV, hb, bcells_get hv, Bool.false_eq_true, if_false, sh1, byteV, pureM]
theorem WO.bload {lv b o : Nat} {ls : List UInt8} {v : UInt8} (hg : wantedN e g = true) (hx : x.ev e = .ptr lv b o) (hb : blk? m lv b = some (.cells (bcells ls))) (hv : ls[o]? = some v) (h : WO K l (upd e d (byteV v)) m R) : WO K (⟨some d, g, .load false 1 x⟩ :: l) e m R := WO.op hg (st_bload hx hb hv) h
theorem WH.bload {lv b o : Nat} {ls : List UInt8} {v : UInt8} (hg : wantedN e g = true) (hx : x.ev e = .ptr lv b o) (hb : blk? m lv b = some (.cells (bcells ls))) (hv : ls[o]? = some v) (hf : fitsH bs j wr rd (.load false 1 x) e = true) (h : WH K bs fs l (j + 1) (noteH j wr (wrOf (.load false 1 x) e)) (noteH j rd (rdOf (.load false 1 x) e)) (upd e d (byteV v)) m R) : WH K bs fs (⟨some d, g, .load false 1 x⟩ :: l) j wr rd e m R := WH.op hg (st_bload hx hb hv) hf h
theorem st_b2sE {lv b n : Nat} {ls : List UInt8} (hx : x.ev e = .msl lv b 0 n 1) (hb : blk? m lv b = some (.cells (bcells ls))) (hn : n = ls.length) : step (.b2s x) e m = some (.str ⟨ls.toArray⟩, m) := by
  subst hn
  have h2 : 0 + ls.length ≤ (bcells ls).length := by rw [bcells_length]; omega
  have h3 : ((bcells ls).drop 0).take ls.length = bcells ls := by rw [List.drop_zero, List.take_of_length_le (by rw [bcells_length]; omega)]
  simp only [step, bytesStr, hx, hb, true_and, if_pos h2, h3, bytesOf_bcells, pureM]
theorem WO.b2sE {lv b n : Nat} {ls : List UInt8} (hg : wantedN e g = true) (hx : x.ev e = .msl lv b 0 n 1) (hb : blk? m lv b = some (.cells (bcells ls))) (hn : n = ls.length) (h : WO K l (upd e d (.str ⟨ls.toArray⟩)) m R) : WO K (⟨some d, g, .b2s x⟩ :: l) e m R := WO.op hg (st_b2sE hx hb hn) h
theorem WH.b2sE {lv b n : Nat} {ls : List UInt8} (hg : wantedN e g = true) (hx : x.ev e = .msl lv b 0 n 1) (hb : blk? m lv b = some (.cells (bcells ls))) (hn : n = ls.length) (hf : fitsH bs j wr rd (.b2s x) e = true) (h : WH K bs fs l (j + 1) (noteH j wr (wrOf (.b2s x) e)) (noteH j rd (rdOf (.b2s x) e)) (upd e d (.str ⟨ls.toArray⟩)) m R) : WH K bs fs (⟨some d, g, .b2s x⟩ :: l) j wr rd e m R := WH.op hg (st_b2sE hx hb hn) hf h
end
section
variable {K : Rel4} {e : Env} {m : Mem} {R : Env → Mem → Prop} {d : Nat} {g : Option (Nat × Bool)} {l : List Ins} {x y : Opd} {k : IntKind} {a : Int}
theorem bcells_zero (n : Nat) : List.flatten (List.replicate n [NV.int .u8 0]) = bcells (List.replicate n 0) := by
  induction n with
  | zero => rfl
  | succ n ih => rw [List.replicate_succ, List.flatten_cons, ih]; rfl
theorem WO.mkB {n : Nat} {bs : List NObj} {ts : List Bool} {M : Mem} (hg : wantedN e g = true) (hx : x.ev e = .int k a) (hn : a = (n : Int)) (hs : n ≤ 35184372088832)
    (h : WO K l (upd e d (.msl 0 bs.length 0 n 1)) (⟨bs ++ [.cells (bcells (List.replicate n 0))], ts⟩ :: M) R) : WO K (⟨some d, g, .mkslc 1 1 [.int .u8 0] x x⟩ :: l) e (⟨bs, ts⟩ :: M) R := by
  subst hn
  refine WO.op hg ?_ h
  have q : asNat (.int k (n : Int)) = some n := by simp [asNat, asInt]
  simp only [step, hx, q, true_and, Nat.mul_one, and_self, if_pos hs, addBlk, bcells_zero]
theorem WO.b2sU {lv b n : Nat} {ls : List UInt8} {s : ByteArray} (hg : wantedN e g = true) (hx : x.ev e = .msl lv b 0 n 1) (hb : blk? m lv b = some (.cells (bcells ls))) (hn : n = ls.length) (h0 : ⟨ls.toArray⟩ = s) (h : WO K l (upd e d (.str s)) m R) : WO K (⟨some d, g, .b2s x⟩ :: l) e m R := by
  subst h0
  exact WO.op hg (st_b2sE hx hb hn) h
end
end Go.Proofs.Ytibpoeaableoeaa.Nv
