/- The checksum's laws: bursts, that it is linear. -/
import Derived.Test.YtogmnckhpokfhaaC4
namespace Go.Proofs.Ytogmnckhpokfhaa.Nv
open Go Go.Proofs.Ytogmnckhpokfhaa.CrcMath
theorem size_mk (l : List UInt8) : (⟨l.toArray⟩ : ByteArray).size = l.length := List.size_toArray ..
theorem L_len (s : ByteArray) : s.data.toList.length = s.size := by rw [Array.length_toList]; rfl
theorem mk_data (s : ByteArray) : (⟨s.data.toList.toArray⟩ : ByteArray) = s := by cases s; simp
/-- i rounds of the change. -/
def bend4 (ls : List UInt8) (k : Nat) (u : Nat → UInt8) : Nat → List UInt8
  | 0 => ls
  | i + 1 => (bend4 ls k u i).set (k + i) ((ls.getD (k + i) 0) ^^^ u i)
theorem bend4_len (ls : List UInt8) (k : Nat) (u : Nat → UInt8) : ∀ i, (bend4 ls k u i).length = ls.length
  | 0 => rfl
  | i + 1 => by rw [bend4, List.length_set, bend4_len ls k u i]
theorem bend4_far (ls : List UInt8) (k : Nat) (u : Nat → UInt8) : ∀ i j, i ≤ j → (bend4 ls k u i)[k + j]? = ls[k + j]?
  | 0, _, _ => rfl
  | i + 1, j, h => by rw [bend4, List.getElem?_set_ne (by omega), bend4_far ls k u i j (by omega)]
theorem split4 {l : List UInt8} {k : Nat} (h : k + 4 ≤ l.length) : ∃ p x0 x1 x2 x3 q, l = p ++ x0 :: x1 :: x2 :: x3 :: q ∧ p.length = k := by
  refine ⟨l.take k, l[k], l[k + 1], l[k + 2], l[k + 3], l.drop (k + 4), ?_, by rw [List.length_take]; omega⟩
  rw [List.getElem_cons_drop, List.getElem_cons_drop, List.getElem_cons_drop, List.getElem_cons_drop, List.take_append_drop]
theorem at_p {p q : List UInt8} {k : Nat} (hp : p.length = k) (i : Nat) : (p ++ q).getD (k + i) 0 = q.getD i 0 := by
  subst hp; simp [List.getD_eq_getElem?_getD, List.getElem?_append_right]
theorem set_p {p q : List UInt8} {k : Nat} (hp : p.length = k) (i : Nat) (v : UInt8) : (p ++ q).set (k + i) v = p ++ q.set i v := by
  subst hp; simp [List.set_append_right]
theorem bend4_4 {p q : List UInt8} {x0 x1 x2 x3 : UInt8} {k : Nat} (hp : p.length = k) (u : Nat → UInt8) :
    bend4 (p ++ x0 :: x1 :: x2 :: x3 :: q) k u 4 = p ++ (x0 ^^^ u 0) :: (x1 ^^^ u 1) :: (x2 ^^^ u 2) :: (x3 ^^^ u 3) :: q := by
  simp only [bend4, at_p hp, set_p hp]
  rfl
theorem xor_same {a b : UInt8} (h : a.toNat = (a ^^^ b).toNat) : b = 0 := by
  have h1 : a = a ^^^ b := UInt8.toNat_inj.1 h
  have : a ^^^ a = a ^^^ (a ^^^ b) := by rw [← h1]
  rw [← UInt8.xor_assoc, UInt8.xor_self, UInt8.zero_xor] at this
  exact this.symm
theorem burst_eq {l : List UInt8} {k : Nat} (h : k + 4 ≤ l.length) (u : Nat → UInt8) (c : B32) : add c ((bend4 l k u 4).map UInt8.toNat) = add c (l.map UInt8.toNat) ↔ u 0 = 0 ∧ u 1 = 0 ∧ u 2 = 0 ∧ u 3 = 0 := by
  obtain ⟨p, x0, x1, x2, x3, q, rfl, hp⟩ := split4 h
  rw [bend4_4 hp]
  constructor
  · intro hq
    have h1 := add_inj hq
    simp only [List.map_append, List.map_cons, fold_append] at h1
    have lt := fun a : UInt8 => a.toNat_lt
    obtain ⟨e0, e1, e2, e3⟩ := four_inj (lt _) (lt _) (lt _) (lt _) (lt _) (lt _) (lt _) (lt _) h1
    exact ⟨xor_same e0.symm, xor_same e1.symm, xor_same e2.symm, xor_same e3.symm⟩
  · rintro ⟨h0, h1, h2, h3⟩
    simp only [h0, h1, h2, h3, UInt8.xor_zero]
/-- Two that are exchanged. -/
def swap2 (l : List UInt8) (k : Nat) : List UInt8 := (l.set k (l.getD (k + 1) 0)).set (k + 1) (l.getD k 0)
theorem swap_eq {l : List UInt8} {k : Nat} (h : k + 4 ≤ l.length) (c : B32) : add c ((swap2 l k).map UInt8.toNat) = add c (l.map UInt8.toNat) ↔ l.getD (k + 1) 0 = l.getD k 0 := by
  obtain ⟨p, x0, x1, x2, x3, q, rfl, hp⟩ := split4 h
  have g0 := at_p (q := x0 :: x1 :: x2 :: x3 :: q) hp 0
  have g1 := at_p (q := x0 :: x1 :: x2 :: x3 :: q) hp 1
  have s1 : ∀ v w, ((p ++ x0 :: x1 :: x2 :: x3 :: q).set k v).set (k + 1) w = p ++ v :: w :: x2 :: x3 :: q := by
    intro v w
    have := set_p (q := x0 :: x1 :: x2 :: x3 :: q) hp 0 v
    rw [show k + 0 = k from rfl] at this
    rw [this, set_p hp]
    rfl
  rw [show k + 0 = k from rfl] at g0
  have g0' : (p ++ x0 :: x1 :: x2 :: x3 :: q).getD k 0 = x0 := g0
  have g1' : (p ++ x0 :: x1 :: x2 :: x3 :: q).getD (k + 1) 0 = x1 := g1
  unfold swap2
  rw [s1, g0', g1']
  constructor
  · intro hq
    have h1 := add_inj hq
    simp only [List.map_append, List.map_cons, fold_append] at h1
    have lt := fun a : UInt8 => a.toNat_lt
    obtain ⟨e0, e1, e2, e3⟩ := four_inj (lt _) (lt _) (lt _) (lt _) (lt _) (lt _) (lt _) (lt _) h1
    exact UInt8.toNat_inj.1 e0
  · intro e; rw [e]
/-- A byte of a word of 32 bits. -/
def ub (w : Int) (i : Nat) : UInt8 := UInt8.ofNat (IntKind.u8.wrap (w.fdiv (2 ^ (min (8 * (i : Int)).toNat IntKind.u32.bits)))).toNat
theorem ub_eq (w : Int) (i : Nat) : IntKind.u8.wrap (w.fdiv (2 ^ (min (8 * (i : Int)).toNat IntKind.u32.bits))) = ((ub w i).toNat : Int) := by
  unfold ub
  rw [UInt8.toNat_ofNat', wrapU8]
  have := Int.emod_nonneg (w.fdiv (2 ^ (min (8 * (i : Int)).toNat IntKind.u32.bits))) (b := 256) (by decide)
  have := Int.emod_lt_of_pos (w.fdiv (2 ^ (min (8 * (i : Int)).toNat IntKind.u32.bits))) (b := 256) (by decide)
  omega
theorem ub_zero {w : Int} (h : 0 ≤ w ∧ w ≤ 4294967295) : (ub w 0 = 0 ∧ ub w 1 = 0 ∧ ub w 2 = 0 ∧ ub w 3 = 0) ↔ w = 0 := by
  have key : ∀ i, ub w i = 0 ↔ ((ub w i).toNat : Int) = 0 := fun i => by
    constructor
    · intro h; rw [h]; rfl
    · intro h; apply UInt8.toNat_inj.1; rw [show (0 : UInt8).toNat = 0 from rfl]; omega
  rw [key, key, key, key, ← ub_eq, ← ub_eq, ← ub_eq, ← ub_eq, wrapU8, wrapU8, wrapU8, wrapU8]
  have e : ∀ (x : Int) (n : Nat), x.fdiv (2 ^ n) = x / 2 ^ n := fun x n => Int.fdiv_eq_ediv_of_nonneg _ (Int.pow_nonneg (by decide))
  rw [e, e, e, e]
  show (w / 1 % 256 = 0 ∧ w / 256 % 256 = 0 ∧ w / 65536 % 256 = 0 ∧ w / 16777216 % 256 = 0) ↔ w = 0
  omega
def tail8 : ByteArray := ⟨#[49, 50, 51, 52, 53, 54, 55, 56]⟩
end Go.Proofs.Ytogmnckhpokfhaa.Nv
