import Derived.Test.YtogmnckhpokfhaaC1
import Derived.Test.YtogmnckhpokfhaaNvB
namespace Go.Proofs.Ytogmnckhpokfhaa.Nv
open Go Go.Proofs.Ytogmnckhpokfhaa.CrcMath
theorem andE1 {e : Env} {m : Mem} {x : Opd} {c : B32} (hx : x.ev e = .int .u32 (CrcMath.e c)) : stepH (.bin .and x (.c (.int .u32 1))) e m = some (.int .u32 (CrcMath.e (c &&& 1#32)), m) := andE (y := .c (.int .u32 1)) hx (by rw [one_e]; rfl)
theorem andP {e : Env} {m : Mem} {y : Opd} {c : B32} (hy : y.ev e = .int .u32 (CrcMath.e c)) : stepH (.bin .and (.c (.int .u32 2197175160)) y) e m = some (.int .u32 (CrcMath.e (poly &&& c)), m) := andE (x := .c (.int .u32 2197175160)) (by rw [poly_e]; rfl) hy
section
variable {K : Rel4} {e : Env} {m : Mem} {R : Env → Mem → Prop} {d : Nat} {g : Option (Nat × Bool)} {l : List Ins} {x y : Opd} {c c' : B32}
theorem WO.xorE (hg : wantedN e g = true) (hx : x.ev e = .int .u32 (CrcMath.e c)) (hy : y.ev e = .int .u32 (CrcMath.e c')) (h : WO K l (upd e d (.int .u32 (CrcMath.e (c ^^^ c')))) m R) : WO K (⟨some d, g, .bin .xor x y⟩ :: l) e m R := WO.go hg (Nv.xorE hx hy) h
theorem WO.andE1 (hg : wantedN e g = true) (hx : x.ev e = .int .u32 (CrcMath.e c)) (h : WO K l (upd e d (.int .u32 (CrcMath.e (c &&& 1#32)))) m R) : WO K (⟨some d, g, .bin .and x (.c (.int .u32 1))⟩ :: l) e m R := WO.go hg (Nv.andE1 hx) h
theorem WO.andP (hg : wantedN e g = true) (hx : x.ev e = .int .u32 (CrcMath.e c)) (h : WO K l (upd e d (.int .u32 (CrcMath.e (poly &&& c)))) m R) : WO K (⟨some d, g, .bin .and (.c (.int .u32 2197175160)) x⟩ :: l) e m R := WO.go hg (Nv.andP hx) h
theorem WO.shrE (hg : wantedN e g = true) (hx : x.ev e = .int .u32 (CrcMath.e c)) (h : WO K l (upd e d (.int .u32 (CrcMath.e (c >>> 1)))) m R) : WO K (⟨some d, g, .bin .shr x (.c (.int .u64 1))⟩ :: l) e m R := WO.go hg (Nv.shrE hx rfl) h
theorem WO.negE (hg : wantedN e g = true) (hx : x.ev e = .int .u32 (CrcMath.e c)) (h : WO K l (upd e d (.int .u32 (CrcMath.e (-c)))) m R) : WO K (⟨some d, g, .un .neg x⟩ :: l) e m R := WO.go hg (Nv.negE hx) h
theorem WO.notE (hg : wantedN e g = true) (hx : x.ev e = .int .u32 (CrcMath.e c)) (h : WO K l (upd e d (.int .u32 (CrcMath.e (~~~c)))) m R) : WO K (⟨some d, g, .un .xor x⟩ :: l) e m R := WO.go hg (Nv.notE hx) h
end
def sc10 : NC := match nf10.code with
  | .seq _ (.scope c) => c
  | _ => .skip
def body10 : NC := (findLab sc10 0).getD .skip
theorem goto10 : findLab sc10 0 = some body10 := rfl
def S (b : Env) (c : B32) (s : ByteArray) (i bit : Int) : Env := upd (upd (upd (upd b 0 (.int .u32 (CrcMath.e c))) 1 (.str s)) 5 (.int .i64 i)) 6 (.int .i64 bit)
theorem S_of {e : Env} {c : B32} {s : ByteArray} {i bit : Int} (h0 : e 0 = .int .u32 (CrcMath.e c)) (h1 : e 1 = .str s) (h5 : e 5 = .int .i64 i) (h6 : e 6 = .int .i64 bit) : e = S e c s i bit := by
  unfold S
  rw [pin h0, pin h1, pin h5, pin h6]
theorem W.S {K : Rel4} {m : Mem} {Q : Post} {e : Env} {cd : NC} {c0 c : B32} {s : ByteArray} {i i' bit bit' : Int} (h0 : e 0 = .int .u32 (CrcMath.e c0)) (hc : c0 = c) (h1 : e 1 = .str s) (h5 : e 5 = .int .i64 i') (hi : i' = i) (h6 : e 6 = .int .i64 bit') (hb : bit' = bit)
    (h : W K cd (Nv.S e c s i bit) m Q) : W K cd e m Q := by
  subst hc; subst hi; subst hb
  rwa [← S_of h0 h1 h5 h6] at h
set_option maxRecDepth 4000 in
theorem bit10 {K : Rel4} {m : Mem} {Q : Post} (b : Env) (c : B32) (s : ByteArray) (i : Int) (hi : i ≠ s.size) (bit : Int) (hb : bit = 1 ∨ bit = 2 ∨ bit = 3 ∨ bit = 4 ∨ bit = 5 ∨ bit = 6) (h : ∀ b, W K body10 (S b (st c) s i (bit + 1)) m (scopeQ K sc10 Q)) : W K body10 (S b c s i bit) m (scopeQ K sc10 Q) := by
  rcases hb with rfl | rfl | rfl | rfl | rfl | rfl
  all_goals
    repeat' (first
      | refine WO.xorE rfl rfl rfl ?_
      | refine WO.andE1 rfl rfl ?_
      | refine WO.andP rfl rfl ?_
      | refine WO.shrE rfl rfl ?_
      | refine WO.negE rfl rfl ?_
      | refine WO.testT rfl rfl ?_
      | refine WO.testF rfl rfl ?_
      | (refine WO.test rfl rfl ?_ ?_ <;> intro hc <;> (try simp only [decide_eq_true_eq, decide_eq_false_iff_not, beq_iff_eq, beq_eq_false_iff_ne, bne_iff_ne, bne_eq_false_iff_eq, ne_eq, gt_iff_lt, ge_iff_le, Int.not_lt, Int.not_le, not_true_eq_false, not_false_eq_true] at hc) <;> (try omega))
      | refine WO.go rfl rfl ?_
      | refine WO.no rfl ?_
      | refine WO.nil ?_
      | refine WO.st rfl rfl ?_
      | refine WO.no' rfl ?_
      | (refine WO.fork rfl ?_ ?_ <;> intro hc <;> (fail_if_success (exfalso; cases hc; done)) <;> (try subst hc))
      | refine W.seq ?_
      | refine W.region ?_
      | refine W.skip ?_
      | refine W.condT rfl ?_
      | refine W.condF rfl ?_
      | (refine W.fork rfl ?_ ?_ <;> intro hc <;> (fail_if_success (exfalso; cases hc; done)) <;> (try subst hc))
      | refine W.ret ?_
      | refine W.block ?_
      | refine W.exit ?_
      | refine W.drawn ?_
      | refine WH.testT rfl rfl ?_
      | refine WH.testF rfl rfl ?_
      | (refine WH.test rfl rfl ?_ ?_ <;> intro hc <;> (try simp only [decide_eq_true_eq, decide_eq_false_iff_not, beq_iff_eq, beq_eq_false_iff_ne, bne_iff_ne, bne_eq_false_iff_eq, ne_eq, gt_iff_lt, ge_iff_le, Int.not_lt, Int.not_le, not_true_eq_false, not_false_eq_true] at hc) <;> (try omega))
      | refine WH.go rfl rfl rfl ?_
      | refine WH.no rfl ?_
      | (refine WH.fork rfl ?_ ?_ <;> intro hc <;> (fail_if_success (exfalso; cases hc; done)) <;> (try subst hc))
      | refine WH.nil ?_)
  all_goals
    refine W.goto ⟨_, goto10, W.inscope (W.S rfl (st_of_bits c) rfl rfl rfl rfl (by decide) (h _))⟩
def L (s : ByteArray) : List Nat := s.data.toList.map UInt8.toNat
theorem L_length (s : ByteArray) : (L s).length = s.size := by unfold L; rw [List.length_map, Array.length_toList]; rfl
theorem L_drop (s : ByteArray) (i : Nat) (h : i < s.size) : (L s).drop i = (s[i]'h).toNat :: (L s).drop (i + 1) := by
  have hl : i < (L s).length := by rw [L_length]; exact h
  rw [List.drop_eq_getElem_cons hl]
  congr 1
  simp [L]
  rfl
theorem wrap_small {x : Int} (h0 : -9223372036854775808 ≤ x) (h1 : x < 9223372036854775808) : IntKind.i64.wrap x = x := by
  simp only [IntKind.wrap, IntKind.signed, IntKind.bits]
  simp
  omega
section
variable {K : Rel4} {e : Env} {m : Mem} {R : Env → Mem → Prop} {d : Nat} {g : Option (Nat × Bool)} {l : List Ins} {x y : Opd}
theorem WO.idxE {s : ByteArray} {k : IntKind} {i : Nat} (hi : i < s.size) (hg : wantedN e g = true) (hx : x.ev e = .str s) (hy : y.ev e = .int k i) (h : WO K l (upd e d (.int .u8 ((s[i]'hi).toNat : Int))) m R) : WO K (⟨some d, g, .index .str false x y⟩ :: l) e m R := by
  refine WO.op hg ?_ h
  have h1 : asNat (.int k (i : Int)) = some i := by simp [asNat, asInt]
  have h2 : s[i]? = some (s[i]'hi) := getElem?_pos s i hi
  simp only [step, indexV, hx, hy, h1, h2, pureM, byteV]
theorem WO.wideE {b : UInt8} (hg : wantedN e g = true) (hx : x.ev e = .int .u8 (b.toNat : Int)) (h : WO K l (upd e d (.int .u32 (CrcMath.e (BitVec.ofNat 32 b.toNat)))) m R) : WO K (⟨some d, g, .i2i .u32 x⟩ :: l) e m R := by
  refine WO.op hg ?_ h
  have hb := b.toNat_lt
  have : IntKind.u32.wrap (b.toNat : Int) = CrcMath.e (BitVec.ofNat 32 b.toNat) := by
    rw [← wrap_e]
    congr 1
    rw [BitVec.toNat_ofNat, Nat.mod_eq_of_lt (by omega)]
  simp only [step, hx, this]
end
set_option maxRecDepth 4000 in
theorem bit0 {K : Rel4} {m : Mem} {Q : Post} (b : Env) (c : B32) (s : ByteArray) (i : Nat) (hi : i < s.size) (h : ∀ b, W K body10 (S b (st (c ^^^ BitVec.ofNat 32 (s[i]'hi).toNat)) s i 1) m (scopeQ K sc10 Q)) : W K body10 (S b c s i 0) m (scopeQ K sc10 Q) := by
  repeat' (first
    | refine WO.xorE rfl rfl rfl ?_
    | refine WO.andE1 rfl rfl ?_
    | refine WO.andP rfl rfl ?_
    | refine WO.shrE rfl rfl ?_
    | refine WO.negE rfl rfl ?_
    | refine WO.idxE hi rfl rfl rfl ?_
    | refine WO.wideE rfl rfl ?_
    | refine WO.testT rfl rfl ?_
    | refine WO.testF rfl rfl ?_
    | (refine WO.test rfl rfl ?_ ?_ <;> intro hc <;> (try simp only [decide_eq_true_eq, decide_eq_false_iff_not, beq_iff_eq, beq_eq_false_iff_ne, bne_iff_ne, bne_eq_false_iff_eq, ne_eq, gt_iff_lt, ge_iff_le, Int.not_lt, Int.not_le, not_true_eq_false, not_false_eq_true] at hc) <;> (try omega))
    | refine WO.go rfl rfl ?_
    | refine WO.no rfl ?_
    | refine WO.nil ?_
    | refine WO.st rfl rfl ?_
    | refine WO.no' rfl ?_
    | (refine WO.fork rfl ?_ ?_ <;> intro hc <;> (fail_if_success (exfalso; cases hc; done)) <;> (try subst hc))
    | refine W.seq ?_
    | refine W.region ?_
    | refine W.skip ?_
    | refine W.condT rfl ?_
    | refine W.condF rfl ?_
    | (refine W.fork rfl ?_ ?_ <;> intro hc <;> (fail_if_success (exfalso; cases hc; done)) <;> (try subst hc))
    | refine W.ret ?_
    | refine W.block ?_
    | refine W.exit ?_
    | refine W.drawn ?_
    | refine WH.testT rfl rfl ?_
    | refine WH.testF rfl rfl ?_
    | (refine WH.test rfl rfl ?_ ?_ <;> intro hc <;> (try simp only [decide_eq_true_eq, decide_eq_false_iff_not, beq_iff_eq, beq_eq_false_iff_ne, bne_iff_ne, bne_eq_false_iff_eq, ne_eq, gt_iff_lt, ge_iff_le, Int.not_lt, Int.not_le, not_true_eq_false, not_false_eq_true] at hc) <;> (try omega))
    | refine WH.go rfl rfl rfl ?_
    | refine WH.no rfl ?_
    | (refine WH.fork rfl ?_ ?_ <;> intro hc <;> (fail_if_success (exfalso; cases hc; done)) <;> (try subst hc))
    | refine WH.nil ?_)
  refine W.goto ⟨_, goto10, W.inscope (W.S rfl (st_of_bits _) rfl rfl rfl rfl (by decide) (h _))⟩
set_option maxRecDepth 4000 in
theorem bit7 {K : Rel4} {m : Mem} {Q : Post} (b : Env) (c : B32) (s : ByteArray) (hs : s.size ≤ 281474976710656) (i : Nat) (hi : i < s.size) (h : ∀ b, W K body10 (S b (st c) s ((i + 1 : Nat) : Int) 0) m (scopeQ K sc10 Q)) : W K body10 (S b c s i 7) m (scopeQ K sc10 Q) := by
  repeat' (first
    | refine WO.xorE rfl rfl rfl ?_
    | refine WO.andE1 rfl rfl ?_
    | refine WO.andP rfl rfl ?_
    | refine WO.shrE rfl rfl ?_
    | refine WO.negE rfl rfl ?_
    | refine WO.testT rfl rfl ?_
    | refine WO.testF rfl rfl ?_
    | (refine WO.test rfl rfl ?_ ?_ <;> intro hc <;> (try simp only [decide_eq_true_eq, decide_eq_false_iff_not, beq_iff_eq, beq_eq_false_iff_ne, bne_iff_ne, bne_eq_false_iff_eq, ne_eq, gt_iff_lt, ge_iff_le, Int.not_lt, Int.not_le, not_true_eq_false, not_false_eq_true] at hc) <;> (try omega))
    | refine WO.go rfl rfl ?_
    | refine WO.no rfl ?_
    | refine WO.nil ?_
    | refine WO.st rfl rfl ?_
    | refine WO.no' rfl ?_
    | (refine WO.fork rfl ?_ ?_ <;> intro hc <;> (fail_if_success (exfalso; cases hc; done)) <;> (try subst hc))
    | refine W.seq ?_
    | refine W.region ?_
    | refine W.skip ?_
    | refine W.condT rfl ?_
    | refine W.condF rfl ?_
    | (refine W.fork rfl ?_ ?_ <;> intro hc <;> (fail_if_success (exfalso; cases hc; done)) <;> (try subst hc))
    | refine W.ret ?_
    | refine W.block ?_
    | refine W.exit ?_
    | refine W.drawn ?_
    | refine WH.testT rfl rfl ?_
    | refine WH.testF rfl rfl ?_
    | (refine WH.test rfl rfl ?_ ?_ <;> intro hc <;> (try simp only [decide_eq_true_eq, decide_eq_false_iff_not, beq_iff_eq, beq_eq_false_iff_ne, bne_iff_ne, bne_eq_false_iff_eq, ne_eq, gt_iff_lt, ge_iff_le, Int.not_lt, Int.not_le, not_true_eq_false, not_false_eq_true] at hc) <;> (try omega))
    | refine WH.go rfl rfl rfl ?_
    | refine WH.no rfl ?_
    | (refine WH.fork rfl ?_ ?_ <;> intro hc <;> (fail_if_success (exfalso; cases hc; done)) <;> (try subst hc))
    | refine WH.nil ?_)
  refine W.goto ⟨_, goto10, W.inscope (W.S rfl (st_of_bits _) rfl rfl (wrap_small (by omega) (by omega)) rfl (by decide) (h _))⟩
theorem byte10 {K : Rel4} {m : Mem} {Q : Post} (b : Env) (c : B32) (s : ByteArray) (hs : s.size ≤ 281474976710656) (i : Nat) (hi : i < s.size) (h : ∀ b, W K body10 (S b (byt c (s[i]'hi).toNat) s ((i + 1 : Nat) : Int) 0) m (scopeQ K sc10 Q)) : W K body10 (S b c s i 0) m (scopeQ K sc10 Q) := by
  have hne : (i : Int) ≠ s.size := by omega
  refine bit0 b c s i hi fun b => ?_
  refine bit10 b _ s i hne 1 (by omega) fun b => ?_
  refine bit10 b _ s i hne (1 + 1) (by omega) fun b => ?_
  refine bit10 b _ s i hne (1 + 1 + 1) (by omega) fun b => ?_
  refine bit10 b _ s i hne (1 + 1 + 1 + 1) (by omega) fun b => ?_
  refine bit10 b _ s i hne (1 + 1 + 1 + 1 + 1) (by omega) fun b => ?_
  refine bit10 b _ s i hne (1 + 1 + 1 + 1 + 1 + 1) (by omega) fun b => ?_
  exact bit7 b _ s hs i hi h
set_option maxRecDepth 4000 in
theorem add_loop {K : Rel4} {m : Mem} {Q : Post} (s : ByteArray) (hs : s.size ≤ 281474976710656) : ∀ (d : Nat) (b : Env) (c : B32) (i : Nat), i + d = s.size →
    (∀ e, e 4 = .int .u32 (CrcMath.e (~~~ (fold c ((L s).drop i)))) → Q .ret e m) → W K body10 (S b c s i 0) m (scopeQ K sc10 Q)
  | 0, b, c, i, h, hq => by
    have hi : (i : Int) = s.size := by omega
    repeat' (first
      | refine WO.notE rfl rfl ?_
      | refine WO.testT rfl rfl ?_
      | refine WO.testF rfl rfl ?_
      | (refine WO.test rfl rfl ?_ ?_ <;> intro hc <;> (try simp only [decide_eq_true_eq, decide_eq_false_iff_not, beq_iff_eq, beq_eq_false_iff_ne, bne_iff_ne, bne_eq_false_iff_eq, ne_eq, gt_iff_lt, ge_iff_le, Int.not_lt, Int.not_le, not_true_eq_false, not_false_eq_true] at hc) <;> (try omega))
      | refine WO.go rfl rfl ?_
      | refine WO.no rfl ?_
      | refine WO.nil ?_
      | refine WO.st rfl rfl ?_
      | refine WO.no' rfl ?_
      | (refine WO.fork rfl ?_ ?_ <;> intro hc <;> (fail_if_success (exfalso; cases hc; done)) <;> (try subst hc))
      | refine W.seq ?_
      | refine W.region ?_
      | refine W.skip ?_
      | refine W.condT rfl ?_
      | refine W.condF rfl ?_
      | (refine W.fork rfl ?_ ?_ <;> intro hc <;> (fail_if_success (exfalso; cases hc; done)) <;> (try subst hc))
      | refine W.ret ?_
      | refine W.block ?_
      | refine W.exit ?_
      | refine W.drawn ?_
      | refine WH.testT rfl rfl ?_
      | refine WH.testF rfl rfl ?_
      | (refine WH.test rfl rfl ?_ ?_ <;> intro hc <;> (try simp only [decide_eq_true_eq, decide_eq_false_iff_not, beq_iff_eq, beq_eq_false_iff_ne, bne_iff_ne, bne_eq_false_iff_eq, ne_eq, gt_iff_lt, ge_iff_le, Int.not_lt, Int.not_le, not_true_eq_false, not_false_eq_true] at hc) <;> (try omega))
      | refine WH.go rfl rfl rfl ?_
      | refine WH.no rfl ?_
      | (refine WH.fork rfl ?_ ?_ <;> intro hc <;> (fail_if_success (exfalso; cases hc; done)) <;> (try subst hc))
      | refine WH.nil ?_)
    rw [List.drop_of_length_le (by rw [L_length]; omega)] at hq
    exact hq _ rfl
  | d + 1, b, c, i, h, hq => by
    refine byte10 b c s hs i (by omega) fun b => add_loop s hs d b _ (i + 1) (by omega) fun e he => hq e ?_
    rw [he, L_drop s i (by omega)]
    rfl
def add (c : B32) (l : List Nat) : B32 := ~~~ (fold (~~~ c) l)
set_option maxRecDepth 4000 in
theorem f10 (c : B32) (s : ByteArray) (hs : s.size ≤ 281474976710656) (m : Mem) : E0 10 [.int .u32 (CrcMath.e c), .str s] m (.int .u32 (CrcMath.e (add c (L s)))) m := by
  refine EvF.by (nf := nf10) (args := [.int .u32 (CrcMath.e c), .str s]) rfl (of_decide_eq_true rfl) rfl ?_
  repeat' (first
    | refine WO.notE rfl rfl ?_
    | refine WO.testT rfl rfl ?_
    | refine WO.testF rfl rfl ?_
    | (refine WO.test rfl rfl ?_ ?_ <;> intro hc <;> (try simp only [decide_eq_true_eq, decide_eq_false_iff_not, beq_iff_eq, beq_eq_false_iff_ne, bne_iff_ne, bne_eq_false_iff_eq, ne_eq, gt_iff_lt, ge_iff_le, Int.not_lt, Int.not_le, not_true_eq_false, not_false_eq_true] at hc) <;> (try omega))
    | refine WO.go rfl rfl ?_
    | refine WO.no rfl ?_
    | refine WO.nil ?_
    | refine WO.st rfl rfl ?_
    | refine WO.no' rfl ?_
    | (refine WO.fork rfl ?_ ?_ <;> intro hc <;> (fail_if_success (exfalso; cases hc; done)) <;> (try subst hc))
    | refine W.seq ?_
    | refine W.region ?_
    | refine W.skip ?_
    | refine W.condT rfl ?_
    | refine W.condF rfl ?_
    | (refine W.fork rfl ?_ ?_ <;> intro hc <;> (fail_if_success (exfalso; cases hc; done)) <;> (try subst hc))
    | refine W.ret ?_
    | refine W.block ?_
    | refine W.exit ?_
    | refine W.drawn ?_
    | refine WH.testT rfl rfl ?_
    | refine WH.testF rfl rfl ?_
    | (refine WH.test rfl rfl ?_ ?_ <;> intro hc <;> (try simp only [decide_eq_true_eq, decide_eq_false_iff_not, beq_iff_eq, beq_eq_false_iff_ne, bne_iff_ne, bne_eq_false_iff_eq, ne_eq, gt_iff_lt, ge_iff_le, Int.not_lt, Int.not_le, not_true_eq_false, not_false_eq_true] at hc) <;> (try omega))
    | refine WH.go rfl rfl rfl ?_
    | refine WH.no rfl ?_
    | (refine WH.fork rfl ?_ ?_ <;> intro hc <;> (fail_if_success (exfalso; cases hc; done)) <;> (try subst hc))
    | refine WH.nil ?_)
  refine W.scope ?_
  repeat' (first
    | refine WO.notE rfl rfl ?_
    | refine WO.testT rfl rfl ?_
    | refine WO.testF rfl rfl ?_
    | (refine WO.test rfl rfl ?_ ?_ <;> intro hc <;> (try simp only [decide_eq_true_eq, decide_eq_false_iff_not, beq_iff_eq, beq_eq_false_iff_ne, bne_iff_ne, bne_eq_false_iff_eq, ne_eq, gt_iff_lt, ge_iff_le, Int.not_lt, Int.not_le, not_true_eq_false, not_false_eq_true] at hc) <;> (try omega))
    | refine WO.go rfl rfl ?_
    | refine WO.no rfl ?_
    | refine WO.nil ?_
    | refine WO.st rfl rfl ?_
    | refine WO.no' rfl ?_
    | (refine WO.fork rfl ?_ ?_ <;> intro hc <;> (fail_if_success (exfalso; cases hc; done)) <;> (try subst hc))
    | refine W.seq ?_
    | refine W.region ?_
    | refine W.skip ?_
    | refine W.condT rfl ?_
    | refine W.condF rfl ?_
    | (refine W.fork rfl ?_ ?_ <;> intro hc <;> (fail_if_success (exfalso; cases hc; done)) <;> (try subst hc))
    | refine W.ret ?_
    | refine W.block ?_
    | refine W.exit ?_
    | refine W.drawn ?_
    | refine WH.testT rfl rfl ?_
    | refine WH.testF rfl rfl ?_
    | (refine WH.test rfl rfl ?_ ?_ <;> intro hc <;> (try simp only [decide_eq_true_eq, decide_eq_false_iff_not, beq_iff_eq, beq_eq_false_iff_ne, bne_iff_ne, bne_eq_false_iff_eq, ne_eq, gt_iff_lt, ge_iff_le, Int.not_lt, Int.not_le, not_true_eq_false, not_false_eq_true] at hc) <;> (try omega))
    | refine WH.go rfl rfl rfl ?_
    | refine WH.no rfl ?_
    | (refine WH.fork rfl ?_ ?_ <;> intro hc <;> (fail_if_success (exfalso; cases hc; done)) <;> (try subst hc))
    | refine WH.nil ?_)
  refine W.label (W.unskip ?_)
  refine W.S rfl rfl rfl rfl rfl rfl rfl (add_loop s hs s.size _ _ 0 (by omega) fun e he => ?_)
  exact ⟨.inr rfl, _, rfl, fin (by unfold popH; simp only [he]; rfl) rfl rfl⟩
end Go.Proofs.Ytogmnckhpokfhaa.Nv
