/- Plain values and memory for whole Go functions: operations with their static parts reckoned beforehand, and what they come to. Of no program. -/
import GoSem.Step
namespace Go.Proofs.Ythecdihimfddgaa.Nv
open Go

/-- Values. 'slc': what a slice shows (full: nothing is behind its end). 'own': so too, and its spare places belong to token tok of frame lvl. 'ptr', 'map', 'msl': into the memory of frame lvl. 'eptr': at cells that nobody writes. -/
inductive NV where
  | undef
  | bool (b : Bool)
  | int (k : IntKind) (n : Int)
  | str (s : ByteArray)
  | slc (sz : Nat) (full : Bool) (rows : List (List NV))
  | own (sz : Nat) (rows : List (List NV)) (lvl tok : Nat)
  | nilp
  | ptr (lvl i off : Nat)
  | eptr (cells : List NV)
  | nilm
  | map (lvl i : Nat)
  | fn (f : FuncId) (caps : List NV)
  | agg (cells : List NV)
  | tup (vs : List NV)
  | msl (lvl i off len sz : Nat)
  deriving Inhabited

inductive NObj where
  | cells (cs : List NV)
  | mp (es : List (NV × NV))

structure Fr where
  blks : List NObj
  toks : List Bool

abbrev Mem := List Fr
abbrev Env := Nat → NV
def upd (e : Env) (t : Nat) (v : NV) : Env := fun x => cond (Nat.beq x t) v (e x)
theorem upd_def (e : Env) (t : Nat) (v : NV) (x : Nat) : upd e t v x = if x = t then v else e x := by
  unfold upd
  by_cases h : x = t
  · subst h; simp
  · rw [if_neg h]
    cases hb : Nat.beq x t with
    | true => exact absurd (Nat.eq_of_beq_eq_true hb) h
    | false => rfl
def updO (e : Env) (t : Option Nat) (v : NV) : Env := match t with | some t => upd e t v | none => e

inductive Opd where
  | t (i : Nat)
  | c (v : NV)
def Opd.ev (e : Env) : Opd → NV
  | .t i => e i
  | .c v => v

/-- What a slice index is of. -/
inductive Knd where
  | str
  | slc (sz : Nat)
  | arr (len sz : Nat)

/-- What 'len' is of; what '==' is of. -/
inductive LK where
  | arr (n : Nat)
  | str
  | slc
  | map
/-- A plain cell's kind; a plain type: is it a struct, its cells. -/
inductive SK where
  | bool
  | int
  | str
  deriving DecidableEq
structure KT where
  agg : Bool
  ks : List SK
inductive EK where
  | ptr
  | key (t : KT)

inductive NOp where
  | mv (x : Opd)
  | pick (c a b : Opd)
  | box (x : Opd)
  | new (zero : List NV)
  | build (zero : List NV) (parts : List (Nat × Nat × Opd))
  | bslc (sz len : Nat) (zero : List NV) (parts : List (Nat × Nat × Opd))
  | load (agg : Bool) (n : Nat) (a : Opd)
  | store (n : Nat) (a x : Opd)
  | nchk (x : Opd)
  | bin (op : BinOp) (x y : Opd)
  | eq (k : EK) (neg : Bool) (x y : Opd)
  | un (op : UnOp) (x : Opd)
  | i2i (k : IntKind) (x : Opd)
  | same (x : Opd)
  | s2b (x : Opd)
  | b2s (x : Opd)
  | mkfn (f : FuncId) (caps : List Opd)
  | mkmap
  | mkslc (sz bytes : Nat) (zero : List NV) (len cap : Opd)
  | slice (k : Knd) (x : Opd) (lo hi mx : Option Opd)
  | faddr (off : Nat) (x : Opd)
  | field (agg : Bool) (off n : Nat) (x : Opd)
  | iaddr (k : Knd) (x i : Opd)
  | index (k : Knd) (agg : Bool) (x i : Opd)
  | look (t : KT) (ok : Bool) (zero : NV) (m k : Opd)
  | put (t : KT) (m k x : Opd)
  | del (t : KT) (m k : Opd)
  | ext (x : Opd) (i : Nat)
  | len (k : LK) (x : Opd)
  | app (sz bytes : Nat) (x y : Opd)
  | mm (max : Bool) (args : List Opd)
  | call (f : FuncId) (args : List Opd)
  | dyn (f : Opd) (args : List Opd)
  | bad

structure Ins where
  dst : Option Nat
  guard : Option (Nat × Bool)
  op : NOp

/-- 'region': some (n, bs, fs): the first n in any order that fits (bs: who is behind whom, as bits; fs: which calls do not stand in one order with what makes blocks), the others behind them. 'inscope': code inside a scope of that body. -/
inductive NC where
  | skip
  | region (ins : List Ins) (draw : Option (Nat × List Nat × Nat))
  | seq (a b : NC)
  | cond (c : Opd) (x y : NC)
  | block (id : Nat) (c : NC)
  | loop (c : NC)
  | scope (c : NC)
  | inscope (s c : NC)
  | exit (id : Nat)
  | label (l : Nat)
  | goto (l : Nat)
  | ret
  | bad

inductive Res where
  | tmp (t : Nat)
  | cell (a : Nat) (agg : Bool) (n : Nat)

structure NF where
  ntmps : Nat
  results : List Res
  code : NC

/-! ### Values: what they become -/

def cellsOf : NV → List NV
  | .agg cs => cs
  | v => [v]

/-- For a place in a slice: what is plain. -/
def plain1 : NV → Option NV
  | .bool b => some (.bool b)
  | .int k n => some (.int k n)
  | .str s => some (.str s)
  | .slc sz f r => some (.slc sz f r)
  | .own sz r _ _ => some (.slc sz false r)
  | _ => none
def plainL : List NV → Option (List NV)
  | [] => some []
  | v :: l => match plain1 v, plainL l with
    | some v, some l => some (v :: l)
    | _, _ => none
def plainLL : List (List NV) → Option (List (List NV))
  | [] => some []
  | v :: l => match plainL v, plainLL l with
    | some v, some l => some (v :: l)
    | _, _ => none

/-- Other names: g of blocks, h of tokens (none: the token is given up). -/
structure Shift where
  g : Nat → Nat → Option (Nat × Nat)
  h : Nat → Nat → Option (Nat × Nat)
def sh1 (s : Shift) : NV → Option NV
  | .own sz r l t => match s.h l t with
    | some (l, t) => some (.own sz r l t)
    | none => some (.slc sz false r)
  | .ptr l i o => match s.g l i with
    | some (l, i) => some (.ptr l i o)
    | none => none
  | .map l i => match s.g l i with
    | some (l, i) => some (.map l i)
    | none => none
  | .msl l i o n z => match s.g l i with
    | some (l, i) => some (.msl l i o n z)
    | none => none
  | .fn f [] => some (.fn f [])
  | .fn _ (_ :: _) => none
  | .agg _ => none
  | .tup _ => none
  | .undef => none
  | v => some v
def shL (s : Shift) : List NV → Option (List NV)
  | [] => some []
  | v :: l => match sh1 s v, shL s l with
    | some v, some l => some (v :: l)
    | _, _ => none
def shA (s : Shift) : NV → Option NV
  | .agg cs => match shL s cs with
    | some cs => some (.agg cs)
    | none => none
  | v => sh1 s v
def shAL (s : Shift) : List NV → Option (List NV)
  | [] => some []
  | v :: l => match shA s v, shAL s l with
    | some v, some l => some (v :: l)
    | _, _ => none
def sh2 (s : Shift) : NV → Option NV
  | .fn f cs => match shAL s cs with
    | some cs => some (.fn f cs)
    | none => none
  | .undef => some .undef
  | v => shA s v
def sh2L (s : Shift) : List NV → Option (List NV)
  | [] => some []
  | v :: l => match sh2 s v, sh2L s l with
    | some v, some l => some (v :: l)
    | _, _ => none
def shF (s : Shift) : NV → Option NV
  | .tup vs => match sh2L s vs with
    | some vs => some (.tup vs)
    | none => none
  | v => sh2 s v
def noTok (_ _ : Nat) : Option (Nat × Nat) := none
/-- Into a callee. -/
def upS : Shift := ⟨fun l i => some (l + 1, i), noTok⟩
/-- Out of a callee whose frame is left. -/
def downS : Shift := ⟨fun l i => match l with | 0 => none | l + 1 => some (l, i), noTok⟩
/-- Out of a callee whose memory is laid behind the caller's. -/
def sinkS (n m : Nat) : Shift := ⟨fun l i => match l with | 0 => some (0, n + i) | l + 1 => some (l, i), fun l t => match l with | 0 => some (0, m + t) | l + 1 => some (l, t)⟩
/-- Out of a place of frame k. -/
def outS (k : Nat) : Shift := ⟨fun l i => some (l + k, i), fun l t => some (l + k, t)⟩
/-- Into a place of frame k. -/
def inS (k : Nat) : Shift := ⟨fun l i => if k ≤ l then some (l - k, i) else none, fun l t => if k ≤ l then some (l - k, t) else none⟩

def shO (s : Shift) : NObj → Option NObj
  | .cells cs => match shL s cs with
    | some cs => some (.cells cs)
    | none => none
  | .mp [] => some (.mp [])
  | .mp (_ :: _) => none
def shOL (s : Shift) : List NObj → Option (List NObj)
  | [] => some []
  | v :: l => match shO s v, shOL s l with
    | some v, some l => some (v :: l)
    | _, _ => none

def pop (v : NV) : Mem → Option (NV × Mem)
  | fr :: rest =>
    match shF downS v with
    | some v => some (v, rest)
    | none => match rest with
      | fr2 :: rest =>
        match shF (sinkS fr2.blks.length fr2.toks.length) v, shOL (sinkS fr2.blks.length fr2.toks.length) fr.blks with
        | some v, some bs => some (v, ⟨fr2.blks ++ bs, fr2.toks ++ fr.toks⟩ :: rest)
        | _, _ => none
      | [] => none
  | [] => none

/-! ### Memory -/

def blk? (m : Mem) (l i : Nat) : Option NObj := match m[l]? with | some fr => fr.blks[i]? | none => none
def setBlk (m : Mem) (l i : Nat) (o : NObj) : Mem := m.modify l fun fr => ⟨fr.blks.set i o, fr.toks⟩
/-- Does the token still own its places? -/
def tok? (m : Mem) (l t : Nat) : Bool := match m[l]? with | some fr => (fr.toks[t]?).getD false | none => false
def endTok (m : Mem) (l t : Nat) : Mem := m.modify l fun fr => ⟨fr.blks, fr.toks.set t false⟩
def addBlk (m : Mem) (o : NObj) : Option (Nat × Mem) :=
  match m with
  | fr :: rest => some (fr.blks.length, ⟨fr.blks ++ [o], fr.toks⟩ :: rest)
  | [] => none
def addTok (m : Mem) (k : Nat) : Option (Nat × Mem) :=
  match m[k]? with
  | some fr => some (fr.toks.length, m.modify k fun fr => ⟨fr.blks, fr.toks ++ [true]⟩)
  | none => none

/-- A value into a place of frame k: the token of a newer frame is handed over. -/
def into (k : Nat) (v : NV) (m : Mem) : Option (NV × Mem) :=
  match v with
  | .own sz r l t =>
    if k ≤ l then some (.own sz r (l - k) t, m)
    else if tok? m l t = true then (match addTok (endTok m l t) k with
        | some (t, m) => some (.own sz r 0 t, m)
        | none => none)
      else some (.slc sz false r, m)
  | v => match sh1 (inS k) v with
    | some v => some (v, m)
    | none => none
def intoL (k : Nat) : List NV → Mem → Option (List NV × Mem)
  | [], m => some ([], m)
  | v :: l, m => match into k v m with
    | some (v, m) => match intoL k l m with
      | some (l, m) => some (v :: l, m)
      | none => none
    | none => none
def outL (k : Nat) (l : List NV) : Option (List NV) := shL (outS k) l
/-- A value into a map of frame k. -/
def intoV (k : Nat) (v : NV) (m : Mem) : Option (NV × Mem) :=
  match v with
  | .agg cs => match intoL k cs m with
    | some (cs, m) => some (.agg cs, m)
    | none => none
  | v => into k v m

/-! ### Operations -/

def asInt : NV → Option Int
  | .int _ n => some n
  | _ => none
def asNat (v : NV) : Option Nat :=
  match asInt v with
  | some n => if 0 ≤ n then some n.toNat else none
  | none => none

def rowsOf : NV → Option (Nat × List (List NV))
  | .slc sz _ r => some (sz, r)
  | .own sz r _ _ => some (sz, r)
  | _ => none

def byteOf : NV → Option UInt8
  | .int .u8 n => some (UInt8.ofNat n.toNat)
  | _ => none
def bytesOf : List NV → Option (List UInt8)
  | [] => some []
  | v :: l => match byteOf v, bytesOf l with
    | some v, some l => some (v :: l)
    | _, _ => none
def byteV (b : UInt8) : NV := .int .u8 b.toNat

/-- What a cell may hold; what a closure may catch. -/
def cellOk : NV → Bool
  | .undef => false
  | .tup _ => false
  | .fn _ (_ :: _) => false
  | _ => true
def fillN : List NV → List (Nat × Nat × NV) → Option (List NV)
  | cs, [] => some cs
  | cs, (off, n, v) :: l =>
    if cellOk v = true ∧ (cellsOf v).length = n ∧ off + n ≤ cs.length then fillN (cs.take off ++ cellsOf v ++ cs.drop (off + n)) l else none

def binI (op : BinOp) (k : IntKind) (x y : Int) : Option NV :=
  match op with
  | .add => some (.int k (k.wrap (x + y)))
  | .sub => some (.int k (k.wrap (x - y)))
  | .mul => some (.int k (k.wrap (x * y)))
  | .quo => if y = 0 then none else some (.int k (k.wrap (x.tdiv y)))
  | .rem => if y = 0 then none else some (.int k (x.tmod y))
  | .and => some (.int k (k.wrap (BitVec.ofInt k.bits x &&& BitVec.ofInt k.bits y).toNat))
  | .or => some (.int k (k.wrap (BitVec.ofInt k.bits x ||| BitVec.ofInt k.bits y).toNat))
  | .xor => some (.int k (k.wrap (BitVec.ofInt k.bits x ^^^ BitVec.ofInt k.bits y).toNat))
  | .andNot => some (.int k (k.wrap (BitVec.ofInt k.bits x &&& ~~~(BitVec.ofInt k.bits y)).toNat))
  | .eql => some (.bool (x == y))
  | .neq => some (.bool (x != y))
  | .lss => some (.bool (decide (x < y)))
  | .leq => some (.bool (decide (x ≤ y)))
  | .gtr => some (.bool (decide (x > y)))
  | .geq => some (.bool (decide (x ≥ y)))
  | _ => none
def shiftI (op : BinOp) (k : IntKind) (x y : Int) : Option NV :=
  if y < 0 then none else
  match op with
  | .shl => some (.int k (k.wrap (x * 2 ^ (min y.toNat k.bits))))
  | .shr => some (.int k (x.fdiv (2 ^ (min y.toNat k.bits))))
  | _ => none
def binS (op : BinOp) (x y : ByteArray) : Option NV :=
  match op with
  | .add => if x.size + y.size ≤ 9223372036854775807 then some (.str (x ++ y)) else none
  | .eql => some (.bool (x.toList == y.toList))
  | .neq => some (.bool (!(x.toList == y.toList)))
  | .lss => some (.bool (Op.bytesLess x.toList y.toList))
  | .leq => some (.bool (Op.bytesLess x.toList y.toList || x.toList == y.toList))
  | .gtr => some (.bool (!(Op.bytesLess x.toList y.toList || x.toList == y.toList)))
  | .geq => some (.bool (!(Op.bytesLess x.toList y.toList)))
  | _ => none
def binV (op : BinOp) : NV → NV → Option NV
  | .int k x, .int j y =>
    match op with
    | .shl => shiftI .shl k x y
    | .shr => shiftI .shr k x y
    | op => if k = j then binI op k x y else none
  | .str x, .str y => binS op x y
  | _, _ => none
/-- Are two cells the same? -/
def eqC : SK → NV → NV → Option Bool
  | .int, .int k x, .int j y => if k = j then some (x == y) else none
  | .bool, .bool x, .bool y => some (x == y)
  | .str, .str x, .str y => some (x.toList == y.toList)
  | _, _, _ => none
def eqL : List SK → List NV → List NV → Option Bool
  | [], [], [] => some true
  | k :: ks, x :: l, y :: r => match eqC k x y with
    | some b => match eqL ks l r with
      | some c => some (b && c)
      | none => none
    | none => none
  | _, _, _ => none
def eqV (t : KT) (x y : NV) : Option Bool :=
  match t with
  | ⟨true, ks⟩ => match x, y with
    | .agg x, .agg y => eqL ks x y
    | _, _ => none
  | ⟨false, k :: _⟩ => eqC k x y
  | ⟨false, []⟩ => none
def eqK : EK → NV → NV → Option Bool
  | .key t, x, y => eqV t x y
  | .ptr, .nilp, .nilp => some true
  | .ptr, .nilp, .ptr _ _ _ => some false
  | .ptr, .ptr _ _ _, .nilp => some false
  | .ptr, .nilp, .eptr _ => some false
  | .ptr, .eptr _, .nilp => some false
  | _, _, _ => none
def findE (t : KT) (k : NV) : List (NV × NV) → Nat → Option (Option (Nat × NV))
  | [], _ => some none
  | e :: es, i => match eqV t k e.1 with
    | some true => some (some (i, e.2))
    | some false => findE t k es (i + 1)
    | none => none
def unV (op : UnOp) : NV → Option NV
  | .int k n => match op with
    | .neg => some (.int k (k.wrap (0 - n)))
    | .xor => some (.int k (k.wrap (BitVec.ofInt k.bits (if k.signed then -1 else k.max) ^^^ BitVec.ofInt k.bits n).toNat))
    | _ => none
  | .bool b => match op with
    | .not => some (.bool !b)
    | _ => none
  | _ => none
def mm2 (max : Bool) : NV → NV → Option NV
  | .int k x, .int j y => if k = j then some (.int k (if max then (if y > x then y else x) else (if y < x then y else x))) else none
  | _, _ => none
def mmL (max : Bool) : NV → List NV → Option NV
  | x, [] => some x
  | x, y :: l => match mm2 max x y with
    | some z => mmL max z l
    | none => none

/-- A load. -/
def loadV (agg : Bool) (n : Nat) (a : NV) (m : Mem) : Option NV :=
  match a with
  | .eptr cs =>
    if agg then (if n ≤ cs.length then some (.agg (cs.take n)) else none)
    else cs[0]?
  | .ptr l i o =>
    match blk? m l i with
    | some (.cells cs) =>
      if agg then (if o + n ≤ cs.length then (match outL l ((cs.drop o).take n) with
          | some cs => some (.agg cs)
          | none => none) else none)
      else match cs[o]? with
        | some v => sh1 (outS l) v
        | none => none
    | _ => none
  | _ => none
def storeV (n : Nat) (a v : NV) (m : Mem) : Option Mem :=
  match a with
  | .ptr l i o =>
    if (cellsOf v).length = n then
      match intoL l (cellsOf v) m with
      | some (vs, m) =>
        match blk? m l i with
        | some (.cells cs) => if o + n ≤ cs.length then some (setBlk m l i (.cells (cs.take o ++ vs ++ cs.drop (o + n)))) else none
        | _ => none
      | none => none
    else none
  | _ => none

def sliceRows (sz : Nat) (full : Bool) (r : List (List NV)) (lo : Nat) (hi mx : Option Nat) : Option NV :=
  match hi with
  | some h => match mx with
    | some m => if m ≤ r.length ∧ h ≤ m ∧ lo ≤ h then some (.slc sz (decide (h = m)) ((r.take h).drop lo)) else none
    | none => if h ≤ r.length ∧ lo ≤ h then some (.slc sz (full && decide (h = r.length)) ((r.take h).drop lo)) else none
  | none => match mx with
    | some _ => none
    | none => if lo ≤ r.length then some (.slc sz full (r.drop lo)) else none
def optNat : Option NV → Option (Option Nat)
  | none => some none
  | some v => match asNat v with
    | some n => some (some n)
    | none => none
def sliceV (k : Knd) (x : NV) (lo hi mx : Option NV) : Option NV :=
  match optNat lo, optNat hi, optNat mx with
  | some lo, some hi, some mx =>
    match k with
    | .str => match x with
      | .str s => match mx with
        | none => if (hi.getD s.size) ≤ s.size ∧ lo.getD 0 ≤ hi.getD s.size then some (.str (s.extract (lo.getD 0) (hi.getD s.size))) else none
        | some _ => none
      | _ => none
    | .slc sz => match x with
      | .slc sz' full r => if sz' = sz ∨ r.isEmpty then sliceRows sz full r (lo.getD 0) hi mx else none
      | .own sz' r _ _ => if sz' = sz then sliceRows sz false r (lo.getD 0) hi mx else none
      | .msl l i o n z => match mx with
        | none => if z = sz ∧ hi.getD n ≤ n ∧ lo.getD 0 ≤ hi.getD n then (if lo.getD 0 = hi.getD n then some (.slc sz false []) else some (.msl l i (o + lo.getD 0 * sz) (hi.getD n - lo.getD 0) sz)) else none
        | some _ => none
      | _ => none
    | .arr len sz => match x with
      | .ptr l i o => match mx with
        | none => if hi.getD len ≤ len ∧ lo.getD 0 ≤ hi.getD len then (if lo.getD 0 = hi.getD len then some (.slc sz false []) else some (.msl l i (o + lo.getD 0 * sz) (hi.getD len - lo.getD 0) sz)) else none
        | some _ => none
      | _ => none
  | _, _, _ => none

def iaddrV (k : Knd) (x i : NV) : Option NV :=
  match asNat i with
  | none => none
  | some i => match k with
    | .arr len sz => if i < len then (match x with
        | .ptr l b o => some (.ptr l b (o + i * sz))
        | .eptr cs => some (.eptr (cs.drop (i * sz)))
        | _ => none) else none
    | .slc sz => match x with
      | .slc sz' _ r => if sz' = sz then (match r[i]? with
          | some c => some (.eptr c)
          | none => none) else none
      | .own sz' r _ _ => if sz' = sz then (match r[i]? with
          | some c => some (.eptr c)
          | none => none) else none
      | .msl l b o n z => if z = sz ∧ i < n then some (.ptr l b (o + i * sz)) else none
      | _ => none
    | .str => none

def partV (agg : Bool) (off n : Nat) (x : NV) : Option NV :=
  match x with
  | .agg cs => if agg then (if off + n ≤ cs.length then some (.agg ((cs.drop off).take n)) else none) else cs[off]?
  | _ => none
def indexV (k : Knd) (agg : Bool) (x i : NV) : Option NV :=
  match asNat i with
  | none => none
  | some i => match k with
    | .str => match x with
      | .str s => match s[i]? with
        | some b => some (byteV b)
        | none => none
      | _ => none
    | .arr len sz => if i < len then partV agg (i * sz) sz x else none
    | .slc _ => none

def appV (sz bytes : Nat) (x y : NV) (m : Mem) : Option (NV × Mem) :=
  match rowsOf y with
  | none => none
  | some (ysz, ys) =>
    if ysz = sz ∨ ys.isEmpty then
      match x with
      | .slc xsz full r =>
        if xsz = sz ∨ r.isEmpty then
          if ys.isEmpty then some (.slc xsz full r, m)
          else if full = true ∧ (r.length + ys.length) * bytes ≤ 35184372088832 ∧ r.length + ys.length ≤ 35184372088832 then
            match addTok m 0 with
            | some (t, m) => some (.own sz (r ++ ys) 0 t, m)
            | none => none
          else none
        else none
      | .own xsz r l t =>
        if xsz = sz then
          if ys.isEmpty then some (.own xsz r l t, m)
          else if tok? m l t = true ∧ (r.length + ys.length) * bytes ≤ 35184372088832 ∧ r.length + ys.length ≤ 35184372088832 then
            match addTok (endTok m l t) 0 with
            | some (t, m) => some (.own sz (r ++ ys) 0 t, m)
            | none => none
          else none
        else none
      | _ => none
    else none

def bytesStr (x : NV) (m : Mem) : Option NV :=
  match x with
  | .slc sz _ r => if sz = 1 ∨ r.isEmpty then (match bytesOf r.flatten with
    | some l => some (.str ⟨l.toArray⟩)
    | none => none) else none
  | .own sz r _ _ => if sz = 1 then (match bytesOf r.flatten with
    | some l => some (.str ⟨l.toArray⟩)
    | none => none) else none
  | .msl l i o n z => match blk? m l i with
    | some (.cells cs) => if z = 1 ∧ o + n ≤ cs.length then (match bytesOf ((cs.drop o).take n) with
        | some l => some (.str ⟨l.toArray⟩)
        | none => none) else none
    | _ => none
  | _ => none

def evL (e : Env) : List Opd → List NV
  | [] => []
  | x :: l => x.ev e :: evL e l
def evP (e : Env) : List (Nat × Nat × Opd) → List (Nat × Nat × NV)
  | [] => []
  | (a, b, x) :: l => (a, b, x.ev e) :: evP e l
def evO (e : Env) : Option Opd → Option NV
  | some x => some (x.ev e)
  | none => none
def pureM (v : Option NV) (m : Mem) : Option (NV × Mem) :=
  match v with
  | some v => some (v, m)
  | none => none
def rowsMk (sz : Nat) : Nat → List NV → List (List NV)
  | 0, _ => []
  | n + 1, cs => cs.take sz :: rowsMk sz n (cs.drop sz)

/-- An operation that calls nobody: what it comes to. -/
def step (op : NOp) (e : Env) (m : Mem) : Option (NV × Mem) :=
  match op with
  | .mv x => some (x.ev e, m)
  | .pick c a b => match c.ev e with
    | .bool c => some (if c then a.ev e else b.ev e, m)
    | _ => none
  | .box x => match intoL 0 (cellsOf (x.ev e)) m with
    | some (cs, m) => match addBlk m (.cells cs) with
      | some (i, m) => some (.ptr 0 i 0, m)
      | none => none
    | none => none
  | .new zero => match addBlk m (.cells zero) with
    | some (i, m) => some (.ptr 0 i 0, m)
    | none => none
  | .build zero parts => pureM ((fillN zero (evP e parts)).map .agg) m
  | .bslc sz len zero parts =>
    match fillN zero (evP e parts) with
    | some cs => match plainL cs with
      | some cs => if cs.length = len * sz then some (.slc sz true (rowsMk sz len cs), m) else none
      | none => none
    | none => none
  | .load agg n a => pureM (loadV agg n (a.ev e) m) m
  | .store n a x => match storeV n (a.ev e) (x.ev e) m with
    | some m => some (.undef, m)
    | none => none
  | .nchk x => match x.ev e with
    | .ptr l i o => some (.ptr l i o, m)
    | .eptr c => some (.eptr c, m)
    | _ => none
  | .bin op x y => pureM (binV op (x.ev e) (y.ev e)) m
  | .eq k neg x y => match eqK k (x.ev e) (y.ev e) with
    | some b => some (.bool (if neg then !b else b), m)
    | none => none
  | .un op x => pureM (unV op (x.ev e)) m
  | .i2i k x => match x.ev e with
    | .int _ n => some (.int k (k.wrap n), m)
    | _ => none
  | .same x => match x.ev e with
    | .str s => some (.str s, m)
    | _ => none
  | .s2b x => match x.ev e with
    | .str s => if s.size ≤ 9223372036854775807 then (match addBlk m (.cells (s.data.toList.map byteV)) with
      | some (i, m) => some (.msl 0 i 0 s.size 1, m)
      | none => none) else none
    | _ => none
  | .b2s x => pureM (bytesStr (x.ev e) m) m
  | .mkfn f caps => if (evL e caps).all cellOk = true then some (.fn f (evL e caps), m) else none
  | .mkmap => match addBlk m (.mp []) with
    | some (i, m) => some (.map 0 i, m)
    | none => none
  | .mkslc sz bytes zero len cap => match asNat (len.ev e), asNat (cap.ev e) with
    | some l, some c => if l = c ∧ c * bytes ≤ 35184372088832 ∧ c ≤ 35184372088832 then (match addBlk m (.cells (List.flatten (List.replicate c zero))) with
      | some (i, m) => some (.msl 0 i 0 l sz, m)
      | none => none) else none
    | _, _ => none
  | .slice k x lo hi mx => pureM (sliceV k (x.ev e) (evO e lo) (evO e hi) (evO e mx)) m
  | .faddr off x => match x.ev e with
    | .ptr l i o => some (.ptr l i (o + off), m)
    | .eptr c => some (.eptr (c.drop off), m)
    | _ => none
  | .field agg off n x => pureM (partV agg off n (x.ev e)) m
  | .iaddr k x i => pureM (iaddrV k (x.ev e) (i.ev e)) m
  | .index k agg x i => pureM (indexV k agg (x.ev e) (i.ev e)) m
  | .look t ok zero mp k => match mp.ev e with
    | .map l i => match blk? m l i with
      | some (.mp es) => if (eqV t (k.ev e) (k.ev e)).isSome = true then (match findE t (k.ev e) es 0 with
        | some r => match (match r with | some x => sh2 (outS l) x.2 | none => some zero) with
          | some v => some (if ok then .tup [v, .bool r.isSome] else v, m)
          | none => none
        | none => none) else none
      | _ => none
    | .nilm => if (eqV t (k.ev e) (k.ev e)).isSome = true then some (if ok then .tup [zero, .bool false] else zero, m) else none
    | _ => none
  | .put t mp k x => match mp.ev e with
    | .map l i => match intoV l (x.ev e) m with
      | some (v, m) => match blk? m l i with
        | some (.mp es) => if (eqV t (k.ev e) (k.ev e)).isSome = true then (match findE t (k.ev e) es 0 with
          | some (some (j, _)) => some (.undef, setBlk m l i (.mp (es.set j (k.ev e, v))))
          | some none => some (.undef, setBlk m l i (.mp (es ++ [(k.ev e, v)])))
          | none => none) else none
        | _ => none
      | none => none
    | _ => none
  | .del t mp k => match mp.ev e with
    | .map l i => match blk? m l i with
      | some (.mp es) => if (eqV t (k.ev e) (k.ev e)).isSome = true then (match findE t (k.ev e) es 0 with
        | some (some (j, _)) => some (.tup [], setBlk m l i (.mp (es.eraseIdx j)))
        | some none => some (.tup [], m)
        | none => none) else none
      | _ => none
    | _ => none
  | .ext x i => match x.ev e with
    | .tup vs => pureM vs[i]? m
    | _ => none
  | .len k x => match k with
    | .arr n => some (.int .i64 n, m)
    | .str => match x.ev e with
      | .str s => some (.int .i64 s.size, m)
      | _ => none
    | .slc => match x.ev e with
      | .slc _ _ r => some (.int .i64 r.length, m)
      | .own _ r _ _ => some (.int .i64 r.length, m)
      | .msl _ _ _ n _ => some (.int .i64 n, m)
      | _ => none
    | .map => match x.ev e with
      | .nilm => some (.int .i64 0, m)
      | .map l i => match blk? m l i with
        | some (.mp es) => some (.int .i64 es.length, m)
        | _ => none
      | _ => none
  | .app sz bytes x y => appV sz bytes (x.ev e) (y.ev e) m
  | .mm max args => match evL e args with
    | x :: l => pureM (mmL max x l) m
    | [] => none
  | .call _ _ => none
  | .dyn _ _ => none
  | .bad => none

/-- An operation that calls: whom, with what. -/
def asks (op : NOp) (e : Env) : Option (FuncId × List NV) :=
  match op with
  | .call f args => some (f, evL e args)
  | .dyn x args => match x.ev e with
    | .fn f caps => some (f, evL e args ++ caps)
    | _ => none
  | _ => none

def wantedN (e : Env) : Option (Nat × Bool) → Bool
  | none => true
  | some (t, want) => match e t with
    | .bool b => b == want
    | _ => false

inductive NX where
  | normal
  | exit (id : Nat)
  | goto (l : Nat)
  | ret
  deriving DecidableEq

def findLab : NC → Nat → Option NC
  | .seq a b, l => match findLab a l with
    | some rest => some (.seq rest b)
    | none => findLab b l
  | .label l', l => if l' == l then some .skip else none
  | _, _ => none

def results1 (e : Env) (m : Mem) : Res → Option NV
  | .tmp t => some (e t)
  | .cell a agg n => loadV agg n (e a) m
def resultsL (e : Env) (m : Mem) : List Res → Option (List NV)
  | [] => some []
  | r :: l => match results1 e m r, resultsL e m l with
    | some v, some l => some (v :: l)
    | _, _ => none
def resultOf (e : Env) (m : Mem) (l : List Res) : Option NV :=
  match resultsL e m l with
  | some [v] => some v
  | some vs => some (.tup vs)
  | none => none
def envOf (args : List NV) : Env := fun t => args.getD t .undef
def shArgs (l : List NV) : Option (List NV) := sh2L upS l

/-! ### Runs -/

abbrev Rel4 := FuncId → List NV → Mem → NV → Mem → Prop

/-- One operation, in whose run a call is as K says. -/
def Run1 (K : Rel4) (op : NOp) (e : Env) (m : Mem) (v : NV) (m' : Mem) : Prop :=
  step op e m = some (v, m') ∨ ∃ f args, asks op e = some (f, args) ∧ K f args m v m'

def RunOps (K : Rel4) : List Ins → Env → Mem → Env → Mem → Prop
  | [], e, m, e', m' => e' = e ∧ m' = m
  | i :: l, e, m, e', m' =>
    if wantedN e i.guard = true then ∃ v m1, Run1 K i.op e m v m1 ∧ RunOps K l (updO e i.dst v) m1 e' m'
    else RunOps K l (updO e i.dst .undef) m e' m'

def pureK (K : Rel4) : Rel4 := fun f a m v m' => K f a m v m' ∧ m' = m
/-- In a drawn head: may a call run in no memory; may it turn the memory? -/
def frB (fs j : Nat) : Bool := fs.testBit (2 * j)
def imB (fs j : Nat) : Bool := fs.testBit (2 * j + 1) && !fs.testBit (2 * j)
/-- A call in a drawn head. fr: it does not stand in one order with what makes blocks, so it is to run in no memory at all. im: it stands in one order with all that calls, or turns the memory: so it may turn it. -/
def headK (K : Rel4) (fr im : Bool) : Rel4 := fun f a m v m' => if fr then K f a [] v [] ∧ m' = m else K f a m v m' ∧ (im = false → m' = m)
def isCall : NOp → Bool
  | .call .. | .dyn .. => true
  | _ => false
/-- A call turns no blocks but these. -/
def keepsC (op : NOp) (ws : List (Nat × Nat)) (m m1 : Mem) : Prop := isCall op = true → m1.length = m.length ∧ ∀ l i o, (l, i) ∉ ws → blk? m l i = some o → blk? m1 l i = some o
/-- The block of the plain memory that an operation reads; that it writes. -/
def rdOf (op : NOp) (e : Env) : Option (Nat × Nat) :=
  match op with
  | .load _ _ a => match a.ev e with
    | .ptr l i _ => some (l, i)
    | _ => none
  | .b2s x => match x.ev e with
    | .msl l i _ _ _ => some (l, i)
    | _ => none
  | .look _ _ _ x _ => match x.ev e with
    | .map l i => some (l, i)
    | _ => none
  | .len .map x => match x.ev e with
    | .map l i => some (l, i)
    | _ => none
  | _ => none
def wrOf (op : NOp) (e : Env) : Option (Nat × Nat) :=
  match op with
  | .store _ a _ => match a.ev e with
    | .ptr l i _ => some (l, i)
    | _ => none
  | _ => none
/-- Does a value go into a place of frame k with its token as it is? -/
def calm (k : Nat) : NV → Bool
  | .own _ _ l _ => decide (k ≤ l)
  | _ => true
def calmS (op : NOp) (e : Env) : Bool :=
  match op with
  | .store _ a x => match a.ev e with
    | .ptr l _ _ => (cellsOf (x.ev e)).all (calm l)
    | _ => true
  | _ => true
/-- May the j-th be exchanged with those that it need not stand behind? wr, rd: what these wrote and read. -/
def fitsH (bs : List Nat) (j : Nat) (wr rd : List (Nat × Nat × Nat)) (op : NOp) (e : Env) : Bool :=
  (match rdOf op e with
   | some b => wr.all fun x => match x with | (q, c) => (bs.getD j 0).testBit q || c != b
   | none => true) &&
  (match wrOf op e with
   | some b => rd.all fun x => match x with | (q, c) => (bs.getD j 0).testBit q || c != b
   | none => true)
def noteH (j : Nat) (l : List (Nat × Nat × Nat)) (b : Option (Nat × Nat)) : List (Nat × Nat × Nat) :=
  match b with
  | some b => (j, b) :: l
  | none => l
def fitsW (bs : List Nat) (j : Nat) (rd : List (Nat × Nat × Nat)) (ws : List (Nat × Nat)) : Bool :=
  ws.all fun b => rd.all fun x => match x with | (q, c) => (bs.getD j 0).testBit q || c != b
def notesH (j : Nat) (ws : List (Nat × Nat)) (l : List (Nat × Nat × Nat)) : List (Nat × Nat × Nat) :=
  match ws with
  | [] => l
  | b :: ws => (j, b) :: notesH j ws l
def RunHead (K : Rel4) (bs : List Nat) (fs : Nat) : List Ins → Nat → List (Nat × Nat × Nat) → List (Nat × Nat × Nat) → Env → Mem → Env → Mem → Prop
  | [], _, _, _, e, m, e', m' => e' = e ∧ m' = m
  | i :: l, j, wr, rd, e, m, e', m' =>
    if wantedN e i.guard = true then ∃ v m1 ws, Run1 (headK K (frB fs j) (imB fs j)) i.op e m v m1 ∧ keepsC i.op ws m m1 ∧ fitsH bs j wr rd i.op e = true ∧ fitsW bs j rd ws = true ∧
      RunHead K bs fs l (j + 1) (notesH j ws (noteH j wr (wrOf i.op e))) (noteH j rd (rdOf i.op e)) (updO e i.dst v) m1 e' m'
    else RunHead K bs fs l (j + 1) wr rd (updO e i.dst .undef) m e' m'

inductive RunC (K : Rel4) : NC → Env → Mem → NX → Env → Mem → Prop where
  | skip (e m) : RunC K .skip e m .normal e m
  | label (l e m) : RunC K (.label l) e m .normal e m
  | ret (e m) : RunC K .ret e m .ret e m
  | exit (i e m) : RunC K (.exit i) e m (.exit i) e m
  | goto (l e m) : RunC K (.goto l) e m (.goto l) e m
  | region {l e m e' m'} (h : RunOps K l e m e' m') : RunC K (.region l none) e m .normal e' m'
  | drawn {l n bs fs e m e1 m1 e' m'} (h1 : RunHead K bs fs (l.take n) 0 [] [] e m e1 m1) (h2 : RunOps K (l.drop n) e1 m1 e' m') : RunC K (.region l (some (n, bs, fs))) e m .normal e' m'
  | seq {a b e m e1 m1 x e' m'} (h1 : RunC K a e m .normal e1 m1) (h2 : RunC K b e1 m1 x e' m') : RunC K (.seq a b) e m x e' m'
  | seqx {a b e m x e' m'} (h : RunC K a e m x e' m') (hx : x ≠ .normal) : RunC K (.seq a b) e m x e' m'
  | condt {c a b e m x e' m'} (hc : c.ev e = .bool true) (h : RunC K a e m x e' m') : RunC K (.cond c a b) e m x e' m'
  | condf {c a b e m x e' m'} (hc : c.ev e = .bool false) (h : RunC K b e m x e' m') : RunC K (.cond c a b) e m x e' m'
  | block {i c e m x e' m'} (h : RunC K c e m x e' m') : RunC K (.block i c) e m (if x = .exit i then .normal else x) e' m'
  | loop {c e m e1 m1 x e' m'} (h1 : RunC K c e m .normal e1 m1) (h2 : RunC K (.loop c) e1 m1 x e' m') : RunC K (.loop c) e m x e' m'
  | loopx {c e m x e' m'} (h : RunC K c e m x e' m') (hx : x ≠ .normal) : RunC K (.loop c) e m x e' m'
  | scope {c e m x e' m'} (h : RunC K (.inscope c c) e m x e' m') : RunC K (.scope c) e m x e' m'
  | inx {s c e m x e' m'} (h : RunC K c e m x e' m') (hx : ∀ l, x ≠ .goto l) : RunC K (.inscope s c) e m x e' m'
  | ingo {s c e m l e1 m1 rest x e' m'} (h : RunC K c e m (.goto l) e1 m1) (hf : findLab s l = some rest) (h2 : RunC K (.inscope s rest) e1 m1 x e' m') : RunC K (.inscope s c) e m x e' m'

/-- What a call comes to, by calls at most n deep. F: the functions. X: what is known otherwise of functions that are not walked. -/
def EvN (F : FuncId → Option NF) (X : FuncId → List NV → NV → Prop) : Nat → Rel4
  | 0 => fun _ _ _ _ _ => False
  | n + 1 => fun f args m v m' => (X f args v ∧ m' = m) ∨
    ∃ nf as x e1 m1 v1, F f = some nf ∧ as.length ≤ nf.ntmps ∧ shArgs args = some as ∧ RunC (EvN F X n) nf.code (envOf as) (⟨[], []⟩ :: m) x e1 m1 ∧ (x = .normal ∨ x = .ret) ∧
      resultOf e1 m1 nf.results = some v1 ∧ pop v1 m1 = some (v, m')
def EvF (F : FuncId → Option NF) (X : FuncId → List NV → NV → Prop) : Rel4 := fun f args m v m' => ∃ n, EvN F X n f args m v m'

theorem RunOps.mono {K K' : Rel4} (h : ∀ f a m v m', K f a m v m' → K' f a m v m') : ∀ (l : List Ins) (e : Env) (m : Mem) (e' : Env) (m' : Mem), RunOps K l e m e' m' → RunOps K' l e m e' m'
  | [], _, _, _, _, H => H
  | i :: l, e, m, e', m', H => by
    unfold RunOps at *
    split
    · rename_i hw
      rw [if_pos hw] at H
      obtain ⟨v, m1, H1, H2⟩ := H
      refine ⟨v, m1, ?_, RunOps.mono h _ _ _ _ _ H2⟩
      rcases H1 with H1 | ⟨f, args, H1, H3⟩
      · exact .inl H1
      · exact .inr ⟨f, args, H1, h _ _ _ _ _ H3⟩
    · rename_i hw
      rw [if_neg hw] at H
      exact RunOps.mono h _ _ _ _ _ H
theorem headK.mono {K K' : Rel4} (h : ∀ f a m v m', K f a m v m' → K' f a m v m') {fr im : Bool} {f : FuncId} {a : List NV} {m : Mem} {v : NV} {m' : Mem} (H : headK K fr im f a m v m') : headK K' fr im f a m v m' := by
  unfold headK at *
  cases fr
  · exact ⟨h _ _ _ _ _ H.1, H.2⟩
  · exact ⟨h _ _ _ _ _ H.1, H.2⟩
theorem RunHead.mono {K K' : Rel4} (h : ∀ f a m v m', K f a m v m' → K' f a m v m') {bs : List Nat} {fs : Nat} : ∀ (l : List Ins) (j : Nat) (wr rd : List (Nat × Nat × Nat)) (e : Env) (m : Mem) (e' : Env) (m' : Mem), RunHead K bs fs l j wr rd e m e' m' → RunHead K' bs fs l j wr rd e m e' m'
  | [], _, _, _, _, _, _, _, H => H
  | i :: l, j, wr, rd, e, m, e', m', H => by
    unfold RunHead at *
    split
    · rename_i hw
      rw [if_pos hw] at H
      obtain ⟨v, m1, ws, H1, h2, h3, h4, H2⟩ := H
      refine ⟨v, m1, ws, ?_, h2, h3, h4, RunHead.mono h _ _ _ _ _ _ _ _ H2⟩
      rcases H1 with H1 | ⟨f, args, H1, H3⟩
      · exact .inl H1
      · exact .inr ⟨f, args, H1, H3.mono h⟩
    · rename_i hw
      rw [if_neg hw] at H
      exact RunHead.mono h _ _ _ _ _ _ _ _ H
theorem RunC.mono {K K' : Rel4} (h : ∀ f a m v m', K f a m v m' → K' f a m v m') {c : NC} {e : Env} {m : Mem} {x : NX} {e' : Env} {m' : Mem} (H : RunC K c e m x e' m') : RunC K' c e m x e' m' := by
  induction H with
  | skip => exact .skip _ _
  | label => exact .label _ _ _
  | ret => exact .ret _ _
  | exit => exact .exit _ _ _
  | goto => exact .goto _ _ _
  | region H => exact .region (RunOps.mono h _ _ _ _ _ H)
  | drawn H1 H2 => exact .drawn (RunHead.mono h _ _ _ _ _ _ _ _ H1) (RunOps.mono h _ _ _ _ _ H2)
  | seq _ _ h1 h2 => exact .seq h1 h2
  | seqx _ hx h1 => exact .seqx h1 hx
  | condt hc _ h1 => exact .condt hc h1
  | condf hc _ h1 => exact .condf hc h1
  | block _ h1 => exact .block h1
  | loop _ _ h1 h2 => exact .loop h1 h2
  | loopx _ hx h1 => exact .loopx h1 hx
  | scope _ h1 => exact .scope h1
  | inx _ hx h1 => exact .inx h1 hx
  | ingo _ hf _ h1 h2 => exact .ingo h1 hf h2
theorem EvN.succ {F : FuncId → Option NF} {X : FuncId → List NV → NV → Prop} : ∀ (n : Nat) (f : FuncId) (a : List NV) (m : Mem) (v : NV) (m' : Mem), EvN F X n f a m v m' → EvN F X (n + 1) f a m v m'
  | 0, _, _, _, _, _, H => H.elim
  | n + 1, f, a, m, v, m', H => by
    rcases H with H | ⟨nf, as, x, e1, m1, v1, h1, h2, h3, h4, h5⟩
    · exact .inl H
    · exact .inr ⟨nf, as, x, e1, m1, v1, h1, h2, h3, RunC.mono (EvN.succ n) h4, h5⟩
theorem EvN.le {F : FuncId → Option NF} {X : FuncId → List NV → NV → Prop} {n n' : Nat} (hn : n ≤ n') {f : FuncId} {a : List NV} {m : Mem} {v : NV} {m' : Mem} (H : EvN F X n f a m v m') : EvN F X n' f a m v m' := by
  induction hn with
  | refl => exact H
  | step _ ih => exact EvN.succ _ _ _ _ _ _ ih
theorem RunOps.depth {F : FuncId → Option NF} {X : FuncId → List NV → NV → Prop} : ∀ (l : List Ins) (e : Env) (m : Mem) (e' : Env) (m' : Mem),
    RunOps (EvF F X) l e m e' m' → ∃ n, RunOps (EvN F X n) l e m e' m'
  | [], _, _, _, _, H => ⟨0, H⟩
  | i :: l, e, m, e', m', H => by
    unfold RunOps at H
    split at H
    · rename_i hw
      obtain ⟨v, m1, H1, H2⟩ := H
      obtain ⟨n2, H2⟩ := RunOps.depth l _ _ _ _ H2
      rcases H1 with H1 | ⟨f, args, H1, n1, H3⟩
      · refine ⟨n2, ?_⟩
        unfold RunOps
        rw [if_pos hw]
        exact ⟨v, m1, .inl H1, H2⟩
      · refine ⟨max n1 n2, ?_⟩
        unfold RunOps
        rw [if_pos hw]
        exact ⟨v, m1, .inr ⟨f, args, H1, EvN.le (Nat.le_max_left _ _) H3⟩, RunOps.mono (fun _ _ _ _ _ hp => EvN.le (Nat.le_max_right _ _) hp) _ _ _ _ _ H2⟩
    · rename_i hw
      obtain ⟨n2, H2⟩ := RunOps.depth l _ _ _ _ H
      refine ⟨n2, ?_⟩
      unfold RunOps
      rw [if_neg hw]
      exact H2
theorem headK.depth {F : FuncId → Option NF} {X : FuncId → List NV → NV → Prop} {fr im : Bool} {f : FuncId} {a : List NV} {m : Mem} {v : NV} {m' : Mem} (H : headK (EvF F X) fr im f a m v m') : ∃ n, headK (EvN F X n) fr im f a m v m' := by
  unfold headK at *
  cases fr
  · obtain ⟨⟨n, H1⟩, H2⟩ := H; exact ⟨n, H1, H2⟩
  · obtain ⟨⟨n, H1⟩, H2⟩ := H; exact ⟨n, H1, H2⟩
theorem RunHead.depth {F : FuncId → Option NF} {X : FuncId → List NV → NV → Prop} {bs : List Nat} {fs : Nat} : ∀ (l : List Ins) (j : Nat) (wr rd : List (Nat × Nat × Nat)) (e : Env) (m : Mem) (e' : Env) (m' : Mem),
    RunHead (EvF F X) bs fs l j wr rd e m e' m' → ∃ n, RunHead (EvN F X n) bs fs l j wr rd e m e' m'
  | [], _, _, _, _, _, _, _, H => ⟨0, H⟩
  | i :: l, j, wr, rd, e, m, e', m', H => by
    unfold RunHead at H
    split at H
    · rename_i hw
      obtain ⟨v, m1, ws, H1, h2, h3, h4, H2⟩ := H
      obtain ⟨n2, H2⟩ := RunHead.depth l _ _ _ _ _ _ _ H2
      rcases H1 with H1 | ⟨f, args, H1, H3⟩
      · refine ⟨n2, ?_⟩
        unfold RunHead
        rw [if_pos hw]
        exact ⟨v, m1, ws, .inl H1, h2, h3, h4, H2⟩
      · obtain ⟨n1, H3⟩ := H3.depth
        refine ⟨max n1 n2, ?_⟩
        unfold RunHead
        rw [if_pos hw]
        exact ⟨v, m1, ws, .inr ⟨f, args, H1, H3.mono (fun _ _ _ _ _ hp => EvN.le (Nat.le_max_left n1 n2) hp)⟩, h2, h3, h4, RunHead.mono (fun _ _ _ _ _ hp => EvN.le (Nat.le_max_right _ _) hp) _ _ _ _ _ _ _ _ H2⟩
    · rename_i hw
      obtain ⟨n2, H2⟩ := RunHead.depth l _ _ _ _ _ _ _ H
      refine ⟨n2, ?_⟩
      unfold RunHead
      rw [if_neg hw]
      exact H2
theorem RunC.depth {F : FuncId → Option NF} {X : FuncId → List NV → NV → Prop} {c : NC} {e : Env} {m : Mem} {x : NX} {e' : Env} {m' : Mem} (H : RunC (EvF F X) c e m x e' m') : ∃ n, RunC (EvN F X n) c e m x e' m' := by
  have up : ∀ {n n' c e m x e' m'}, n ≤ n' → RunC (EvN F X n) c e m x e' m' → RunC (EvN F X n') c e m x e' m' := fun hn H => RunC.mono (fun _ _ _ _ _ h => EvN.le hn h) H
  induction H with
  | skip => exact ⟨0, .skip _ _⟩
  | label => exact ⟨0, .label _ _ _⟩
  | ret => exact ⟨0, .ret _ _⟩
  | exit => exact ⟨0, .exit _ _ _⟩
  | goto => exact ⟨0, .goto _ _ _⟩
  | region H => obtain ⟨n, H⟩ := RunOps.depth _ _ _ _ _ H; exact ⟨n, .region H⟩
  | drawn H1 H2 =>
    obtain ⟨n1, H1⟩ := RunHead.depth _ _ _ _ _ _ _ _ H1
    obtain ⟨n2, H2⟩ := RunOps.depth _ _ _ _ _ H2
    exact ⟨max n1 n2, .drawn (RunHead.mono (fun _ _ _ _ _ hp => EvN.le (Nat.le_max_left _ _) hp) _ _ _ _ _ _ _ _ H1) (RunOps.mono (fun _ _ _ _ _ hp => EvN.le (Nat.le_max_right _ _) hp) _ _ _ _ _ H2)⟩
  | seq _ _ h1 h2 => obtain ⟨n1, h1⟩ := h1; obtain ⟨n2, h2⟩ := h2; exact ⟨max n1 n2, .seq (up (Nat.le_max_left _ _) h1) (up (Nat.le_max_right _ _) h2)⟩
  | seqx _ hx h1 => obtain ⟨n1, h1⟩ := h1; exact ⟨n1, .seqx h1 hx⟩
  | condt hc _ h1 => obtain ⟨n1, h1⟩ := h1; exact ⟨n1, .condt hc h1⟩
  | condf hc _ h1 => obtain ⟨n1, h1⟩ := h1; exact ⟨n1, .condf hc h1⟩
  | block _ h1 => obtain ⟨n1, h1⟩ := h1; exact ⟨n1, .block h1⟩
  | loop _ _ h1 h2 => obtain ⟨n1, h1⟩ := h1; obtain ⟨n2, h2⟩ := h2; exact ⟨max n1 n2, .loop (up (Nat.le_max_left _ _) h1) (up (Nat.le_max_right _ _) h2)⟩
  | loopx _ hx h1 => obtain ⟨n1, h1⟩ := h1; exact ⟨n1, .loopx h1 hx⟩
  | scope _ h1 => obtain ⟨n1, h1⟩ := h1; exact ⟨n1, .scope h1⟩
  | inx _ hx h1 => obtain ⟨n1, h1⟩ := h1; exact ⟨n1, .inx h1 hx⟩
  | ingo _ hf _ h1 h2 => obtain ⟨n1, h1⟩ := h1; obtain ⟨n2, h2⟩ := h2; exact ⟨max n1 n2, .ingo (up (Nat.le_max_left _ _) h1) hf (up (Nat.le_max_right _ _) h2)⟩
/-- A call, by its function's code. -/
theorem EvF.of {F : FuncId → Option NF} {X : FuncId → List NV → NV → Prop} {f : FuncId} {args as : List NV} {m : Mem} {nf : NF} {x : NX} {e1 : Env} {m1 : Mem} {v1 v : NV} {m' : Mem}
    (hf : F f = some nf) (hn : as.length ≤ nf.ntmps) (ha : shArgs args = some as) (hc : RunC (EvF F X) nf.code (envOf as) (⟨[], []⟩ :: m) x e1 m1) (hx : x = .normal ∨ x = .ret)
    (hr : resultOf e1 m1 nf.results = some v1) (hp : pop v1 m1 = some (v, m')) : EvF F X f args m v m' := by
  obtain ⟨n, hc⟩ := RunC.depth hc
  exact ⟨n + 1, .inr ⟨nf, as, x, e1, m1, v1, hf, hn, ha, hc, hx, hr, hp⟩⟩
end Go.Proofs.Ythecdihimfddgaa.Nv
