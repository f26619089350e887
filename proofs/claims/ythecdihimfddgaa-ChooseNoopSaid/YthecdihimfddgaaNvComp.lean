/- The static parts of a program's code, reckoned: from the model's code to that of Nv. Of no program. -/
import Derived.Test.YthecdihimfddgaaNv
import Derived.Orders
namespace Go.Proofs.Ythecdihimfddgaa.Nv
open Go

def const1 : Value → Option NV
  | .bool b => some (.bool b)
  | .int k n => some (.int k n)
  | .string s => some (.str s)
  | .pointer none => some .nilp
  | .slice none n c => if n = 0 ∧ c = 0 then some (.slc 0 true []) else none
  | .map none => some .nilm
  | _ => none
def constL : List Value → Option (List NV)
  | [] => some []
  | v :: l => match const1 v, constL l with
    | some v, some l => some (v :: l)
    | _, _ => none
def constV : Value → Option NV
  | .agg cs => (constL cs.toList).map .agg
  | .func (.func f) first cap => if first.size = 0 ∧ cap.size = 0 then some (.fn f []) else none
  | v => const1 v
def opd : Operand → Option Opd
  | .tmp t => some (.t t)
  | .const v => (constV v).map .c
  | .func f => some (.c (.fn f []))
  | .global _ => none
def opdL : List Operand → Option (List Opd)
  | [] => some []
  | v :: l => match opd v, opdL l with
    | some v, some l => some (v :: l)
    | _, _ => none
def opdO : Option Operand → Option (Option Opd)
  | none => some none
  | some x => (opd x).map some

section
variable (P : Program)
def sizeS (t : TypeId) : Option Nat := (P.info? t).map (·.size)
def bytesS (t : TypeId) : Option Nat := (P.info? t).map (·.bytes)
def aggS (t : TypeId) : Option Bool :=
  match P.underlying t with
  | some (.struct _) => some true
  | some (.array _ _) => some true
  | some _ => some false
  | none => none
/-- The cells of a type's zero value. -/
def zeroS (t : TypeId) : Option (List NV) :=
  match P.info? t with
  | some i => match i.zero with
    | some v => match constL v.cells.toList with
      | some cs => if cs.length = i.size then some cs else none
      | none => none
    | none => none
  | none => none
def zeroV (t : TypeId) : Option NV :=
  match P.info? t with
  | some i => match i.zero with
    | some v => constV v
    | none => none
  | none => none

/-- Types whose values are the same where their cells are: the cells' kinds; fields in line. -/
def kindsF (r : TypeId → Option (List SK)) : List Field → Nat → Option (List SK)
  | [], _ => some []
  | f :: fs, off =>
    if f.name != "_" ∧ f.offset = off then
      match r f.type with
      | some a => if sizeS P f.type = some a.length then (match kindsF r fs (off + a.length) with
          | some b => some (a ++ b)
          | none => none) else none
      | none => none
    else none
def kinds : Nat → TypeId → Option (List SK)
  | 0, _ => none
  | d + 1, t =>
    match P.underlying t with
    | some .bool => some [.bool]
    | some (.int _) => some [.int]
    | some .string => some [.str]
    | some (.struct fs) => if P.stoodInHeld t then none else kindsF P (kinds d) fs.toList 0
    | _ => none
def keyT (t : TypeId) : Option KT :=
  match kinds P 100 t, aggS P t with
  | some ks, some ag => some ⟨ag, ks⟩
  | _, _ => none

def partsS (fs : Array Field) : List (Nat × Operand) → Option (List (Nat × Nat × Opd))
  | [] => some []
  | (i, x) :: l => match fs[i]? with
    | some f => match sizeS P f.type, opd x, partsS fs l with
      | some n, some x, some l => some ((f.offset, n, x) :: l)
      | _, _, _ => none
    | none => none
def partsA (n : Nat) : List (Nat × Operand) → Option (List (Nat × Nat × Opd))
  | [] => some []
  | (i, x) :: l => match opd x, partsA n l with
    | some x, some l => some ((i * n, n, x) :: l)
    | _, _ => none
def callable (f : FuncId) : Bool :=
  match P.funcs[f]? with
  | some fn => fn.name != "runtime.NumGoroutine" && fn.body.isSome
  | none => false

def compCall (c : Call) : Option NOp :=
  match c.callee with
  | .value (.func f) => if callable P f then (opdL c.args.toList).map (.call f) else none
  | .value (.tmp t) => (opdL c.args.toList).map (.dyn (.t t))
  | .builtin .append =>
    match c.args.toList, c.argTypes.toList with
    | [x, y], [t, u] => match P.underlying t, P.underlying u with
      | some (.slice e), some (.slice _) => match sizeS P e, bytesS P e, zeroS P e, opd x, opd y with
        | some n, some b, some _, some x, some y => if 0 < b ∧ 0 < n then some (.app n b x y) else none
        | _, _, _, _, _ => none
      | _, _ => none
    | _, _ => none
  | .builtin .len =>
    match c.args.toList, c.argTypes.toList with
    | [x], [t] => match P.underlying t with
      | some (.array n _) => (opd x).map (.len (.arr n))
      | some .string => (opd x).map (.len .str)
      | some (.slice _) => (opd x).map (.len .slc)
      | some (.map _ _) => (opd x).map (.len .map)
      | _ => none
    | _, _ => none
  | .builtin .max => (opdL c.args.toList).map (.mm true)
  | .builtin .min => (opdL c.args.toList).map (.mm false)
  | .builtin .delete =>
    match c.args.toList, c.argTypes.toList with
    | [m, k], [t, _] => match P.underlying t with
      | some (.map kt _) => match keyT P kt, opd m, opd k with
          | some t, some m, some k => some (.del t m k)
          | _, _, _ => none
      | _ => none
    | _, _ => none
  | _ => none

def opt2 {α : Type} (f : Opd → Opd → α) (x y : Option Opd) : Option α :=
  match x, y with
  | some x, some y => some (f x y)
  | _, _ => none

def comp1 (op : Op) (type : TypeId) : Option NOp :=
  match op with
  | .move x => (opd x).map .mv
  | .assign x => (opd x).map .mv
  | .pick c a b => match opd c, opd a, opd b with
    | some c, some a, some b => some (.pick c a b)
    | _, _, _ => none
  | .alloc t => (zeroS P t).map .new
  | .box _ x => (opd x).map .box
  | .build t parts => match zeroS P t, P.underlying t with
    | some z, some (.struct fs) => if (fs.toList.all fun f => (sizeS P f.type).isSome) = true then (partsS P fs parts.toList).map (.build z) else none
    | some z, some (.array _ e) => match sizeS P e with
      | some n => (partsA n parts.toList).map (.build z)
      | none => none
    | _, _ => none
  | .buildSlice t len parts => match P.underlying t with
    | some (.slice e) => match sizeS P e, zeroS P e with
      | some n, some z => if 0 < n ∧ len * n ≤ 16777216 then (partsA n parts.toList).map (.bslc n len (List.replicate len z).flatten) else none
      | _, _ => none
    | _ => none
  | .load t a => match aggS P t, sizeS P t with
    | some ag, some n => (opd a).map (.load ag n)
    | _, _ => none
  | .store t a x => match sizeS P t with
    | some n => opt2 (.store n) (opd a) (opd x)
    | none => none
  | .nilCheck x => (opd x).map .nchk
  | .binOp op t x y _ =>
    match op with
    | .eql => match P.underlying t with
      | some (.int _) => opt2 (.bin .eql) (opd x) (opd y)
      | some .string => opt2 (.bin .eql) (opd x) (opd y)
      | some .bool => opt2 (.eq (.key ⟨false, [.bool]⟩) false) (opd x) (opd y)
      | some (.pointer _) => opt2 (.eq .ptr false) (opd x) (opd y)
      | some (.struct _) => match keyT P t with
        | some kt => if P.eqGuardType P.depth t then none else opt2 (.eq (.key kt) false) (opd x) (opd y)
        | none => none
      | _ => none
    | .neq => match P.underlying t with
      | some (.int _) => opt2 (.bin .neq) (opd x) (opd y)
      | some .string => opt2 (.bin .neq) (opd x) (opd y)
      | some .bool => opt2 (.eq (.key ⟨false, [.bool]⟩) true) (opd x) (opd y)
      | some (.pointer _) => opt2 (.eq .ptr true) (opd x) (opd y)
      | some (.struct _) => match keyT P t with
        | some kt => if P.eqGuardType P.depth t then none else opt2 (.eq (.key kt) true) (opd x) (opd y)
        | none => none
      | _ => none
    | op => opt2 (.bin op) (opd x) (opd y)
  | .unOp op _ x => (opd x).map (.un op)
  | .convert src dst x => match P.underlying src, P.underlying dst with
    | some (.int _), some (.int k) => (opd x).map (.i2i k)
    | some .string, some .string => (opd x).map .same
    | some .string, some (.slice e) => match P.underlying e with
      | some (.int .u8) => (opd x).map .s2b
      | _ => none
    | some (.slice e), some .string => match P.underlying e with
      | some (.int .u8) => (opd x).map .b2s
      | _ => none
    | _, _ => none
  | .makeFunc (.func f) first cap => if first.size = 0 then (opdL cap.toList).map (.mkfn f) else none
  | .makeMap t r => match r with
    | none => some .mkmap
    | some (.const (.int _ _)) => match P.underlying t with
      | some (.map _ _) => some .mkmap
      | _ => none
    | _ => none
  | .makeSlice t l c => match P.underlying t with
    | some (.slice e) => match sizeS P e, bytesS P e, zeroS P e with
      | some n, some b, some z => if 0 < n ∧ 0 < b then opt2 (.mkslc n b z) (opd l) (opd c) else none
      | _, _, _ => none
    | _ => none
  | .slice t x lo hi mx => match opd x, opdO lo, opdO hi, opdO mx with
    | some x, some lo, some hi, some mx => match P.underlying t with
      | some (.array n e) => (sizeS P e).map fun z => .slice (.arr n z) x lo hi mx
      | some .string => some (.slice .str x lo hi mx)
      | some (.slice e) => (sizeS P e).map fun z => .slice (.slc z) x lo hi mx
      | _ => none
    | _, _, _, _ => none
  | .fieldAddr t x f => match P.underlying t with
    | some (.struct fs) => match fs[f]? with
      | some fd => match sizeS P fd.type with
        | some n => if n = 0 then none else (opd x).map (.faddr fd.offset)
        | none => none
      | none => none
    | _ => none
  | .field t x f => match P.underlying t with
    | some (.struct fs) => match fs[f]? with
      | some fd => match aggS P fd.type, sizeS P fd.type with
        | some ag, some n => (opd x).map (.field ag fd.offset n)
        | _, _ => none
      | none => none
    | _ => none
  | .indexAddr t x i => match P.underlying t with
    | some (.array n e) => match sizeS P e with
      | some z => opt2 (.iaddr (.arr n z)) (opd x) (opd i)
      | none => none
    | some (.slice e) => match sizeS P e with
      | some z => opt2 (.iaddr (.slc z)) (opd x) (opd i)
      | none => none
    | _ => none
  | .index t x i => match P.underlying t with
    | some (.array n e) => match sizeS P e, aggS P e with
      | some z, some ag => opt2 (.index (.arr n z) ag) (opd x) (opd i)
      | _, _ => none
    | some .string => opt2 (.index .str false) (opd x) (opd i)
    | _ => none
  | .lookup t m k ok => match P.underlying t with
    | some (.map kt e) => match zeroV P e with
      | some z => match keyT P kt with
        | some kt => opt2 (.look kt ok z) (opd m) (opd k)
        | none => none
      | none => none
    | _ => none
  | .mapUpdate t m k x => match P.underlying t with
    | some (.map kt _) => match keyT P kt, opd m, opd k, opd x with
        | some t, some m, some k, some x => some (.put t m k x)
        | _, _, _, _ => none
    | _ => none
  | .insert t m k x => match P.underlying t with
    | some (.map kt _) => match keyT P kt, opd m, opd k, opd x with
        | some t, some m, some k, some x => some (.put t m k x)
        | _, _, _, _ => none
    | _ => none
  | .extract x i => (opd x).map fun x => .ext x i
  | .call c => compCall P c
  | _ => none

def compI (n : Nat) (ops : Array Oper) (o : Oper) : Ins :=
  { dst := o.dst,
    guard := match o.guard with
      | none => none
      | some (g, want) => match (ops[g]?).bind (·.dst) with
        | some t => some (t, want)
        | none => some (0, want),
    op := match (match o.guard with
      | none => true
      | some (g, _) => ((ops[g]?).bind (·.dst)).isSome), (match o.dst with
      | none => true
      | some d => decide (d < n)) with
      | true, true => (comp1 P o.op o.type).getD .bad
      | _, _ => .bad }

/-! ### Regions that draw their order -/
def maskOf (acc : List Nat) (o : Oper) : Nat :=
  o.after.toList.foldl (fun s e => if Region.binds .any e then s ||| 2 ^ e.on ||| acc.getD e.on 0 else s) 0
def befGo : List Oper → List Nat → List Nat
  | [], acc => acc
  | o :: l, acc => befGo l (acc ++ [maskOf acc o])
def befs (ops : List Oper) : List Nat := befGo ops []
def opdT : Opd → List Nat
  | .t i => [i]
  | .c _ => []
def optT : Option Opd → List Nat
  | some x => opdT x
  | none => []
def opTs : NOp → List Nat
  | .mv x => opdT x
  | .pick c a b => opdT c ++ opdT a ++ opdT b
  | .box x => opdT x
  | .new _ => []
  | .build _ ps => ps.flatMap fun p => opdT p.2.2
  | .bslc _ _ _ ps => ps.flatMap fun p => opdT p.2.2
  | .load _ _ a => opdT a
  | .store _ a x => opdT a ++ opdT x
  | .nchk x => opdT x
  | .bin _ x y => opdT x ++ opdT y
  | .eq _ _ x y => opdT x ++ opdT y
  | .un _ x => opdT x
  | .i2i _ x => opdT x
  | .same x => opdT x
  | .s2b x => opdT x
  | .b2s x => opdT x
  | .mkfn _ cs => cs.flatMap opdT
  | .mkmap => []
  | .mkslc _ _ _ l c => opdT l ++ opdT c
  | .slice _ x lo hi mx => opdT x ++ optT lo ++ optT hi ++ optT mx
  | .faddr _ x => opdT x
  | .field _ _ _ x => opdT x
  | .iaddr _ x i => opdT x ++ opdT i
  | .index _ _ x i => opdT x ++ opdT i
  | .look _ _ _ m k => opdT m ++ opdT k
  | .put _ m k x => opdT m ++ opdT k ++ opdT x
  | .del _ m k => opdT m ++ opdT k
  | .ext x _ => opdT x
  | .len _ x => opdT x
  | .app _ _ x y => opdT x ++ opdT y
  | .mm _ as => as.flatMap opdT
  | .call _ as => as.flatMap opdT
  | .dyn f as => opdT f ++ as.flatMap opdT
  | .bad => []
def Ins.reads (i : Ins) : List Nat := (match i.guard with | some (t, _) => [t] | none => []) ++ opTs i.op
def Ins.names (i : Ins) : List Nat := i.dst.toList ++ i.reads
/-- Do two of them touch one slot, one of them writing it? -/
def touch (i j : Ins) : Bool :=
  (match i.dst with | some d => j.names.contains d | none => false) || (match j.dst with | some d => i.names.contains d | none => false)
/-- May it stand among others that are run in any order? -/
def quietOp : NOp → Bool
  | .put .. | .del .. | .bad => false
  | _ => true
def isApp : NOp → Bool
  | .app .. => true
  | _ => false
def isStore : NOp → Bool
  | .store .. => true
  | _ => false
/-- May it turn the plain memory? -/
def chg : NOp → Bool
  | .box .. | .new .. | .store .. | .s2b .. | .mkmap .. | .mkslc .. | .app .. | .put .. | .del .. | .bad => true
  | _ => false
def isNew : NOp → Bool
  | .new .. => true
  | _ => false
/-- Must two of them stand in one order? fi, fj: are they calls that may run in no memory? mi, mj: calls that may turn the memory? -/
def bound (fi fj mi mj : Bool) (i j : Ins) : Bool :=
  touch i j || (chg i.op && chg j.op) || (chg i.op && isCall j.op && !(fj && isNew i.op)) || (isCall i.op && chg j.op && !(fi && isNew j.op)) || (isCall i.op && isCall j.op && (mi || mj))
/-- Do two of them stand in one order? -/
def ordered (bs : List Nat) (i j : Nat) : Bool := if i < j then (bs.getD j 0).testBit i else (bs.getD i 0).testBit j
/-- The calls that do not stand in one order with what makes blocks; those that stand in one order with all other calls. -/
def freeAt (bs : List Nat) (is : List Ins) (n : Nat) : Nat :=
  (List.range n).foldl (fun s j => match is[j]? with
    | some c => if isCall c.op then
        (if (List.range n).any (fun i => match is[i]? with
          | some x => isNew x.op && !ordered bs i j
          | none => false) then s ||| 2 ^ (2 * j)
        else if (List.range n).all (fun i => match is[i]? with
          | some x => i == j || !isCall x.op || ordered bs i j
          | none => false) then s ||| 2 ^ (2 * j + 1) else s) else s
    | none => s) 0
/-- From where on each is behind all ahead of it. -/
def tailAt (bs : List Nat) : Nat → Nat
  | 0 => 0
  | j + 1 => if (List.range j).all fun i => (bs.getD j 0).testBit i then tailAt bs j else j + 1
def headOk (bs : List Nat) (fs : Nat) (is : List Ins) (n : Nat) : Bool :=
  ((is.take n).all fun i => quietOp i.op) &&
  (List.range n).all fun j => (List.range j).all fun i =>
    match is[i]?, is[j]? with
    | some a, some b => !bound (frB fs i) (frB fs j) (imB fs i) (imB fs j) a b || (bs.getD j 0).testBit i
    | _, _ => false
/-- Are all edges backward? -/
def backOk : List Oper → Nat → Bool
  | [], _ => true
  | o :: l, j => (o.after.toList.all fun e => !Region.binds .any e || decide (e.on < j)) && backOk l (j + 1)
def compR (n : Nat) (ops : Array Oper) (draw : Bool) : NC :=
  match draw with
  | false => .region (ops.toList.map (compI P n ops)) none
  | true => if backOk ops.toList 0 && headOk (befs ops.toList) (freeAt (befs ops.toList) (ops.toList.map (compI P n ops)) (tailAt (befs ops.toList) ops.size)) (ops.toList.map (compI P n ops)) (tailAt (befs ops.toList) ops.size) then
      .region (ops.toList.map (compI P n ops)) (some (tailAt (befs ops.toList) ops.size, befs ops.toList, freeAt (befs ops.toList) (ops.toList.map (compI P n ops)) (tailAt (befs ops.toList) ops.size))) else .bad

def compC (n : Nat) : Code → NC
  | .skip => .skip
  | .region _ ops draw => compR P n ops draw
  | .seq a b => .seq (compC n a) (compC n b)
  | .cond c a b => match opd c with
    | some c => .cond c (compC n a) (compC n b)
    | none => .bad
  | .block i c => .block i (compC n c)
  | .loop c => .loop (compC n c)
  | .scope c => .scope (compC n c)
  | .exit i => .exit i
  | .label l => .label l
  | .goto l => .goto l
  | .ret => .ret
  | _ => .bad
def compRes : List ResultVar → Option (List Res)
  | [] => some []
  | .tmp t :: l => (compRes l).map (.tmp t :: ·)
  | .cell a t :: l => match aggS P t, sizeS P t with
    | some ag, some n => (compRes l).map (.cell a ag n :: ·)
    | _, _ => none
def compF (f : FuncId) : Option NF :=
  match P.funcs[f]? with
  | some fn => if callable P f then (match fn.body, compRes P fn.results.toList with
    | some c, some rs => some ⟨fn.ntmps, rs, compC P fn.ntmps c⟩
    | _, _ => none) else none
  | none => none
end

/-! ### What is not taken -/
def badsI (l : List Ins) : Nat := l.countP fun i => match i.op with | .bad => true | _ => false
def bads : NC → Nat
  | .region l _ => badsI l
  | .seq a b => bads a + bads b
  | .cond _ a b => bads a + bads b
  | .block _ c => bads c
  | .loop c => bads c
  | .scope c => bads c
  | .inscope _ c => bads c
  | .bad => 1
  | _ => 0
end Go.Proofs.Ythecdihimfddgaa.Nv
