/-
  The deep machine: what a function's code does to deep values, without memory; its limit over all numbers of rounds.
  Conditions: none.
-/
import Derived.Test.YtpemlmhggiaflaaGreatDoorDA
import Derived.Laws.BytesArg
import Derived.Lib.Bytealg
namespace Go.Deepv

/-! ### What may be done in another order -/
def DOp.opds : DOp → List Opd
  | .mv x | .box _ x | .load _ x | .un _ x | .cvt _ x | .addOff _ x | .fld _ _ x | .len _ x | .ext _ x | .nilchk x | .mki _ x | .panic x | .isnil _ _ x | .bstr x | .rng x | .next x | .sbytes x | .rstr x | .tass _ _ _ x | .usd x | .mark x | .frz x => [x]
  | .nilrow _ | .alloc _ _ | .stuck | .mkmap => []
  | .pick c x y => [c, x, y]
  | .store _ x v | .storen _ x v => [x, v]
  | .bin _ x y | .eqb _ x y | .eqs _ _ x y | .ustr _ x y | .idxAddr _ x y | .idxArr _ _ x y | .idxStr x y | .idxB x y | .idxVal _ _ _ x y | .vmake _ _ _ _ _ x y | .vapp _ _ _ x y | .mlook _ _ _ x y => [x, y]
  | .mupd _ x k v => [x, k, v]
  | .slcStr x lo hi | .slc _ x lo hi | .slcA _ _ x lo hi => x :: (lo.toList ++ hi.toList)
  | .lit _ _ _ _ _ ps | .vlit _ _ _ _ ps => ps.map (·.2)
  | .build _ ps => ps.map (·.2.2)
  | .app _ _ _ _ s x => [s, x]
  | .mnmx _ xs => xs
  | .call f xs | .calln _ f xs | .calld f xs => f :: xs
  | .mkf _ p q => p ++ q
def Opd.slots : Opd → List Nat
  | .tmp t => [t]
  | _ => []
/-- It neither looks at memory nor turns it. -/
def DOp.pure : DOp → Bool
  | .mv _ | .pick .. | .bin .. | .eqb .. | .isnil .. | .un .. | .cvt .. | .bstr _ | .addOff .. | .fld .. | .idxAddr .. | .idxArr .. | .idxStr .. | .len .. | .slcStr .. | .slc .. | .ext .. | .build .. | .mnmx .. | .mkf .. | .nilchk _ | .mki .. | .eqs .. | .rstr _ | .sbytes _ | .tass .. | .slcA .. | .idxVal .. | .calld .. => true
  | .box b _ => b
  | .lit b .. => b
  | .vmake b .. => b
  | _ => false
/-- It does not turn memory. -/
def DOp.quiet : DOp → Bool
  | .load .. => true
  | .mlook .. => true
  | o => o.pure
def DOper.looks (o : DOper) : List Nat := o.op.opds.flatMap Opd.slots ++ (match o.guard with | some (t, _) => [t] | none => [])
def DOper.comm (x y : DOper) : Bool :=
  (match x.dst with | some d => !y.looks.contains d | none => true) && (match y.dst with | some d => !x.looks.contains d | none => true) &&
  (match x.dst, y.dst with | some d, some e => d != e | _, _ => true) && (x.op.pure || y.op.pure || (x.op.quiet && y.op.quiet))

inductive DRes where
  | tmp (t : Nat)
  | cell (n : Option Nat) (t : Nat)
  deriving Inhabited

/-- What is called: a function, or the body of a range over a function. -/
inductive Cle where
  | fn (g : FuncId)
  | yld (id : Nat)
  deriving Inhabited
/-- It holds no range over a function. -/
def ACode.noRange : ACode → Bool
  | .seq a b | .cond _ a b => a.noRange && b.noRange
  | .block _ b | .loop _ _ _ b => b.noRange
  | .rangeFn .. => false
  | _ => true

structure AFunc where
  ntmps : Nat
  results : List DRes
  body : ACode
  coe : Bool := true
  keep : Nat := 0
  deriving Inhabited

/-! ### Values -/
def DV.flat : DV → Option FV
  | .d v => some v
  | .row sz elems _ => some (.slice sz elems)
  | _ => none
/-- Cells as one value. -/
def DV.mkAgg (cs : List DV) : DV := match cs.mapM DV.flat with
  | some fs => .d (.agg fs)
  | none => .agg cs
/-- What is handed on: rows as data. -/
def DV.coe : DV → DV
  | .row sz elems _ => .d (.slice sz elems)
  | .agg cs => DV.mkAgg cs
  | .tup vs => match vs.mapM DV.flat with
    | some fs => .d (.tup fs)
    | none => .tup vs
  | x => x
def DV.isD : DV → Bool
  | .d _ => true
  | _ => false
def DV.cells : DV → List DV
  | .d (.agg fs) => fs.map .d
  | .agg cs => cs
  | x => [x]
mutual
/-- Nothing in it is one of the things from n on. -/
def DV.low (n : Nat) : DV → Bool
  | .d _ => true
  | .ptr id _ => id < n
  | .row _ _ t => t < n
  | .agg cs => DV.lows n cs
  | .clo _ p q => DV.lows n p && DV.lows n q
  | .tup vs => DV.lows n vs
  | .iface _ v => DV.low n v
  | .yld id => id < n
  | .rptr _ t => t < n
  | .bslc id _ _ => id < n
  | .vslc id _ _ _ _ => id < n
  | .eptr id _ _ _ => id < n
  | .mref id => id < n
def DV.lows (n : Nat) : List DV → Bool
  | [] => true
  | x :: xs => DV.low n x && DV.lows n xs
end
def DV.elems : DV → Option (Nat × List (List FV))
  | .d (.slice sz l) => some (sz, l)
  | .row sz l _ => some (sz, l)
  | _ => none
def DV.int : DV → Option Int
  | .d (.int _ n) => some n
  | _ => none

/-! ### Operations -/
inductive DOut where
  | val (v : DV) (h : List Res)
  | pan (v : DV) (h : List Res)
  deriving Inhabited
def DOut.heap : DOut → List Res
  | .val _ h | .pan _ h => h

def ev (a : List DV) : Opd → DV
  | .tmp t => a.getD t (.d .undef)
  | .con v => .d v
  | .fn f => .d (.func (.func f) [] [])

def dbin (op : BinOp) (x y : FV) : Option FV :=
  match op, x, y with
  | .shl, .int k x, .int _ y => if y < 0 then none else some (.int k (k.wrap (x * 2 ^ (min y.toNat k.bits))))
  | .shr, .int k x, .int _ y => if y < 0 then none else some (.int k (x.fdiv (2 ^ (min y.toNat k.bits))))
  | op, .int k x, .int k' y =>
    if k ≠ k' then none else
    match op with
    | .add => some (.int k (k.wrap (x + y)))
    | .sub => some (.int k (k.wrap (x - y)))
    | .mul => some (.int k (k.wrap (x * y)))
    | .quo => if y = 0 then none else some (.int k (k.wrap (x.tdiv y)))
    | .rem => if y = 0 then none else some (.int k (x.tmod y))
    | .and => some (.int k (k.wrap ((BitVec.ofInt k.bits x &&& BitVec.ofInt k.bits y).toNat)))
    | .or => some (.int k (k.wrap ((BitVec.ofInt k.bits x ||| BitVec.ofInt k.bits y).toNat)))
    | .eql => some (.bool (x == y))
    | .neq => some (.bool (x != y))
    | .lss => some (.bool (x < y))
    | .leq => some (.bool (x ≤ y))
    | .gtr => some (.bool (x > y))
    | .geq => some (.bool (x ≥ y))
    | _ => none
  | .add, .str x, .str y => if x.size + y.size ≤ 9223372036854775807 then some (.str (x ++ y)) else none
  | .eql, .str x, .str y => some (.bool (x.toList == y.toList))
  | .neq, .str x, .str y => some (.bool !(x.toList == y.toList))
  | _, _, _ => none

def dun (op : UnOp) (x : FV) : Option FV :=
  match op, x with
  | .neg, .int k n => some (.int k (k.wrap (0 - n)))
  | .not, .bool b => some (.bool !b)
  | _, _ => none

/-- Cells put over cells. -/
def putCells (cells : List DV) (off : Nat) (new : List DV) : Option (List DV) :=
  if off + new.length ≤ cells.length ∧ new.all DV.one then some (cells.take off ++ new ++ cells.drop (off + new.length)) else none

/-- What is stored over cells: what is known as nil leaves a row that is nil; elsewhere it is data. -/
def keepNil (h : List Res) : List DV → List DV → List DV
  | c :: cs, x :: xs => (match x with
    | .d (.nils sz) => (match c with
      | .row s [] t => (match h[t]? with
        | some .nilrow => .row s [] t
        | _ => .d (.slice sz []))
      | _ => .d (.slice sz []))
    | _ => x) :: keepNil h cs xs
  | [], x :: xs => (match x with
    | .d (.nils sz) => .d (.slice sz [])
    | _ => x) :: keepNil h [] xs
  | _, [] => []

/-- The rows of a new variable that are nil, each a row that may grow. -/
def allocCells : List (Except Nat FV) → Nat → List DV × List Res
  | [], _ => ([], [])
  | .ok v :: r, n => (.d v :: (allocCells r n).1, (allocCells r n).2)
  | .error sz :: r, n => (.row sz [] n :: (allocCells r (n + 1)).1, .nilrow :: (allocCells r (n + 1)).2)

def dload (n : Option Nat) (cells : List DV) (off : Nat) : Option DV :=
  match n with
  | none => cells[off]?
  | some n => if off + n ≤ cells.length then some (DV.mkAgg ((cells.drop off).take n)) else none

def bound (x : Option Opd) (a : List DV) (dflt most : Nat) : Option Nat :=
  match x with
  | none => some dflt
  | some x => match (ev a x).int with
    | some i => if 0 ≤ i ∧ i ≤ most then some i.toNat else none
    | none => none

def fill (cells : List FV) : List (Nat × List FV) → Option (List FV)
  | [] => some cells
  | (off, new) :: r => if off + new.length ≤ cells.length then fill (cells.take off ++ new ++ cells.drop (off + new.length)) r else none

def flatCells (x : DV) : Option (List FV) := x.cells.mapM DV.flat

/-- The numbers that are bytes of a row. -/
def numsOf (l : List (List FV)) : Option (List Int) := l.mapM fun c => match c with
  | [.int .u8 n] => some n
  | _ => none

/-- Whether a pointer (0), an interface (1), a function (2) is nil. -/
def nilness (k : Nat) (x : DV) : Option Bool :=
  match k, x with
  | 0, .d .nilp => some true
  | 0, .d (.ref _ _) => some false
  | 0, .ptr _ _ => some false
  | 1, .d .nili => some true
  | 1, .d (.iface _ _) => some false
  | 1, .iface _ _ => some false
  | 2, .d .nilf => some true
  | 2, .d (.func _ _ _) => some false
  | 2, .clo _ _ _ => some false
  | 2, .yld _ => some false
  | _, _ => none

def mnmx2 (max : Bool) (x y : FV) : Option FV :=
  match x, y with
  | .int k a, .int k' b => if k = k' then some (.int k (if max then (if a < b then b else a) else (if b < a then b else a))) else none
  | _, _ => none

/-- A row's growing. -/
def appRow (sz bytes : Nat) (s : DV) (x : Option (Nat × List (List FV))) (h : List Res) (et : Nat := 0) : Option DOut :=
  match s, x with
  | .row s1 l t, some (s2, new) =>
    if (s2 = sz ∨ new = []) ∧ (l.length + new.length) * bytes ≤ 140737488355328 ∧ 0 < sz ∧ 0 < bytes then
      match h[t]? with
      | some .nilrow => if l = [] then (if new = [] then some (.val (.row sz [] t) h) else some (.val (.row sz new t) (h.set t (.row sz new.length et)))) else none
      | some (.row s3 n et3) => if s1 = sz ∧ s3 = sz ∧ n = l.length ∧ et3 = et then some (.val (.row sz (l ++ new) t) (h.set t (.row sz (l.length + new.length) et))) else none
      | _ => none
    else none
  | _, _ => none

/-- A string's bytes as cells. -/
def strCells (s : ByteArray) : List (List FV) := s.data.toList.map fun b => [.int .u8 b.toNat]
def srcElems (str : Bool) (x : DV) : Option (Nat × List (List FV)) := if str then (match x with | .d (.str s) => some (1, strCells s) | _ => none) else x.elems
/-- Whether cells are the same; their kinds: numbers (0), texts (1), bools (2). -/
def eqFV : Nat → FV → FV → Option Bool
  | 0, .int k a, .int k' b => if k = k' then some (a == b) else none
  | 1, .str a, .str b => some (a.toList == b.toList)
  | 2, .bool a, .bool b => some (a == b)
  | _, _, _ => none
def eqCells : List Nat → List FV → List FV → Option Bool
  | [], [], [] => some true
  | k :: ks, x :: xs, y :: ys => match eqFV k x y, eqCells ks xs ys with
    | some a, some b => some (a && b)
    | _, _ => none
  | _, _, _ => none

/-- Data that is stored: what is known as nil is an empty slice. -/
def unnil : FV → FV
  | .nils sz => .slice sz []
  | v => v
/-- Keys of a map. -/
def keyEq : FV → FV → Option Bool
  | .int k a, .int k' b => if k = k' then some (a == b) else none
  | .str a, .str b => some (a.toList == b.toList)
  | .bool a, .bool b => some (a == b)
  | _, _ => none
/-- A key is of a kind. -/
def keyOk : FV → FV → Bool
  | .int k _, .int k' _ => decide (k = k')
  | .str _, .str _ => true
  | .bool _, .bool _ => true
  | _, _ => false
def findE (k : FV) : List (FV × FV) → Nat → Option (Option (Nat × FV))
  | [], _ => some none
  | (x, v) :: r, i => match keyEq k x with
    | some true => some (some (i, v))
    | some false => findE k r (i + 1)
    | none => none
/-- A mutable row's growing. -/
def appVec (et sz bytes : Nat) (s : DV) (x : Option (Nat × List (List FV))) (h : List Res) : Option DOut :=
  match s, x with
  | .row _ l t, some (s2, new) =>
    if (s2 = sz ∨ new = []) ∧ new.length * bytes ≤ 140737488355328 ∧ 0 < sz ∧ 0 < bytes ∧ l = [] then
      match h[t]? with
      | some .nilrow => if new = [] then some (.val (.row sz [] t) h) else some (.val (.vslc t new.length sz 0 new.length) (h.set t (.vec sz new 0 et)))
      | _ => none
    else none
  | .vslc id g s1 off n, some (s2, new) => match h[id]? with
    | some (.vec s3 l fz et3) =>
      if (s2 = sz ∨ new = []) ∧ (n + new.length) * bytes ≤ 140737488355328 ∧ 0 < bytes ∧ s1 = sz ∧ s3 = sz ∧ et3 = et ∧ g = l.length then
        if off + n = l.length then
          if off = 0 then some (.val (.vslc id (l.length + new.length) sz 0 (n + new.length)) (h.set id (.vec sz (l ++ new) fz et))) else none
        else if off + n + new.length ≤ l.length ∧ fz ≤ off + n then some (.val (.vslc id g sz off (n + new.length)) (h.set id (.vec sz (l.take (off + n) ++ new ++ l.drop (off + n + new.length)) fz et))) else none
      else none
    | _ => none
  | _, _ => none

/-- Cells that hold nothing of the call's own from k on; or rows as data. -/
def lowCells (k : Nat) (cs : List DV) : List DV := if DV.lows k cs then cs else cs.map DV.coe

section
variable (call : Cle → List DV → List Res → Option DOut)

def dcallV (f : DV) (args : List DV) (h : List Res) : Option DOut :=
  match f with
  | .d (.func (.func g) p q) => call (.fn g) (p.map .d ++ args ++ q.map .d) h
  | .clo (.func g) p q => call (.fn g) (p ++ args ++ q) h
  | .yld id => call (.yld id) args h
  | _ => none

def dop (o : DOp) (a : List DV) (h : List Res) : Option DOut :=
  match o with
  | .stuck => none
  | .mv x => some (.val (ev a x) h)
  | .nilrow sz => some (.val (.row sz [] h.length) (h ++ [.nilrow]))
  | .pick c x y => match ev a c with
    | .d (.bool b) => some (.val (if b then ev a x else ev a y) h)
    | _ => none
  | .box imm x =>
    let cs := (ev a x).cells
    if cs.all DV.one then
      if imm then (cs.mapM DV.flat).map fun fs => .val (.d (.ref fs 0)) h
      else if DV.lows h.length cs then some (.val (.ptr h.length 0) (h ++ [.box cs])) else none
    else none
  | .alloc zero tag => let r := allocCells zero h.length; if r.1.all DV.one then some (.val (.ptr (h.length + r.2.length) 0) (h ++ r.2 ++ [.box r.1 tag])) else none
  | .load n x => match ev a x with
    | .d (.ref cells off) => (dload n (cells.map .d) off).map fun v => .val v h
    | .ptr id off => match h[id]? with
      | some (.box cells _) => (dload n cells off).map fun v => .val v h
      | _ => none
    | .eptr id g k o => match h[id]? with
      | some (.vec _ l _ _) => if g = l.length then (match l[k]? with
        | some c => (dload n (c.map .d) o).map fun v => .val v h
        | none => none) else none
      | _ => none
    | _ => none
  | .store n x v => match ev a x with
    | .ptr id off => match h[id]? with
      | some (.box cells tag) =>
        let new := lowCells (id + 1) (ev a v).cells
        if new.length = n ∧ DV.lows (id + 1) new then (putCells cells off new).map fun cs => .val (.d (.tup [])) (h.set id (.box cs tag)) else none
      | _ => none
    | .eptr id g k o => match h[id]? with
      | some (.vec sz l fz et) => (match l[k]?, flatCells (ev a v) with
        | some c, some fs => if g = l.length ∧ fz ≤ k ∧ fs.length = n ∧ o + n ≤ c.length ∧ fs.all FV.one then some (.val (.d (.tup [])) (h.set id (.vec sz (l.set k (c.take o ++ fs.map unnil ++ c.drop (o + n))) fz et))) else none
        | _, _ => none)
      | _ => none
    | _ => none
  | .storen n x v => match ev a x with
    | .ptr id off => match h[id]? with
      | some (.box cells tag) =>
        let new := keepNil h (cells.drop off) (lowCells (id + 1) (ev a v).cells)
        if new.length = n ∧ DV.lows (id + 1) new then (putCells cells off new).map fun cs => .val (.d (.tup [])) (h.set id (.box cs tag)) else none
      | _ => none
    | .eptr id g k o => match h[id]? with
      | some (.vec sz l fz et) => (match l[k]?, flatCells (ev a v) with
        | some c, some fs => if g = l.length ∧ fz ≤ k ∧ fs.length = n ∧ o + n ≤ c.length ∧ fs.all FV.one then some (.val (.d (.tup [])) (h.set id (.vec sz (l.set k (c.take o ++ fs.map unnil ++ c.drop (o + n))) fz et))) else none
        | _, _ => none)
      | _ => none
    | _ => none
  | .bin op x y => match ev a x, ev a y with
    | .d x, .d y => (dbin op x y).map fun v => .val (.d v) h
    | _, _ => none
  | .eqb neq x y => match ev a x, ev a y with
    | .d (.bool x), .d (.bool y) => some (.val (.d (.bool (if neq then !(x == y) else x == y))) h)
    | _, _ => none
  | .isnil k neq x => (nilness k (ev a x)).map fun b => .val (.d (.bool (if neq then !b else b))) h
  | .un op x => match ev a x with
    | .d x => (dun op x).map fun v => .val (.d v) h
    | _ => none
  | .cvt k x => match ev a x with
    | .d (.int _ n) => some (.val (.d (.int k (k.wrap n))) h)
    | _ => none
  | .bstr x => match (ev a x).elems with
    | some (_, l) => (numsOf l).map fun ns => .val (.d (.str (strOfNums ns))) h
    | none => none
  | .addOff n x => match ev a x with
    | .d (.ref cells off) => some (.val (.d (.ref cells (off + n))) h)
    | .ptr id off => some (.val (.ptr id (off + n)) h)
    | .eptr id g k o => some (.val (.eptr id g k (o + n)) h)
    | _ => none
  | .fld n off x => match ev a x with
    | .d (.agg fs) => (dload n (fs.map .d) off).map fun v => .val v h
    | .agg cs => (dload n cs off).map fun v => .val v h
    | _ => none
  | .idxAddr sz x i => match (ev a x).elems, (ev a i).int with
    | some (s, l), some i => if s = sz ∧ 0 ≤ i then (l[i.toNat]?).map fun c => .val (.d (.ref c 0)) h else none
    | none, some i => (match ev a x with
      | .bslc id off n => if 0 ≤ i ∧ i < n then some (.val (.ptr id (off + i.toNat * sz)) h) else none
      | .vslc id g s off n => if s = sz ∧ 0 ≤ i ∧ i < n then some (.val (.eptr id g (off + i.toNat) 0) h) else none
      | _ => none)
    | _, _ => none
  | .idxArr len sz x i => match ev a x, (ev a i).int with
    | .d (.ref cells off), some i => if 0 ≤ i ∧ i < len then some (.val (.d (.ref cells (off + i.toNat * sz))) h) else none
    | .ptr id off, some i => if 0 ≤ i ∧ i < len then some (.val (.ptr id (off + i.toNat * sz)) h) else none
    | _, _ => none
  | .idxStr x i => match ev a x, (ev a i).int with
    | .d (.str s), some i => if 0 ≤ i then (s[i.toNat]?).map fun b => .val (.d (.int .u8 b.toNat)) h else none
    | _, _ => none
  | .len true x => match ev a x with
    | .d (.str s) => some (.val (.d (.int .i64 s.size)) h)
    | _ => none
  | .len false x => match (ev a x).elems with
    | some (_, l) => some (.val (.d (.int .i64 l.length)) h)
    | none => match ev a x with
      | .bslc _ _ n => some (.val (.d (.int .i64 n)) h)
      | .vslc _ _ _ _ n => some (.val (.d (.int .i64 n)) h)
      | _ => none
  | .slcStr x lo hi => match ev a x with
    | .d (.str s) => match bound hi a s.size s.size with
      | some hi => match bound lo a 0 hi with
        | some lo => some (.val (.d (.str (s.extract lo hi))) h)
        | none => none
      | none => none
    | _ => none
  | .slc sz x lo hi => match (ev a x).elems with
    | some (s, l) => if s = sz then match bound hi a l.length l.length with
      | some hi => match bound lo a 0 hi with
        | some lo => some (.val (.d (.slice sz ((l.take hi).drop lo))) h)
        | none => none
      | none => none else none
    | none => match ev a x with
      | .bslc id off n => match bound hi a n n with
        | some hi => match bound lo a 0 hi with
          | some lo => some (.val (if hi - lo = 0 then .d (.slice sz []) else .bslc id (off + lo * sz) (hi - lo)) h)
          | none => none
        | none => none
      | .vslc id g s off n => if s = sz then (match bound hi a n n with
        | some hi => match bound lo a 0 hi with
          | some lo => some (.val (if hi - lo = 0 ∧ lo ≠ 0 then .d (.slice sz []) else .vslc id g s (off + lo) (hi - lo)) h)
          | none => none
        | none => none) else none
      | _ => none
  | .slcA len sz x lo hi => match ev a x with
    | .ptr id off => match bound hi a len len with
      | some hi => match bound lo a 0 hi with
        | some lo => some (.val (if hi - lo = 0 then .d (.slice sz []) else .bslc id (off + lo * sz) (hi - lo)) h)
        | none => none
      | none => none
    | _ => none
  | .idxVal len sz n x i => match (ev a i).int with
    | some i => if 0 ≤ i ∧ i < len then (match ev a x with
      | .d (.agg fs) => (dload n (fs.map .d) (i.toNat * sz)).map fun v => .val v h
      | .agg cs => (dload n cs (i.toNat * sz)).map fun v => .val v h
      | _ => none) else none
    | none => none
  | .calld f args => match ev a f with
    | .d (.func (.func g) [] []) => if (args.map (ev a)).all DV.isD then (match call (.fn g) (args.map (ev a)) [] with
      | some (.val (.d v) []) => some (.val (.d v) h)
      | _ => none) else none
    | _ => none
  | .ext i x => match ev a x with
    | .d (.tup vs) => (vs[i]?).map fun v => .val (.d v) h
    | .tup vs => (vs[i]?).map fun v => .val v h
    | _ => none
  | .lit imm et sz len zero parts =>
    if sz = 0 ∨ zero.length ≠ sz ∨ len * sz > 16777216 then none else
    match parts.mapM (fun p => (flatCells (ev a p.2)).map fun cs => (p.1, cs)) with
    | some ps => match ps.foldlM (fun (l : List (List FV)) p => if p.1 < l.length ∧ p.2.length = sz ∧ p.2.all FV.one then some (l.set p.1 p.2) else none) (List.replicate len zero) with
      | some l => if zero.all FV.one then some (if imm then .val (.d (.slice sz l)) h else .val (.row sz l h.length) (h ++ [.row sz len et])) else none
      | none => none
    | none => none
  | .build zero parts =>
    match parts.mapM (fun p => match flatCells (ev a p.2.2) with | some cs => if cs.length = p.2.1 ∧ cs.all FV.one then some (p.1, cs) else none | none => none) with
    | some ps => (fill zero ps).map fun cs => .val (.d (.agg cs)) h
    | none => none
  | .app str et sz bytes s x => appRow sz bytes (ev a s) (srcElems str (ev a x)) h et
  | .eqs neq ks x y => match ev a x, ev a y with
    | .d (.agg xs), .d (.agg ys) => (eqCells ks xs ys).map fun b => .val (.d (.bool (if neq then !b else b))) h
    | _, _ => none
  | .rng x => match ev a x with
    | .d (.str s) => some (.val (.ptr h.length 0) (h ++ [.iter s 0]))
    | _ => none
  | .next x => match ev a x with
    | .ptr id 0 => match h[id]? with
      | some (.iter s pos) =>
        if pos < s.size then some (.val (.d (.tup [.bool true, .int .i64 pos, .int .i32 (Utf8.decode s pos).1])) (h.set id (.iter s (pos + (Utf8.decode s pos).2))))
        else some (.val (.d (.tup [.bool false])) h)
      | _ => none
    | _ => none
  | .sbytes x => match ev a x with
    | .d (.str s) => if s.size ≤ 140737488355328 then some (.val (.d (.slice 1 (strCells s))) h) else none
    | _ => none
  | .rstr x => match ev a x with
    | .d (.int _ n) => some (.val (.d (.str (Utf8.encode n))) h)
    | _ => none
  | .tass t comma zero x => match ev a x with
    | .d (.iface t' v) => if t' = t then some (.val (.d (if comma then .tup [v, .bool true] else v)) h) else if comma then some (.val (.d (.tup [zero, .bool false])) h) else none
    | .d .nili => if comma then some (.val (.d (.tup [zero, .bool false])) h) else none
    | _ => none
  | .usd x => match ev a x with
    | .row 1 l t => match h[t]? with
      | some .nilrow => if l = [] then some (.val (.rptr l t) h) else none
      | some (.row 1 n _) => if n = l.length ∧ 0 < n then some (.val (.rptr l t) h) else none
      | _ => none
    | _ => none
  | .mark x => match ev a x with
    | .row 1 l t => match h[t]? with
      | some (.row 1 n _) => if n = l.length then some (.val (.d (.slice 1 l)) (h.set t .dead)) else none
      | _ => none
    | _ => none
  | .ustr et x n => match ev a x, (ev a n).int with
    | .rptr l t, some k => if k = (l.length : Int) then match numsOf l with
        | some ns => if l = [] then some (.val (.d (.str (strOfNums []))) h) else match h[t]? with
          | some (.row 1 m et') => if m = l.length ∧ m ≤ 9223372036854775807 ∧ et' = et ∧ et ≠ 0 ∧ ns.all (fun n => decide (0 ≤ n ∧ n < 256)) then some (.val (.d (.str (strOfNums ns))) (h.set t .dead)) else none
          | _ => none
        | none => none
      else none
    | _, _ => none
  | .mnmx max xs => match xs.map (ev a) with
    | .d x :: rest => match rest.mapM DV.flat with
      | some ys => (ys.foldlM (mnmx2 max) x).map fun v => .val (.d v) h
      | none => none
    | _ => none
  | .call f args => dcallV call (ev a f) (args.map (ev a)) h
  | .idxB x y => match ev a x, ev a y with
    | .d (.str s), .d (.int .u8 c) => some (.val (.d (.int .i64 (Lib.indexByte s.data.toList c.toNat.toUInt8))) h)
    | _, _ => none
  | .calln sz f args => match ev a f with
    | .d (.func (.func g) [] []) => call (.fn g) (.row sz [] h.length :: args.map (ev a)) (h ++ [.nilrow])
    | _ => none
  | .mkf fn p q =>
    let p := p.map (ev a)
    let q := q.map (ev a)
    match p.mapM DV.flat, q.mapM DV.flat with
    | some p, some q => some (.val (.d (.func fn p q)) h)
    | _, _ => some (.val (.clo fn p q) h)
  | .nilchk x => match ev a x with
    | .d (.ref c o) => some (.val (.d (.ref c o)) h)
    | .ptr id o => some (.val (.ptr id o) h)
    | .d (.func (.func g) p q) => some (.val (.d (.func (.func g) p q)) h)
    | .clo (.func g) p q => some (.val (.clo (.func g) p q) h)
    | .yld id => some (.val (.yld id) h)
    | _ => none
  | .mki t x => match ev a x with
    | .d v => some (.val (.d (.iface t v)) h)
    | x => some (.val (.iface t x) h)
  | .panic x => match ev a x with
    | .d (.iface t v) => some (.pan (.d (.iface t v)) h)
    | _ => none
  | .vlit et sz len zero parts =>
    if sz = 0 ∨ zero.length ≠ sz ∨ len * sz > 16777216 then none else
    match parts.mapM (fun p => (flatCells (ev a p.2)).map fun cs => (p.1, cs)) with
    | some ps => match ps.foldlM (fun (l : List (List FV)) p => if p.1 < l.length ∧ p.2.length = sz ∧ p.2.all FV.one then some (l.set p.1 p.2) else none) (List.replicate len zero) with
      | some l => if zero.all FV.one then some (.val (.vslc h.length len sz 0 len) (h ++ [.vec sz l 0 et])) else none
      | none => none
    | none => none
  | .vmake imm et sz bytes zero n c => match (ev a n).int, (ev a c).int with
    | some n, some c =>
      if 0 ≤ n ∧ n ≤ c ∧ c < 9223372036854775808 ∧ c * bytes ≤ 140737488355328 ∧ 0 < bytes ∧ 0 < sz ∧ zero.length = sz ∧ zero.all FV.one then
        some (if imm then .val (.d (.slice sz (List.replicate n.toNat zero))) h else .val (.vslc h.length n.toNat sz 0 n.toNat) (h ++ [.vec sz (List.replicate n.toNat zero) 0 et]))
      else none
    | _, _ => none
  | .vapp et sz bytes s x => appVec et sz bytes (ev a s) (ev a x).elems h
  | .frz x => match ev a x with
    | .vslc id g s off n => match h[id]? with
      | some (.vec sz l fz et) => if g = l.length ∧ s = sz then some (.val (.d (.slice sz ((l.drop off).take n))) (h.set id (.vec sz l (max fz (off + n)) et))) else none
      | _ => none
    | .row sz l _ => some (.val (.d (.slice sz l)) h)
    | .d v => some (.val (.d v) h)
    | _ => none
  | .mkmap => some (.val (.mref h.length) (h ++ [.map []]))
  | .mlook comma kz zero x i => match ev a x, ev a i with
    | .mref id, .d k => if keyOk kz k then match h[id]? with
      | some (.map l) => match findE k l 0 with
        | some (some (_, v)) => some (.val (.d (if comma then .tup [v, .bool true] else v)) h)
        | some none => some (.val (.d (if comma then .tup [zero, .bool false] else zero)) h)
        | none => none
      | _ => none else none
    | _, _ => none
  | .mupd kz x k v => match ev a x, ev a k, (ev a v).flat with
    | .mref id, .d k, some v => if keyOk kz k then match h[id]? with
      | some (.map l) => match findE k l 0 with
        | some (some (i, _)) => some (.val (.d (.tup [])) (h.set id (.map (l.set i (k, unnil v)))))
        | some none => some (.val (.d (.tup [])) (h.set id (.map (l ++ [(k, unnil v)]))))
        | none => none
      | _ => none else none
    | _, _, _ => none

inductive DExit where
  | normal
  | exit (id : Nat)
  | ret
  | pan (v : DV)
  deriving Inhabited

abbrev DRun := DExit × List DV × List Res

def put (a : List DV) : Option Nat → DV → List DV
  | some d, v => a.set d v
  | none, _ => a

def wants (a : List DV) : Option (Nat × Bool) → Option Bool
  | none => some true
  | some (t, b) => match a[t]? with
    | some (.d (.bool c)) => some (c == b)
    | some (.d (.tup [])) => some false
    | _ => none

def dops : List DOper → List DV → List Res → Option DRun
  | [], a, h => some (.normal, a, h)
  | o :: rest, a, h => match wants a o.guard with
    | some true => match dop call o.op a h with
      | some (.val v h') => dops rest (put a o.dst v) h'
      | some (.pan v h') => some (.pan v, a, h')
      | none => none
    | some false => dops rest (put a o.dst (.d (.tup []))) h
    | none => none

open Classical in
/-- The other orders come to the same. -/
noncomputable def same (alts : List (List DOper)) (a : List DV) (h : List Res) (r : DRun) : Bool := decide (∀ l ∈ alts, dops call l a h = some r)

abbrev LoopF := Nat → Bool → List Bool → List Bool → ACode → List DV → List Res → Option DRun
variable (loop : LoopF)

def mask : List Bool → List DV → List DV
  | true :: m, x :: xs => x :: mask m xs
  | false :: m, _ :: xs => .d .undef :: mask m xs
  | [], _ :: xs => .d .undef :: mask [] xs
  | _, [] => []

noncomputable def dexec : ACode → List DV → List Res → Option DRun
  | .skip, a, h => some (.normal, a, h)
  | .region ops, a, h => dops call ops a h
  | .draw ops alts, a, h => match dops call ops a h with
    | some (.normal, a', h') => if same call alts a h (.normal, a', h') then some (.normal, a', h') else none
    | _ => none
  | .seq c d, a, h => match dexec c a h with
    | some (.normal, a', h') => dexec d a' h'
    | r => r
  | .cond c t e, a, h => match ev a c with
    | .d (.bool b) => if b then dexec t a h else dexec e a h
    | _ => none
  | .block id c, a, h => match dexec c a h with
    | some (.exit i, a', h') => if i = id then some (.normal, a', h') else some (.exit i, a', h')
    | r => r
  | .loop cut hd ex c, a, h => loop h.length cut hd ex c (mask hd a) h
  | .rangeFn f ps sn as bd, a, h => match ev a f with
    | .yld _ => none
    | fv => match dcallV call fv [.yld h.length] (h ++ [.loop ps as bd (mask sn a) .ready]) with
      | some (.val _ h') => match h'[h.length]? with
        | some (.loop _ _ _ _ .ready) => some (.normal, a, h'.take h.length)
        | some (.loop _ _ _ _ (.done (some i))) => some (.exit i, a, h'.take h.length)
        | some (.loop _ _ _ _ (.done none)) => some (.ret, a, h'.take h.length)
        | _ => none
      | _ => none
  | .exit id, a, h => some (.exit id, a, h)
  | .ret, a, h => some (.ret, a, h)
  | .stuck, _, _ => none

def setAll (a : List DV) (ps : List Nat) (args : List DV) : List DV := (ps.zip args).foldl (fun a p => a.set p.1 p.2) a
def LSt.isReady : LSt → Bool
  | .ready => true
  | _ => false
/-- The record of a range over a function. -/
def markLoop (id : Nat) (st : LSt) (h : List Res) : Option (List Res) := match h[id]? with
  | some (.loop ps as bd snap _) => some (h.set id (.loop ps as bd snap st))
  | _ => none
def endLoop (id n : Nat) (st : LSt) (h : List Res) : Option DOut := (markLoop id st h).map fun h => .val (.d (.bool st.isReady)) (h.take n)
/-- One round of a range over a function. -/
noncomputable def dyield (id : Nat) (args : List DV) (h : List Res) : Option DOut :=
  match h[id]? with
  | some (.loop ps as bd snap .ready) =>
    if args.length = ps.length then
      match dexec call loop as (setAll snap ps args) h with
      | some (.normal, a1, h1) => match h1[id]? with
        | some (.loop _ _ _ _ .ready) => match markLoop id .busy h1 with
          | some h1 => match dexec call loop bd a1 h1 with
            | some (.normal, _, h2) => endLoop id h.length .ready h2
            | some (.exit i, _, h2) => endLoop id h.length (.done (some i)) h2
            | some (.ret, _, h2) => endLoop id h.length (.done none) h2
            | _ => none
          | none => none
        | _ => none
      | _ => none
    else none
  | _ => none

def trim (cut : Bool) (n0 : Nat) (h : List Res) : List Res := if cut then h.take n0 else h
def trims (cut : Bool) (n0 : Nat) (a : List DV) : Bool := if cut then DV.lows n0 a else true

noncomputable def dround (n0 : Nat) (cut : Bool) (hd ex : List Bool) (c : ACode) (a : List DV) (h : List Res) : Option DRun :=
  match dexec call loop c a h with
  | some (.normal, a', h') => if trims cut n0 (mask hd a') then loop n0 cut hd ex c (mask hd a') (trim cut n0 h') else none
  | some (.pan v, a', h') => some (.pan v, a', h')
  | some (e, a', h') => if trims cut n0 (mask ex a') then some (e, mask ex a', trim cut n0 h') else none
  | none => none

def dresult (a : List DV) (h : List Res) : DRes → Option DV
  | .tmp t => some (a.getD t (.d .undef))
  | .cell n t => match a.getD t (.d .undef) with
    | .ptr id off => match h[id]? with
      | some (.box cells _) => dload n cells off
      | _ => none
    | .d (.ref cells off) => dload n (cells.map .d) off
    | _ => none

def dresults (co : Bool) (rs : List DV) : DV := if co then (match rs with
  | [x] => x.coe
  | rs => (DV.tup (rs.map DV.coe)).coe) else match rs with
  | [x] => x
  | rs => .tup rs

noncomputable def dbody (F : AFunc) (args : List DV) (h : List Res) : Option DOut :=
  match dexec call loop F.body (args ++ List.replicate (F.ntmps - args.length) (.d .undef)) h with
  | some (.pan v, _, h') => if v.low h.length then some (.pan v (h'.take h.length)) else none
  | some (.normal, a, h') | some (.ret, a, h') => match F.results.mapM (dresult a h') with
    | some rs => if (dresults (F.keep == 0 && F.coe) rs).low (h.length + F.keep) then some (.val (dresults (F.keep == 0 && F.coe) rs) (h'.take (h.length + F.keep))) else none
    | none => none
  | _ => none

structure Env where
  af : FuncId → Option AFunc
  ext : FuncId → Option (List DV → List Res → Option DOut)

def withHeap (h : List Res) : DOut → DOut
  | .val v _ => .val v h
  | .pan v _ => .pan v h

noncomputable def dcallF (E : Env) (f : FuncId) (args : List DV) (h : List Res) : Option DOut :=
  match E.ext f with
  | some F => F args h
  | none => match E.af f with
    | none => none
    | some F =>
      let args' := if F.coe then args.map DV.coe else args
      if F.keep == 0 && args'.all DV.isD then (dbody call loop F args' []).map (withHeap h) else dbody call loop F args' h
noncomputable def dcall (E : Env) (c : Cle) (args : List DV) (h : List Res) : Option DOut := match c with
  | .fn f => dcallF call loop E f args h
  | .yld id => dyield call loop id args h
end

end Go.Deepv
