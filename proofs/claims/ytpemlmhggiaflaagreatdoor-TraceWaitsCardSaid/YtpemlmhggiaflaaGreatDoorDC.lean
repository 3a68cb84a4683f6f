/-
  From a function's code to the deep machine's code; the relation of the machine's memory and the deep machine's.
  Conditions: none.
-/
import Derived.Test.YtpemlmhggiaflaaGreatDoorDB
namespace Go.Deepv

/-! ### From code to deep code -/
def constOk : Value → FV → Bool
  | .int k n, .int k' n' => k == k' && n == n'
  | .bool b, .bool b' => b == b'
  | .string s, .str s' => s.data == s'.data
  | .slice none 0 0, .slice _ [] => true
  | .slice none 0 0, .nils _ => true
  | .pointer none, .nilp => true
  | .nilIface, .nili => true
  | .nilFunc, .nilf => true
  | _, _ => false
/-- What is nil, known as such. -/
def nilz (l : List FV) : List FV := l.map fun x => match x with
  | .slice sz [] => .nils sz
  | x => x
def nilOpd (imm : Nat → Bool) : Opd → Bool
  | .tmp d => imm d
  | _ => false
def constsOk : List Value → List FV → Bool
  | [], [] => true
  | v :: vs, x :: xs => constOk v x && constsOk vs xs
  | _, _ => false

def scalarFV : Value → Option FV
  | .int k n => some (.int k n)
  | .bool b => some (.bool b)
  | .string s => some (.str s)
  | .pointer none => some .nilp
  | .nilIface => some .nili
  | .nilFunc => some .nilf
  | _ => none

section
variable (P : Program)

def typedCells : Nat → TypeId → List Value → Option (List FV)
  | 0, _, _ => none
  | n + 1, t, cs => match P.underlying t with
    | some (.struct fields) => (fields.toList.mapM fun f => typedCells n f.type ((cs.drop f.offset).take (P.cellsOf f.type))).map List.flatten
    | some (.array k e) => ((List.range k).mapM fun i => typedCells n e ((cs.drop (i * P.cellsOf e)).take (P.cellsOf e))).map List.flatten
    | some (.slice e) => match cs with
      | [.slice none 0 0] => some [.slice (P.cellsOf e) []]
      | _ => none
    | some _ => match cs with
      | [v] => (scalarFV v).map ([·])
      | _ => none
    | none => none

def trConst (t : TypeId) (v : Value) : Option FV :=
  match typedCells P 12 t v.cells.toList with
  | some fs => match v with
    | .agg cs => if constsOk cs.toList fs then some (.agg fs) else none
    | v => match fs with
      | [x] => if constOk v x then some x else none
      | _ => none
  | none => none

def trOpd (t : TypeId) : Operand → Option Opd
  | .tmp t => some (.tmp t)
  | .func f => some (.fn f)
  | .const v => (trConst P t v).map .con
  | .global _ => none

def isAggB (t : TypeId) : Option (Option Nat) := match P.underlying t with
  | some (.struct _) => (P.info? t).map fun i => some i.size
  | some (.array _ _) => (P.info? t).map fun i => some i.size
  | some _ => some none
  | none => none

def isNilSlice : Operand → Bool
  | .const (.slice none 0 0) => true
  | _ => false

/-- Marks of slots beside 'imm': a row that is stored into; data that is taken of it. -/
def vecM (imm : Nat → Bool) (o : Oper) : Bool := match o.dst with
  | some d => imm (d + 1000000)
  | none => false
def frzM (imm : Nat → Bool) (o : Oper) : Bool := match o.dst with
  | some d => imm (d + 2000000)
  | none => false
def trMove (imm : Nat → Bool) (o : Oper) (x : Operand) : Option DOp :=
  if isNilSlice x then match P.underlying o.type with
    | some (.slice e) => if (o.dst.map imm).getD false then some (.mv (.con (.slice (P.cellsOf e) []))) else some (.nilrow (P.cellsOf e))
    | _ => none
  else (trOpd P o.type x).map .mv

def isNilConst (k : Nat) : Operand → Bool
  | .const (.pointer none) => k == 0
  | .const .nilIface => k == 1
  | .const .nilFunc => k == 2
  | _ => false

def trNil (op : BinOp) (k : Nat) (x y : Operand) (x' y' : Opd) : Option DOp :=
  match op with
  | .eql => if isNilConst k y then some (.isnil k false x') else if isNilConst k x then some (.isnil k false y') else none
  | .neq => if isNilConst k y then some (.isnil k true x') else if isNilConst k x then some (.isnil k true y') else none
  | _ => none

/-- Fields that lie one behind another. -/
def consec : List Field → Nat → Option Nat
  | [], o => some o
  | f :: fs, o => if f.offset = o then consec fs (o + P.cellsOf f.type) else none
/-- The kinds of a type's cells, where its values are compared cell by cell. -/
def leafs : Nat → TypeId → Option (List Nat)
  | 0, _ => none
  | n + 1, t => match P.underlying t with
    | some (.int _) => if P.cellsOf t == 1 && isAggB P t == some none then some [0] else none
    | some .string => if P.cellsOf t == 1 && isAggB P t == some none then some [1] else none
    | some .bool => if P.cellsOf t == 1 && isAggB P t == some none then some [2] else none
    | some (.struct fl) => if !P.stoodInHeld t && (fl.toList.all fun f => f.name != "_") && consec P fl.toList 0 == some (P.cellsOf t) && isAggB P t == some (some (P.cellsOf t)) then
        match fl.toList.mapM fun f => (leafs n f.type).bind fun ks => if ks.length = P.cellsOf f.type then some ks else none with
        | some kss => some kss.flatten
        | none => none
      else none
    | _ => none

def trBin (op : BinOp) (xt yt : TypeId) (x y : Operand) : Option DOp :=
  match trOpd P xt x, trOpd P yt y with
  | some x', some y' => match P.underlying xt with
    | some (.int _) | some .string => some (.bin op x' y')
    | some .bool => match op with
      | .eql => some (.eqb false x' y')
      | .neq => some (.eqb true x' y')
      | _ => none
    | some (.pointer _) => trNil op 0 x y x' y'
    | some (.interface _) => trNil op 1 x y x' y'
    | some (.func _ _ _) => trNil op 2 x y x' y'
    | some (.struct _) => match leafs P 12 xt with
      | some ks => if ks.length = P.cellsOf xt ∧ P.eqGuardType P.depth xt = false then match op with
        | .eql => some (.eqs false ks x' y')
        | .neq => some (.eqs true ks x' y')
        | _ => none else none
      | none => none
    | _ => none
  | _, _ => none

def trIdxAddr (t : TypeId) (x i : Operand) : Option DOp :=
  match P.underlying t with
  | some (.slice e) => match P.info? e, trOpd P t x, trOpd P 3 i with
    | some info, some x, some i => some (.idxAddr info.size x i)
    | _, _, _ => none
  | some (.array n e) => match P.info? e, trOpd P t x, trOpd P 3 i with
    | some info, some x, some i => some (.idxArr n info.size x i)
    | _, _, _ => none
  | _ => none

def optOpd (x : Option Operand) : Option (Option Opd) := match x with
  | none => some none
  | some x => (trOpd P 3 x).map some

def zeroCellsOf (t : TypeId) : Option (List Value × List FV) := match P.info? t with
  | some i => match i.zero with
    | some z => match typedCells P 12 t z.cells.toList with
      | some fs => if constsOk z.cells.toList fs then some (z.cells.toList, fs) else none
      | none => none
    | none => none
  | none => none

def mint1 : Value → FV → Except Nat FV
  | .slice none 0 0, .slice sz _ => .error sz
  | _, f => .ok f
def minted : List Value → List FV → List (Except Nat FV)
  | v :: vs, f :: fs => mint1 v f :: minted vs fs
  | _, _ => []

/-- The types of elements that are remembered. -/
def tagE (e : TypeId) : Nat := match P.underlying e with
  | some (.int .u8) => e
  | _ => 0

def trSlice (t : TypeId) (x : Operand) (lo hi mx : Option Operand) : Option DOp :=
  if mx.isSome then none else
  match trOpd P t x, optOpd P lo, optOpd P hi with
  | some x, some lo, some hi => match P.underlying t with
    | some .string => some (.slcStr x lo hi)
    | some (.slice e) => match P.info? e with
      | some i => some (.slc i.size x lo hi)
      | none => none
    | some (.array n e) => match P.info? e with
      | some i => some (.slcA n i.size x lo hi)
      | none => none
    | _ => none
  | _, _, _ => none

def trCall (c : Call) : Option DOp := match c.callee with
  | .value f => match trOpd P 0 f, (c.args.toList.zip c.argTypes.toList).mapM (fun p => trOpd P p.2 p.1) with
    | some f, some args => if c.args.size = c.argTypes.size then some (.call f args) else none
    | _, _ => none
  | .builtin b => match (c.args.toList.zip c.argTypes.toList).mapM (fun p => trOpd P p.2 p.1) with
    | some args => if c.args.size ≠ c.argTypes.size then none else match b, args with
      | .len, [x] => match (c.argTypes[0]?).bind P.underlying with
        | some .string => some (.len true x)
        | some (.slice _) => some (.len false x)
        | _ => none
      | .unsafeSliceData, [x] => some (.usd x)
      | .unsafeString, [x, n] => match (c.argTypes[0]?).bind P.underlying with
        | some (.pointer e) => match P.info? e, P.underlying e with
          | some i, some (.int .u8) => if i.size = 1 ∧ P.cellsOf e = 1 then some (.ustr e x n) else none
          | _, _ => none
        | _ => none
      | .min, x :: xs => some (.mnmx false (x :: xs))
      | .max, x :: xs => some (.mnmx true (x :: xs))
      | .append, [s, x] => match (c.argTypes[0]?).bind P.underlying, (c.argTypes[1]?).bind P.underlying with
        | some (.slice e), some (.slice _) => match P.info? e with
          | some i => match i.zero with
            | some z => if z.cells.size = i.size then some (.app false (tagE P e) i.size i.bytes s x) else none
            | none => none
          | none => none
        | some (.slice e), some .string => match P.info? e with
          | some i => match i.zero with
            | some z => if z.cells.size = i.size ∧ i.size = 1 then some (.app true (tagE P e) i.size i.bytes s x) else none
            | none => none
          | none => none
        | _, _ => none
      | _, _ => none
    | none => none
  | _ => none

/-- The types of variables that are remembered. -/
def tagOf (t : TypeId) : Nat := match P.info? t with
  | some i => match i.desc with
    | .named n _ => if n = "strings.Builder" then t else 0
    | _ => 0
  | none => 0

/-- The first argument of a call is a nil slice: its elements' cells. -/
def nilFirst (c : Call) : Option Nat := match c.callee, c.args.toList, (c.argTypes[0]?).bind P.underlying with
  | .value (.func _), x :: _, some (.slice e) => if isNilSlice x then some (P.cellsOf e) else none
  | _, _, _ => none
/-- The function without body that looks for a byte in a string. -/
def isIdxB (c : Call) : Bool := match c.callee with
  | .value (.func g) => match P.funcs[g]? with
    | some fn => fn.name == "internal/bytealg.IndexByteString" && fn.origin == "" && fn.body.isNone
    | none => false
  | _ => false
def trCallN (c : Call) : Option DOp := if isIdxB P c then (match trCall P c with | some (.call _ [x, y]) => some (.idxB x y) | _ => none) else match nilFirst P c, trCall P c with
  | some sz, some (.call f (_ :: rest)) => some (.calln sz f rest)
  | _, r => r
/-- A call of data alone, that leaves nothing. -/
def dataCall (o : Option DOp) : Option DOp := match o with
  | some (.call f args) => some (.calld f args)
  | r => r

/-- A row that is stored into grows. -/
def vecCall (b : Bool) (o : Option DOp) : Option DOp := if b then (match o with
  | some (.app false et sz bytes s x) => some (.vapp et sz bytes s x)
  | r => r) else o
/-- Types of keys whose equality the machine knows: by a key. -/
def keyZero (t : TypeId) : Option FV := match P.underlying t with
  | some (.int k) => some (.int k 0)
  | some .string => some (.str ⟨#[]⟩)
  | some .bool => some (.bool false)
  | _ => none
def trOp (imm : Nat → Bool) (o : Oper) : Option DOp := match o.op with
  | .move x | .assign x => if frzM imm o then (trOpd P o.type x).map .frz else trMove P imm o x
  | .pick c a b => match trOpd P 4 c, trOpd P o.type a, trOpd P o.type b with
    | some c, some a, some b => some (.pick c a b)
    | _, _, _ => none
  | .alloc t => (zeroCellsOf P t).map fun z => .alloc (minted z.1 z.2) (tagOf P t)
  | .box t x => (trOpd P t x).map (.box (match o.dst with | some d => imm d | none => false))
  | .load t x => match isAggB P t, trOpd P 0 x with
    | some n, some x => some (.load n x)
    | _, _ => none
  | .store t x v => match P.info? t, trOpd P 0 x, trOpd P t v with
    | some i, some x, some v => some (if nilOpd imm v then .storen i.size x v else .store i.size x v)
    | _, _, _ => none
  | .binOp op xt x y yt => trBin P op xt yt x y
  | .unOp op t x => (trOpd P t x).map (.un op)
  | .convert src dst x => match P.underlying src, P.underlying dst, trOpd P src x with
    | some _, some (.int k), some x => some (.cvt k x)
    | some (.slice e), some .string, some x => match P.underlying e with
      | some (.int .u8) => some (.bstr x)
      | _ => none
    | some (.int _), some .string, some x => some (.rstr x)
    | some (.slice _), some (.slice e), some x => if src = dst then match P.underlying e with
      | some (.int .u8) => some (.mark x)
      | _ => none else none
    | some .string, some (.slice e), some x => match P.underlying e, P.info? e with
      | some (.int .u8), some i => if i.size = 1 ∧ P.cellsOf e = 1 then some (.sbytes x) else none
      | _, _ => none
    | _, _, _ => none
  | .range t x => match P.underlying t, trOpd P t x with
    | some .string, some x => some (.rng x)
    | _, _ => none
  | .next x true => (trOpd P 0 x).map .next
  | .typeAssert x t1 t comma => match P.underlying t, (P.info? t).bind fun i => i.zero.bind (trConst P t), trOpd P t1 x with
    | some (.interface _), _, _ => none
    | some _, some zf, some x => some (.tass t comma zf x)
    | _, _, _ => none
  | .fieldAddr s x f => match P.underlying s with
    | some (.struct fields) => match fields[f]? with
      | some fl => match P.info? fl.type, trOpd P 0 x with
        | some i, some x => if i.size = 0 then none else some (.addOff fl.offset x)
        | _, _ => none
      | none => none
    | _ => none
  | .field s x f => match P.underlying s with
    | some (.struct fields) => match fields[f]? with
      | some fl => match isAggB P fl.type, trOpd P s x with
        | some n, some x => some (.fld n fl.offset x)
        | _, _ => none
      | none => none
    | _ => none
  | .indexAddr t x i => trIdxAddr P t x i
  | .index t x i => match P.underlying t, trOpd P t x, trOpd P 3 i with
    | some .string, some x, some i => some (.idxStr x i)
    | some (.array n e), some x, some i => match P.info? e, isAggB P e with
      | some info, some m => some (.idxVal n info.size m x i)
      | _, _ => none
    | _, _, _ => none
  | .slice t x lo hi mx => trSlice P t x lo hi mx
  | .extract x i => (trOpd P 0 x).map (.ext i)
  | .buildSlice t len parts => match P.underlying t with
    | some (.slice e) => match P.info? e, zeroCellsOf P e, parts.toList.mapM (fun p => (trOpd P e p.2).map (Prod.mk p.1)) with
      | some i, some z, some ps => some (if vecM imm o then .vlit (tagE P e) i.size len z.2 ps else .lit (match o.dst with | some d => imm d | none => false) (tagE P e) i.size len z.2 ps)
      | _, _, _ => none
    | _ => none
  | .build t parts => match P.underlying t with
    | some (.struct fields) => match fields.toList.mapM (fun f => (P.info? f.type).map fun i => (f.offset, i.size)) with
      | some places => match zeroCellsOf P t, parts.toList.mapM (fun p => match places[p.1]?, fields[p.1]? with
          | some pl, some fl => (trOpd P fl.type p.2).map fun x => (pl.1, pl.2, x)
          | _, _ => none) with
        | some z, some ps => some (.build (if (match o.dst with | some d => imm d | none => false) then nilz z.2 else z.2) ps)
        | _, _ => none
      | none => none
    | some (.array _ e) => match P.info? e with
      | some i => match zeroCellsOf P t, parts.toList.mapM (fun p => (trOpd P e p.2).map fun x => (p.1 * i.size, i.size, x)) with
        | some z, some ps => some (.build z.2 ps)
        | _, _ => none
      | none => none
    | _ => none
  | .call c => if (match o.dst with | some d => imm d | none => false) then dataCall (trCallN P c) else vecCall (vecM imm o) (trCallN P c)
  | .makeSlice t n c => match P.underlying t with
    | some (.slice e) => match P.info? e, zeroCellsOf P e, trOpd P 3 n, trOpd P 3 c with
      | some i, some z, some n, some c => some (.vmake (match o.dst with | some d => imm d | none => false) (tagE P e) i.size i.bytes z.2 n c)
      | _, _, _, _ => none
    | _ => none
  | .makeMap t none => match P.underlying t with
    | some (.map _ _) => some .mkmap
    | _ => none
  | .lookup t x i comma => match P.underlying t with
    | some (.map k e) => match (P.info? e).bind fun i => i.zero.bind (trConst P e), trOpd P t x, trOpd P k i, keyZero P k with
      | some zf, some x, some i, some kz => some (.mlook comma kz zf x i)
      | _, _, _, _ => none
    | _ => none
  | .mapUpdate t m k v => match P.underlying t with
    | some (.map kt e) => match trOpd P t m, trOpd P kt k, trOpd P e v, keyZero P kt with
      | some m, some k, some v, some kz => some (.mupd kz m k v)
      | _, _, _, _ => none
    | _ => none
  | .makeFunc fn p q => match p.toList.mapM (trOpd P 0), q.toList.mapM (trOpd P 0) with
    | some p, some q => some (.mkf fn p q)
    | _, _ => none
  | .nilCheck x => (trOpd P 0 x).map .nilchk
  | .makeInterface t x => match P.underlying t, trOpd P t x with
    | some (.interface _), _ => none
    | some _, some x => some (.mki t x)
    | _, _ => none
  | _ => none

def trGuard (ops : Array Oper) : Option (Nat × Bool) → Option (Option (Nat × Bool))
  | none => some none
  | some (j, b) => match (ops[j]?).bind (·.dst) with
    | some t => some (some (t, b))
    | none => none

def trOper (imm : Nat → Bool) (ops : Array Oper) (o : Oper) : Option DOper :=
  match trOp P imm o, trGuard ops o.guard with
  | some op, some g => some ⟨o.dst, op, g⟩
  | none, some g => some ⟨o.dst, .stuck, g⟩
  | _, none => none
theorem trOper_cases {imm : Nat → Bool} {ops : Array Oper} {o : Oper} {d : DOper} (h : trOper P imm ops o = some d) : ∃ op g, d = ⟨o.dst, op, g⟩ ∧ trGuard ops o.guard = some g ∧ (trOp P imm o = some op ∨ op = .stuck) := by
  unfold trOper at h
  split at h
  · rename_i op g h1 h2
    exact ⟨op, g, by simpa using h.symm, h2, .inl h1⟩
  · rename_i g h1 h2
    exact ⟨.stuck, g, by simpa using h.symm, h2, .inr rfl⟩
  · cases h

/-- Where a loop's marks come from: by the number of its first region. -/
structure Marks where
  cut : Nat → Bool
  hd : Nat → List Bool
  ex : Nat → List Bool
  imm : Nat → Bool
  alts : Nat → List (List Nat) := fun _ => []
  sn : Nat → List Bool := fun _ => []
  keep : Nat := 0

def firstRegion : Code → Nat
  | .region id _ _ => id
  | .seq a _ => firstRegion a
  | .cond _ t _ => firstRegion t
  | .block _ b => firstRegion b
  | .loop b => firstRegion b
  | _ => 0

/-! ### Regions that draw their order -/
def edgesOf (o : Oper) : List Nat := (o.after.toList.filter (Region.binds .any)).map (·.on)
def depsOf (ops : Array Oper) : List (List Nat) := ops.toList.map edgesOf
def bitsOf (acc : List Nat) : List Nat → Nat
  | [] => 0
  | j :: r => bitsOf acc r ||| (1 <<< j) ||| acc.getD j 0
/-- All that is ahead of each. -/
def closureOf : List (List Nat) → List Nat → List Nat
  | [], acc => acc
  | d :: r, acc => closureOf r (acc ++ [bitsOf acc d])
def orients : List (Nat × Nat) → List (List (Nat × Nat))
  | [] => [[]]
  | (j, i) :: r => (orients r).flatMap fun e => [(j, i) :: e, (i, j) :: e]
def agrees (τ : List Nat) (ε : List (Nat × Nat)) : Bool := ε.all fun p => decide (τ.idxOf p.1 < τ.idxOf p.2)
def incons (clo : List Nat) (ε : List (Nat × Nat)) : Bool :=
  ε.any fun p => ε.any fun q => (p.2 == q.1 || (clo.getD q.1 0).testBit p.2) && (q.2 == p.1 || (clo.getD p.1 0).testBit q.2)
def conflicts (n : Nat) (clo : List Nat) (dl : List DOper) : List (Nat × Nat) :=
  (List.range n).flatMap fun i => ((List.range i).filter fun j => !(clo.getD i 0).testBit j && !(dl.getD j default).comm (dl.getD i default)).map fun j => (j, i)
def nodupB : List Nat → Bool
  | [] => true
  | x :: r => !r.contains x && nodupB r
def goodOrder (n : Nat) (deps : List (List Nat)) (τ : List Nat) : Bool :=
  nodupB τ && τ.all (fun i => decide (i < n)) && (List.range n).all (fun i => τ.contains i) && (List.range n).all fun i => (deps.getD i []).all fun j => decide (τ.idxOf j < τ.idxOf i)
def forwardB : List (List Nat) → Nat → Bool
  | [], _ => true
  | d :: r, i => d.all (fun j => decide (j < i)) && forwardB r (i + 1)
def drawOk (ops : Array Oper) (dl : List DOper) (alts : List (List Nat)) : Bool :=
  let deps := depsOf ops
  let clo := closureOf deps []
  let orders := List.range ops.size :: alts
  forwardB deps 0 && orders.all (goodOrder ops.size deps) && (orients (conflicts ops.size clo dl)).all fun ε => incons clo ε || orders.any (agrees · ε)
def ordered (dl : List DOper) (τ : List Nat) : List DOper := τ.map fun i => dl.getD i default

def trCode (M : Marks) : Code → Option ACode
  | .skip => some .skip
  | .region id ops draw => match ops.toList.mapM (trOper P M.imm ops) with
    | none => none
    | some dl => if draw then (if P.follows .mixedOrders && drawOk ops dl (M.alts id) then some (.draw dl ((M.alts id).map (ordered dl))) else none) else some (.region dl)
  | .seq a b => match trCode M a, trCode M b with
    | some a, some b => some (.seq a b)
    | _, _ => none
  | .cond c t e => match trOpd P 4 c, trCode M t, trCode M e with
    | some c, some t, some e => some (.cond c t e)
    | _, _, _ => none
  | .block id b => (trCode M b).map (.block id)
  | .loop b => (trCode M b).map (.loop (M.cut (firstRegion b)) (M.hd (firstRegion b)) (M.ex (firstRegion b)))
  | .rangeFunc f ps as bd => match trOpd P 0 f, trCode M as, trCode M bd with
    | some f, some A, some B => if A.noRange && B.noRange then some (.rangeFn f ps.toList (M.sn (firstRegion bd)) A B) else none
    | _, _, _ => none
  | .exit id => some (.exit id)
  | .ret => some .ret
  | .refuse _ => some .stuck
  | .scope c => trCode M c
  | .label _ => some .skip
  | .goto _ => some .stuck

def trRes : ResultVar → Option DRes
  | .tmp t => some (.tmp t)
  | .cell a t => (isAggB P t).map fun n => .cell n a

def trFunc (M : Marks) (coe : Bool) (F : Func) : Option AFunc :=
  match F.body, F.results.toList.mapM (trRes P) with
  | some b, some rs => (trCode P M b).map fun c => { ntmps := F.ntmps, results := rs, body := c, coe := coe, keep := M.keep }
  | _, _ => none
end

/-! ### Memory -/
/-- How a loop's record stands. -/
def LSt.fits : LSt → LoopState → Option Code → Prop
  | .ready, .ready, none => True
  | .busy, .busy, none => True
  | .done (some i), .done, some (.exit j) => i = j
  | .done none, .done, some .ret => True
  | _, _, _ => False
structure LoopOk (P : Program) (ps : List Nat) (as bd : ACode) (st : LSt) (r : Loop) : Prop where
  params : r.params.toList = ps
  code : ∃ M, trCode P M r.assign = some as ∧ trCode P M r.body = some bd
  norange : as.noRange = true ∧ bd.noRange = true
  state : st.fits r.state r.pending

/-- What is known of the program's own variables. -/
abbrev Glob := Nat → Nat → Option Value → Prop
/-- What lies there, of a row that is stored into, of a map. -/
def OwnOk (S : Settled) (w : World) (ri : RI) (r : Res) : Prop := match r with
  | .vec sz l fz et => ∃ b C c e, ri = .vec b C sz ∧ w.heap[b]? = some (.cells c e (0, 0)) ∧ 0 < sz ∧ (et = 0 ∨ e = et) ∧ C * sz ≤ c.size ∧ l.length ≤ C ∧ fz ≤ l.length ∧ (∀ x, fz * sz ≤ x → ¬ S b x) ∧
    ∀ (k : Nat) (c' : List FV), l[k]? = some c' → c'.length = sz ∧ ∀ (j : Nat) (x : FV), c'[j]? = some x → x.one = true ∧ RepF S w (c.getD (k * sz + j) undef) x
  | .map l => ∃ b es ck, ri = .box b ∧ w.heap[b]? = some (.map es ck) ∧ es.size = l.length ∧ (∀ o, ¬ S b o) ∧
    ∀ (j : Nat) (k v : FV), l[j]? = some (k, v) → ∃ e, es[j]? = some e ∧ RepF S w e.key k ∧ RepF S w e.val v
  | _ => True
structure Inv (P : Program) (G : Glob) (S : Settled) (ρ : List RI) (h : List Res) (w : World) : Prop where
  len : ρ.length = h.length
  bound : ∀ b o, S b o → b < w.heap.size
  glob : ∀ b o v, G b o v → S b o ∧ w.cell? ⟨b, o, none⟩ = v
  low : ∀ (i b : Nat) (r : RI), ρ[i]? = some r → r.block = some b → b < w.heap.size
  apart : ∀ (i j b : Nat) (r r' : RI), ρ[i]? = some r → ρ[j]? = some r' → r.block = some b → r'.block = some b → i = j
  box : ∀ (i : Nat) (cells : List DV) (tag : Nat), h[i]? = some (.box cells tag) → ∃ b c e, ρ[i]? = some (.box b) ∧ w.heap[b]? = some (.cells c e (0, 0)) ∧ (c.size = cells.length ∧ (tag = 0 ∨ e = tag)) ∧
    (∀ (j : Nat) (x : DV), cells[j]? = some x → x.one = true ∧ x.low (i + 1) = true ∧ RepD S ρ h w (c.getD j undef) x) ∧ ∀ o, ¬ S b o
  nilrow : ∀ (i : Nat), h[i]? = some Res.nilrow → ρ[i]? = some (RI.row (.slice none 0 0))
  row : ∀ (i sz n et : Nat), h[i]? = some (.row sz n et) → ∃ b o cap c e, ρ[i]? = some (.row (.slice (some ⟨b, o, none⟩) n cap)) ∧ w.heap[b]? = some (.cells c e (0, 0)) ∧ (0 < sz ∧ (et = 0 ∨ (e = et ∧ o = 0))) ∧ n ≤ cap ∧ o + cap * sz ≤ c.size ∧
    ∀ x, o + n * sz ≤ x → ¬ S b x
  iter : ∀ (i : Nat) (s : ByteArray) (pos : Nat), h[i]? = some (.iter s pos) → ∃ b, ρ[i]? = some (.box b) ∧ w.heap[b]? = some (.stringIter s pos)
  loop : ∀ (i : Nat) (ps : List Nat) (as bd : ACode) (snap : List DV) (st : LSt), h[i]? = some (.loop ps as bd snap st) → ∃ b r, ρ[i]? = some (.box b) ∧ w.heap[b]? = some (.loop r) ∧ LoopOk P ps as bd st r ∧ r.tmps.size = snap.length ∧
    (∀ (j : Nat) (x : DV), snap[j]? = some x → x.low i = true ∧ RepD S ρ h w (r.tmps.getD j undef) x)
  own : ∀ (i : Nat) (r : Res), h[i]? = some r → ∃ ri, ρ[i]? = some ri ∧ OwnOk S w ri r
theorem OwnOk.mono {S S' : Settled} {w w' : World} {ri : RI} {r : Res} (settled : ∀ b o, S b o → S' b o) (cells : ∀ b o, S b o → w'.cell? ⟨b, o, none⟩ = w.cell? ⟨b, o, none⟩)
    (hb : ∀ b, ri.block = some b → w'.heap[b]? = w.heap[b]? ∧ ∀ o, S' b o → S b o) (h : OwnOk S w ri r) : OwnOk S' w' ri r := by
  cases r with
  | vec sz l fz et =>
    obtain ⟨b, C, c, e, rfl, g2, g3, g4, g5, g6, g7, g8, g9⟩ := h
    obtain ⟨o1, o2⟩ := hb b rfl
    exact ⟨b, C, c, e, rfl, by rw [o1]; exact g2, g3, g4, g5, g6, g7, fun x hx hs => g8 x hx (o2 x hs), fun k c' hk => ⟨(g9 k c' hk).1, fun j x hx => ⟨((g9 k c' hk).2 j x hx).1, ((g9 k c' hk).2 j x hx).2.mono settled cells⟩⟩⟩
  | map l =>
    obtain ⟨b, es, ck, rfl, g2, g3, g4, g5⟩ := h
    obtain ⟨o1, o2⟩ := hb b rfl
    exact ⟨b, es, ck, rfl, by rw [o1]; exact g2, g3, fun o ho => g4 o (o2 o ho), fun j k v hj => by
      obtain ⟨e, h1, h2, h3⟩ := g5 j k v hj
      exact ⟨e, h1, h2.mono settled cells, h3.mono settled cells⟩⟩
  | _ => trivial

end Go.Deepv
