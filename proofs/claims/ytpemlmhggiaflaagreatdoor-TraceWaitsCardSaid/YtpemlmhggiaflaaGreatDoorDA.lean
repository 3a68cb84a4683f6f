/-
  Deep values: what a Go value says, without memory; the relation of a machine's value and a deep value; what keeps it.
  Conditions: none.
-/
import Derived.Laws.Cells
import Derived.Laws.IdiomCopy
import Derived.Below
namespace Go.Deepv

/-- Data that nobody turns any more. A slice: its elements, each as its cells. 'ref': a pointer into cells that are settled. -/
inductive FV where
  | int (k : IntKind) (n : Int)
  | bool (b : Bool)
  | str (s : ByteArray)
  | slice (sz : Nat) (elems : List (List FV))
  | agg (cells : List FV)
  | ref (cells : List FV) (off : Nat)
  | nilp
  | iface (t : TypeId) (v : FV)
  | nili
  | func (fn : Fn) (first captured : List FV)
  | nilf
  | tup (vs : List FV)
  | undef
  | nils (sz : Nat)
  deriving Inhabited

/-- What stands in a slot: data; a pointer to a block of the call's own; a row that may grow; what is made of these. -/
inductive DV where
  | d (v : FV)
  | ptr (id off : Nat)
  | row (sz : Nat) (elems : List (List FV)) (t : Nat)
  | agg (cells : List DV)
  | clo (fn : Fn) (first captured : List DV)
  | tup (vs : List DV)
  | iface (t : TypeId) (v : DV)
  | yld (id : Nat)
  | rptr (elems : List (List FV)) (t : Nat)
  | bslc (id off n : Nat)
  | vslc (id g sz off n : Nat)
  | eptr (id g k o : Nat)
  | mref (id : Nat)
  deriving Inhabited

inductive Opd where
  | tmp (t : Nat)
  | con (v : FV)
  | fn (f : FuncId)
  deriving Inhabited

inductive DOp where
  | mv (x : Opd)
  | nilrow (sz : Nat)
  | pick (c a b : Opd)
  | box (imm : Bool) (x : Opd)
  | alloc (zero : List (Except Nat FV)) (tag : Nat := 0)
  | load (n : Option Nat) (a : Opd)
  | store (n : Nat) (a x : Opd)
  | storen (n : Nat) (a x : Opd)
  | bin (op : BinOp) (x y : Opd)
  | eqb (neq : Bool) (x y : Opd)
  | isnil (k : Nat) (neq : Bool) (x : Opd)
  | un (op : UnOp) (x : Opd)
  | cvt (k : IntKind) (x : Opd)
  | bstr (x : Opd)
  | addOff (off : Nat) (x : Opd)
  | fld (n : Option Nat) (off : Nat) (x : Opd)
  | idxAddr (sz : Nat) (x i : Opd)
  | idxArr (len sz : Nat) (x i : Opd)
  | idxStr (x i : Opd)
  | len (str : Bool) (x : Opd)
  | slcStr (x : Opd) (lo hi : Option Opd)
  | slc (sz : Nat) (x : Opd) (lo hi : Option Opd)
  | ext (i : Nat) (x : Opd)
  | lit (imm : Bool) (et sz len : Nat) (zero : List FV) (parts : List (Nat × Opd))
  | build (zero : List FV) (parts : List (Nat × Nat × Opd))
  | app (str : Bool) (et sz bytes : Nat) (s x : Opd)
  | eqs (neq : Bool) (ks : List Nat) (x y : Opd)
  | rng (x : Opd)
  | next (x : Opd)
  | sbytes (x : Opd)
  | rstr (x : Opd)
  | tass (t : TypeId) (comma : Bool) (zero : FV) (x : Opd)
  | usd (x : Opd)
  | mark (x : Opd)
  | ustr (et : Nat) (x n : Opd)
  | mnmx (max : Bool) (xs : List Opd)
  | call (f : Opd) (args : List Opd)
  | mkf (fn : Fn) (first captured : List Opd)
  | nilchk (x : Opd)
  | mki (t : TypeId) (x : Opd)
  | panic (x : Opd)
  | calln (sz : Nat) (f : Opd) (args : List Opd)
  | idxB (x y : Opd)
  | slcA (len sz : Nat) (x : Opd) (lo hi : Option Opd)
  | idxVal (len : Nat) (sz : Nat) (n : Option Nat) (x i : Opd)
  | calld (f : Opd) (args : List Opd)
  | vlit (et sz len : Nat) (zero : List FV) (parts : List (Nat × Opd))
  | vmake (imm : Bool) (et sz bytes : Nat) (zero : List FV) (n c : Opd)
  | vapp (et sz bytes : Nat) (s x : Opd)
  | frz (x : Opd)
  | mkmap
  | mlook (comma : Bool) (kz zero : FV) (x i : Opd)
  | mupd (kz : FV) (x k v : Opd)
  | stuck
  deriving Inhabited

structure DOper where
  dst : Option Nat
  op : DOp
  guard : Option (Nat × Bool) := none
  deriving Inhabited

inductive ACode where
  | skip
  | region (ops : List DOper)
  | draw (ops : List DOper) (alts : List (List DOper))
  | seq (a b : ACode)
  | cond (c : Opd) (thn els : ACode)
  | block (id : Nat) (body : ACode)
  | loop (cut : Bool) (hd ex : List Bool) (body : ACode)
  | rangeFn (f : Opd) (ps : List Nat) (sn : List Bool) (as bd : ACode)
  | exit (id : Nat)
  | ret
  | stuck
  deriving Inhabited

/-- How the loop of a range over a function stands. -/
inductive LSt where
  | ready
  | busy
  | done (jump : Option Nat)
  deriving Inhabited

/-- What is the call's own in memory. -/
inductive Res where
  | box (cells : List DV) (tag : Nat := 0)
  | nilrow
  | row (sz n : Nat) (et : Nat := 0)
  | iter (s : ByteArray) (pos : Nat)
  | loop (ps : List Nat) (as bd : ACode) (snap : List DV) (st : LSt)
  | vec (sz : Nat) (l : List (List FV)) (fz : Nat) (et : Nat)
  | map (l : List (FV × FV))
  | dead
  deriving Inhabited

def Res.tip : Res → Option Nat
  | .nilrow => some 0
  | .row _ n _ => some n
  | .vec _ l _ _ => some l.length
  | _ => none

/-- Where it lies. -/
inductive RI where
  | box (b : Nat)
  | row (v : Value)
  | vec (b C sz : Nat)
  | none

def RI.block : RI → Option Nat
  | .box b => some b
  | .row (.slice (some a) _ _) => some a.block
  | .vec b _ _ => some b
  | _ => .none

def RI.isRow : RI → Bool
  | .row _ => true
  | .vec _ _ _ => true
  | _ => false

abbrev Settled := Nat → Nat → Prop

/-- One cell's worth. -/
def FV.one : FV → Bool
  | .agg _ | .tup _ | .undef => false
  | _ => true

inductive RepF (S : Settled) (w : World) : Value → FV → Prop
  | int (k : IntKind) (n : Int) : RepF S w (.int k n) (.int k n)
  | bool (b : Bool) : RepF S w (.bool b) (.bool b)
  | str (s : ByteArray) : RepF S w (.string s) (.str s)
  | slice0 (A : Option Addr) (cap sz : Nat) : RepF S w (.slice A 0 cap) (.slice sz [])
  | slice (b o n cap sz : Nat) (elems : List (List FV)) (u : Nat → Nat → Value) (hn : elems.length = n) (hcap : n ≤ cap)
      (hsz : ∀ (i : Nat) (c : List FV), elems[i]? = some c → c.length = sz)
      (hc : ∀ i j, i < n → j < sz → S b (o + i * sz + j) ∧ w.cell? ⟨b, o + i * sz + j, none⟩ = some (u i j))
      (hr : ∀ (i j : Nat) (c : List FV) (x : FV), elems[i]? = some c → c[j]? = some x → RepF S w (u i j) x)
      (h1 : ∀ (i j : Nat) (c : List FV) (x : FV), elems[i]? = some c → c[j]? = some x → x.one = true) :
      RepF S w (.slice (some ⟨b, o, none⟩) n cap) (.slice sz elems)
  | agg (cs : Array Value) (fs : List FV) (hl : cs.size = fs.length) (h : ∀ (j : Nat) (x : FV), fs[j]? = some x → RepF S w (cs.getD j undef) x) : RepF S w (.agg cs) (.agg fs)
  | ref (b o off : Nat) (cells : List FV) (u : Nat → Value) (hc : ∀ j, j < cells.length → S b (o + j) ∧ w.cell? ⟨b, o + j, none⟩ = some (u j))
      (hr : ∀ (j : Nat) (x : FV), cells[j]? = some x → RepF S w (u j) x)
      (h1 : ∀ (j : Nat) (x : FV), cells[j]? = some x → x.one = true) : RepF S w (.pointer (some ⟨b, o + off, none⟩)) (.ref cells off)
  | nilp : RepF S w (.pointer none) .nilp
  | iface (t : TypeId) (v : Value) (x : FV) (h : RepF S w v x) : RepF S w (.iface t v) (.iface t x)
  | nili : RepF S w .nilIface .nili
  | func (fn : Fn) (p q : Array Value) (fp fq : List FV) (hp : p.size = fp.length) (hq : q.size = fq.length)
      (h1 : ∀ (j : Nat) (x : FV), fp[j]? = some x → RepF S w (p.getD j undef) x) (h2 : ∀ (j : Nat) (x : FV), fq[j]? = some x → RepF S w (q.getD j undef) x) : RepF S w (.func fn p q) (.func fn fp fq)
  | nilf : RepF S w .nilFunc .nilf
  | tup (cs : Array Value) (fs : List FV) (hl : cs.size = fs.length) (h : ∀ (j : Nat) (x : FV), fs[j]? = some x → RepF S w (cs.getD j undef) x) : RepF S w (.tuple cs) (.tup fs)
  | undef (v : Value) : RepF S w v .undef
  | nils (sz : Nat) : RepF S w (.slice none 0 0) (.nils sz)

theorem RepF.mono {S S' : Settled} {w w' : World} (hS : ∀ b o, S b o → S' b o) (hw : ∀ b o, S b o → w'.cell? ⟨b, o, none⟩ = w.cell? ⟨b, o, none⟩) {v : Value} {x : FV} (h : RepF S w v x) : RepF S' w' v x := by
  induction h with
  | int k n => exact .int k n
  | bool b => exact .bool b
  | str s => exact .str s
  | slice0 A cap sz => exact .slice0 A cap sz
  | slice b o n cap sz elems u hn hcap hsz hc hr h1 ih =>
    exact .slice b o n cap sz elems u hn hcap hsz (fun i j hi hj => ⟨hS _ _ (hc i j hi hj).1, by rw [hw _ _ (hc i j hi hj).1]; exact (hc i j hi hj).2⟩) ih h1
  | agg cs fs hl h ih => exact .agg cs fs hl ih
  | ref b o off cells u hc hr h1 ih => exact .ref b o off cells u (fun j hj => ⟨hS _ _ (hc j hj).1, by rw [hw _ _ (hc j hj).1]; exact (hc j hj).2⟩) ih h1
  | nilp => exact .nilp
  | iface t v x h ih => exact .iface t v x ih
  | nili => exact .nili
  | func fn p q fp fq hp hq h1 h2 ih1 ih2 => exact .func fn p q fp fq hp hq ih1 ih2
  | nilf => exact .nilf
  | tup cs fs hl h ih => exact .tup cs fs hl ih
  | undef v => exact .undef v
  | nils sz => exact .nils sz

theorem RepF.one {S : Settled} {w : World} {v : Value} {x : FV} (h : RepF S w v x) (hx : x.one = true) : v.oneCell' = true := by
  cases h <;> simp_all [FV.one, Value.oneCell']

/-- ρ: where the call's own things lie; h: what they are. -/
inductive RepD (S : Settled) (ρ : List RI) (h : List Res) (w : World) : Value → DV → Prop
  | d (v : Value) (x : FV) (hx : RepF S w v x) : RepD S ρ h w v (.d x)
  | ptr (id off b : Nat) (hb : ρ[id]? = some (.box b)) : RepD S ρ h w (.pointer (some ⟨b, off, none⟩)) (.ptr id off)
  | row (v : Value) (sz : Nat) (elems : List (List FV)) (t : Nat) (hx : RepF S w v (.slice sz elems)) (ht : t < h.length)
      (hr : ∀ n, (h[t]?).bind Res.tip = some n → elems.length ≤ n ∧ (elems.length = n → ρ[t]? = some (.row v))) : RepD S ρ h w v (.row sz elems t)
  | agg (cs : Array Value) (fs : List DV) (hl : cs.size = fs.length) (hh : ∀ (j : Nat) (x : DV), fs[j]? = some x → RepD S ρ h w (cs.getD j undef) x) : RepD S ρ h w (.agg cs) (.agg fs)
  | clo (fn : Fn) (p q : Array Value) (fp fq : List DV) (hp : p.size = fp.length) (hq : q.size = fq.length)
      (h1 : ∀ (j : Nat) (x : DV), fp[j]? = some x → RepD S ρ h w (p.getD j undef) x) (h2 : ∀ (j : Nat) (x : DV), fq[j]? = some x → RepD S ρ h w (q.getD j undef) x) : RepD S ρ h w (.func fn p q) (.clo fn fp fq)
  | tup (cs : Array Value) (fs : List DV) (hl : cs.size = fs.length) (hh : ∀ (j : Nat) (x : DV), fs[j]? = some x → RepD S ρ h w (cs.getD j undef) x) : RepD S ρ h w (.tuple cs) (.tup fs)
  | iface (t : TypeId) (v : Value) (x : DV) (hh : RepD S ρ h w v x) : RepD S ρ h w (.iface t v) (.iface t x)
  | yld (id b : Nat) (hb : ρ[id]? = some (.box b)) : RepD S ρ h w (.func (.yield b) #[] #[]) (.yld id)
  | bslc (id off n cap b : Nat) (hc : n ≤ cap) (hb : ρ[id]? = some (.box b)) : RepD S ρ h w (.slice (some ⟨b, off, none⟩) n cap) (.bslc id off n)
  | rptr (A p : Option Addr) (n cap : Nat) (elems : List (List FV)) (t : Nat) (hx : RepF S w (.slice A n cap) (.slice 1 elems)) (hp : elems ≠ [] → p = A) (ht : t < h.length)
      (hr : ∀ n', (h[t]?).bind Res.tip = some n' → elems.length ≤ n' ∧ (elems.length = n' → ρ[t]? = some (.row (.slice A n cap)))) : RepD S ρ h w (.pointer p) (.rptr elems t)
  | vslc (b o cap id g sz off n : Nat) (hc : n ≤ cap) (ht : id < h.length) (hr : ∀ m, (h[id]?).bind Res.tip = some m → g ≤ m ∧ (g = m → ∃ C, ρ[id]? = some (.vec b C sz) ∧ o = off * sz ∧ cap = C - off ∧ off + n ≤ m)) : RepD S ρ h w (.slice (some ⟨b, o, none⟩) n cap) (.vslc id g sz off n)
  | eptr (b o' id g k o : Nat) (ht : id < h.length) (hr : ∀ m, (h[id]?).bind Res.tip = some m → g ≤ m ∧ (g = m → ∃ C sz, ρ[id]? = some (.vec b C sz) ∧ o' = k * sz + o)) : RepD S ρ h w (.pointer (some ⟨b, o', none⟩)) (.eptr id g k o)
  | mref (id b : Nat) (hb : ρ[id]? = some (.box b)) : RepD S ρ h w (.map (some b)) (.mref id)

/-- What a step may turn, and what it keeps. -/
structure Ext (S : Settled) (ρ : List RI) (h : List Res) (w : World) (S' : Settled) (ρ' : List RI) (h' : List Res) (w' : World) : Prop where
  settled : ∀ b o, S b o → S' b o
  cells : ∀ b o, S b o → w'.cell? ⟨b, o, none⟩ = w.cell? ⟨b, o, none⟩
  len : h.length ≤ h'.length
  boxes : ∀ (id b : Nat), ρ[id]? = some (.box b) → ρ'[id]? = some (.box b)
  rows : ∀ (t n' : Nat), t < h.length → (h'[t]?).bind Res.tip = some n' → ∃ n, (h[t]?).bind Res.tip = some n ∧ n ≤ n' ∧ (n = n' → ρ'[t]? = ρ[t]?)
  size : w.heap.size ≤ w'.heap.size
  os : w'.os = w.os
  tape : w'.tape = w.tape
  output : w'.output = w.output
  frame : ∀ b, b < w.heap.size → (∀ (i : Nat) (r : RI), ρ[i]? = some r → r.block ≠ some b) → w'.heap[b]? = w.heap[b]?
  blocks : ∀ (i b : Nat) (r : RI), ρ'[i]? = some r → r.block = some b → w.heap.size ≤ b ∨ ∃ (j : Nat) (r0 : RI), ρ[j]? = some r0 ∧ r0.block = some b ∧ (r.isRow = true → r0.isRow = true)
  fresh : ∀ b o, S' b o → S b o ∨ w.heap.size ≤ b ∨ ∃ (i : Nat) (r : RI), ρ[i]? = some r ∧ r.isRow = true ∧ r.block = some b

theorem RepD.monoW {S S' : Settled} {ρ ρ' : List RI} {h h' : List Res} {w w' : World} (settled : ∀ b o, S b o → S' b o) (cells : ∀ b o, S b o → w'.cell? ⟨b, o, none⟩ = w.cell? ⟨b, o, none⟩) (len : h.length ≤ h'.length) (boxes : ∀ (id b : Nat), ρ[id]? = some (.box b) → ρ'[id]? = some (.box b))
    (rows : ∀ (t n' : Nat), t < h.length → (h'[t]?).bind Res.tip = some n' → ∃ n, (h[t]?).bind Res.tip = some n ∧ n ≤ n' ∧ (n = n' → ρ'[t]? = ρ[t]?)) {v : Value} {x : DV} (hx : RepD S ρ h w v x) : RepD S' ρ' h' w' v x := by
  induction hx with
  | d v x hx => exact .d v x (hx.mono settled cells)
  | ptr id off b hb => exact .ptr id off b (boxes _ _ hb)
  | row v sz elems t hx ht hr =>
    refine .row v sz elems t (hx.mono settled cells) (Nat.lt_of_lt_of_le ht len) fun n' hn' => ?_
    obtain ⟨n, hn, hle, he⟩ := rows t n' ht hn'
    obtain ⟨h1, h2⟩ := hr n hn
    refine ⟨by omega, fun hl => ?_⟩
    have : n = n' := by omega
    rw [he this]
    exact h2 (by omega)
  | agg cs fs hl hh ih => exact .agg cs fs hl ih
  | clo fn p q fp fq hp hq h1 h2 ih1 ih2 => exact .clo fn p q fp fq hp hq ih1 ih2
  | tup cs fs hl hh ih => exact .tup cs fs hl ih
  | iface t v x hh ih => exact .iface t v x ih
  | yld id b hb => exact .yld id b (boxes _ _ hb)
  | bslc id off n cap b hc hb => exact .bslc id off n cap b hc (boxes _ _ hb)
  | rptr A p n cap elems t hx hp ht hr =>
    refine .rptr A p n cap elems t (hx.mono settled cells) hp (Nat.lt_of_lt_of_le ht len) fun n' hn' => ?_
    obtain ⟨n, hn, hle, he⟩ := rows t n' ht hn'
    obtain ⟨h1, h2⟩ := hr n hn
    refine ⟨by omega, fun hl => ?_⟩
    have : n = n' := by omega
    rw [he this]
    exact h2 (by omega)
  | vslc b o cap id g sz off n hc ht hr =>
    refine .vslc b o cap id g sz off n hc (Nat.lt_of_lt_of_le ht len) fun n' hn' => ?_
    obtain ⟨n, hn, hle, he⟩ := rows id n' ht hn'
    obtain ⟨h1, h2⟩ := hr n hn
    refine ⟨by omega, fun hl => ?_⟩
    have : n = n' := by omega
    subst this
    rw [he rfl]
    exact h2 (by omega)
  | eptr b o' id g k o ht hr =>
    refine .eptr b o' id g k o (Nat.lt_of_lt_of_le ht len) fun n' hn' => ?_
    obtain ⟨n, hn, hle, he⟩ := rows id n' ht hn'
    obtain ⟨h1, h2⟩ := hr n hn
    refine ⟨by omega, fun hl => ?_⟩
    have : n = n' := by omega
    subst this
    rw [he rfl]
    exact h2 (by omega)
  | mref id b hb => exact .mref id b (boxes _ _ hb)
theorem RepD.mono {S S' : Settled} {ρ ρ' : List RI} {h h' : List Res} {w w' : World} (E : Ext S ρ h w S' ρ' h' w') {v : Value} {x : DV} (hx : RepD S ρ h w v x) : RepD S' ρ' h' w' v x :=
  hx.monoW E.settled E.cells E.len E.boxes E.rows

/-- One cell's worth. -/
def DV.one : DV → Bool
  | .d x => x.one
  | .agg _ | .tup _ => false
  | _ => true
theorem RepD.one {S : Settled} {ρ : List RI} {h : List Res} {w : World} {v : Value} {x : DV} (hx : RepD S ρ h w v x) (h1 : x.one = true) : v.oneCell' = true := by
  cases hx with
  | d v x hx => exact hx.one h1
  | row v sz elems t hx ht hr => exact hx.one rfl
  | _ => simp_all [DV.one, Value.oneCell']

end Go.Deepv
