/-
  Deep values: what a Go value says, without memory; the relation of a machine's value and a deep value; what keeps it; The deep machine: what a function's code does to deep values, without memory; its limit over all numbers of rounds; From a function's code to the deep machine's code; the relation of the machine's memory and the deep machine's; What each kind of step keeps: the relation of the machine's memory and the deep machine's, step by step; Operations that make no memory: the deep machine's answer is the machine's; Operations that make no memory, kind by kind: the deep machine's answer is the machine's; Operations that make no memory, more kinds: slices cut, tuples, structs built, least and greatest, function values, interface values; Operations that make or turn memory: variables, stores, literals, appends; Operations that turn memory: stores into a variable of the call's own, appends to a row of the call's own
  Conditions: none.
-/
import Derived.Laws.Cells
import Derived.Laws.IdiomCopy
import Derived.Below
import Derived.Laws.BytesArg
import Derived.Lib.Bytealg
import Derived.WalkKit
import Derived.Laws.StructEq
import Derived.Laws.CopyRow
namespace Go.Deepv
inductive FV where
 | int (k : IntKind) (n : Int)
 | bool (b : Bool)
 | str (s : ByteArray)
 | slice (sz : Nat) (elems : List (List FV))
 | agg (cells : List FV)
 | ref (cells : List FV) (off : Nat)
 | nilp
 | iface (t : TypeId) (v : FV)
 | nili
 | func (fn : Fn) (first captured : List FV)
 | nilf
 | tup (vs : List FV)
 | undef
 | nils (sz : Nat)
 | fulls (sz : Nat) (elems : List (List FV))
 | nonn (sz : Nat)
 | nilm
 | nilx (sz : Nat)
 deriving Inhabited
inductive DV where
 | d (v : FV)
 | ptr (id off : Nat)
 | row (sz : Nat) (elems : List (List FV)) (t : Nat)
 | agg (cells : List DV)
 | clo (fn : Fn) (first captured : List DV)
 | tup (vs : List DV)
 | iface (t : TypeId) (v : DV)
 | yld (id : Nat)
 | rptr (elems : List (List FV)) (t : Nat)
 | bslc (id off n : Nat)
 | vslc (id g sz off n : Nat)
 | eptr (id g k o : Nat)
 | mref (id : Nat)
 deriving Inhabited
inductive Opd where
 | tmp (t : Nat)
 | con (v : FV)
 | fn (f : FuncId)
 deriving Inhabited
inductive DOp where
 | mv (x : Opd)
 | nilrow (sz : Nat)
 | pick (c a b : Opd)
 | box (imm : Bool) (x : Opd)
 | alloc (zero : List (Except Nat FV)) (tag : Nat := 0)
 | load (n : Option Nat) (a : Opd)
 | loadk (n : Option Nat) (a : Opd)
 | store (n : Nat) (a x : Opd)
 | storen (n : Nat) (a x : Opd)
 | bin (op : BinOp) (x y : Opd)
 | eqb (neq : Bool) (x y : Opd)
 | isnil (k : Nat) (neq : Bool) (x : Opd)
 | un (op : UnOp) (x : Opd)
 | cvt (k : IntKind) (x : Opd)
 | bstr (x : Opd)
 | addOff (off : Nat) (x : Opd)
 | fld (n : Option Nat) (off : Nat) (x : Opd)
 | idxAddr (sz : Nat) (x i : Opd)
 | idxArr (len sz : Nat) (x i : Opd)
 | idxStr (x i : Opd)
 | len (str : Bool) (x : Opd)
 | slcStr (x : Opd) (lo hi : Option Opd)
 | slc (sz : Nat) (x : Opd) (lo hi : Option Opd)
 | ext (i : Nat) (x : Opd)
 | lit (imm : Bool) (et sz len : Nat) (zero : List FV) (parts : List (Nat × Opd))
 | build (zero : List FV) (parts : List (Nat × Nat × Opd))
 | app (str : Bool) (et sz bytes : Nat) (s x : Opd)
 | eqs (neq : Bool) (ks : List Nat) (x y : Opd)
 | rng (x : Opd)
 | next (x : Opd)
 | sbytes (x : Opd)
 | rstr (x : Opd)
 | tass (t : TypeId) (comma : Bool) (zero : FV) (x : Opd)
 | usd (x : Opd)
 | mark (x : Opd)
 | ustr (et : Nat) (x n : Opd)
 | mnmx (max : Bool) (xs : List Opd)
 | call (f : Opd) (args : List Opd)
 | mkf (fn : Fn) (first captured : List Opd)
 | nilchk (x : Opd)
 | mki (t : TypeId) (x : Opd)
 | panic (x : Opd)
 | calln (sz : Nat) (f : Opd) (args : List Opd)
 | idxB (x y : Opd)
 | slcA (len sz : Nat) (x : Opd) (lo hi : Option Opd)
 | idxVal (len : Nat) (sz : Nat) (n : Option Nat) (x i : Opd)
 | calld (f : Opd) (args : List Opd)
 | vlit (et sz len : Nat) (zero : List FV) (parts : List (Nat × Opd))
 | vmake (imm : Bool) (et sz bytes : Nat) (zero : List FV) (n c : Opd)
 | vapp (et sz bytes : Nat) (s x : Opd)
 | frz (x : Opd)
 | mkmap
 | mlook (comma : Bool) (kz zero : FV) (x i : Opd)
 | mupd (kz : FV) (x k v : Opd)
 | slc3 (sz : Nat) (x : Opd) (lo : Option Opd) (hi mx : Opd)
 | slcn (sz : Nat) (x : Opd) (lo hi : Option Opd)
 | capn (x : Opd)
 | boxn (x : Opd)
 | lenm (x : Opd)
 | vappn (et sz bytes : Nat) (zero : List FV) (s n : Opd)
 | stuck
 deriving Inhabited
structure DOper where
 dst : Option Nat
 op : DOp
 guard : Option (Nat × Bool) := none
 deriving Inhabited
inductive ACode where
 | skip
 | region (ops : List DOper)
 | draw (ops : List DOper) (alts : List (List DOper))
 | seq (a b : ACode)
 | cond (c : Opd) (thn els : ACode)
 | block (id : Nat) (body : ACode)
 | loop (cut : Bool) (hd ex : List Bool) (body : ACode)
 | rangeFn (f : Opd) (ps : List Nat) (sn : List Bool) (as_ bd : ACode)
 | exit (id : Nat)
 | ret
 | stuck
 deriving Inhabited
inductive LSt where
 | ready
 | busy
 | done (jump : Option Nat)
 deriving Inhabited
inductive Res where
 | box (cells : List DV) (tag : Nat := 0)
 | nilrow
 | row (sz n : Nat) (et : Nat := 0)
 | iter (s : ByteArray) (pos : Nat)
 | loop (ps : List Nat) (as_ bd : ACode) (snap : List DV) (st : LSt)
 | vec (sz : Nat) (l : List (List FV)) (fz : Nat) (et : Nat)
 | map (l : List (FV × FV))
 | dead
 deriving Inhabited
def Res.tip : Res → Option Nat
 | .nilrow => some 0
 | .row _ n _ => some n
 | .vec _ l _ _ => some l.length
 | _ => none
inductive RI where
 | box (b : Nat)
 | row (v : Value)
 | vec (b C sz : Nat)
 | none
def RI.block : RI → Option Nat
 | .box b => some b
 | .row (.slice (some a) _ _) => some a.block
 | .vec b _ _ => some b
 | _ => .none
def RI.isRow : RI → Bool
 | .row _ => true
 | .vec _ _ _ => true
 | _ => false
abbrev Settled := Nat → Nat → Prop
def FV.one : FV → Bool
 | .agg _ | .tup _ | .undef => false
 | _ => true
inductive RepF (S : Settled) (w : World) : Value → FV → Prop
 | int (k : IntKind) (n : Int) : RepF S w (.int k n) (.int k n)
 | bool (b : Bool) : RepF S w (.bool b) (.bool b)
 | str (s : ByteArray) : RepF S w (.string s) (.str s)
 | slice0 (A : Option Addr) (cap sz : Nat) : RepF S w (.slice A 0 cap) (.slice sz [])
 | slice (b o n cap sz : Nat) (elems : List (List FV)) (u : Nat → Nat → Value) (hn : elems.length = n) (hcap : n ≤ cap)
   (hsz : ∀ (i : Nat) (c : List FV), elems[i]? = some c → c.length = sz)
   (hc : ∀ i j, i < n → j < sz → S b (o + i * sz + j) ∧ w.cell? ⟨b, o + i * sz + j, none⟩ = some (u i j))
   (hr : ∀ (i j : Nat) (c : List FV) (x : FV), elems[i]? = some c → c[j]? = some x → RepF S w (u i j) x)
   (h1 : ∀ (i j : Nat) (c : List FV) (x : FV), elems[i]? = some c → c[j]? = some x → x.one = true) :
   RepF S w (.slice (some ⟨b, o, none⟩) n cap) (.slice sz elems)
 | agg (cs : Array Value) (fs : List FV) (hl : cs.size = fs.length) (h : ∀ (j : Nat) (x : FV), fs[j]? = some x → RepF S w (cs.getD j undef) x) : RepF S w (.agg cs) (.agg fs)
 | ref (b o off : Nat) (cells : List FV) (u : Nat → Value) (hc : ∀ j, j < cells.length → S b (o + j) ∧ w.cell? ⟨b, o + j, none⟩ = some (u j))
   (hr : ∀ (j : Nat) (x : FV), cells[j]? = some x → RepF S w (u j) x)
   (h1 : ∀ (j : Nat) (x : FV), cells[j]? = some x → x.one = true) : RepF S w (.pointer (some ⟨b, o + off, none⟩)) (.ref cells off)
 | nilp : RepF S w (.pointer none) .nilp
 | iface (t : TypeId) (v : Value) (x : FV) (h : RepF S w v x) : RepF S w (.iface t v) (.iface t x)
 | nili : RepF S w .nilIface .nili
 | func (fn : Fn) (p q : Array Value) (fp fq : List FV) (hp : p.size = fp.length) (hq : q.size = fq.length)
   (h1 : ∀ (j : Nat) (x : FV), fp[j]? = some x → RepF S w (p.getD j undef) x) (h2 : ∀ (j : Nat) (x : FV), fq[j]? = some x → RepF S w (q.getD j undef) x) : RepF S w (.func fn p q) (.func fn fp fq)
 | nilf : RepF S w .nilFunc .nilf
 | tup (cs : Array Value) (fs : List FV) (hl : cs.size = fs.length) (h : ∀ (j : Nat) (x : FV), fs[j]? = some x → RepF S w (cs.getD j undef) x) : RepF S w (.tuple cs) (.tup fs)
 | undef (v : Value) : RepF S w v .undef
 | nils (sz : Nat) : RepF S w (.slice none 0 0) (.nils sz)
 | fulls (A : Option Addr) (n sz : Nat) (elems : List (List FV)) (h : RepF S w (.slice A n n) (.slice sz elems)) : RepF S w (.slice A n n) (.fulls sz elems)
 | nonn (a : Addr) (cap sz : Nat) : RepF S w (.slice (some a) 0 cap) (.nonn sz)
 | nilm : RepF S w (.map none) .nilm
 | nilx (cap sz : Nat) : RepF S w (.slice none 0 cap) (.nilx sz)
theorem RepF.mono {S S' : Settled} {w w' : World} (hS : ∀ b o, S b o → S' b o) (hw : ∀ b o, S b o → w'.cell? ⟨b, o, none⟩ = w.cell? ⟨b, o, none⟩) {v : Value} {x : FV} (h : RepF S w v x) : RepF S' w' v x := by
 induction h with
 | int k n => exact .int k n
 | bool b => exact .bool b
 | str s => exact .str s
 | slice0 A cap sz => exact .slice0 A cap sz
 | slice b o n cap sz elems u hn hcap hsz hc hr h1 ih =>
  exact .slice b o n cap sz elems u hn hcap hsz (fun i j hi hj => ⟨hS _ _ (hc i j hi hj).1, by rw [hw _ _ (hc i j hi hj).1]; exact (hc i j hi hj).2⟩) ih h1
 | agg cs fs hl h ih => exact .agg cs fs hl ih
 | ref b o off cells u hc hr h1 ih => exact .ref b o off cells u (fun j hj => ⟨hS _ _ (hc j hj).1, by rw [hw _ _ (hc j hj).1]; exact (hc j hj).2⟩) ih h1
 | nilp => exact .nilp
 | iface t v x h ih => exact .iface t v x ih
 | nili => exact .nili
 | func fn p q fp fq hp hq h1 h2 ih1 ih2 => exact .func fn p q fp fq hp hq ih1 ih2
 | nilf => exact .nilf
 | tup cs fs hl h ih => exact .tup cs fs hl ih
 | undef v => exact .undef v
 | nils sz => exact .nils sz
 | fulls A n sz elems h ih => exact .fulls A n sz elems ih
 | nonn a cap sz => exact .nonn a cap sz
 | nilm => exact .nilm
 | nilx cap sz => exact .nilx cap sz
theorem RepF.one {S : Settled} {w : World} {v : Value} {x : FV} (h : RepF S w v x) (hx : x.one = true) : v.oneCell' = true := by
 cases h <;> simp_all [FV.one, Value.oneCell']
inductive RepD (S : Settled) (ρ : List RI) (h : List Res) (w : World) : Value → DV → Prop
 | d (v : Value) (x : FV) (hx : RepF S w v x) : RepD S ρ h w v (.d x)
 | ptr (id off b : Nat) (hb : ρ[id]? = some (.box b)) : RepD S ρ h w (.pointer (some ⟨b, off, none⟩)) (.ptr id off)
 | row (v : Value) (sz : Nat) (elems : List (List FV)) (t : Nat) (hx : RepF S w v (.slice sz elems)) (ht : t < h.length)
   (hr : ∀ n, (h[t]?).bind Res.tip = some n → elems.length ≤ n ∧ (elems.length = n → ρ[t]? = some (.row v))) : RepD S ρ h w v (.row sz elems t)
 | agg (cs : Array Value) (fs : List DV) (hl : cs.size = fs.length) (hh : ∀ (j : Nat) (x : DV), fs[j]? = some x → RepD S ρ h w (cs.getD j undef) x) : RepD S ρ h w (.agg cs) (.agg fs)
 | clo (fn : Fn) (p q : Array Value) (fp fq : List DV) (hp : p.size = fp.length) (hq : q.size = fq.length)
   (h1 : ∀ (j : Nat) (x : DV), fp[j]? = some x → RepD S ρ h w (p.getD j undef) x) (h2 : ∀ (j : Nat) (x : DV), fq[j]? = some x → RepD S ρ h w (q.getD j undef) x) : RepD S ρ h w (.func fn p q) (.clo fn fp fq)
 | tup (cs : Array Value) (fs : List DV) (hl : cs.size = fs.length) (hh : ∀ (j : Nat) (x : DV), fs[j]? = some x → RepD S ρ h w (cs.getD j undef) x) : RepD S ρ h w (.tuple cs) (.tup fs)
 | iface (t : TypeId) (v : Value) (x : DV) (hh : RepD S ρ h w v x) : RepD S ρ h w (.iface t v) (.iface t x)
 | yld (id b : Nat) (hb : ρ[id]? = some (.box b)) : RepD S ρ h w (.func (.yield b) #[] #[]) (.yld id)
 | bslc (id off n cap b : Nat) (hc : n ≤ cap) (hb : ρ[id]? = some (.box b)) : RepD S ρ h w (.slice (some ⟨b, off, none⟩) n cap) (.bslc id off n)
 | rptr (A p : Option Addr) (n cap : Nat) (elems : List (List FV)) (t : Nat) (hx : RepF S w (.slice A n cap) (.slice 1 elems)) (hp : elems ≠ [] → p = A) (ht : t < h.length)
   (hr : ∀ n', (h[t]?).bind Res.tip = some n' → elems.length ≤ n' ∧ (elems.length = n' → ρ[t]? = some (.row (.slice A n cap)))) : RepD S ρ h w (.pointer p) (.rptr elems t)
 | vslc (b o cap id g sz off n : Nat) (hc : n ≤ cap) (ht : id < h.length) (hr : ∀ m, (h[id]?).bind Res.tip = some m → g ≤ m ∧ (g = m → ∃ C, ρ[id]? = some (.vec b C sz) ∧ o = off * sz ∧ cap = C - off ∧ off + n ≤ m)) : RepD S ρ h w (.slice (some ⟨b, o, none⟩) n cap) (.vslc id g sz off n)
 | eptr (b o' id g k o : Nat) (ht : id < h.length) (hr : ∀ m, (h[id]?).bind Res.tip = some m → g ≤ m ∧ (g = m → ∃ C sz, ρ[id]? = some (.vec b C sz) ∧ o' = k * sz + o)) : RepD S ρ h w (.pointer (some ⟨b, o', none⟩)) (.eptr id g k o)
 | mref (id b : Nat) (hb : ρ[id]? = some (.box b)) : RepD S ρ h w (.map (some b)) (.mref id)
structure Ext (S : Settled) (ρ : List RI) (h : List Res) (w : World) (S' : Settled) (ρ' : List RI) (h' : List Res) (w' : World) : Prop where
 settled : ∀ b o, S b o → S' b o
 cells : ∀ b o, S b o → w'.cell? ⟨b, o, none⟩ = w.cell? ⟨b, o, none⟩
 len : h.length ≤ h'.length
 boxes : ∀ (id b : Nat), ρ[id]? = some (.box b) → ρ'[id]? = some (.box b)
 rows : ∀ (t n' : Nat), t < h.length → (h'[t]?).bind Res.tip = some n' → ∃ n, (h[t]?).bind Res.tip = some n ∧ n ≤ n' ∧ (n = n' → ρ'[t]? = ρ[t]?)
 size : w.heap.size ≤ w'.heap.size
 os : w'.os = w.os
 tape : w'.tape = w.tape
 output : w'.output = w.output
 frame : ∀ b, b < w.heap.size → (∀ (i : Nat) (r : RI), ρ[i]? = some r → r.block ≠ some b) → w'.heap[b]? = w.heap[b]?
 blocks : ∀ (i b : Nat) (r : RI), ρ'[i]? = some r → r.block = some b → w.heap.size ≤ b ∨ ∃ (j : Nat) (r0 : RI), ρ[j]? = some r0 ∧ r0.block = some b ∧ (r.isRow = true → r0.isRow = true)
 fresh : ∀ b o, S' b o → S b o ∨ w.heap.size ≤ b ∨ ∃ (i : Nat) (r : RI), ρ[i]? = some r ∧ r.isRow = true ∧ r.block = some b
theorem RepD.monoW {S S' : Settled} {ρ ρ' : List RI} {h h' : List Res} {w w' : World} (settled : ∀ b o, S b o → S' b o) (cells : ∀ b o, S b o → w'.cell? ⟨b, o, none⟩ = w.cell? ⟨b, o, none⟩) (len : h.length ≤ h'.length) (boxes : ∀ (id b : Nat), ρ[id]? = some (.box b) → ρ'[id]? = some (.box b))
  (rows : ∀ (t n' : Nat), t < h.length → (h'[t]?).bind Res.tip = some n' → ∃ n, (h[t]?).bind Res.tip = some n ∧ n ≤ n' ∧ (n = n' → ρ'[t]? = ρ[t]?)) {v : Value} {x : DV} (hx : RepD S ρ h w v x) : RepD S' ρ' h' w' v x := by
 induction hx with
 | d v x hx => exact .d v x (hx.mono settled cells)
 | ptr id off b hb => exact .ptr id off b (boxes _ _ hb)
 | row v sz elems t hx ht hr =>
  refine .row v sz elems t (hx.mono settled cells) (Nat.lt_of_lt_of_le ht len) fun n' hn' => ?_
  obtain ⟨n, hn, hle, he⟩ := rows t n' ht hn'
  obtain ⟨h1, h2⟩ := hr n hn
  refine ⟨by omega, fun hl => ?_⟩
  have : n = n' := by omega
  rw [he this]
  exact h2 (by omega)
 | agg cs fs hl hh ih => exact .agg cs fs hl ih
 | clo fn p q fp fq hp hq h1 h2 ih1 ih2 => exact .clo fn p q fp fq hp hq ih1 ih2
 | tup cs fs hl hh ih => exact .tup cs fs hl ih
 | iface t v x hh ih => exact .iface t v x ih
 | yld id b hb => exact .yld id b (boxes _ _ hb)
 | bslc id off n cap b hc hb => exact .bslc id off n cap b hc (boxes _ _ hb)
 | rptr A p n cap elems t hx hp ht hr =>
  refine .rptr A p n cap elems t (hx.mono settled cells) hp (Nat.lt_of_lt_of_le ht len) fun n' hn' => ?_
  obtain ⟨n, hn, hle, he⟩ := rows t n' ht hn'
  obtain ⟨h1, h2⟩ := hr n hn
  refine ⟨by omega, fun hl => ?_⟩
  have : n = n' := by omega
  rw [he this]
  exact h2 (by omega)
 | vslc b o cap id g sz off n hc ht hr =>
  refine .vslc b o cap id g sz off n hc (Nat.lt_of_lt_of_le ht len) fun n' hn' => ?_
  obtain ⟨n, hn, hle, he⟩ := rows id n' ht hn'
  obtain ⟨h1, h2⟩ := hr n hn
  refine ⟨by omega, fun hl => ?_⟩
  have : n = n' := by omega
  subst this
  rw [he rfl]
  exact h2 (by omega)
 | eptr b o' id g k o ht hr =>
  refine .eptr b o' id g k o (Nat.lt_of_lt_of_le ht len) fun n' hn' => ?_
  obtain ⟨n, hn, hle, he⟩ := rows id n' ht hn'
  obtain ⟨h1, h2⟩ := hr n hn
  refine ⟨by omega, fun hl => ?_⟩
  have : n = n' := by omega
  subst this
  rw [he rfl]
  exact h2 (by omega)
 | mref id b hb => exact .mref id b (boxes _ _ hb)
theorem RepD.mono {S S' : Settled} {ρ ρ' : List RI} {h h' : List Res} {w w' : World} (E : Ext S ρ h w S' ρ' h' w') {v : Value} {x : DV} (hx : RepD S ρ h w v x) : RepD S' ρ' h' w' v x :=
 hx.monoW E.settled E.cells E.len E.boxes E.rows
def DV.one : DV → Bool
 | .d x => x.one
 | .agg _ | .tup _ => false
 | _ => true
theorem RepD.one {S : Settled} {ρ : List RI} {h : List Res} {w : World} {v : Value} {x : DV} (hx : RepD S ρ h w v x) (h1 : x.one = true) : v.oneCell' = true := by
 cases hx with
 | d v x hx => exact hx.one h1
 | row v sz elems t hx ht hr => exact hx.one rfl
 | _ => simp_all [DV.one, Value.oneCell']
end Go.Deepv
namespace Go.Deepv
def DOp.opds : DOp → List Opd
 | .mv x | .box _ x | .load _ x | .loadk _ x | .un _ x | .cvt _ x | .addOff _ x | .fld _ _ x | .len _ x | .ext _ x | .nilchk x | .mki _ x | .panic x | .isnil _ _ x | .bstr x | .rng x | .next x | .sbytes x | .rstr x | .tass _ _ _ x | .usd x | .mark x | .frz x | .capn x | .boxn x | .lenm x => [x]
 | .nilrow _ | .alloc _ _ | .stuck | .mkmap => []
 | .pick c x y => [c, x, y]
 | .store _ x v | .storen _ x v => [x, v]
 | .bin _ x y | .eqb _ x y | .eqs _ _ x y | .ustr _ x y | .idxAddr _ x y | .idxArr _ _ x y | .idxStr x y | .idxB x y | .idxVal _ _ _ x y | .vmake _ _ _ _ _ x y | .vapp _ _ _ x y | .vappn _ _ _ _ x y | .mlook _ _ _ x y => [x, y]
 | .mupd _ x k v => [x, k, v]
 | .slcStr x lo hi | .slc _ x lo hi | .slcA _ _ x lo hi | .slcn _ x lo hi => x :: (lo.toList ++ hi.toList)
 | .slc3 _ x lo hi mx => x :: hi :: mx :: lo.toList
 | .lit _ _ _ _ _ ps | .vlit _ _ _ _ ps => ps.map (·.2)
 | .build _ ps => ps.map (·.2.2)
 | .app _ _ _ _ s x => [s, x]
 | .mnmx _ xs => xs
 | .call f xs | .calln _ f xs | .calld f xs => f :: xs
 | .mkf _ p q => p ++ q
def Opd.slots : Opd → List Nat
 | .tmp t => [t]
 | _ => []
def DOp.pure : DOp → Bool
 | .mv _ | .pick .. | .bin .. | .eqb .. | .isnil .. | .un .. | .cvt .. | .bstr _ | .addOff .. | .fld .. | .idxAddr .. | .idxArr .. | .idxStr .. | .len .. | .slcStr .. | .slc .. | .ext .. | .build .. | .mnmx .. | .mkf .. | .nilchk _ | .mki .. | .eqs .. | .rstr _ | .sbytes _ | .tass .. | .slcA .. | .idxVal .. | .calld .. | .slc3 .. => true
 | .box b _ => b
 | .lit b .. => b
 | .vmake b .. => b
 | _ => false
def DOp.quiet : DOp → Bool
 | .load .. => true
 | .loadk .. => true
 | .mlook .. => true
 | .slcn .. => true
 | .capn .. => true
 | .lenm .. => true
 | o => o.pure
def DOper.looks (o : DOper) : List Nat := o.op.opds.flatMap Opd.slots ++ (match o.guard with | some (t, _) => [t] | none => [])
def DOper.comm (x y : DOper) : Bool :=
 (match x.dst with | some d => !y.looks.contains d | none => true) && (match y.dst with | some d => !x.looks.contains d | none => true) &&
 (match x.dst, y.dst with | some d, some e => d != e | _, _ => true) && (x.op.pure || y.op.pure || (x.op.quiet && y.op.quiet))
inductive DRes where
 | tmp (t : Nat)
 | cell (n : Option Nat) (t : Nat)
 | cellk (n : Option Nat) (t : Nat)
 deriving Inhabited
inductive Cle where
 | fn (g : FuncId)
 | yld (id : Nat)
 deriving Inhabited
def ACode.noRange : ACode → Bool
 | .seq a b | .cond _ a b => a.noRange && b.noRange
 | .block _ b | .loop _ _ _ b => b.noRange
 | .rangeFn .. => false
 | _ => true
structure DGuard where
 pre : List ACode
 caps : List Opd
 slot : Nat
 dst : Nat
 ops : List (Nat × Opd)
 code : ACode
 ntmps : Nat
 deriving Inhabited
structure AFunc where
 ntmps : Nat
 results : List DRes
 body : ACode
 coe : Bool := true
 keep : Nat := 0
 guard : Option DGuard := none
 deriving Inhabited
def DV.flat : DV → Option FV
 | .d v => some v
 | .row sz elems _ => some (.slice sz elems)
 | _ => none
def DV.mkAgg (cs : List DV) : DV := match cs.mapM DV.flat with
 | some fs => .d (.agg fs)
 | none => .agg cs
def DV.coe : DV → DV
 | .row sz elems _ => .d (.slice sz elems)
 | .agg cs => DV.mkAgg cs
 | .tup vs => match vs.mapM DV.flat with
  | some fs => .d (.tup fs)
  | none => .tup vs
 | x => x
def DV.isD : DV → Bool
 | .d _ => true
 | _ => false
def DV.cells : DV → List DV
 | .d (.agg fs) => fs.map .d
 | .agg cs => cs
 | x => [x]
mutual
def DV.low (n : Nat) : DV → Bool
 | .d _ => true
 | .ptr id _ => id < n
 | .row _ _ t => t < n
 | .agg cs => DV.lows n cs
 | .clo _ p q => DV.lows n p && DV.lows n q
 | .tup vs => DV.lows n vs
 | .iface _ v => DV.low n v
 | .yld id => id < n
 | .rptr _ t => t < n
 | .bslc id _ _ => id < n
 | .vslc id _ _ _ _ => id < n
 | .eptr id _ _ _ => id < n
 | .mref id => id < n
def DV.lows (n : Nat) : List DV → Bool
 | [] => true
 | x :: xs => DV.low n x && DV.lows n xs
end
def DV.elems : DV → Option (Nat × List (List FV))
 | .d (.slice sz l) => some (sz, l)
 | .row sz l _ => some (sz, l)
 | .d (.nils sz) => some (sz, [])
 | .d (.fulls sz l) => some (sz, l)
 | .d (.nonn sz) => some (sz, [])
 | .d (.nilx sz) => some (sz, [])
 | _ => none
def DV.int : DV → Option Int
 | .d (.int _ n) => some n
 | _ => none
inductive DOut where
 | val (v : DV) (h : List Res)
 | pan (v : DV) (h : List Res)
 deriving Inhabited
def DOut.heap : DOut → List Res
 | .val _ h | .pan _ h => h
def ev (a : List DV) : Opd → DV
 | .tmp t => a.getD t (.d .undef)
 | .con v => .d v
 | .fn f => .d (.func (.func f) [] [])
def dbin (op : BinOp) (x y : FV) : Option FV :=
 match op, x, y with
 | .shl, .int k x, .int _ y => if y < 0 then none else some (.int k (k.wrap (x * 2 ^ (min y.toNat k.bits))))
 | .shr, .int k x, .int _ y => if y < 0 then none else some (.int k (x.fdiv (2 ^ (min y.toNat k.bits))))
 | op, .int k x, .int k' y =>
  if k ≠ k' then none else
  match op with
  | .add => some (.int k (k.wrap (x + y)))
  | .sub => some (.int k (k.wrap (x - y)))
  | .mul => some (.int k (k.wrap (x * y)))
  | .quo => if y = 0 then none else some (.int k (k.wrap (x.tdiv y)))
  | .rem => if y = 0 then none else some (.int k (x.tmod y))
  | .and => some (.int k (k.wrap ((BitVec.ofInt k.bits x &&& BitVec.ofInt k.bits y).toNat)))
  | .or => some (.int k (k.wrap ((BitVec.ofInt k.bits x ||| BitVec.ofInt k.bits y).toNat)))
  | .eql => some (.bool (x == y))
  | .neq => some (.bool (x != y))
  | .lss => some (.bool (x < y))
  | .leq => some (.bool (x ≤ y))
  | .gtr => some (.bool (x > y))
  | .geq => some (.bool (x ≥ y))
  | _ => none
 | .add, .str x, .str y => if x.size + y.size ≤ 9223372036854775807 then some (.str (x ++ y)) else none
 | .eql, .str x, .str y => some (.bool (x.toList == y.toList))
 | .neq, .str x, .str y => some (.bool !(x.toList == y.toList))
 | _, _, _ => none
def dun (op : UnOp) (x : FV) : Option FV :=
 match op, x with
 | .neg, .int k n => some (.int k (k.wrap (0 - n)))
 | .not, .bool b => some (.bool !b)
 | _, _ => none
def putCells (cells : List DV) (off : Nat) (new : List DV) : Option (List DV) :=
 if off + new.length ≤ cells.length ∧ new.all DV.one then some (cells.take off ++ new ++ cells.drop (off + new.length)) else none
def keepNil (h : List Res) : List DV → List DV → List DV
 | c :: cs, x :: xs => (match x with
  | .d (.nils sz) => (match c with
   | .row s [] t => (match h[t]? with
    | some .nilrow => .row s [] t
    | _ => .d (.slice sz []))
   | _ => .d (.slice sz []))
  | _ => x) :: keepNil h cs xs
 | [], x :: xs => (match x with
  | .d (.nils sz) => .d (.slice sz [])
  | _ => x) :: keepNil h [] xs
 | _, [] => []
def allocCells : List (Except Nat FV) → Nat → List DV × List Res
 | [], _ => ([], [])
 | .ok v :: r, n => (.d v :: (allocCells r n).1, (allocCells r n).2)
 | .error sz :: r, n => (.row sz [] n :: (allocCells r (n + 1)).1, .nilrow :: (allocCells r (n + 1)).2)
def nilC (h : List Res) : DV → DV
 | .row sz [] t => (match h[t]? with
  | some .nilrow => .d (.nils sz)
  | _ => .row sz [] t)
 | x => x
def dload (n : Option Nat) (cells : List DV) (off : Nat) : Option DV :=
 match n with
 | none => cells[off]?
 | some n => if off + n ≤ cells.length then some (DV.mkAgg ((cells.drop off).take n)) else none
def bound (x : Option Opd) (a : List DV) (dflt most : Nat) : Option Nat :=
 match x with
 | none => some dflt
 | some x => match (ev a x).int with
  | some i => if 0 ≤ i ∧ i ≤ most then some i.toNat else none
  | none => none
def fill (cells : List FV) : List (Nat × List FV) → Option (List FV)
 | [] => some cells
 | (off, new) :: r => if off + new.length ≤ cells.length then fill (cells.take off ++ new ++ cells.drop (off + new.length)) r else none
def flatCells (x : DV) : Option (List FV) := x.cells.mapM DV.flat
def DV.isRow : DV → Bool
 | .row .. => true
 | _ => false
def FV.isNils : FV → Bool
 | .nils _ => true
 | _ => false
def fillD (cells : List DV) : List (Nat × List DV) → Option (List DV)
 | [] => some cells
 | (off, new) :: r => if off + new.length ≤ cells.length then fillD (cells.take off ++ new ++ cells.drop (off + new.length)) r else none
def buildD (zero : List FV) (parts : List (Nat × Nat × DV)) : Option DV :=
 match parts.mapM (fun p => if p.2.2.cells.length = p.2.1 ∧ p.2.2.cells.all DV.one = true then some (p.1, p.2.2.cells) else none) with
 | some ps => (fillD (zero.map .d) ps).map .agg
 | none => none
def numsOf (l : List (List FV)) : Option (List Int) := l.mapM fun c => match c with
 | [.int .u8 n] => some n
 | _ => none
def nilness (k : Nat) (x : DV) : Option Bool :=
 match k, x with
 | 0, .d .nilp => some true
 | 0, .d (.ref _ _) => some false
 | 0, .ptr _ _ => some false
 | 1, .d .nili => some true
 | 1, .d (.iface _ _) => some false
 | 1, .iface _ _ => some false
 | 2, .d .nilf => some true
 | 2, .d (.func _ _ _) => some false
 | 2, .clo _ _ _ => some false
 | 2, .yld _ => some false
 | 3, .d (.nils _) => some true
 | 3, .d (.nonn _) => some false
 | 3, .d (.nilx _) => some true
 | 3, .d (.slice _ (_ :: _)) => some false
 | 4, .d .nilm => some true
 | 4, .mref _ => some false
 | _, _ => none
def mnmx2 (max : Bool) (x y : FV) : Option FV :=
 match x, y with
 | .int k a, .int k' b => if k = k' then some (.int k (if max then (if a < b then b else a) else (if b < a then b else a))) else none
 | _, _ => none
def mintD : List DV → Nat → List DV × List Res
 | [], _ => ([], [])
 | .d (.nils sz) :: r, n => (.row sz [] n :: (mintD r (n + 1)).1, .nilrow :: (mintD r (n + 1)).2)
 | x :: r, n => (x :: (mintD r n).1, (mintD r n).2)
def fullOf : FV → Option (Nat × List (List FV))
 | .nils sz => some (sz, [])
 | .fulls sz l => some (sz, l)
 | _ => none
def unfull : FV → FV
 | .fulls sz l => .slice sz l
 | v => v
def appRow (sz bytes : Nat) (s : DV) (x : Option (Nat × List (List FV))) (h : List Res) (et : Nat := 0) : Option DOut :=
 match s, x with
 | .row s1 l t, some (s2, new) =>
  if (s2 = sz ∨ new = []) ∧ (l.length + new.length) * bytes ≤ 140737488355328 ∧ 0 < sz ∧ 0 < bytes then
   match h[t]? with
   | some .nilrow => if l = [] then (if new = [] then some (.val (.row sz [] t) h) else some (.val (.row sz new t) (h.set t (.row sz new.length et)))) else none
   | some (.row s3 n et3) => if s1 = sz ∧ s3 = sz ∧ n = l.length ∧ et3 = et then some (.val (.row sz (l ++ new) t) (h.set t (.row sz (l.length + new.length) et))) else none
   | _ => none
  else none
 | .d v, some (s2, new) => match fullOf v with
  | some (s1, l) =>
   if (s2 = sz ∨ new = []) ∧ (l.length + new.length) * bytes ≤ 140737488355328 ∧ 0 < sz ∧ 0 < bytes ∧ s1 = sz then
    if new = [] then some (.val (.d (unfull v)) h) else some (.val (.row sz (l ++ new) h.length) (h ++ [.row sz (l.length + new.length) et]))
   else none
  | none => none
 | _, _ => none
def strCells (s : ByteArray) : List (List FV) := s.data.toList.map fun b => [.int .u8 b.toNat]
def srcElems (str : Bool) (x : DV) : Option (Nat × List (List FV)) := if str then (match x with | .d (.str s) => some (1, strCells s) | _ => none) else x.elems
def eqFV : Nat → FV → FV → Option Bool
 | 0, .int k a, .int k' b => if k = k' then some (a == b) else none
 | 1, .str a, .str b => some (a.toList == b.toList)
 | 2, .bool a, .bool b => some (a == b)
 | _, _, _ => none
def eqCells : List Nat → List FV → List FV → Option Bool
 | [], [], [] => some true
 | k :: ks, x :: xs, y :: ys => match eqFV k x y, eqCells ks xs ys with
  | some a, some b => some (a && b)
  | _, _ => none
 | _, _, _ => none
def unnil : FV → FV
 | .nils sz => .slice sz []
 | .fulls sz l => .slice sz l
 | .nonn sz => .slice sz []
 | .nilx sz => .slice sz []
 | v => v
def keyEq : FV → FV → Option Bool
 | .int k a, .int k' b => if k = k' then some (a == b) else none
 | .str a, .str b => some (a.toList == b.toList)
 | .bool a, .bool b => some (a == b)
 | _, _ => none
def keyOk : FV → FV → Bool
 | .int k _, .int k' _ => decide (k = k')
 | .str _, .str _ => true
 | .bool _, .bool _ => true
 | _, _ => false
def findE (k : FV) : List (FV × FV) → Nat → Option (Option (Nat × FV))
 | [], _ => some none
 | (x, v) :: r, i => match keyEq k x with
  | some true => some (some (i, v))
  | some false => findE k r (i + 1)
  | none => none
def appVec (et sz bytes : Nat) (s : DV) (x : Option (Nat × List (List FV))) (h : List Res) : Option DOut :=
 match s, x with
 | .row _ l t, some (s2, new) =>
  if (s2 = sz ∨ new = []) ∧ new.length * bytes ≤ 140737488355328 ∧ 0 < sz ∧ 0 < bytes ∧ l = [] then
   match h[t]? with
   | some .nilrow => if new = [] then some (.val (.row sz [] t) h) else some (.val (.vslc t new.length sz 0 new.length) (h.set t (.vec sz new 0 et)))
   | _ => none
  else none
 | .vslc id g s1 off n, some (s2, new) => match h[id]? with
  | some (.vec s3 l fz et3) =>
   if (s2 = sz ∨ new = []) ∧ (n + new.length) * bytes ≤ 140737488355328 ∧ 0 < bytes ∧ s1 = sz ∧ s3 = sz ∧ et3 = et ∧ g = l.length then
    if off + n = l.length then
     if off = 0 then some (.val (.vslc id (l.length + new.length) sz 0 (n + new.length)) (h.set id (.vec sz (l ++ new) fz et))) else none
    else if off + n + new.length ≤ l.length ∧ fz ≤ off + n then some (.val (.vslc id g sz off (n + new.length)) (h.set id (.vec sz (l.take (off + n) ++ new ++ l.drop (off + n + new.length)) fz et))) else none
   else none
  | _ => none
 | _, _ => none
def lowCells (k : Nat) (cs : List DV) : List DV := if DV.lows k cs then cs else cs.map DV.coe
section
variable (call : Cle → List DV → List Res → Option DOut)
def dcallV (f : DV) (args : List DV) (h : List Res) : Option DOut :=
 match f with
 | .d (.func (.func g) p q) => call (.fn g) (p.map .d ++ args ++ q.map .d) h
 | .clo (.func g) p q => call (.fn g) (p ++ args ++ q) h
 | .yld id => call (.yld id) args h
 | _ => none
def dop (o : DOp) (a : List DV) (h : List Res) : Option DOut :=
 match o with
 | .stuck => none
 | .mv x => some (.val (ev a x) h)
 | .nilrow sz => some (.val (.row sz [] h.length) (h ++ [.nilrow]))
 | .pick c x y => match ev a c with
  | .d (.bool b) => some (.val (if b then ev a x else ev a y) h)
  | _ => none
 | .box imm x =>
  let cs := (ev a x).cells
  if cs.all DV.one then
   if imm then (cs.mapM DV.flat).map fun fs => .val (.d (.ref fs 0)) h
   else if DV.lows h.length cs then some (.val (.ptr h.length 0) (h ++ [.box cs])) else none
  else none
 | .alloc zero tag => let r := allocCells zero h.length; if r.1.all DV.one then some (.val (.ptr (h.length + r.2.length) 0) (h ++ r.2 ++ [.box r.1 tag])) else none
 | .load n x => match ev a x with
  | .d (.ref cells off) => (dload n (cells.map .d) off).map fun v => .val v h
  | .ptr id off => match h[id]? with
   | some (.box cells _) => (dload n cells off).map fun v => .val v h
   | _ => none
  | .eptr id g k o => match h[id]? with
   | some (.vec _ l _ _) => if g = l.length then (match l[k]? with
    | some c => (dload n (c.map .d) o).map fun v => .val v h
    | none => none) else none
   | _ => none
  | _ => none
 | .loadk n x => match ev a x with
  | .d (.ref cells off) => (dload n (cells.map .d) off).map fun v => .val v h
  | .ptr id off => match h[id]? with
   | some (.box cells _) => (dload n (cells.map (nilC h)) off).map fun v => .val v h
   | _ => none
  | .eptr id g k o => match h[id]? with
   | some (.vec _ l _ _) => if g = l.length then (match l[k]? with
    | some c => (dload n (c.map .d) o).map fun v => .val v h
    | none => none) else none
   | _ => none
  | _ => none
 | .store n x v => match ev a x with
  | .ptr id off => match h[id]? with
   | some (.box cells tag) =>
    let new := lowCells (id + 1) (ev a v).cells
    if new.length = n ∧ DV.lows (id + 1) new then (putCells cells off new).map fun cs => .val (.d (.tup [])) (h.set id (.box cs tag)) else none
   | _ => none
  | .eptr id g k o => match h[id]? with
   | some (.vec sz l fz et) => (match l[k]?, flatCells (ev a v) with
    | some c, some fs => if g = l.length ∧ fz ≤ k ∧ fs.length = n ∧ o + n ≤ c.length ∧ fs.all FV.one then some (.val (.d (.tup [])) (h.set id (.vec sz (l.set k (c.take o ++ fs.map unnil ++ c.drop (o + n))) fz et))) else none
    | _, _ => none)
   | _ => none
  | _ => none
 | .storen n x v => match ev a x with
  | .ptr id off => match h[id]? with
   | some (.box cells tag) =>
    let new := keepNil h (cells.drop off) (lowCells (id + 1) (ev a v).cells)
    if new.length = n ∧ DV.lows (id + 1) new then (putCells cells off new).map fun cs => .val (.d (.tup [])) (h.set id (.box cs tag)) else none
   | _ => none
  | .eptr id g k o => match h[id]? with
   | some (.vec sz l fz et) => (match l[k]?, flatCells (ev a v) with
    | some c, some fs => if g = l.length ∧ fz ≤ k ∧ fs.length = n ∧ o + n ≤ c.length ∧ fs.all FV.one then some (.val (.d (.tup [])) (h.set id (.vec sz (l.set k (c.take o ++ fs.map unnil ++ c.drop (o + n))) fz et))) else none
    | _, _ => none)
   | _ => none
  | _ => none
 | .bin op x y => match ev a x, ev a y with
  | .d x, .d y => (dbin op x y).map fun v => .val (.d v) h
  | _, _ => none
 | .eqb neq x y => match ev a x, ev a y with
  | .d (.bool x), .d (.bool y) => some (.val (.d (.bool (if neq then !(x == y) else x == y))) h)
  | _, _ => none
 | .isnil k neq x => (nilness k (ev a x)).map fun b => .val (.d (.bool (if neq then !b else b))) h
 | .un op x => match ev a x with
  | .d x => (dun op x).map fun v => .val (.d v) h
  | _ => none
 | .cvt k x => match ev a x with
  | .d (.int _ n) => some (.val (.d (.int k (k.wrap n))) h)
  | _ => none
 | .bstr x => match (ev a x).elems with
  | some (_, l) => (numsOf l).map fun ns => .val (.d (.str (strOfNums ns))) h
  | none => none
 | .addOff n x => match ev a x with
  | .d (.ref cells off) => some (.val (.d (.ref cells (off + n))) h)
  | .ptr id off => some (.val (.ptr id (off + n)) h)
  | .eptr id g k o => some (.val (.eptr id g k (o + n)) h)
  | _ => none
 | .fld n off x => match ev a x with
  | .d (.agg fs) => (dload n (fs.map .d) off).map fun v => .val v h
  | .agg cs => (dload n cs off).map fun v => .val v h
  | _ => none
 | .idxAddr sz x i => match (ev a x).elems, (ev a i).int with
  | some (s, l), some i => if s = sz ∧ 0 ≤ i then (l[i.toNat]?).map fun c => .val (.d (.ref c 0)) h else none
  | none, some i => (match ev a x with
   | .bslc id off n => if 0 ≤ i ∧ i < n then some (.val (.ptr id (off + i.toNat * sz)) h) else none
   | .vslc id g s off n => if s = sz ∧ 0 ≤ i ∧ i < n then some (.val (.eptr id g (off + i.toNat) 0) h) else none
   | _ => none)
  | _, _ => none
 | .idxArr len sz x i => match ev a x, (ev a i).int with
  | .d (.ref cells off), some i => if 0 ≤ i ∧ i < len then some (.val (.d (.ref cells (off + i.toNat * sz))) h) else none
  | .ptr id off, some i => if 0 ≤ i ∧ i < len then some (.val (.ptr id (off + i.toNat * sz)) h) else none
  | _, _ => none
 | .idxStr x i => match ev a x, (ev a i).int with
  | .d (.str s), some i => if 0 ≤ i then (s[i.toNat]?).map fun b => .val (.d (.int .u8 b.toNat)) h else none
  | _, _ => none
 | .len true x => match ev a x with
  | .d (.str s) => some (.val (.d (.int .i64 s.size)) h)
  | _ => none
 | .len false x => match (ev a x).elems with
  | some (_, l) => some (.val (.d (.int .i64 l.length)) h)
  | none => match ev a x with
   | .bslc _ _ n => some (.val (.d (.int .i64 n)) h)
   | .vslc _ _ _ _ n => some (.val (.d (.int .i64 n)) h)
   | _ => none
 | .slcStr x lo hi => match ev a x with
  | .d (.str s) => match bound hi a s.size s.size with
   | some hi => match bound lo a 0 hi with
    | some lo => some (.val (.d (.str (s.extract lo hi))) h)
    | none => none
   | none => none
  | _ => none
 | .slc sz x lo hi => match (ev a x).elems with
  | some (s, l) => if s = sz then match bound hi a l.length l.length with
   | some hi => match bound lo a 0 hi with
    | some lo => some (.val (.d (.slice sz ((l.take hi).drop lo))) h)
    | none => none
   | none => none else none
  | none => match ev a x with
   | .bslc id off n => match bound hi a n n with
    | some hi => match bound lo a 0 hi with
     | some lo => some (.val (if hi - lo = 0 then .d (.slice sz []) else .bslc id (off + lo * sz) (hi - lo)) h)
     | none => none
    | none => none
   | .vslc id g s off n => if s = sz then (match bound hi a n n with
    | some hi => match bound lo a 0 hi with
     | some lo => some (.val (if hi - lo = 0 ∧ lo ≠ 0 then .d (.slice sz []) else .vslc id g s (off + lo) (hi - lo)) h)
     | none => none
    | none => none) else none
   | _ => none
 | .slcA len sz x lo hi => match ev a x with
  | .ptr id off => match bound hi a len len with
   | some hi => match bound lo a 0 hi with
    | some lo => some (.val (if hi - lo = 0 then .d (.slice sz []) else .bslc id (off + lo * sz) (hi - lo)) h)
    | none => none
   | none => none
  | _ => none
 | .idxVal len sz n x i => match (ev a i).int with
  | some i => if 0 ≤ i ∧ i < len then (match ev a x with
   | .d (.agg fs) => (dload n (fs.map .d) (i.toNat * sz)).map fun v => .val v h
   | .agg cs => (dload n cs (i.toNat * sz)).map fun v => .val v h
   | _ => none) else none
  | none => none
 | .calld f args => match ev a f with
  | .d (.func (.func g) [] []) => if (args.map (ev a)).all DV.isD then (match call (.fn g) (args.map (ev a)) [] with
   | some (.val (.d v) []) => some (.val (.d v) h)
   | _ => none) else none
  | _ => none
 | .ext i x => match ev a x with
  | .d (.tup vs) => (vs[i]?).map fun v => .val (.d v) h
  | .tup vs => (vs[i]?).map fun v => .val v h
  | _ => none
 | .lit imm et sz len zero parts =>
  if sz = 0 ∨ zero.length ≠ sz ∨ len * sz > 16777216 then none else
  match parts.mapM (fun p => (flatCells (ev a p.2)).map fun cs => (p.1, cs)) with
  | some ps => match ps.foldlM (fun (l : List (List FV)) p => if p.1 < l.length ∧ p.2.length = sz ∧ p.2.all FV.one then some (l.set p.1 p.2) else none) (List.replicate len zero) with
   | some l => if zero.all FV.one then some (if imm then .val (.d (.slice sz l)) h else .val (.row sz l h.length) (h ++ [.row sz len et])) else none
   | none => none
  | none => none
 | .build zero parts =>
  if (zero.any FV.isNils && parts.any fun p => (ev a p.2.2).isRow) = true then (buildD zero (parts.map fun p => (p.1, p.2.1, ev a p.2.2))).map fun v => .val v h
  else match parts.mapM (fun p => match flatCells (ev a p.2.2) with | some cs => if cs.length = p.2.1 ∧ cs.all FV.one then some (p.1, cs) else none | none => none) with
  | some ps => (fill zero ps).map fun cs => .val (.d (.agg cs)) h
  | none => (buildD zero (parts.map fun p => (p.1, p.2.1, ev a p.2.2))).map fun v => .val v h
 | .app str et sz bytes s x => appRow sz bytes (ev a s) (srcElems str (ev a x)) h et
 | .eqs neq ks x y => match ev a x, ev a y with
  | .d (.agg xs), .d (.agg ys) => (eqCells ks xs ys).map fun b => .val (.d (.bool (if neq then !b else b))) h
  | _, _ => none
 | .rng x => match ev a x with
  | .d (.str s) => some (.val (.ptr h.length 0) (h ++ [.iter s 0]))
  | _ => none
 | .next x => match ev a x with
  | .ptr id 0 => match h[id]? with
   | some (.iter s pos) =>
    if pos < s.size then some (.val (.d (.tup [.bool true, .int .i64 pos, .int .i32 (Utf8.decode s pos).1])) (h.set id (.iter s (pos + (Utf8.decode s pos).2))))
    else some (.val (.d (.tup [.bool false])) h)
   | _ => none
  | _ => none
 | .sbytes x => match ev a x with
  | .d (.str s) => if s.size ≤ 140737488355328 then some (.val (.d (.slice 1 (strCells s))) h) else none
  | _ => none
 | .rstr x => match ev a x with
  | .d (.int _ n) => some (.val (.d (.str (Utf8.encode n))) h)
  | _ => none
 | .tass t comma zero x => match ev a x with
  | .d (.iface t' v) => if t' = t then some (.val (.d (if comma then .tup [v, .bool true] else v)) h) else if comma then some (.val (.d (.tup [zero, .bool false])) h) else none
  | .d .nili => if comma then some (.val (.d (.tup [zero, .bool false])) h) else none
  | _ => none
 | .usd x => match ev a x with
  | .row 1 l t => match h[t]? with
   | some .nilrow => if l = [] then some (.val (.rptr l t) h) else none
   | some (.row 1 n _) => if n = l.length ∧ 0 < n then some (.val (.rptr l t) h) else none
   | _ => none
  | _ => none
 | .mark x => match ev a x with
  | .row 1 l t => match h[t]? with
   | some (.row 1 n _) => if n = l.length then some (.val (.d (.slice 1 l)) (h.set t .dead)) else none
   | _ => none
  | _ => none
 | .ustr et x n => match ev a x, (ev a n).int with
  | .rptr l t, some k => if k = (l.length : Int) then match numsOf l with
    | some ns => if l = [] then some (.val (.d (.str (strOfNums []))) h) else match h[t]? with
     | some (.row 1 m et') => if m = l.length ∧ m ≤ 9223372036854775807 ∧ et' = et ∧ et ≠ 0 ∧ ns.all (fun n => decide (0 ≤ n ∧ n < 256)) then some (.val (.d (.str (strOfNums ns))) (h.set t .dead)) else none
     | _ => none
    | none => none
   else none
  | _, _ => none
 | .mnmx max xs => match xs.map (ev a) with
  | .d x :: rest => match rest.mapM DV.flat with
   | some ys => (ys.foldlM (mnmx2 max) x).map fun v => .val (.d v) h
   | none => none
  | _ => none
 | .call f args => dcallV call (ev a f) (args.map (ev a)) h
 | .idxB x y => match ev a x, ev a y with
  | .d (.str s), .d (.int .u8 c) => some (.val (.d (.int .i64 (Lib.indexByte s.data.toList c.toNat.toUInt8))) h)
  | _, _ => none
 | .calln sz f args => match ev a f with
  | .d (.func (.func g) [] []) => call (.fn g) (.row sz [] h.length :: args.map (ev a)) (h ++ [.nilrow])
  | _ => none
 | .mkf fn p q =>
  let p := p.map (ev a)
  let q := q.map (ev a)
  match p.mapM DV.flat, q.mapM DV.flat with
  | some p, some q => some (.val (.d (.func fn p q)) h)
  | _, _ => some (.val (.clo fn p q) h)
 | .nilchk x => match ev a x with
  | .d (.ref c o) => some (.val (.d (.ref c o)) h)
  | .ptr id o => some (.val (.ptr id o) h)
  | .d (.func (.func g) p q) => some (.val (.d (.func (.func g) p q)) h)
  | .clo (.func g) p q => some (.val (.clo (.func g) p q) h)
  | .yld id => some (.val (.yld id) h)
  | _ => none
 | .mki t x => match ev a x with
  | .d v => some (.val (.d (.iface t v)) h)
  | x => some (.val (.iface t x) h)
 | .panic x => match ev a x with
  | .d (.iface t v) => some (.pan (.d (.iface t v)) h)
  | _ => none
 | .vlit et sz len zero parts =>
  if sz = 0 ∨ zero.length ≠ sz ∨ len * sz > 16777216 then none else
  match parts.mapM (fun p => (flatCells (ev a p.2)).map fun cs => (p.1, cs)) with
  | some ps => match ps.foldlM (fun (l : List (List FV)) p => if p.1 < l.length ∧ p.2.length = sz ∧ p.2.all FV.one then some (l.set p.1 p.2) else none) (List.replicate len zero) with
   | some l => if zero.all FV.one then some (.val (.vslc h.length len sz 0 len) (h ++ [.vec sz l 0 et])) else none
   | none => none
  | none => none
 | .vmake imm et sz bytes zero n c => match (ev a n).int, (ev a c).int with
  | some n, some c =>
   if 0 ≤ n ∧ n ≤ c ∧ c < 9223372036854775808 ∧ c * bytes ≤ 140737488355328 ∧ 0 < bytes ∧ 0 < sz ∧ zero.length = sz ∧ zero.all FV.one then
    some (if imm then .val (.d (.slice sz (List.replicate n.toNat zero))) h else .val (.vslc h.length n.toNat sz 0 n.toNat) (h ++ [.vec sz (List.replicate n.toNat zero) 0 et]))
   else none
  | _, _ => none
 | .vapp et sz bytes s x => appVec et sz bytes (ev a s) (ev a x).elems h
 | .frz x => match ev a x with
  | .vslc id g s off n => match h[id]? with
   | some (.vec sz l fz et) => if g = l.length ∧ s = sz then some (.val (.d (.slice sz ((l.drop off).take n))) (h.set id (.vec sz l (max fz (off + n)) et))) else none
   | _ => none
  | .row sz l _ => some (.val (.d (.slice sz l)) h)
  | .d v => some (.val (.d v) h)
  | _ => none
 | .mkmap => some (.val (.mref h.length) (h ++ [.map []]))
 | .mlook comma kz zero x i => match ev a x, ev a i with
  | .mref id, .d k => if keyOk kz k then match h[id]? with
   | some (.map l) => match findE k l 0 with
    | some (some (_, v)) => some (.val (.d (if comma then .tup [v, .bool true] else v)) h)
    | some none => some (.val (.d (if comma then .tup [zero, .bool false] else zero)) h)
    | none => none
   | _ => none else none
  | _, _ => none
 | .mupd kz x k v => match ev a x, ev a k, (ev a v).flat with
  | .mref id, .d k, some v => if keyOk kz k then match h[id]? with
   | some (.map l) => match findE k l 0 with
    | some (some (i, _)) => some (.val (.d (.tup [])) (h.set id (.map (l.set i (k, unnil v)))))
    | some none => some (.val (.d (.tup [])) (h.set id (.map (l ++ [(k, unnil v)]))))
    | none => none
   | _ => none else none
  | _, _, _ => none
 | .slc3 sz x lo hi mx => match (ev a x).elems, (ev a hi).int, (ev a mx).int with
  | some (s, l), some i, some m => if s = sz ∧ 0 ≤ i ∧ i ≤ l.length ∧ m = i then (match bound lo a 0 i.toNat with
   | some lo => some (.val (.d (.fulls sz ((l.take i.toNat).drop lo))) h)
   | none => none) else none
  | _, _, _ => none
 | .slcn sz x lo hi => match ev a x with
  | .row s [] t => match h[t]? with
   | some .nilrow => if s = sz then (match bound hi a 0 0 with
    | some _ => match bound lo a 0 0 with
     | some _ => some (.val (.row s [] t) h)
     | none => none
    | none => none) else none
   | _ => none
  | _ => none
 | .boxn x =>
  let cs := (ev a x).cells
  let r := mintD cs h.length
  if cs.all DV.one ∧ DV.lows h.length cs then some (.val (.ptr (h.length + r.2.length) 0) (h ++ r.2 ++ [.box r.1])) else none
 | .vappn et sz bytes zero s n => match ev a s, (ev a n).int with
  | .row _ [] t, some n => (match h[t]? with
   | some .nilrow => if 0 < n ∧ n * bytes ≤ 140737488355328 ∧ 0 < bytes ∧ 0 < sz ∧ zero.length = sz ∧ zero.all FV.one then some (.val (.vslc t n.toNat sz 0 n.toNat) (h.set t (.vec sz (List.replicate n.toNat zero) 0 et))) else none
   | _ => none)
  | _, _ => none
 | .lenm x => match ev a x with
  | .mref id => match h[id]? with
   | some (.map l) => some (.val (.d (.int .i64 l.length)) h)
   | _ => none
  | .d .nilm => some (.val (.d (.int .i64 0)) h)
  | _ => none
 | .capn x => match ev a x with
  | .d v => (fullOf v).map fun p => .val (.d (.int .i64 p.2.length)) h
  | .row _ [] t => match h[t]? with
   | some .nilrow => some (.val (.d (.int .i64 0)) h)
   | _ => none
  | _ => none
inductive DExit where
 | normal
 | exit (id : Nat)
 | ret
 | pan (v : DV)
 deriving Inhabited
abbrev DRun := DExit × List DV × List Res
def put (a : List DV) : Option Nat → DV → List DV
 | some d, v => a.set d v
 | none, _ => a
def wants (a : List DV) : Option (Nat × Bool) → Option Bool
 | none => some true
 | some (t, b) => match a[t]? with
  | some (.d (.bool c)) => some (c == b)
  | some (.d (.tup [])) => some false
  | _ => none
def dops : List DOper → List DV → List Res → Option DRun
 | [], a, h => some (.normal, a, h)
 | o :: rest, a, h => match wants a o.guard with
  | some true => match dop call o.op a h with
   | some (.val v h') => dops rest (put a o.dst v) h'
   | some (.pan v h') => some (.pan v, a, h')
   | none => none
  | some false => dops rest (put a o.dst (.d (.tup []))) h
  | none => none
open Classical in
noncomputable def same (alts : List (List DOper)) (a : List DV) (h : List Res) (r : DRun) : Bool := decide (∀ l ∈ alts, dops call l a h = some r)
abbrev LoopF := Nat → Bool → List Bool → List Bool → ACode → List DV → List Res → Option DRun
variable (loop : LoopF)
def mask : List Bool → List DV → List DV
 | true :: m, x :: xs => x :: mask m xs
 | false :: m, _ :: xs => .d .undef :: mask m xs
 | [], _ :: xs => .d .undef :: mask [] xs
 | _, [] => []
noncomputable def dexec : ACode → List DV → List Res → Option DRun
 | .skip, a, h => some (.normal, a, h)
 | .region ops, a, h => dops call ops a h
 | .draw ops alts, a, h => match dops call ops a h with
  | some (.normal, a', h') => if same call alts a h (.normal, a', h') then some (.normal, a', h') else none
  | _ => none
 | .seq c d, a, h => match dexec c a h with
  | some (.normal, a', h') => dexec d a' h'
  | r => r
 | .cond c t e, a, h => match ev a c with
  | .d (.bool b) => if b then dexec t a h else dexec e a h
  | _ => none
 | .block id c, a, h => match dexec c a h with
  | some (.exit i, a', h') => if i = id then some (.normal, a', h') else some (.exit i, a', h')
  | r => r
 | .loop cut hd ex c, a, h => loop h.length cut hd ex c (mask hd a) h
 | .rangeFn f ps sn as_ bd, a, h => match ev a f with
  | .yld _ => none
  | fv => match dcallV call fv [.yld h.length] (h ++ [.loop ps as_ bd (mask sn a) .ready]) with
   | some (.val _ h') => match h'[h.length]? with
    | some (.loop _ _ _ _ .ready) => some (.normal, a, h'.take h.length)
    | some (.loop _ _ _ _ (.done (some i))) => some (.exit i, a, h'.take h.length)
    | some (.loop _ _ _ _ (.done none)) => some (.ret, a, h'.take h.length)
    | _ => none
   | _ => none
 | .exit id, a, h => some (.exit id, a, h)
 | .ret, a, h => some (.ret, a, h)
 | .stuck, _, _ => none
def setAll (a : List DV) (ps : List Nat) (args : List DV) : List DV := (ps.zip args).foldl (fun a p => a.set p.1 p.2) a
def LSt.isReady : LSt → Bool
 | .ready => true
 | _ => false
def markLoop (id : Nat) (st : LSt) (h : List Res) : Option (List Res) := match h[id]? with
 | some (.loop ps as_ bd snap _) => some (h.set id (.loop ps as_ bd snap st))
 | _ => none
def endLoop (id n : Nat) (st : LSt) (h : List Res) : Option DOut := (markLoop id st h).map fun h => .val (.d (.bool st.isReady)) (h.take n)
noncomputable def dyield (id : Nat) (args : List DV) (h : List Res) : Option DOut :=
 match h[id]? with
 | some (.loop ps as_ bd snap .ready) =>
  if args.length = ps.length then
   match dexec call loop as_ (setAll snap ps args) h with
   | some (.normal, a1, h1) => match h1[id]? with
    | some (.loop _ _ _ _ .ready) => match markLoop id .busy h1 with
     | some h1 => match dexec call loop bd a1 h1 with
      | some (.normal, _, h2) => endLoop id h.length .ready h2
      | some (.exit i, _, h2) => endLoop id h.length (.done (some i)) h2
      | some (.ret, _, h2) => endLoop id h.length (.done none) h2
      | _ => none
     | none => none
    | _ => none
   | _ => none
  else none
 | _ => none
def trim (cut : Bool) (n0 : Nat) (h : List Res) : List Res := if cut then h.take n0 else h
def trims (cut : Bool) (n0 : Nat) (a : List DV) : Bool := if cut then DV.lows n0 a else true
noncomputable def dround (n0 : Nat) (cut : Bool) (hd ex : List Bool) (c : ACode) (a : List DV) (h : List Res) : Option DRun :=
 match dexec call loop c a h with
 | some (.normal, a', h') => if trims cut n0 (mask hd a') then loop n0 cut hd ex c (mask hd a') (trim cut n0 h') else none
 | some (.pan v, a', h') => some (.pan v, a', h')
 | some (e, a', h') => if trims cut n0 (mask ex a') then some (e, mask ex a', trim cut n0 h') else none
 | none => none
def dresult (a : List DV) (h : List Res) : DRes → Option DV
 | .tmp t => some (a.getD t (.d .undef))
 | .cell n t => match a.getD t (.d .undef) with
  | .ptr id off => match h[id]? with
   | some (.box cells _) => dload n cells off
   | _ => none
  | .d (.ref cells off) => dload n (cells.map .d) off
  | _ => none
 | .cellk n t => match a.getD t (.d .undef) with
  | .ptr id off => match h[id]? with
   | some (.box cells _) => dload n (cells.map (nilC h)) off
   | _ => none
  | .d (.ref cells off) => dload n (cells.map .d) off
  | _ => none
def dresults (co : Bool) (rs : List DV) : DV := if co then (match rs with
 | [x] => x.coe
 | rs => (DV.tup (rs.map DV.coe)).coe) else match rs with
 | [x] => x
 | rs => .tup rs
noncomputable def dpre : List ACode → List DV → List Res → Option DRun
 | [], a, h => some (.normal, a, h)
 | c :: cs, a, h => match dexec call loop c a h with
  | some (.normal, a', h') => dpre cs a' h'
  | r => r
def mvs (l : List (Nat × Opd)) (a : List DV) : List DV := l.foldl (fun a p => a.set p.1 (ev a p.2)) a
noncomputable def dlast (g : DGuard) (cs : List DV) (v : DV) (a : List DV) (h : List Res) : Option DRun :=
 match dexec call loop g.code (mvs g.ops ((cs ++ List.replicate (g.ntmps - cs.length) (DV.d .undef)).set g.dst v)) h with
 | some (.normal, _, h') => some (.ret, a, h')
 | some (.ret, _, h') => some (.ret, a, h')
 | _ => none
noncomputable def drun (F : AFunc) (a : List DV) (h : List Res) : Option DRun := match F.guard with
 | none => dexec call loop F.body a h
 | some g => match dpre call loop g.pre a h with
  | some (.normal, a1, h1) => if g.slot < a1.length then (match dexec call loop F.body (a1.set g.slot (.d .undef)) h1 with
   | some (.pan v, a2, h2) => dlast call loop g (g.caps.map (ev a1)) v a2 h2
   | some (.normal, a2, h2) => dlast call loop g (g.caps.map (ev a1)) (.d .nili) a2 h2
   | some (.ret, a2, h2) => dlast call loop g (g.caps.map (ev a1)) (.d .nili) a2 h2
   | _ => none) else none
  | some (.ret, a1, h1) => some (.ret, a1, h1)
  | _ => none
noncomputable def dbody (F : AFunc) (args : List DV) (h : List Res) : Option DOut :=
 match drun call loop F (args ++ List.replicate (F.ntmps - args.length) (.d .undef)) h with
 | some (.pan v, _, h') => if v.low h.length then some (.pan v (h'.take h.length)) else none
 | some (.normal, a, h') | some (.ret, a, h') => match F.results.mapM (dresult a h') with
  | some rs => if (dresults (F.keep == 0 && F.coe) rs).low (h.length + F.keep) then some (.val (dresults (F.keep == 0 && F.coe) rs) (h'.take (h.length + F.keep))) else none
  | none => none
 | _ => none
structure Env where
 af : FuncId → Option AFunc
 ext : FuncId → Option (List DV → List Res → Option DOut)
def withHeap (h : List Res) : DOut → DOut
 | .val v _ => .val v h
 | .pan v _ => .pan v h
noncomputable def dcallF (E : Env) (f : FuncId) (args : List DV) (h : List Res) : Option DOut :=
 match E.ext f with
 | some F => F args h
 | none => match E.af f with
  | none => none
  | some F =>
   let args' := if F.coe then args.map DV.coe else args
   if F.keep == 0 && args'.all DV.isD then (dbody call loop F args' []).map (withHeap h) else dbody call loop F args' h
noncomputable def dcall (E : Env) (c : Cle) (args : List DV) (h : List Res) : Option DOut := match c with
 | .fn f => dcallF call loop E f args h
 | .yld id => dyield call loop id args h
end
end Go.Deepv
namespace Go.Deepv
def constOk : Value → FV → Bool
 | .int k n, .int k' n' => k == k' && n == n'
 | .bool b, .bool b' => b == b'
 | .string s, .str s' => s.data == s'.data
 | .slice none 0 0, .slice _ [] => true
 | .slice none 0 0, .nils _ => true
 | .pointer none, .nilp => true
 | .nilIface, .nili => true
 | .nilFunc, .nilf => true
 | .map none, .nilm => true
 | _, _ => false
def nilz (l : List FV) : List FV := l.map fun x => match x with
 | .slice sz [] => .nils sz
 | x => x
def nilOpd (imm : Nat → Bool) : Opd → Bool
 | .tmp d => imm d
 | _ => false
def constsOk : List Value → List FV → Bool
 | [], [] => true
 | v :: vs, x :: xs => constOk v x && constsOk vs xs
 | _, _ => false
def scalarFV : Value → Option FV
 | .int k n => some (.int k n)
 | .bool b => some (.bool b)
 | .string s => some (.str s)
 | .pointer none => some .nilp
 | .nilIface => some .nili
 | .nilFunc => some .nilf
 | .map none => some .nilm
 | _ => none
section
variable (P : Program)
def typedCells : Nat → TypeId → List Value → Option (List FV)
 | 0, _, _ => none
 | n + 1, t, cs => match P.underlying t with
  | some (.struct fields) => (fields.toList.mapM fun f => typedCells n f.type ((cs.drop f.offset).take (P.cellsOf f.type))).map List.flatten
  | some (.array k e) => ((List.range k).mapM fun i => typedCells n e ((cs.drop (i * P.cellsOf e)).take (P.cellsOf e))).map List.flatten
  | some (.slice e) => match cs with
   | [.slice none 0 0] => some [.slice (P.cellsOf e) []]
   | _ => none
  | some _ => match cs with
   | [v] => (scalarFV v).map ([·])
   | _ => none
  | none => none
def trConst (t : TypeId) (v : Value) : Option FV :=
 match typedCells P 12 t v.cells.toList with
 | some fs => match v with
  | .agg cs => if constsOk cs.toList fs then some (.agg fs) else none
  | v => match fs with
   | [x] => if constOk v x then some x else none
   | _ => none
 | none => none
def trOpd (t : TypeId) : Operand → Option Opd
 | .tmp t => some (.tmp t)
 | .func f => some (.fn f)
 | .const v => (trConst P t v).map .con
 | .global _ => none
def isAggB (t : TypeId) : Option (Option Nat) := match P.underlying t with
 | some (.struct _) => (P.info? t).map fun i => some i.size
 | some (.array _ _) => (P.info? t).map fun i => some i.size
 | some _ => some none
 | none => none
def isNilSlice : Operand → Bool
 | .const (.slice none 0 0) => true
 | _ => false
def vecM (imm : Nat → Bool) (o : Oper) : Bool := match o.dst with
 | some d => imm (d + 1000000)
 | none => false
def frzM (imm : Nat → Bool) (o : Oper) : Bool := match o.dst with
 | some d => imm (d + 2000000)
 | none => false
def trMove (imm : Nat → Bool) (o : Oper) (x : Operand) : Option DOp :=
 if isNilSlice x then match P.underlying o.type with
  | some (.slice e) => if (o.dst.map imm).getD false then some (.mv (.con (.slice (P.cellsOf e) []))) else some (.nilrow (P.cellsOf e))
  | _ => none
 else (trOpd P o.type x).map .mv
def isNilConst (k : Nat) : Operand → Bool
 | .const (.pointer none) => k == 0
 | .const .nilIface => k == 1
 | .const .nilFunc => k == 2
 | .const (.slice none 0 0) => k == 3
 | .const (.map none) => k == 4
 | _ => false
def trNil (op : BinOp) (k : Nat) (x y : Operand) (x' y' : Opd) : Option DOp :=
 match op with
 | .eql => if isNilConst k y then some (.isnil k false x') else if isNilConst k x then some (.isnil k false y') else none
 | .neq => if isNilConst k y then some (.isnil k true x') else if isNilConst k x then some (.isnil k true y') else none
 | _ => none
def consec : List Field → Nat → Option Nat
 | [], o => some o
 | f :: fs, o => if f.offset = o then consec fs (o + P.cellsOf f.type) else none
def leafs : Nat → TypeId → Option (List Nat)
 | 0, _ => none
 | n + 1, t => match P.underlying t with
  | some (.int _) => if P.cellsOf t == 1 && isAggB P t == some none then some [0] else none
  | some .string => if P.cellsOf t == 1 && isAggB P t == some none then some [1] else none
  | some .bool => if P.cellsOf t == 1 && isAggB P t == some none then some [2] else none
  | some (.struct fl) => if !P.stoodInHeld t && (fl.toList.all fun f => f.name != "_") && consec P fl.toList 0 == some (P.cellsOf t) && isAggB P t == some (some (P.cellsOf t)) then
    match fl.toList.mapM fun f => (leafs n f.type).bind fun ks => if ks.length = P.cellsOf f.type then some ks else none with
    | some kss => some kss.flatten
    | none => none
   else none
  | _ => none
def trBin (op : BinOp) (xt yt : TypeId) (x y : Operand) : Option DOp :=
 match trOpd P xt x, trOpd P yt y with
 | some x', some y' => match P.underlying xt with
  | some (.int _) | some .string => some (.bin op x' y')
  | some .bool => match op with
   | .eql => some (.eqb false x' y')
   | .neq => some (.eqb true x' y')
   | _ => none
  | some (.pointer _) => trNil op 0 x y x' y'
  | some (.interface _) => trNil op 1 x y x' y'
  | some (.func _ _ _) => trNil op 2 x y x' y'
  | some (.slice _) => trNil op 3 x y x' y'
  | some (.map _ _) => trNil op 4 x y x' y'
  | some (.struct _) => match leafs P 12 xt with
   | some ks => if ks.length = P.cellsOf xt ∧ P.eqGuardType P.depth xt = false then match op with
    | .eql => some (.eqs false ks x' y')
    | .neq => some (.eqs true ks x' y')
    | _ => none else none
   | none => none
  | _ => none
 | _, _ => none
def trIdxAddr (t : TypeId) (x i : Operand) : Option DOp :=
 match P.underlying t with
 | some (.slice e) => match P.info? e, trOpd P t x, trOpd P 3 i with
  | some info, some x, some i => some (.idxAddr info.size x i)
  | _, _, _ => none
 | some (.array n e) => match P.info? e, trOpd P t x, trOpd P 3 i with
  | some info, some x, some i => some (.idxArr n info.size x i)
  | _, _, _ => none
 | _ => none
def optOpd (x : Option Operand) : Option (Option Opd) := match x with
 | none => some none
 | some x => (trOpd P 3 x).map some
def zeroCellsOf (t : TypeId) : Option (List Value × List FV) := match P.info? t with
 | some i => match i.zero with
  | some z => match typedCells P 12 t z.cells.toList with
   | some fs => if constsOk z.cells.toList fs then some (z.cells.toList, fs) else none
   | none => none
  | none => none
 | none => none
def mint1 : Value → FV → Except Nat FV
 | .slice none 0 0, .slice sz _ => .error sz
 | _, f => .ok f
def minted : List Value → List FV → List (Except Nat FV)
 | v :: vs, f :: fs => mint1 v f :: minted vs fs
 | _, _ => []
def tagE (e : TypeId) : Nat := match P.underlying e with
 | some (.int .u8) => e
 | _ => 0
def trSlice (nm : Bool) (t : TypeId) (x : Operand) (lo hi mx : Option Operand) : Option DOp :=
 match mx with
 | some mx => match hi with
  | some hi => match trOpd P t x, optOpd P lo, trOpd P 3 hi, trOpd P 3 mx with
   | some x, some lo, some hi, some mx => match P.underlying t with
    | some (.slice e) => match P.info? e with
     | some i => some (.slc3 i.size x lo hi mx)
     | none => none
    | _ => none
   | _, _, _, _ => none
  | none => none
 | none =>
 match trOpd P t x, optOpd P lo, optOpd P hi with
 | some x, some lo, some hi => match P.underlying t with
  | some .string => some (.slcStr x lo hi)
  | some (.slice e) => match P.info? e with
   | some i => some (if nm then .slcn i.size x lo hi else .slc i.size x lo hi)
   | none => none
  | some (.array n e) => match P.info? e with
   | some i => some (.slcA n i.size x lo hi)
   | none => none
  | _ => none
 | _, _, _ => none
def trCall (c : Call) : Option DOp := match c.callee with
 | .value f => match trOpd P 0 f, (c.args.toList.zip c.argTypes.toList).mapM (fun p => trOpd P p.2 p.1) with
  | some f, some args => if c.args.size = c.argTypes.size then some (.call f args) else none
  | _, _ => none
 | .builtin b => match (c.args.toList.zip c.argTypes.toList).mapM (fun p => trOpd P p.2 p.1) with
  | some args => if c.args.size ≠ c.argTypes.size then none else match b, args with
   | .len, [x] => match (c.argTypes[0]?).bind P.underlying with
    | some .string => some (.len true x)
    | some (.slice _) => some (.len false x)
    | some (.map _ _) => some (.lenm x)
    | _ => none
   | .cap, [x] => match (c.argTypes[0]?).bind P.underlying with
    | some (.slice _) => some (.capn x)
    | _ => none
   | .unsafeSliceData, [x] => some (.usd x)
   | .unsafeString, [x, n] => match (c.argTypes[0]?).bind P.underlying with
    | some (.pointer e) => match P.info? e, P.underlying e with
     | some i, some (.int .u8) => if i.size = 1 ∧ P.cellsOf e = 1 then some (.ustr e x n) else none
     | _, _ => none
    | _ => none
   | .min, x :: xs => some (.mnmx false (x :: xs))
   | .max, x :: xs => some (.mnmx true (x :: xs))
   | .append, [s, x] => match (c.argTypes[0]?).bind P.underlying, (c.argTypes[1]?).bind P.underlying with
    | some (.slice e), some (.slice _) => match P.info? e with
     | some i => match i.zero with
      | some z => if z.cells.size = i.size then some (.app false (tagE P e) i.size i.bytes s x) else none
      | none => none
     | none => none
    | some (.slice e), some (.int _) => match P.info? e, zeroCellsOf P e with
     | some i, some z => some (.vappn (tagE P e) i.size i.bytes z.2 s x)
     | _, _ => none
    | some (.slice e), some .string => match P.info? e with
     | some i => match i.zero with
      | some z => if z.cells.size = i.size ∧ i.size = 1 then some (.app true (tagE P e) i.size i.bytes s x) else none
      | none => none
     | none => none
    | _, _ => none
   | _, _ => none
  | none => none
 | _ => none
def tagOf (t : TypeId) : Nat := match P.info? t with
 | some i => match i.desc with
  | .named n _ => if n = "strings.Builder" then t else 0
  | _ => 0
 | none => 0
def nilFirst (c : Call) : Option Nat := match c.callee, c.args.toList, (c.argTypes[0]?).bind P.underlying with
 | .value (.func _), x :: _, some (.slice e) => if isNilSlice x then some (P.cellsOf e) else none
 | _, _, _ => none
def isIdxB (c : Call) : Bool := match c.callee with
 | .value (.func g) => match P.funcs[g]? with
  | some fn => fn.name == "internal/bytealg.IndexByteString" && fn.origin == "" && fn.body.isNone
  | none => false
 | _ => false
def trCallN (c : Call) : Option DOp := if isIdxB P c then (match trCall P c with | some (.call _ [x, y]) => some (.idxB x y) | _ => none) else match nilFirst P c, trCall P c with
 | some sz, some (.call f (_ :: rest)) => some (.calln sz f rest)
 | _, r => r
def dataCall (o : Option DOp) : Option DOp := match o with
 | some (.call f args) => some (.calld f args)
 | r => r
def vecCall (b : Bool) (o : Option DOp) : Option DOp := if b then (match o with
 | some (.app false et sz bytes s x) => some (.vapp et sz bytes s x)
 | r => r) else o
def keyZero (t : TypeId) : Option FV := match P.underlying t with
 | some (.int k) => some (.int k 0)
 | some .string => some (.str ⟨#[]⟩)
 | some .bool => some (.bool false)
 | _ => none
def trOp (imm : Nat → Bool) (o : Oper) : Option DOp := match o.op with
 | .move x | .assign x => if frzM imm o then (trOpd P o.type x).map .frz else trMove P imm o x
 | .pick c a b => match trOpd P 4 c, trOpd P o.type a, trOpd P o.type b with
  | some c, some a, some b => some (.pick c a b)
  | _, _, _ => none
 | .alloc t => (zeroCellsOf P t).map fun z => .alloc (minted z.1 z.2) (tagOf P t)
 | .box t x => if vecM imm o then (trOpd P t x).map .boxn else (trOpd P t x).map (.box (match o.dst with | some d => imm d | none => false))
 | .load t x => match isAggB P t, trOpd P 0 x with
  | some n, some x => some (if n.isSome && (match o.dst with | some d => imm d | none => false) then .loadk n x else .load n x)
  | _, _ => none
 | .store t x v => match P.info? t, trOpd P 0 x, trOpd P t v with
  | some i, some x, some v => some (if nilOpd imm v then .storen i.size x v else .store i.size x v)
  | _, _, _ => none
 | .binOp op xt x y yt => trBin P op xt yt x y
 | .unOp op t x => (trOpd P t x).map (.un op)
 | .convert src dst x => match P.underlying src, P.underlying dst, trOpd P src x with
  | some _, some (.int k), some x => some (.cvt k x)
  | some (.slice e), some .string, some x => match P.underlying e with
   | some (.int .u8) => some (.bstr x)
   | _ => none
  | some (.int _), some .string, some x => some (.rstr x)
  | some (.slice _), some (.slice e), some x => if src = dst then match P.underlying e with
   | some (.int .u8) => some (.mark x)
   | _ => none else none
  | some .string, some (.slice e), some x => match P.underlying e, P.info? e with
   | some (.int .u8), some i => if i.size = 1 ∧ P.cellsOf e = 1 then some (.sbytes x) else none
   | _, _ => none
  | _, _, _ => none
 | .range t x => match P.underlying t, trOpd P t x with
  | some .string, some x => some (.rng x)
  | _, _ => none
 | .next x true => (trOpd P 0 x).map .next
 | .typeAssert x t1 t comma => match P.underlying t, (P.info? t).bind fun i => i.zero.bind (trConst P t), trOpd P t1 x with
  | some (.interface _), _, _ => none
  | some _, some zf, some x => some (.tass t comma zf x)
  | _, _, _ => none
 | .fieldAddr s x f => match P.underlying s with
  | some (.struct fields) => match fields[f]? with
   | some fl => match P.info? fl.type, trOpd P 0 x with
    | some i, some x => if i.size = 0 then none else some (.addOff fl.offset x)
    | _, _ => none
   | none => none
  | _ => none
 | .field s x f => match P.underlying s with
  | some (.struct fields) => match fields[f]? with
   | some fl => match isAggB P fl.type, trOpd P s x with
    | some n, some x => some (.fld n fl.offset x)
    | _, _ => none
   | none => none
  | _ => none
 | .indexAddr t x i => trIdxAddr P t x i
 | .index t x i => match P.underlying t, trOpd P t x, trOpd P 3 i with
  | some .string, some x, some i => some (.idxStr x i)
  | some (.array n e), some x, some i => match P.info? e, isAggB P e with
   | some info, some m => some (.idxVal n info.size m x i)
   | _, _ => none
  | _, _, _ => none
 | .slice t x lo hi mx => trSlice P (match o.dst with | some d => imm d | none => false) t x lo hi mx
 | .extract x i => (trOpd P 0 x).map (.ext i)
 | .buildSlice t len parts => match P.underlying t with
  | some (.slice e) => match P.info? e, zeroCellsOf P e, parts.toList.mapM (fun p => (trOpd P e p.2).map (Prod.mk p.1)) with
   | some i, some z, some ps => some (if vecM imm o then .vlit (tagE P e) i.size len z.2 ps else .lit (match o.dst with | some d => imm d | none => false) (tagE P e) i.size len z.2 ps)
   | _, _, _ => none
  | _ => none
 | .build t parts => match P.underlying t with
  | some (.struct fields) => match fields.toList.mapM (fun f => (P.info? f.type).map fun i => (f.offset, i.size)) with
   | some places => match zeroCellsOf P t, parts.toList.mapM (fun p => match places[p.1]?, fields[p.1]? with
     | some pl, some fl => (trOpd P fl.type p.2).map fun x => (pl.1, pl.2, x)
     | _, _ => none) with
    | some z, some ps => some (.build (if (match o.dst with | some d => imm d | none => false) then nilz z.2 else z.2) ps)
    | _, _ => none
   | none => none
  | some (.array _ e) => match P.info? e with
   | some i => match zeroCellsOf P t, parts.toList.mapM (fun p => (trOpd P e p.2).map fun x => (p.1 * i.size, i.size, x)) with
    | some z, some ps => some (.build z.2 ps)
    | _, _ => none
   | none => none
  | _ => none
 | .call c => if (match o.dst with | some d => imm d | none => false) then dataCall (trCallN P c) else vecCall (vecM imm o) (trCallN P c)
 | .makeSlice t n c => match P.underlying t with
  | some (.slice e) => match P.info? e, zeroCellsOf P e, trOpd P 3 n, trOpd P 3 c with
   | some i, some z, some n, some c => some (.vmake (match o.dst with | some d => imm d | none => false) (tagE P e) i.size i.bytes z.2 n c)
   | _, _, _, _ => none
  | _ => none
 | .makeMap t none => match P.underlying t with
  | some (.map _ _) => some .mkmap
  | _ => none
 | .lookup t x i comma => match P.underlying t with
  | some (.map k e) => match (P.info? e).bind fun i => i.zero.bind (trConst P e), trOpd P t x, trOpd P k i, keyZero P k with
   | some zf, some x, some i, some kz => some (.mlook comma kz zf x i)
   | _, _, _, _ => none
  | _ => none
 | .mapUpdate t m k v => match P.underlying t with
  | some (.map kt e) => match trOpd P t m, trOpd P kt k, trOpd P e v, keyZero P kt with
   | some m, some k, some v, some kz => some (.mupd kz m k v)
   | _, _, _, _ => none
  | _ => none
 | .makeFunc fn p q => match p.toList.mapM (trOpd P 0), q.toList.mapM (trOpd P 0) with
  | some p, some q => some (.mkf fn p q)
  | _, _ => none
 | .nilCheck x => (trOpd P 0 x).map .nilchk
 | .makeInterface t x => match P.underlying t, trOpd P t x with
  | some (.interface _), _ => none
  | some _, some x => some (.mki t x)
  | _, _ => none
 | .panic x => (trOpd P 0 x).map .panic
 | _ => none
def trGuard (ops : Array Oper) : Option (Nat × Bool) → Option (Option (Nat × Bool))
 | none => some none
 | some (j, b) => match (ops[j]?).bind (·.dst) with
  | some t => some (some (t, b))
  | none => none
def trOper (imm : Nat → Bool) (ops : Array Oper) (o : Oper) : Option DOper :=
 match trOp P imm o, trGuard ops o.guard with
 | some op, some g => some ⟨o.dst, op, g⟩
 | none, some g => some ⟨o.dst, .stuck, g⟩
 | _, none => none
theorem trOper_cases {imm : Nat → Bool} {ops : Array Oper} {o : Oper} {d : DOper} (h : trOper P imm ops o = some d) : ∃ op g, d = ⟨o.dst, op, g⟩ ∧ trGuard ops o.guard = some g ∧ (trOp P imm o = some op ∨ op = .stuck) := by
 unfold trOper at h
 split at h
 ·rename_i op g h1 h2
  exact ⟨op, g, by simpa using h.symm, h2, .inl h1⟩
 ·rename_i g h1 h2
  exact ⟨.stuck, g, by simpa using h.symm, h2, .inr rfl⟩
 ·cases h
structure Marks where
 cut : Nat → Bool
 hd : Nat → List Bool
 ex : Nat → List Bool
 imm : Nat → Bool
 alts : Nat → List (List Nat) := fun _ => []
 sn : Nat → List Bool := fun _ => []
 keep : Nat := 0
def firstRegion : Code → Nat
 | .region id _ _ => id
 | .seq a _ => firstRegion a
 | .cond _ t _ => firstRegion t
 | .block _ b => firstRegion b
 | .loop b => firstRegion b
 | _ => 0
def edgesOf (o : Oper) : List Nat := (o.after.toList.filter (Region.binds .any)).map (·.on)
def depsOf (ops : Array Oper) : List (List Nat) := ops.toList.map edgesOf
def bitsOf (acc : List Nat) : List Nat → Nat
 | [] => 0
 | j :: r => bitsOf acc r ||| (1 <<< j) ||| acc.getD j 0
def closureOf : List (List Nat) → List Nat → List Nat
 | [], acc => acc
 | d :: r, acc => closureOf r (acc ++ [bitsOf acc d])
def orients : List (Nat × Nat) → List (List (Nat × Nat))
 | [] => [[]]
 | (j, i) :: r => (orients r).flatMap fun e => [(j, i) :: e, (i, j) :: e]
def agrees (τ : List Nat) (ε : List (Nat × Nat)) : Bool := ε.all fun p => decide (τ.idxOf p.1 < τ.idxOf p.2)
def lnk (clo : List Nat) (p q : Nat × Nat) : Bool := p.2 == q.1 || (clo.getD q.1 0).testBit p.2
def incons (clo : List Nat) (ε : List (Nat × Nat)) : Bool :=
 ε.any fun p => ε.any fun q => lnk clo p q && (lnk clo q p || ε.any fun r => lnk clo q r && lnk clo r p)
def conflicts (n : Nat) (clo : List Nat) (dl : List DOper) : List (Nat × Nat) :=
 (List.range n).flatMap fun i => ((List.range i).filter fun j => !(clo.getD i 0).testBit j && !(dl.getD j default).comm (dl.getD i default)).map fun j => (j, i)
def nodupB : List Nat → Bool
 | [] => true
 | x :: r => !r.contains x && nodupB r
def goodOrder (n : Nat) (deps : List (List Nat)) (τ : List Nat) : Bool :=
 nodupB τ && τ.all (fun i => decide (i < n)) && (List.range n).all (fun i => τ.contains i) && (List.range n).all fun i => (deps.getD i []).all fun j => decide (τ.idxOf j < τ.idxOf i)
def forwardB : List (List Nat) → Nat → Bool
 | [], _ => true
 | d :: r, i => d.all (fun j => decide (j < i)) && forwardB r (i + 1)
def drawOk (ops : Array Oper) (dl : List DOper) (alts : List (List Nat)) : Bool :=
 let deps := depsOf ops
 let clo := closureOf deps []
 let orders := List.range ops.size :: alts
 forwardB deps 0 && orders.all (goodOrder ops.size deps) && (orients (conflicts ops.size clo dl)).all fun ε => incons clo ε || orders.any (agrees · ε)
def ordered (dl : List DOper) (τ : List Nat) : List DOper := τ.map fun i => dl.getD i default
def gid (l : Nat) : Nat := 1000000 + l
def kid (l : Nat) : Nat := 2000000 + l
def alabels : ACode → List Nat
 | .seq a b => alabels a ++ alabels b
 | .block id .skip => if 3000000 ≤ id then [id - 3000000] else []
 | _ => []
def afind : ACode → Nat → Option ACode
 | .seq a b, l => match afind a l with
  | some r => some (.seq r b)
  | none => afind b l
 | .block id .skip, l => if id = 3000000 + l then some .skip else none
 | _, _ => none
def scopeA (M : Marks) (A : ACode) : Option ACode := match alabels A with
 | [] => some A
 | [l] => match afind A l with
  | some R => if l < 1000000 then some (.block (kid l) (.seq (.block (gid l) (.seq A (.exit (kid l)))) (.loop (M.cut (5000000 + l)) (M.hd (5000000 + l)) (M.ex (5000000 + l)) (.block (gid l) (.seq R (.exit (kid l))))))) else some .stuck
  | none => some .stuck
 | _ => some .stuck
def trCode (M : Marks) : Code → Option ACode
 | .skip => some .skip
 | .region id ops draw => match ops.toList.mapM (trOper P M.imm ops) with
  | none => none
  | some dl => if draw then (if P.follows .mixedOrders && drawOk ops dl (M.alts id) then some (.draw dl ((M.alts id).map (ordered dl))) else some .stuck) else some (.region dl)
 | .seq a b => match trCode M a, trCode M b with
  | some a, some b => some (.seq a b)
  | _, _ => none
 | .cond c t e => match trOpd P 4 c, trCode M t, trCode M e with
  | some c, some t, some e => some (.cond c t e)
  | _, _, _ => none
 | .block id b => if id < 1000000 then (trCode M b).map (.block id) else none
 | .loop b => (trCode M b).map (.loop (M.cut (firstRegion b)) (M.hd (firstRegion b)) (M.ex (firstRegion b)))
 | .rangeFunc f ps as_ bd => match trOpd P 0 f, trCode M as_, trCode M bd with
  | some f, some A, some B => if A.noRange && B.noRange then some (.rangeFn f ps.toList (M.sn (firstRegion bd)) A B) else none
  | _, _, _ => none
 | .exit id => some (if id < 1000000 then .exit id else .stuck)
 | .ret => some .ret
 | .refuse _ => some .stuck
 | .scope c => (trCode M c).bind (scopeA M)
 | .label l => if l < 1000000 then some (.block (3000000 + l) .skip) else none
 | .goto l => some (if l < 1000000 then .exit (gid l) else .stuck)
def trRes (k : Bool) : ResultVar → Option DRes
 | .tmp t => some (.tmp t)
 | .cell a t => (isAggB P t).map fun n => if k then .cellk n a else .cell n a
def trFunc (M : Marks) (coe : Bool) (F : Func) : Option AFunc :=
 match F.body, F.results.toList.mapM (trRes P (M.imm 3000000)) with
 | some b, some rs => (trCode P M b).map fun c => { ntmps := F.ntmps, results := rs, body := c, coe := coe, keep := M.keep }
 | _, _ => none
def isVal : Callee → Option Nat
 | .value (.tmp t) => some t
 | _ => none
def isRec : Callee → Bool
 | .builtin .recover => true
 | _ => false
def isGuard : List Oper → Option (Nat × FuncId × List Operand)
 | [o1, o2] => match o1.dst, o1.op, o1.guard, o2.dst, o2.op, o2.guard with
  | some t, .makeFunc (.func f) cs caps, none, none, .defer c, none => if cs.size = 0 ∧ c.args.size = 0 ∧ isVal c.callee = some t then some (t, f, caps.toList) else none
  | _, _, _, _, _, _ => none
 | _ => none
def peelG : Code → Option (List Code × Array Oper × Code)
 | .seq x y => match x with
  | .region _ ops false => if (isGuard ops.toList).isSome then some ([], ops, y) else (peelG y).map fun r => (x :: r.1, r.2)
  | _ => (peelG y).map fun r => (x :: r.1, r.2)
 | _ => none
def trMv (o : Oper) : Option (Nat × Opd) := match o.dst, o.op, o.guard with
 | some d, .move x, none => (trOpd P o.type x).map fun x => (d, x)
 | some d, .assign x, none => (trOpd P o.type x).map fun x => (d, x)
 | _, _, _ => none
def trClo (M : Marks) (F : Func) : Option (Nat × List (Nat × Opd) × ACode) := match F.body with
 | some (.seq (.region _ ops false) y) => match ops.toList with
  | o :: os => match o.dst, o.op, o.guard, os.mapM (trMv P), trCode P M y with
   | some d, .call c, none, some l, some A => if isRec c.callee = true ∧ F.results.size = 0 ∧ A.noRange = true then some (d, l, A) else none
   | _, _, _, _, _ => none
  | [] => none
 | _ => none
def trFuncG (M Mc : Marks) (coe : Bool) (F : Func) : Option AFunc :=
 match F.body, F.results.toList.mapM (trRes P (M.imm 3000000)) with
 | some b, some rs => match peelG b with
  | some (pre, ops, rest) => match isGuard ops.toList with
   | some (t, f, caps) => match pre.mapM (trCode P M), trCode P M rest, caps.mapM (trOpd P 0), P.funcs[f]? with
    | some pre', some rest', some caps', some cl => match trClo P Mc cl with
     | some (d, l, A) => if (cl.name == "runtime.NumGoroutine") = false ∧ (pre'.all ACode.noRange) = true then some { ntmps := F.ntmps, results := rs, body := rest', coe := coe, keep := M.keep, guard := some { pre := pre', caps := caps', slot := t, dst := d, ops := l, code := A, ntmps := cl.ntmps } } else none
     | none => none
    | _, _, _, _ => none
   | none => none
  | none => none
 | _, _ => none
end
def LSt.fits : LSt → LoopState → Option Code → Prop
 | .ready, .ready, none => True
 | .busy, .busy, none => True
 | .done (some i), .done, some (.exit j) => i = j ∧ i < 1000000
 | .done (some i), .done, some (.goto l) => i = gid l ∧ l < 1000000
 | .done none, .done, some .ret => True
 | _, _, _ => False
structure LoopOk (P : Program) (ps : List Nat) (as_ bd : ACode) (st : LSt) (r : Loop) : Prop where
 params : r.params.toList = ps
 code : ∃ M, trCode P M r.assign = some as_ ∧ trCode P M r.body = some bd
 norange : as_.noRange = true ∧ bd.noRange = true
 state : st.fits r.state r.pending
abbrev Glob := Nat → Nat → Option Value → Prop
def OwnOk (S : Settled) (w : World) (ri : RI) (r : Res) : Prop := match r with
 | .vec sz l fz et => ∃ b C c e, ri = .vec b C sz ∧ w.heap[b]? = some (.cells c e (0, 0)) ∧ 0 < sz ∧ (et = 0 ∨ e = et) ∧ C * sz ≤ c.size ∧ l.length ≤ C ∧ fz ≤ l.length ∧ (∀ x, fz * sz ≤ x → ¬ S b x) ∧
  ∀ (k : Nat) (c' : List FV), l[k]? = some c' → c'.length = sz ∧ ∀ (j : Nat) (x : FV), c'[j]? = some x → x.one = true ∧ RepF S w (c.getD (k * sz + j) undef) x
 | .map l => ∃ b es ck, ri = .box b ∧ w.heap[b]? = some (.map es ck) ∧ es.size = l.length ∧ (∀ o, ¬ S b o) ∧
  ∀ (j : Nat) (k v : FV), l[j]? = some (k, v) → ∃ e, es[j]? = some e ∧ RepF S w e.key k ∧ RepF S w e.val v
 | _ => True
structure Inv (P : Program) (G : Glob) (S : Settled) (ρ : List RI) (h : List Res) (w : World) : Prop where
 len : ρ.length = h.length
 bound : ∀ b o, S b o → b < w.heap.size
 glob : ∀ b o v, G b o v → S b o ∧ w.cell? ⟨b, o, none⟩ = v
 low : ∀ (i b : Nat) (r : RI), ρ[i]? = some r → r.block = some b → b < w.heap.size
 apart : ∀ (i j b : Nat) (r r' : RI), ρ[i]? = some r → ρ[j]? = some r' → r.block = some b → r'.block = some b → i = j
 box : ∀ (i : Nat) (cells : List DV) (tag : Nat), h[i]? = some (.box cells tag) → ∃ b c e, ρ[i]? = some (.box b) ∧ w.heap[b]? = some (.cells c e (0, 0)) ∧ (c.size = cells.length ∧ (tag = 0 ∨ e = tag)) ∧
  (∀ (j : Nat) (x : DV), cells[j]? = some x → x.one = true ∧ x.low (i + 1) = true ∧ RepD S ρ h w (c.getD j undef) x) ∧ ∀ o, ¬ S b o
 nilrow : ∀ (i : Nat), h[i]? = some Res.nilrow → ρ[i]? = some (RI.row (.slice none 0 0))
 row : ∀ (i sz n et : Nat), h[i]? = some (.row sz n et) → ∃ b o cap c e, ρ[i]? = some (.row (.slice (some ⟨b, o, none⟩) n cap)) ∧ w.heap[b]? = some (.cells c e (0, 0)) ∧ (0 < sz ∧ (et = 0 ∨ (e = et ∧ o = 0))) ∧ n ≤ cap ∧ o + cap * sz ≤ c.size ∧
  ∀ x, o + n * sz ≤ x → ¬ S b x
 iter : ∀ (i : Nat) (s : ByteArray) (pos : Nat), h[i]? = some (.iter s pos) → ∃ b, ρ[i]? = some (.box b) ∧ w.heap[b]? = some (.stringIter s pos)
 loop : ∀ (i : Nat) (ps : List Nat) (as_ bd : ACode) (snap : List DV) (st : LSt), h[i]? = some (.loop ps as_ bd snap st) → ∃ b r, ρ[i]? = some (.box b) ∧ w.heap[b]? = some (.loop r) ∧ LoopOk P ps as_ bd st r ∧ r.tmps.size = snap.length ∧
  (∀ (j : Nat) (x : DV), snap[j]? = some x → x.low i = true ∧ RepD S ρ h w (r.tmps.getD j undef) x)
 own : ∀ (i : Nat) (r : Res), h[i]? = some r → ∃ ri, ρ[i]? = some ri ∧ OwnOk S w ri r
theorem OwnOk.mono {S S' : Settled} {w w' : World} {ri : RI} {r : Res} (settled : ∀ b o, S b o → S' b o) (cells : ∀ b o, S b o → w'.cell? ⟨b, o, none⟩ = w.cell? ⟨b, o, none⟩)
  (hb : ∀ b, ri.block = some b → w'.heap[b]? = w.heap[b]? ∧ ∀ o, S' b o → S b o) (h : OwnOk S w ri r) : OwnOk S' w' ri r := by
 cases r with
 | vec sz l fz et =>
  obtain ⟨b, C, c, e, rfl, g2, g3, g4, g5, g6, g7, g8, g9⟩ := h
  obtain ⟨o1, o2⟩ := hb b rfl
  exact ⟨b, C, c, e, rfl, by rw [o1]; exact g2, g3, g4, g5, g6, g7, fun x hx hs => g8 x hx (o2 x hs), fun k c' hk => ⟨(g9 k c' hk).1, fun j x hx => ⟨((g9 k c' hk).2 j x hx).1, ((g9 k c' hk).2 j x hx).2.mono settled cells⟩⟩⟩
 | map l =>
  obtain ⟨b, es, ck, rfl, g2, g3, g4, g5⟩ := h
  obtain ⟨o1, o2⟩ := hb b rfl
  exact ⟨b, es, ck, rfl, by rw [o1]; exact g2, g3, fun o ho => g4 o (o2 o ho), fun j k v hj => by
   obtain ⟨e, h1, h2, h3⟩ := g5 j k v hj
   exact ⟨e, h1, h2.mono settled cells, h3.mono settled cells⟩⟩
 | _ => trivial
end Go.Deepv
set_option linter.unusedVariables false
set_option linter.unusedSimpArgs false
namespace Go.Deepv
open Go.RowKit
section
variable {P : Program} {G : Glob} {S S' S'' : Settled} {ρ ρ' ρ'' : List RI} {h h' h'' : List Res} {w w' w'' : World}
theorem Ext.refl (S : Settled) (ρ : List RI) (h : List Res) (w : World) : Ext S ρ h w S ρ h w where
 settled := fun _ _ x => x
 cells := fun _ _ _ => rfl
 len := Nat.le_refl _
 boxes := fun _ _ x => x
 rows := fun t n' _ hn => ⟨n', hn, Nat.le_refl _, fun _ => rfl⟩
 size := Nat.le_refl _
 os := rfl
 tape := rfl
 output := rfl
 frame := fun _ _ _ => rfl
 blocks := fun i b r hr hb => .inr ⟨i, r, hr, hb, id⟩
 fresh := fun _ _ x => .inl x
theorem Ext.trans (E : Ext S ρ h w S' ρ' h' w') (E' : Ext S' ρ' h' w' S'' ρ'' h'' w'') : Ext S ρ h w S'' ρ'' h'' w'' where
 settled := fun b o x => E'.settled b o (E.settled b o x)
 cells := fun b o x => (E'.cells b o (E.settled b o x)).trans (E.cells b o x)
 len := Nat.le_trans E.len E'.len
 boxes := fun id b x => E'.boxes id b (E.boxes id b x)
 rows := fun t n2 ht hn => by
  obtain ⟨n1, h1, l1, e1⟩ := E'.rows t n2 (Nat.lt_of_lt_of_le ht E.len) hn
  obtain ⟨n0, h0, l0, e0⟩ := E.rows t n1 ht h1
  exact ⟨n0, h0, by omega, fun he => (e1 (by omega)).trans (e0 (by omega))⟩
 size := Nat.le_trans E.size E'.size
 os := E'.os.trans E.os
 tape := E'.tape.trans E.tape
 output := E'.output.trans E.output
 frame := fun b hb hn => by
  rw [E'.frame b (Nat.lt_of_lt_of_le hb E.size) (fun i r hr he => ?_), E.frame b hb hn]
  rcases E.blocks i b r hr he with h1 | ⟨j, r0, hj, hb0, _⟩
  ·omega
  ·exact hn j r0 hj hb0
 blocks := fun i b r hr hb => by
  rcases E'.blocks i b r hr hb with h1 | ⟨j, r0, hj, hb0, hk⟩
  ·exact .inl (Nat.le_trans E.size h1)
  ·rcases E.blocks j b r0 hj hb0 with h2 | ⟨j', r1, hj', hb1, hk'⟩
   ·exact .inl h2
   ·exact .inr ⟨j', r1, hj', hb1, fun x => hk' (hk x)⟩
 fresh := fun b o x => by
  rcases E'.fresh b o x with h1 | h1 | ⟨i, r, hr, hk, hb⟩
  ·exact E.fresh b o h1
  ·exact .inr (.inl (Nat.le_trans E.size h1))
  ·rcases E.blocks i b r hr hb with h2 | ⟨j, r0, hj, hb0, hk0⟩
   ·exact .inr (.inl h2)
   ·exact .inr (.inr ⟨j, r0, hj, hk0 hk, hb0⟩)
theorem cell?_heap {b o : Nat} (e : w'.heap[b]? = w.heap[b]?) : w'.cell? ⟨b, o, none⟩ = w.cell? ⟨b, o, none⟩ := by
 simp only [World.cell?, e]
theorem ext_quiet (hh : w'.heap = w.heap) (ho : w'.os = w.os) (ht : w'.tape = w.tape) (hp : w'.output = w.output) : Ext S ρ h w S ρ h w' :=
 { Ext.refl S ρ h w with
  cells := fun b o _ => cell?_heap (by rw [hh])
  size := by rw [hh]; exact Nat.le_refl _
  os := ho, tape := ht, output := hp
  frame := fun b _ _ => by rw [hh] }
theorem inv_quiet (hi : Inv P G S ρ h w) (hh : w'.heap = w.heap) (ho : w'.os = w.os) (ht : w'.tape = w.tape) (hp : w'.output = w.output) : Inv P G S ρ h w' where
 len := hi.len
 bound := fun b o x => by rw [hh]; exact hi.bound b o x
 glob := fun b o v g => ⟨(hi.glob b o v g).1, (cell?_heap (by rw [hh])).trans (hi.glob b o v g).2⟩
 low := fun i b r h1 h2 => by rw [hh]; exact hi.low i b r h1 h2
 apart := hi.apart
 box := fun i cells tag h1 => by
  obtain ⟨b, c, e, g1, g2, g3, g4, g5⟩ := hi.box i cells _ h1
  exact ⟨b, c, e, g1, by rw [hh]; exact g2, g3, fun j x hx => ⟨(g4 j x hx).1, (g4 j x hx).2.1, (g4 j x hx).2.2.mono (ext_quiet hh ho ht hp)⟩, g5⟩
 nilrow := hi.nilrow
 row := fun i sz n et h1 => by
  obtain ⟨b, o, cap, c, e, g1, g2, g3⟩ := hi.row i sz n et h1
  exact ⟨b, o, cap, c, e, g1, by rw [hh]; exact g2, g3⟩
 iter := fun i s pos h1 => by
  obtain ⟨b, g1, g2⟩ := hi.iter i s pos h1
  exact ⟨b, g1, by rw [hh]; exact g2⟩
 loop := fun i ps as_ bd snap st h1 => by
  obtain ⟨b, r, g1, g2, g3, g4, g5⟩ := hi.loop i ps as_ bd snap st h1
  exact ⟨b, r, g1, by rw [hh]; exact g2, g3, g4, fun j x hx => ⟨(g5 j x hx).1, (g5 j x hx).2.mono (ext_quiet hh ho ht hp)⟩⟩
 own := fun i r h1 => by
  obtain ⟨ri, g1, g2⟩ := hi.own i r h1
  exact ⟨ri, g1, g2.mono (fun _ _ x => x) (fun b o _ => cell?_heap (by rw [hh])) fun b _ => ⟨by rw [hh], fun _ x => x⟩⟩
theorem heap_alloc_lt (w : World) (o : Obj) {b : Nat} (hb : b < w.heap.size) : (w.alloc o).heap[b]? = w.heap[b]? := Below.heap_alloc w o b hb
theorem heap_alloc_at (w : World) (o : Obj) : (w.alloc o).heap[w.heap.size]? = some o := by
 show (w.heap.push o)[w.heap.size]? = _
 simp
theorem size_alloc (w : World) (o : Obj) : (w.alloc o).heap.size = w.heap.size + 1 := by
 show (w.heap.push o).size = _
 simp
theorem ext_alloc (hi : Inv P G S ρ h w) (o : Obj) (N : Nat → Prop) (rs : List RI) (hs : List Res) (hrs : ∀ (r : RI) (b : Nat), r ∈ rs → r.block = some b → b = w.heap.size) :
  Ext S ρ h w (fun b x => S b x ∨ (b = w.heap.size ∧ N x)) (ρ ++ rs) (h ++ hs) (w.alloc o) where
 settled := fun b o x => .inl x
 cells := fun b x hx => cell?_heap (heap_alloc_lt w o (hi.bound b x hx))
 len := by simp
 boxes := fun id b x => by rw [List.getElem?_append_left (List.getElem?_eq_some_iff.1 x).1]; exact x
 rows := fun t n' ht hn => by
  rw [List.getElem?_append_left ht] at hn
  exact ⟨n', hn, Nat.le_refl _, fun _ => by rw [List.getElem?_append_left (by rw [hi.len]; exact ht)]⟩
 size := by rw [size_alloc]; omega
 os := rfl
 tape := rfl
 output := rfl
 frame := fun b hb _ => heap_alloc_lt w o hb
 blocks := fun i b r hr hb => by
  rcases Nat.lt_or_ge i ρ.length with hl | hl
  ·rw [List.getElem?_append_left hl] at hr
   exact .inr ⟨i, r, hr, hb, id⟩
  ·rw [List.getElem?_append_right hl] at hr
   have := hrs r b (List.mem_of_getElem? hr) hb
   exact .inl (by omega)
 fresh := fun b o x => by
  rcases x with x | ⟨rfl, _⟩
  ·exact .inl x
  ·exact .inr (.inl (Nat.le_refl _))
theorem inv_alloc_old (hi : Inv P G S ρ h w) (o : Obj) (N : Nat → Prop) (rs : List RI) (hs : List Res) (hrs : ∀ (r : RI) (b : Nat), r ∈ rs → r.block = some b → b = w.heap.size) (hlen : rs.length = hs.length)
  (h1 : ∀ (i j b : Nat) (r r' : RI), rs[i]? = some r → rs[j]? = some r' → r.block = some b → r'.block = some b → i = j)
  (hbox : ∀ (i : Nat) (cells : List DV) (tag : Nat), hs[i]? = some (.box cells tag) → ∃ b c e, rs[i]? = some (.box b) ∧ (w.alloc o).heap[b]? = some (.cells c e (0, 0)) ∧ (c.size = cells.length ∧ (tag = 0 ∨ e = tag)) ∧
   (∀ (j : Nat) (x : DV), cells[j]? = some x → x.one = true ∧ x.low (h.length + i + 1) = true ∧ RepD (fun b x => S b x ∨ (b = w.heap.size ∧ N x)) (ρ ++ rs) (h ++ hs) (w.alloc o) (c.getD j undef) x) ∧ ∀ o, ¬ (S b o ∨ (b = w.heap.size ∧ N o)))
  (hnil : ∀ (i : Nat), hs[i]? = some Res.nilrow → rs[i]? = some (RI.row (.slice none 0 0)))
  (hrow : ∀ (i sz n et : Nat), hs[i]? = some (.row sz n et) → ∃ b o' cap c e, rs[i]? = some (.row (.slice (some ⟨b, o', none⟩) n cap)) ∧ (w.alloc o).heap[b]? = some (.cells c e (0, 0)) ∧ (0 < sz ∧ (et = 0 ∨ (e = et ∧ o' = 0))) ∧ n ≤ cap ∧ o' + cap * sz ≤ c.size ∧
   ∀ x, o' + n * sz ≤ x → ¬ (S b x ∨ (b = w.heap.size ∧ N x)))
  (hiter : ∀ (i : Nat) (s : ByteArray) (pos : Nat), hs[i]? = some (.iter s pos) → ∃ b, rs[i]? = some (.box b) ∧ (w.alloc o).heap[b]? = some (.stringIter s pos))
  (hloop : ∀ (i : Nat) (ps : List Nat) (as_ bd : ACode) (snap : List DV) (st : LSt), hs[i]? = some (.loop ps as_ bd snap st) → ∃ b r, rs[i]? = some (.box b) ∧ (w.alloc o).heap[b]? = some (.loop r) ∧ LoopOk P ps as_ bd st r ∧ r.tmps.size = snap.length ∧
   (∀ (j : Nat) (x : DV), snap[j]? = some x → x.low (h.length + i) = true ∧ RepD (fun b x => S b x ∨ (b = w.heap.size ∧ N x)) (ρ ++ rs) (h ++ hs) (w.alloc o) (r.tmps.getD j undef) x) := by intro i ps as_ bd snap st hc; rcases i with _ | i <;> simp at hc)
  (hown : ∀ (i : Nat) (r : Res), hs[i]? = some r → ∃ ri, rs[i]? = some ri ∧ OwnOk (fun b x => S b x ∨ (b = w.heap.size ∧ N x)) (w.alloc o) ri r := by
   intro i r hc
   rcases i with _ | i
   ·simp at hc
    try subst hc
    try exact ⟨_, rfl, trivial⟩
   ·simp at hc) :
  Inv P G (fun b x => S b x ∨ (b = w.heap.size ∧ N x)) (ρ ++ rs) (h ++ hs) (w.alloc o) := by
 have E := ext_alloc hi o N rs hs hrs
 have lo : ∀ (i b : Nat) (r : RI), ρ[i]? = some r → r.block = some b → (w.alloc o).heap[b]? = w.heap[b]? ∧ b ≠ w.heap.size := fun i b r hr hb => by
  have := hi.low i b r hr hb
  exact ⟨heap_alloc_lt w o this, by omega⟩
 constructor
 ·simp [hi.len, hlen]
 ·intro b x hx
  rw [size_alloc]
  rcases hx with hx | ⟨rfl, _⟩
  ·have := hi.bound b x hx
   omega
  ·omega
 ·exact fun b x v g => ⟨E.settled _ _ (hi.glob b x v g).1, (E.cells _ _ (hi.glob b x v g).1).trans (hi.glob b x v g).2⟩
 ·intro i b r hr hb
  rw [size_alloc]
  rcases Nat.lt_or_ge i ρ.length with hl | hl
  ·rw [List.getElem?_append_left hl] at hr
   have := hi.low i b r hr hb
   omega
  ·rw [List.getElem?_append_right hl] at hr
   have := hrs r b (List.mem_of_getElem? hr) hb
   omega
 ·intro i j b r r' hr hr' hb hb'
  rcases Nat.lt_or_ge i ρ.length with hl | hl <;> rcases Nat.lt_or_ge j ρ.length with hl' | hl'
  ·rw [List.getElem?_append_left hl] at hr
   rw [List.getElem?_append_left hl'] at hr'
   exact hi.apart i j b r r' hr hr' hb hb'
  ·rw [List.getElem?_append_left hl] at hr
   rw [List.getElem?_append_right hl'] at hr'
   have a1 := hi.low i b r hr hb
   have a2 := hrs r' b (List.mem_of_getElem? hr') hb'
   omega
  ·rw [List.getElem?_append_right hl] at hr
   rw [List.getElem?_append_left hl'] at hr'
   have a1 := hi.low j b r' hr' hb'
   have a2 := hrs r b (List.mem_of_getElem? hr) hb
   omega
  ·rw [List.getElem?_append_right hl] at hr
   rw [List.getElem?_append_right hl'] at hr'
   have := h1 _ _ b r r' hr hr' hb hb'
   omega
 ·intro i cells tag hc
  rcases Nat.lt_or_ge i h.length with hl | hl
  ·rw [List.getElem?_append_left hl] at hc
   obtain ⟨b, c, e, g1, g2, g3, g4, g5⟩ := hi.box i cells _ hc
   obtain ⟨l1, l2⟩ := lo i b _ g1 rfl
   exact ⟨b, c, e, E.boxes _ _ g1, by rw [l1]; exact g2, g3, fun j x hx => ⟨(g4 j x hx).1, (g4 j x hx).2.1, (g4 j x hx).2.2.mono E⟩, fun o ho => ho.elim (g5 o) fun ho => l2 ho.1⟩
  ·rw [List.getElem?_append_right hl] at hc
   obtain ⟨b, c, e, g1, g2, g3, g4, g5⟩ := hbox _ cells _ hc
   refine ⟨b, c, e, by rw [List.getElem?_append_right (by rw [hi.len]; exact hl), hi.len]; exact g1, g2, g3, fun j x hx => ⟨(g4 j x hx).1, ?_, (g4 j x hx).2.2⟩, g5⟩
   have := (g4 j x hx).2.1
   rwa [show h.length + (i - h.length) + 1 = i + 1 by omega] at this
 ·intro i hc
  rcases Nat.lt_or_ge i h.length with hl | hl
  ·rw [List.getElem?_append_left hl] at hc
   rw [List.getElem?_append_left (by rw [hi.len]; exact hl)]
   exact hi.nilrow i hc
  ·rw [List.getElem?_append_right hl] at hc
   rw [List.getElem?_append_right (by rw [hi.len]; exact hl), hi.len]
   exact hnil _ hc
 ·intro i sz n et hc
  rcases Nat.lt_or_ge i h.length with hl | hl
  ·rw [List.getElem?_append_left hl] at hc
   obtain ⟨b, o', cap, c, e, g1, g2, g3, g4, g5, g7⟩ := hi.row i sz n et hc
   obtain ⟨l1, l2⟩ := lo i b _ g1 rfl
   exact ⟨b, o', cap, c, e, by rw [List.getElem?_append_left (by rw [hi.len]; exact hl)]; exact g1, by rw [l1]; exact g2, g3, g4, g5, fun x hx hs => hs.elim (g7 x hx) fun ho => l2 ho.1⟩
  ·rw [List.getElem?_append_right hl] at hc
   obtain ⟨b, o', cap, c, e, g1, g⟩ := hrow _ sz n et hc
   exact ⟨b, o', cap, c, e, by rw [List.getElem?_append_right (by rw [hi.len]; exact hl), hi.len]; exact g1, g⟩
 ·intro i s pos hc
  rcases Nat.lt_or_ge i h.length with hl | hl
  ·rw [List.getElem?_append_left hl] at hc
   obtain ⟨b, g1, g2⟩ := hi.iter i s pos hc
   exact ⟨b, E.boxes _ _ g1, by rw [(lo i b _ g1 rfl).1]; exact g2⟩
  ·rw [List.getElem?_append_right hl] at hc
   obtain ⟨b, g1, g2⟩ := hiter _ s pos hc
   exact ⟨b, by rw [List.getElem?_append_right (by rw [hi.len]; exact hl), hi.len]; exact g1, g2⟩
 ·intro i ps as_ bd snap st hc
  rcases Nat.lt_or_ge i h.length with hl | hl
  ·rw [List.getElem?_append_left hl] at hc
   obtain ⟨b, r, g1, g2, g3, g4, g5⟩ := hi.loop i ps as_ bd snap st hc
   exact ⟨b, r, E.boxes _ _ g1, by rw [(lo i b _ g1 rfl).1]; exact g2, g3, g4, fun j x hx => ⟨(g5 j x hx).1, (g5 j x hx).2.mono E⟩⟩
  ·rw [List.getElem?_append_right hl] at hc
   obtain ⟨b, r, g1, g2, g3, g4, g5⟩ := hloop _ ps as_ bd snap st hc
   refine ⟨b, r, by rw [List.getElem?_append_right (by rw [hi.len]; exact hl), hi.len]; exact g1, g2, g3, g4, fun j x hx => ⟨?_, (g5 j x hx).2⟩⟩
   have := (g5 j x hx).1
   rwa [show h.length + (i - h.length) = i by omega] at this
 ·intro i r hc
  rcases Nat.lt_or_ge i h.length with hl | hl
  ·rw [List.getElem?_append_left hl] at hc
   obtain ⟨ri, g1, g2⟩ := hi.own i r hc
   refine ⟨ri, by rw [List.getElem?_append_left (by rw [hi.len]; exact hl)]; exact g1, g2.mono E.settled E.cells fun b hb => ?_⟩
   obtain ⟨l1, l2⟩ := lo i b _ g1 hb
   exact ⟨l1, fun o ho => ho.elim id fun ho => absurd ho.1 l2⟩
  ·rw [List.getElem?_append_right hl] at hc
   obtain ⟨ri, g1, g2⟩ := hown _ r hc
   exact ⟨ri, by rw [List.getElem?_append_right (by rw [hi.len]; exact hl), hi.len]; exact g1, g2⟩
theorem ext_rows (hi : Inv P G S ρ h w) (n : Nat) : Ext S ρ h w S (ρ ++ List.replicate n (.row (.slice none 0 0))) (h ++ List.replicate n .nilrow) w :=
 { Ext.refl S ρ h w with
  len := by simp
  boxes := fun id b x => by rw [List.getElem?_append_left (List.getElem?_eq_some_iff.1 x).1]; exact x
  rows := fun t n' ht hn => by
   rw [List.getElem?_append_left ht] at hn
   exact ⟨n', hn, Nat.le_refl _, fun _ => by rw [List.getElem?_append_left (by rw [hi.len]; exact ht)]⟩
  blocks := fun i b r hr hb => by
   rcases Nat.lt_or_ge i ρ.length with hl | hl
   ·rw [List.getElem?_append_left hl] at hr
    exact .inr ⟨i, r, hr, hb, id⟩
   ·rw [List.getElem?_append_right hl] at hr
    have := List.mem_of_getElem? hr
    simp at this
    rw [this.2] at hb
    simp [RI.block] at hb }
theorem inv_rows (hi : Inv P G S ρ h w) (n : Nat) : Inv P G S (ρ ++ List.replicate n (.row (.slice none 0 0))) (h ++ List.replicate n .nilrow) w := by
 have E := ext_rows hi n
 have old : ∀ (i : Nat) (r : RI), (ρ ++ List.replicate n (RI.row (.slice none 0 0)))[i]? = some r → ρ[i]? = some r ∨ r = .row (.slice none 0 0) := fun i r hr => by
  rcases Nat.lt_or_ge i ρ.length with hl | hl
  ·rw [List.getElem?_append_left hl] at hr
   exact .inl hr
  ·rw [List.getElem?_append_right hl] at hr
   have := List.mem_of_getElem? hr
   simp at this
   exact .inr this.2
 have oldh : ∀ (i : Nat) (r : Res), (h ++ List.replicate n Res.nilrow)[i]? = some r → (h[i]? = some r ∧ (ρ ++ List.replicate n (RI.row (.slice none 0 0)))[i]? = ρ[i]?) ∨ (r = .nilrow ∧ (ρ ++ List.replicate n (RI.row (.slice none 0 0)))[i]? = some (.row (.slice none 0 0))) := fun i r hr => by
  rcases Nat.lt_or_ge i h.length with hl | hl
  ·rw [List.getElem?_append_left hl] at hr
   exact .inl ⟨hr, List.getElem?_append_left (by rw [hi.len]; exact hl)⟩
  ·rw [List.getElem?_append_right hl] at hr
   have h1 := List.mem_of_getElem? hr
   simp at h1
   refine .inr ⟨h1.2, ?_⟩
   rw [List.getElem?_append_right (by rw [hi.len]; exact hl), hi.len]
   have := (List.getElem?_eq_some_iff.1 hr).1
   simp at this
   simp [this]
 constructor
 ·simp [hi.len]
 ·exact hi.bound
 ·exact hi.glob
 ·intro i b r hr hb
  rcases old i r hr with h1 | rfl
  ·exact hi.low i b r h1 hb
  ·simp [RI.block] at hb
 ·intro i j b r r' hr hr' hb hb'
  rcases old i r hr with h1 | rfl
  ·rcases old j r' hr' with h2 | rfl
   ·exact hi.apart i j b r r' h1 h2 hb hb'
   ·simp [RI.block] at hb'
  ·simp [RI.block] at hb
 ·intro i cells tag hc
  rcases oldh i _ hc with ⟨h1, h2⟩ | ⟨h1, _⟩
  ·obtain ⟨b, c, e, g1, g2, g3, g4, g5⟩ := hi.box i cells _ h1
   exact ⟨b, c, e, by rw [h2]; exact g1, g2, g3, fun j x hx => ⟨(g4 j x hx).1, (g4 j x hx).2.1, (g4 j x hx).2.2.mono E⟩, g5⟩
  ·cases h1
 ·intro i hc
  rcases oldh i _ hc with ⟨h1, h2⟩ | ⟨_, h2⟩
  ·rw [h2]; exact hi.nilrow i h1
  ·exact h2
 ·intro i sz k et hc
  rcases oldh i _ hc with ⟨h1, h2⟩ | ⟨h1, _⟩
  ·rw [h2]; exact hi.row i sz k et h1
  ·cases h1
 ·intro i s pos hc
  rcases oldh i _ hc with ⟨h1, h2⟩ | ⟨h1, _⟩
  ·rw [h2]; exact hi.iter i s pos h1
  ·cases h1
 ·intro i ps as_ bd snap st hc
  rcases oldh i _ hc with ⟨h1, h2⟩ | ⟨h1, _⟩
  ·obtain ⟨b, r, g1, g2, g3, g4, g5⟩ := hi.loop i ps as_ bd snap st h1
   exact ⟨b, r, by rw [h2]; exact g1, g2, g3, g4, fun j x hx => ⟨(g5 j x hx).1, (g5 j x hx).2.mono E⟩⟩
  ·cases h1
 ·intro i r hc
  rcases oldh i _ hc with ⟨h1, h2⟩ | ⟨rfl, h2⟩
  ·obtain ⟨ri, g1, g2⟩ := hi.own i r h1
   exact ⟨ri, by rw [h2]; exact g1, g2⟩
  ·exact ⟨_, h2, trivial⟩
end
end Go.Deepv

namespace Go.Deepv
open Go.RowKit
structure RepA (S : Settled) (ρ : List RI) (h : List Res) (w : World) (a : Array Value) (ad : List DV) : Prop where
  len : a.size = ad.length
  at_ : ∀ (j : Nat) (x : DV), ad[j]? = some x → RepD S ρ h w (a.getD j undef) x
theorem RepA.mono {S S' : Settled} {ρ ρ' : List RI} {h h' : List Res} {w w' : World} {a : Array Value} {ad : List DV} (E : Ext S ρ h w S' ρ' h' w') (ha : RepA S ρ h w a ad) : RepA S' ρ' h' w' a ad :=
  ⟨ha.len, fun j x hx => (ha.at_ j x hx).mono E⟩
def SimOut (P : Program) (G : Glob) (S : Settled) (ρ : List RI) (h : List Res) (w : World) (r : Result Next) : DOut → Prop
  | .val v h' => ∃ x w' S' ρ', (r = .ok (.value x) w' ∨ (r = .ok .skip w' ∧ x = undef)) ∧ RepD S' ρ' h' w' x v ∧ Ext S ρ h w S' ρ' h' w' ∧ Inv P G S' ρ' h' w'
  | .pan v h' => ∃ x w' S' ρ', r = .halt (.panic x) w' ∧ RepD S' ρ' h' w' x v ∧ Ext S ρ h w S' ρ' h' w' ∧ Inv P G S' ρ' h' w'
section
variable {P : Program} {G : Glob} {S : Settled} {ρ : List RI} {h : List Res} {w : World} {a : Act} {ad : List DV}
theorem SimOut.plain (hi : Inv P G S ρ h w) {x : Value} {v : DV} (hx : RepD S ρ h w x v) : SimOut P G S ρ h w (.ok (.value x) w) (.val v h) :=
  ⟨x, w, S, ρ, .inl rfl, hx, Ext.refl _ _ _ _, hi⟩
theorem rep_const {v : Value} {x : FV} (hc : constOk v x = true) : RepF S w v x := by
  unfold constOk at hc
  split at hc
  · simp at hc; obtain ⟨rfl, rfl⟩ := hc; exact .int _ _
  · simp at hc; subst hc; exact .bool _
  · rename_i s s'
    have : s = s' := by cases s; cases s'; simp at hc; simpa using hc
    subst this; exact .str _
  · exact .slice0 _ _ _
  · exact .nils _
  · exact .nilp
  · exact .nili
  · exact .nilf
  · exact .nilm
  · cases hc
theorem rep_consts : ∀ {vs : List Value} {fs : List FV}, constsOk vs fs = true → vs.length = fs.length ∧ ∀ (j : Nat) (x : FV), fs[j]? = some x → RepF S w (vs.getD j undef) x
  | [], [], _ => ⟨rfl, fun j x hx => by simp at hx⟩
  | v :: vs, f :: fs, hc => by
    simp only [constsOk, Bool.and_eq_true] at hc
    obtain ⟨l, r⟩ := rep_consts hc.2
    refine ⟨by simp [l], fun j x hx => ?_⟩
    cases j with
    | zero => simp at hx; subst hx; simpa using rep_const hc.1
    | succ j => simpa using r j x (by simpa using hx)
  | [], _ :: _, hc => by simp [constsOk] at hc
  | _ :: _, [], hc => by simp [constsOk] at hc
theorem rep_trConst {t : TypeId} {v : Value} {x : FV} (hc : trConst P t v = some x) : RepF S w v x := by
  unfold trConst at hc
  split at hc
  · split at hc
    · rename_i fs _ cs
      split at hc
      · rename_i hk
        simp at hc
        subst hc
        obtain ⟨l, r⟩ := rep_consts (S := S) (w := w) hk
        exact .agg _ _ (by simpa using l) (fun j x hx => by simpa [Array.getD_eq_getD_getElem?, List.getD_eq_getElem?_getD] using r j x hx)
      · cases hc
    · split at hc
      · split at hc
        · rename_i hk
          simp at hc
          subst hc
          exact rep_const hk
        · cases hc
      · cases hc
  · cases hc
theorem rep_opd (ha : RepA S ρ h w a.tmps ad) {t : TypeId} {x : Operand} {y : Opd} (ht : trOpd P t x = some y) : RepD S ρ h w (a.eval x) (ev ad y) := by
  cases x with
  | tmp t =>
    simp only [trOpd, Option.some.injEq] at ht
    subst ht
    simp only [Act.eval, ev]
    rcases Nat.lt_or_ge t ad.length with hl | hl
    · rw [List.getD_eq_getElem?_getD, List.getElem?_eq_getElem hl, Option.getD_some]
      exact ha.at_ t _ (List.getElem?_eq_getElem hl)
    · rw [List.getD_eq_getElem?_getD, List.getElem?_eq_none hl, Option.getD_none]
      exact .d _ _ (.undef _)
  | const v =>
    simp only [trOpd, Option.map_eq_some_iff] at ht
    obtain ⟨f, hf, rfl⟩ := ht
    exact .d _ _ (rep_trConst hf)
  | global g => simp [trOpd] at ht
  | func f =>
    simp only [trOpd, Option.some.injEq] at ht
    subst ht
    exact .d _ _ (.func _ _ _ _ _ rfl rfl (fun j x hx => by simp at hx) (fun j x hx => by simp at hx))
theorem repD_d {v : Value} {x : FV} (hx : RepD S ρ h w v (.d x)) : RepF S w v x := by cases hx; assumption
theorem repF_int {v : Value} {k : IntKind} {n : Int} (hx : RepF S w v (.int k n)) : v = .int k n := by cases hx; rfl
theorem repF_bool {v : Value} {b : Bool} (hx : RepF S w v (.bool b)) : v = .bool b := by cases hx; rfl
theorem repF_str {v : Value} {s : ByteArray} (hx : RepF S w v (.str s)) : v = .string s := by cases hx; rfl
theorem run_bin {op : BinOp} {t : TypeId} {x y : Operand} {vx vy : Value} {fx fy f : FV} (hx : RepF S w vx fx) (hy : RepF S w vy fy) (hd : dbin op fx fy = some f) :
    ∃ v, ((do eqGuard op t x y vx vy; binOp op t vx vy : Sem Value)).run P w = .ok v w ∧ RepF S w v f := by
  cases fx with
  | int k n =>
    cases fy with
    | int k' m =>
      obtain rfl := repF_int hx
      obtain rfl := repF_int hy
      have hg : (eqGuard op t x y (.int k n) (.int k' m)).run P w = .ok () w := by
        unfold eqGuard
        split <;> rfl
      simp only [Sem.run_bind, hg, Result.andThen_ok]
      by_cases h1 : op = .shl
      · subst h1
        simp only [dbin] at hd
        split at hd
        · cases hd
        · rename_i hn
          simp at hd
          subst hd
          exact ⟨_, by simp only [binOp, Op.shift]; rw [if_neg hn]; rfl, .int _ _⟩
      by_cases h2 : op = .shr
      · subst h2
        simp only [dbin] at hd
        split at hd
        · cases hd
        · rename_i hn
          simp at hd
          subst hd
          exact ⟨_, by simp only [binOp, Op.shift]; rw [if_neg hn]; rfl, .int _ _⟩
      have hkk : k = k' := by
        by_cases hk : k = k'
        · exact hk
        · cases op <;> simp_all [dbin]
      subst hkk
      cases op <;> simp only [dbin, ne_eq, not_true_eq_false, if_false, Option.some.injEq, reduceCtorEq] at hd h1 h2 <;> first
        | contradiction
        | (subst hd; first
            | exact ⟨_, by simp only [binOp, ne_eq, not_true_eq_false, if_false, Op.intArith, Op.intBits, Op.intCmp]; rfl, .int _ _⟩
            | exact ⟨_, by simp only [binOp, ne_eq, not_true_eq_false, if_false, Op.intArith, Op.intBits, Op.intCmp]; rfl, .bool _⟩)
        | (split at hd
           · cases hd
           · rename_i hn
             simp at hd
             subst hd
             exact ⟨_, by simp only [binOp, ne_eq, not_true_eq_false, if_false, Op.intDiv]; rw [if_neg hn]; rfl, .int _ _⟩)
    | _ => cases op <;> simp [dbin] at hd
  | str s =>
    cases fy with
    | str s' =>
      obtain rfl := repF_str hx
      obtain rfl := repF_str hy
      have hg : (eqGuard op t x y (.string s) (.string s')).run P w = .ok () w := by
        unfold eqGuard
        split <;> rfl
      simp only [Sem.run_bind, hg, Result.andThen_ok]
      cases op <;> simp only [dbin, Option.some.injEq, reduceCtorEq] at hd
      case add =>
        split at hd
        · rename_i hn
          simp at hd
          subst hd
          refine ⟨_, ?_, .str _⟩
          have hm : ¬ (((s.size + s'.size : Nat) : Int) > IntKind.i64.max) := by
            have : IntKind.i64.max = 9223372036854775807 := by decide
            rw [this]
            omega
          simp only [binOp, Op.stringOp]
          rw [if_neg hm]
          rfl
        · cases hd
      all_goals
        subst hd
        exact ⟨_, by simp only [binOp, Op.stringOp]; rfl, .bool _⟩
    | _ => cases op <;> simp [dbin] at hd
  | _ => cases op <;> simp [dbin] at hd
theorem mapM_some {α β : Type} {f : α → Option β} : ∀ {l : List α} {r : List β}, l.mapM f = some r → r.length = l.length ∧ ∀ (j : Nat) (y : β), r[j]? = some y → ∃ x, l[j]? = some x ∧ f x = some y
  | [], r, h => by
    simp at h
    subst h
    exact ⟨rfl, fun j y hy => by simp at hy⟩
  | x :: l, r, h => by
    simp only [List.mapM_cons, Option.pure_def, Option.bind_eq_bind, Option.bind_eq_some_iff, Option.some.injEq] at h
    obtain ⟨y, hy, r', hr, rfl⟩ := h
    obtain ⟨h1, h2⟩ := mapM_some hr
    refine ⟨by simp [h1], fun j z hz => ?_⟩
    cases j with
    | zero => simp at hz; subst hz; exact ⟨x, rfl, hy⟩
    | succ j => simpa using h2 j z (by simpa using hz)
theorem rep_flat {v : Value} {x : DV} {f : FV} (hx : RepD S ρ h w v x) (hf : x.flat = some f) : RepF S w v f := by
  cases hx with
  | d v x hx => simp [DV.flat] at hf; subst hf; exact hx
  | row v sz elems t hx ht hr => simp [DV.flat] at hf; subst hf; exact hx
  | _ => simp [DV.flat] at hf
theorem rep_flats {u : Nat → Value} {cs : List DV} {fs : List FV} (hx : ∀ (j : Nat) (x : DV), cs[j]? = some x → RepD S ρ h w (u j) x) (hf : cs.mapM DV.flat = some fs) :
    fs.length = cs.length ∧ ∀ (j : Nat) (x : FV), fs[j]? = some x → RepF S w (u j) x := by
  obtain ⟨h1, h2⟩ := mapM_some hf
  refine ⟨h1, fun j x hj => ?_⟩
  obtain ⟨y, hy, hfy⟩ := h2 j x hj
  exact rep_flat (hx j y hy) hfy
theorem rep_mkAgg {cs : Array Value} {fs : List DV} (hl : cs.size = fs.length) (hx : ∀ (j : Nat) (x : DV), fs[j]? = some x → RepD S ρ h w (cs.getD j undef) x) : RepD S ρ h w (.agg cs) (DV.mkAgg fs) := by
  unfold DV.mkAgg
  split
  · rename_i gs hg
    obtain ⟨h1, h2⟩ := rep_flats hx hg
    exact .d _ _ (.agg _ _ (by rw [hl, h1]) h2)
  · exact .agg _ _ hl hx
theorem rep_coe {v : Value} {x : DV} (hx : RepD S ρ h w v x) : RepD S ρ h w v x.coe := by
  cases hx with
  | d v x hx => exact .d _ _ hx
  | ptr id off b hb => exact .ptr _ _ _ hb
  | row v sz elems t hx ht hr => exact .d _ _ hx
  | agg cs fs hl hh => exact rep_mkAgg hl hh
  | clo fn p q fp fq hp hq h1 h2 => exact .clo _ _ _ _ _ hp hq h1 h2
  | tup cs fs hl hh =>
    simp only [DV.coe]
    split
    · rename_i gs hg
      obtain ⟨h1, h2⟩ := rep_flats hh hg
      exact .d _ _ (.tup _ _ (by rw [hl, h1]) h2)
    · exact .tup _ _ hl hh
  | iface t v x hh => exact .iface _ _ _ hh
  | yld id b hb => exact .yld _ _ hb
  | bslc id off n cap b hc hb => exact .bslc _ _ _ _ _ hc hb
  | rptr A p n cap elems t hx hp ht hr => exact .rptr _ _ _ _ _ _ hx hp ht hr
  | vslc b o cap id g sz off n hc ht hr => exact .vslc _ _ _ _ _ _ _ _ hc ht hr
  | eptr b o' id g k o ht hr => exact .eptr _ _ _ _ _ _ ht hr
  | mref id b hb => exact .mref _ _ hb
theorem rep_cells {v : Value} {x : DV} (hx : RepD S ρ h w v x) (h1 : x.cells.all DV.one = true) : v.cells.size = x.cells.length ∧ (∀ (j : Nat) (y : DV), x.cells[j]? = some y → RepD S ρ h w (v.cells.getD j undef) y) ∧ ∀ u ∈ v.cells.toList, u.oneCell' = true := by
  have key : v.cells.size = x.cells.length ∧ (∀ (j : Nat) (y : DV), x.cells[j]? = some y → RepD S ρ h w (v.cells.getD j undef) y) := by
    have plain : v.cells = #[v] → x.cells = [x] → v.cells.size = x.cells.length ∧ (∀ (j : Nat) (y : DV), x.cells[j]? = some y → RepD S ρ h w (v.cells.getD j undef) y) := fun e1 e2 => by
      rw [e1, e2]
      refine ⟨rfl, fun j y hy => ?_⟩
      cases j with
      | zero => simp at hy; subst hy; simpa using hx
      | succ j => simp at hy
    cases hx with
    | d v x hf =>
      cases hf with
      | agg cs fs hl hh =>
        refine ⟨by simp [Value.cells, DV.cells, hl], fun j y hy => ?_⟩
        simp only [DV.cells, List.getElem?_map, Option.map_eq_some_iff] at hy
        obtain ⟨f, hf, rfl⟩ := hy
        exact .d _ _ (hh j f hf)
      | undef v => simp [DV.cells, DV.one, FV.one] at h1
      | _ => exact plain rfl rfl
    | agg cs fs hl hh => exact ⟨by simp [Value.cells, DV.cells, hl], fun j y hy => hh j y hy⟩
    | row v sz elems t hx0 ht hr =>
      cases hx0 <;> exact plain rfl rfl
    | _ => exact plain rfl rfl
  refine ⟨key.1, key.2, fun u hu => ?_⟩
  obtain ⟨j, hj, rfl⟩ := List.getElem_of_mem hu
  have hj' : j < x.cells.length := by rw [← key.1]; simpa using hj
  have := key.2 j _ (List.getElem?_eq_getElem hj')
  have e : v.cells.getD j undef = v.cells.toList[j] := by
    rw [Array.getD_eq_getD_getElem?, Array.getElem?_eq_getElem (by simpa using hj)]
    simp
  rw [e] at this
  exact this.one ((List.all_eq_true.1 h1) _ (List.getElem_mem hj'))
theorem add_none (b o j : Nat) : (⟨b, o, none⟩ : Addr).add j = ⟨b, o + j, none⟩ := by unfold Addr.add; split <;> simp_all
theorem run_isAgg {t : TypeId} {n : Option Nat} (hn : isAggB P t = some n) : (isAgg t).run P w = .ok n.isSome w ∧ ∀ k, n = some k → (sizeOf t).run P w = .ok k w := by
  unfold isAggB at hn
  split at hn
  · rename_i h1
    simp only [Option.map_eq_some_iff] at hn
    obtain ⟨i, hi, rfl⟩ := hn
    exact ⟨by simp [isAgg, underlying, h1], fun k hk => by simp at hk; subst hk; simp [sizeOf, typeInfo, hi]⟩
  · rename_i h1
    simp only [Option.map_eq_some_iff] at hn
    obtain ⟨i, hi, rfl⟩ := hn
    exact ⟨by simp [isAgg, underlying, h1], fun k hk => by simp at hk; subst hk; simp [sizeOf, typeInfo, hi]⟩
  · rename_i d h1 h2 h3
    simp only [Option.some.injEq] at hn
    subst hn
    refine ⟨?_, fun k hk => by cases hk⟩
    cases d <;> simp_all [isAgg, underlying]
  · cases hn
def pack : Option Nat → (Nat → Value) → Value
  | none, u => u 0
  | some k, u => .agg ((List.range k).map u).toArray
theorem run_loadVar {t : TypeId} {n : Option Nat} (hn : isAggB P t = some n) (b o : Nat) (u : Nat → Value) (hc : ∀ j, j < n.getD 1 → w.cell? ⟨b, o + j, none⟩ = some (u j)) :
    (loadVar t ⟨b, o, none⟩).run P w = .ok (pack n u) w := by
  obtain ⟨h1, h2⟩ := run_isAgg (w := w) hn
  cases n with
  | none =>
    have := hc 0 (by simp)
    simp only [Nat.add_zero] at this
    simp [loadVar, h1, this, pack]
  | some k =>
    have hk := h2 k rfl
    have hl := run_loadCells (P := P) w ⟨b, o, none⟩ k u (fun j hj => by rw [add_none]; exact hc j hj)
    simp [loadVar, h1, hk, hl, pack]
theorem rep_dload {n : Option Nat} {cells : List DV} {off : Nat} {v : DV} (u : Nat → Value) (hu : ∀ (j : Nat) (x : DV), cells[j]? = some x → RepD S ρ h w (u j) x) (hd : dload n cells off = some v) :
    off + n.getD 1 ≤ cells.length ∧ RepD S ρ h w (pack n fun j => u (off + j)) v := by
  unfold dload at hd
  cases n with
  | none =>
    simp only at hd
    have := (List.getElem?_eq_some_iff.1 hd).1
    exact ⟨by simp; omega, hu off v hd⟩
  | some k =>
    simp only at hd
    split at hd
    · rename_i hk
      simp only [Option.some.injEq] at hd
      subst hd
      refine ⟨by simpa using hk, rep_mkAgg (by simp; omega) fun j x hx => ?_⟩
      have hj : j < k := by
        have := (List.getElem?_eq_some_iff.1 hx).1
        simp at this
        omega
      rw [List.getElem?_take_of_lt hj, List.getElem?_drop] at hx
      have := hu (off + j) x hx
      simpa [Array.getD_eq_getD_getElem?, hj] using this
    · cases hd
theorem own_elem (hi : Inv P G S ρ h w) {id sz k fz et : Nat} {l : List (List FV)} {c' : List FV} (hv : h[id]? = some (.vec sz l fz et)) (hk : l[k]? = some c') :
    ∃ b C c e, ρ[id]? = some (.vec b C sz) ∧ w.heap[b]? = some (.cells c e (0, 0)) ∧ 0 < sz ∧ k * sz + c'.length ≤ c.size ∧ c'.length = sz ∧ (∀ (j : Nat) (x : FV), c'[j]? = some x → x.one = true ∧ RepF S w (c.getD (k * sz + j) undef) x) := by
  obtain ⟨ri, r1, b, C, c, e, rfl, g2, g3, g4, g5, g6, g7, g8, g9⟩ := hi.own id _ hv
  obtain ⟨h1, h2⟩ := g9 k c' hk
  refine ⟨b, C, c, e, r1, g2, g3, ?_, h1, h2⟩
  have : k < l.length := (List.getElem?_eq_some_iff.1 hk).1
  have h3 : (k + 1) * sz ≤ C * sz := Nat.mul_le_mul_right _ (by omega)
  rw [Nat.add_mul, Nat.one_mul] at h3
  omega
theorem rep_place (hi : Inv P G S ρ h w) {v : Value} {x : DV} (hx : RepD S ρ h w v x) {cells : List DV} {off : Nat}
    (hp : (∃ fs, x = .d (.ref fs off) ∧ cells = fs.map .d) ∨ (∃ id tag, x = .ptr id off ∧ h[id]? = some (.box cells tag)) ∨ (∃ id k sz l fz et c, x = .eptr id l.length k off ∧ h[id]? = some (.vec sz l fz et) ∧ l[k]? = some c ∧ cells = c.map .d)) :
    ∃ (b o : Nat) (u : Nat → Value), v = .pointer (some ⟨b, o + off, none⟩) ∧ (∀ j, j < cells.length → w.cell? ⟨b, o + j, none⟩ = some (u j)) ∧ ∀ (j : Nat) (y : DV), cells[j]? = some y → RepD S ρ h w (u j) y := by
  rcases hp with ⟨fs, rfl, rfl⟩ | ⟨id, tag, rfl, hb⟩ | ⟨id, k, sz, l, fz, et, c', rfl, hv, hk, rfl⟩
  · have := repD_d hx
    cases this with
    | ref b o off cells u hc hr ho1 =>
      refine ⟨b, o, u, rfl, fun j hj => (hc j (by simpa using hj)).2, fun j y hy => ?_⟩
      simp only [List.getElem?_map, Option.map_eq_some_iff] at hy
      obtain ⟨f, hf, rfl⟩ := hy
      exact .d _ _ (hr j f hf)
  · cases hx with
    | ptr id off b hid =>
      obtain ⟨b', c, e, g1, g2, ⟨g3, _⟩, g4, g5⟩ := hi.box id cells _ hb
      have : b = b' := by rw [hid] at g1; simpa using g1
      subst this
      refine ⟨b, 0, fun j => c.getD j undef, by simp, fun j hj => ?_, fun j y hy => (g4 j y hy).2.2⟩
      simp only [World.cell?, g2, Nat.zero_add]
      have hj' : j < c.size := by omega
      simp [Array.getD_eq_getD_getElem?, hj']
  · obtain ⟨b, C, c, e, g1, g2, g3, g4, g5, g6⟩ := own_elem hi hv hk
    cases hx with
    | eptr b' o' _ _ _ _ ht hr =>
      obtain ⟨C', sz', q1, q2⟩ := (hr l.length (by rw [hv]; rfl)).2 rfl
      rw [g1] at q1
      simp only [Option.some.injEq, RI.vec.injEq] at q1
      obtain ⟨rfl, rfl, rfl⟩ := q1
      refine ⟨b, k * sz, fun j => c.getD (k * sz + j) undef, by rw [q2], fun j hj => ?_, fun j y hy => ?_⟩
      · simp only [World.cell?, g2]
        have hj' : k * sz + j < c.size := by simp at hj; omega
        simp [Array.getD_eq_getD_getElem?, hj']
      · simp only [List.getElem?_map, Option.map_eq_some_iff] at hy
        obtain ⟨f, hf, rfl⟩ := hy
        exact .d _ _ (g6 j f hf).2
theorem sim_load (hi : Inv P G S ρ h w) (ha : RepA S ρ h w a.tmps ad) {t : TypeId} {x : Operand} {n : Option Nat} {y : Opd} (hn : isAggB P t = some n) (ho : trOpd P 0 x = some y) {call : Cle → List DV → List Res → Option DOut} {out : DOut}
    (hd : dop call (.load n y) ad h = some out) : SimOut P G S ρ h w ((do pure (Next.value (← Instr.loadAt t (a.eval x))) : Sem Next).run P w) out := by
  have hx := rep_opd ha ho
  simp only [dop] at hd
  have key : ∀ (cells : List DV) (off : Nat) (v : DV), ((∃ fs, ev ad y = .d (.ref fs off) ∧ cells = fs.map .d) ∨ (∃ id tag, ev ad y = .ptr id off ∧ h[id]? = some (.box cells tag)) ∨ (∃ id k sz l fz et c, ev ad y = .eptr id l.length k off ∧ h[id]? = some (.vec sz l fz et) ∧ l[k]? = some c ∧ cells = c.map .d)) → dload n cells off = some v → out = .val v h →
      SimOut P G S ρ h w ((do pure (Next.value (← Instr.loadAt t (a.eval x))) : Sem Next).run P w) out := by
    intro cells off v hp hv he
    obtain ⟨b, o, u, e, hc, hr⟩ := rep_place hi hx hp
    obtain ⟨l1, l2⟩ := rep_dload u hr hv
    have hl := run_loadVar (P := P) (w := w) hn b (o + off) (fun j => u (off + j)) (fun j hj => by rw [Nat.add_assoc]; exact hc _ (by omega))
    subst he
    have e2 : ((do pure (Next.value (← Instr.loadAt t (a.eval x))) : Sem Next).run P w) = .ok (.value (pack n fun j => u (off + j))) w := by
      rw [e]
      simp only [Instr.loadAt, Instr.sureAddr, pure_bind, Sem.run_bind, hl, Result.andThen_ok, Sem.run_pure]
    rw [e2]
    exact SimOut.plain hi l2
  split at hd
  · rename_i cells off hev
    simp only [Option.map_eq_some_iff] at hd
    obtain ⟨v, hv, rfl⟩ := hd
    exact key _ off v (.inl ⟨cells, hev, rfl⟩) hv rfl
  · rename_i id off hev
    split at hd
    · rename_i cells hb
      simp only [Option.map_eq_some_iff] at hd
      obtain ⟨v, hv, rfl⟩ := hd
      exact key _ off v (.inr (.inl ⟨id, _, hev, hb⟩)) hv rfl
    · cases hd
  · rename_i id g k o hev
    split at hd
    · rename_i sz l fz et hb
      split at hd
      · rename_i hg
        subst hg
        split at hd
        · rename_i c hk
          simp only [Option.map_eq_some_iff] at hd
          obtain ⟨v, hv, rfl⟩ := hd
          exact key _ o v (.inr (.inr ⟨id, k, _, l, _, _, c, hev, hb, hk, rfl⟩)) hv rfl
        · cases hd
      · cases hd
    · cases hd
  · cases hd
theorem nilC_map (h : List Res) (l : List FV) : (l.map DV.d).map (nilC h) = l.map DV.d := by
  rw [List.map_map]
  rfl
theorem rep_nilC (hi : Inv P G S ρ h w) {v : Value} {x : DV} (hx : RepD S ρ h w v x) : RepD S ρ h w v (nilC h x) := by
  cases hx with
  | row v sz elems t hx ht hr =>
    cases elems with
    | nil =>
      simp only [nilC]
      split
      · rename_i hn
        have h1 := (hr 0 (by rw [hn]; rfl)).2 rfl
        rw [hi.nilrow t hn] at h1
        simp only [Option.some.injEq, RI.row.injEq] at h1
        subst h1
        exact .d _ _ (.nils _)
      · exact .row v sz [] t hx ht hr
    | cons a l => exact .row v sz (a :: l) t hx ht hr
  | d v x hx => exact .d v x hx
  | ptr id off b hb => exact .ptr id off b hb
  | agg cs fs hl hh => exact .agg cs fs hl hh
  | clo fn p q fp fq hp hq h1 h2 => exact .clo fn p q fp fq hp hq h1 h2
  | tup cs fs hl hh => exact .tup cs fs hl hh
  | iface t v x hh => exact .iface t v x hh
  | yld id b hb => exact .yld id b hb
  | bslc id off n cap b hc hb => exact .bslc id off n cap b hc hb
  | rptr A p n cap elems t hx hp ht hr => exact .rptr A p n cap elems t hx hp ht hr
  | vslc b o cap id g sz off n hc ht hr => exact .vslc b o cap id g sz off n hc ht hr
  | eptr b o' id g k o ht hr => exact .eptr b o' id g k o ht hr
  | mref id b hb => exact .mref id b hb
theorem sim_loadk (hi : Inv P G S ρ h w) (ha : RepA S ρ h w a.tmps ad) {t : TypeId} {x : Operand} {n : Option Nat} {y : Opd} (hn : isAggB P t = some n) (ho : trOpd P 0 x = some y) {call : Cle → List DV → List Res → Option DOut} {out : DOut}
    (hd : dop call (.loadk n y) ad h = some out) : SimOut P G S ρ h w ((do pure (Next.value (← Instr.loadAt t (a.eval x))) : Sem Next).run P w) out := by
  have hx := rep_opd ha ho
  simp only [dop] at hd
  have key : ∀ (cells : List DV) (off : Nat) (v : DV), ((∃ fs, ev ad y = .d (.ref fs off) ∧ cells = fs.map .d) ∨ (∃ id tag, ev ad y = .ptr id off ∧ h[id]? = some (.box cells tag)) ∨ (∃ id k sz l fz et c, ev ad y = .eptr id l.length k off ∧ h[id]? = some (.vec sz l fz et) ∧ l[k]? = some c ∧ cells = c.map .d)) → dload n (cells.map (nilC h)) off = some v → out = .val v h →
      SimOut P G S ρ h w ((do pure (Next.value (← Instr.loadAt t (a.eval x))) : Sem Next).run P w) out := by
    intro cells off v hp hv he
    obtain ⟨b, o, u, e, hc0, hr0⟩ := rep_place hi hx hp
    have hc : ∀ j, j < (cells.map (nilC h)).length → w.cell? ⟨b, o + j, none⟩ = some (u j) := fun j hj => hc0 j (by simpa using hj)
    have hr : ∀ (j : Nat) (y : DV), (cells.map (nilC h))[j]? = some y → RepD S ρ h w (u j) y := fun j y hy => by
      simp only [List.getElem?_map, Option.map_eq_some_iff] at hy
      obtain ⟨z, hz, rfl⟩ := hy
      exact rep_nilC hi (hr0 j z hz)
    obtain ⟨l1, l2⟩ := rep_dload u hr hv
    have hl := run_loadVar (P := P) (w := w) hn b (o + off) (fun j => u (off + j)) (fun j hj => by rw [Nat.add_assoc]; exact hc _ (by omega))
    subst he
    have e2 : ((do pure (Next.value (← Instr.loadAt t (a.eval x))) : Sem Next).run P w) = .ok (.value (pack n fun j => u (off + j))) w := by
      rw [e]
      simp only [Instr.loadAt, Instr.sureAddr, pure_bind, Sem.run_bind, hl, Result.andThen_ok, Sem.run_pure]
    rw [e2]
    exact SimOut.plain hi l2
  split at hd
  · rename_i cells off hev
    simp only [Option.map_eq_some_iff] at hd
    obtain ⟨v, hv, rfl⟩ := hd
    exact key _ off v (.inl ⟨cells, hev, rfl⟩) (by rw [nilC_map]; exact hv) rfl
  · rename_i id off hev
    split at hd
    · rename_i cells hb
      simp only [Option.map_eq_some_iff] at hd
      obtain ⟨v, hv, rfl⟩ := hd
      exact key _ off v (.inr (.inl ⟨id, _, hev, hb⟩)) hv rfl
    · cases hd
  · rename_i id g k o hev
    split at hd
    · rename_i sz l fz et hb
      split at hd
      · rename_i hg
        subst hg
        split at hd
        · rename_i c hk
          simp only [Option.map_eq_some_iff] at hd
          obtain ⟨v, hv, rfl⟩ := hd
          exact key _ o v (.inr (.inr ⟨id, k, _, l, _, _, c, hev, hb, hk, rfl⟩)) (by rw [nilC_map]; exact hv) rfl
        · cases hd
      · cases hd
    · cases hd
  · cases hd
end
end Go.Deepv
namespace Go.Deepv
open Go.RowKit
section
variable {P : Program} {G : Glob} {S : Settled} {ρ : List RI} {h : List Res} {w : World} {a : Act} {ad : List DV} {call : Cle → List DV → List Res → Option DOut} {out : DOut}
theorem run_v {s : Sem Value} {x : Value} {w' : World} (e : s.run P w = .ok x w') : (do pure (Next.value (← s)) : Sem Next).run P w = .ok (.value x) w' := by
 simp [e]
def binS (op : BinOp) (t : TypeId) (x y : Operand) (vx vy : Value) : Sem Value := do
 eqGuard op t x y vx vy
 binOp op t vx vy
inductive NilVal : Nat → Bool → Value → Prop
 | p0 : NilVal 0 true (.pointer none)
 | p1 (a : Addr) : NilVal 0 false (.pointer (some a))
 | i0 : NilVal 1 true .nilIface
 | i1 (t : TypeId) (v : Value) : NilVal 1 false (.iface t v)
 | f0 : NilVal 2 true .nilFunc
 | f1 (fn : Fn) (p q : Array Value) : NilVal 2 false (.func fn p q)
 | s0 (n c : Nat) : NilVal 3 true (.slice none n c)
 | s1 (a : Addr) (n c : Nat) : NilVal 3 false (.slice (some a) n c)
 | m0 : NilVal 4 true (.map none)
 | m1 (b : Nat) : NilVal 4 false (.map (some b))
theorem nil_val {k : Nat} {v : Value} {x : DV} {b : Bool} (hx : RepD S ρ h w v x) (hb : nilness k x = some b) : NilVal k b v := by
 unfold nilness at hb
 split at hb <;> first
  | (cases hb; done)
  | skip
 all_goals
  simp only [Option.some.injEq] at hb
  subst hb
  cases hx
  all_goals first
   | constructor
   | (rename_i hx; cases hx; constructor)
def KindOf (k : Nat) (u : TypeDesc) : Prop := match k, u with
 | 0, .pointer _ => True
 | 1, .interface _ => True
 | 2, .func _ _ _ => True
 | 3, .slice _ => True
 | 4, .map _ _ => True
 | _, _ => False
theorem equal_nil {k : Nat} {u : TypeDesc} {xt : TypeId} {v n : Value} {b : Bool} (hu : P.underlying xt = some u) (hk : KindOf k u) (hv : NilVal k b v) (hn : NilVal k true n) :
  (Op.equal xt v n).run P w = .ok b w ∧ (Op.equal xt n v).run P w = .ok b w := by
 unfold Op.equal
 rw [show Op.maxDepth = 9999 + 1 from rfl]
 unfold Op.equalIn
 unfold KindOf at hk
 split at hk <;> first
  | (cases hk; done)
  | skip
 all_goals
  cases hn
  cases hv <;> simp [underlying, hu]
theorem guard_nil {op : BinOp} {k : Nat} {xt : TypeId} {x y : Operand} {v n : Value} {b : Bool} (hv : NilVal k b v) (hn : NilVal k true n) (hc : isNilConst k x = true ∨ isNilConst k y = true) : (eqGuard op xt x y v n).run P w = .ok () w ∧ (eqGuard op xt x y n v).run P w = .ok () w := by
 have key : ∀ {z : Operand}, isNilConst k z = true → ∃ c, z = .const c := by
  intro z hz
  unfold isNilConst at hz
  split at hz <;> first | exact ⟨_, rfl⟩ | cases hz
 unfold eqGuard
 rcases hc with hc | hc <;> obtain ⟨c, rfl⟩ := key hc <;> cases hn <;> cases hv <;> cases op <;> simp
theorem bin_nil {neq : Bool} {k : Nat} {u : TypeDesc} {xt : TypeId} {x y : Operand} {v n : Value} {b : Bool} (hu : P.underlying xt = some u) (hk : KindOf k u) (hv : NilVal k b v) (hn : NilVal k true n) (hc : isNilConst k x = true ∨ isNilConst k y = true) :
  (binS (if neq then .neq else .eql) xt x y v n).run P w = .ok (.bool (if neq then !b else b)) w ∧ (binS (if neq then .neq else .eql) xt x y n v).run P w = .ok (.bool (if neq then !b else b)) w := by
 obtain ⟨e1, e2⟩ := equal_nil (w := w) hu hk hv hn
 obtain ⟨g1, g2⟩ := guard_nil (P := P) (w := w) (op := if neq then .neq else .eql) (xt := xt) hv hn hc
 have r1 : ∀ (p q : Value), (Op.equal xt p q).run P w = .ok b w → (eqGuard (if neq then .neq else .eql) xt x y p q).run P w = .ok () w → ((binOp (if neq then .neq else .eql) xt p q).run P w = (Op.equal xt p q >>= fun b => pure (.bool (if neq then !b else b)) : Sem Value).run P w) → (binS (if neq then .neq else .eql) xt x y p q).run P w = .ok (.bool (if neq then !b else b)) w := by
  intro p q he hg hb
  simp only [binS, Sem.run_bind, hg, Result.andThen_ok, hb, he]
  rfl
 refine ⟨r1 _ _ e1 g1 ?_, r1 _ _ e2 g2 ?_⟩ <;> cases neq <;> cases hn <;> cases hv <;> simp [binOp]
theorem nil_const {y : Operand} {k : Nat} (hy : isNilConst k y = true) : NilVal k true (a.eval y) := by
 unfold isNilConst at hy
 split at hy
 ·simp only [beq_iff_eq] at hy; subst hy; constructor
 ·simp only [beq_iff_eq] at hy; subst hy; constructor
 ·simp only [beq_iff_eq] at hy; subst hy; constructor
 ·simp only [beq_iff_eq] at hy; subst hy; constructor
 ·simp only [beq_iff_eq] at hy; subst hy; constructor
 ·cases hy
theorem sim_mv (hi : Inv P G S ρ h w) {v : Value} {x : Opd} (hx : RepD S ρ h w v (ev ad x)) (hd : dop call (.mv x) ad h = some out) : SimOut P G S ρ h w (.ok (.value v) w) out := by
 simp only [dop, Option.some.injEq] at hd
 subst hd
 exact SimOut.plain hi hx
theorem sim_pick (hi : Inv P G S ρ h w) (ha : RepA S ρ h w a.tmps ad) {t1 t2 t3 : TypeId} {c x y : Operand} {c' x' y' : Opd} (h1 : trOpd P t1 c = some c') (h2 : trOpd P t2 x = some x') (h3 : trOpd P t3 y = some y') (hd : dop call (.pick c' x' y') ad h = some out) :
  SimOut P G S ρ h w ((do pure (Next.value (if ← asBool (a.eval c) then a.eval x else a.eval y)) : Sem Next).run P w) out := by
 have g1 := rep_opd ha h1
 have g2 := rep_opd ha h2
 have g3 := rep_opd ha h3
 simp only [dop] at hd
 split at hd
 ·rename_i b eb
  simp only [Option.some.injEq] at hd
  subst hd
  rw [eb] at g1
  rw [repF_bool (repD_d g1)]
  have : (do pure (Next.value (if ← asBool (.bool b) then a.eval x else a.eval y)) : Sem Next).run P w = .ok (.value (if b then a.eval x else a.eval y)) w := by simp [asBool]
  rw [this]
  refine SimOut.plain hi ?_
  cases b
  ·exact g3
  ·exact g2
 ·cases hd
theorem sim_un (hi : Inv P G S ρ h w) (ha : RepA S ρ h w a.tmps ad) {op : UnOp} {t : TypeId} {x : Operand} {x' : Opd} (h1 : trOpd P t x = some x') (hd : dop call (.un op x') ad h = some out) :
  SimOut P G S ρ h w ((do pure (Next.value (← Op.unary op (a.eval x))) : Sem Next).run P w) out := by
 have g1 := rep_opd ha h1
 simp only [dop] at hd
 split at hd
 ·rename_i f ef
  simp only [Option.map_eq_some_iff] at hd
  obtain ⟨v, hv, rfl⟩ := hd
  rw [ef] at g1
  have g := repD_d g1
  cases op <;> cases f <;> simp only [dun, Option.some.injEq, reduceCtorEq] at hv
  ·subst hv
   rw [repF_int g, run_v (s := Op.unary .neg (.int _ _)) (w' := w) rfl]
   exact SimOut.plain hi (.d _ _ (.int _ _))
  ·subst hv
   rw [repF_bool g, run_v (s := Op.unary .not (.bool _)) (w' := w) rfl]
   exact SimOut.plain hi (.d _ _ (.bool _))
 ·cases hd
theorem sim_cvt (hi : Inv P G S ρ h w) (ha : RepA S ρ h w a.tmps ad) {src dst t : TypeId} {u : TypeDesc} {k : IntKind} {x : Operand} {x' : Opd} (hs : P.underlying src = some u) (hk : P.underlying dst = some (.int k)) (h1 : trOpd P t x = some x') (hd : dop call (.cvt k x') ad h = some out) :
  SimOut P G S ρ h w ((do pure (Next.value (← convert src dst (a.eval x))) : Sem Next).run P w) out := by
 have g1 := rep_opd ha h1
 simp only [dop] at hd
 split at hd
 ·rename_i k' n ef
  simp only [Option.some.injEq] at hd
  subst hd
  rw [ef] at g1
  rw [repF_int (repD_d g1)]
  have : (convert src dst (.int k' n)).run P w = .ok (.int k (k.wrap n)) w := by
   simp [convert, underlying, hs, hk, Conv.intToInt]
  rw [run_v this]
  exact SimOut.plain hi (.d _ _ (.int _ _))
 ·cases hd
theorem nums_at : ∀ {l : List (List FV)} {ns : List Int}, numsOf l = some ns → ns.length = l.length ∧ ∀ (i : Nat) (c : List FV), l[i]? = some c → c = [.int .u8 (ns.getD i 0)]
 | [], ns, h => by
  simp [numsOf] at h
  subst h
  exact ⟨rfl, fun i c hc => by simp at hc⟩
 | c :: l, ns, h => by
  simp only [numsOf, List.mapM_cons, Option.pure_def, Option.bind_eq_bind, Option.bind_eq_some_iff, Option.some.injEq] at h
  obtain ⟨n, hn, ns', hns, rfl⟩ := h
  obtain ⟨h1, h2⟩ := nums_at (l := l) (ns := ns') hns
  refine ⟨by simp [h1], fun i c' hc => ?_⟩
  cases i with
  | zero =>
   simp at hc
   subst hc
   split at hn
   ·simp only [Option.some.injEq] at hn; subst hn; rfl
   ·cases hn
  | succ i => simpa using h2 i c' (by simpa using hc)
theorem sim_addOff (hi : Inv P G S ρ h w) (ha : RepA S ρ h w a.tmps ad) {s t : TypeId} {fields : Array Field} {f : Nat} {fl : Field} {i : TypeInfo} {x : Operand} {x' : Opd} (hs : P.underlying s = some (.struct fields)) (hf : fields[f]? = some fl) (hinf : P.info? fl.type = some i) (h0 : ¬ i.size = 0)
  (h1 : trOpd P t x = some x') (hd : dop call (.addOff fl.offset x') ad h = some out) :
  SimOut P G S ρ h w ((do pure (Next.value (← Instr.fieldAt s (a.eval x) f)) : Sem Next).run P w) out := by
 have g1 := rep_opd ha h1
 have run : ∀ b o : Nat, (Instr.fieldAt s (.pointer (some ⟨b, o, none⟩)) f).run P w = .ok (.pointer (some ⟨b, o + fl.offset, none⟩)) w := fun b o => by
  simp [Instr.fieldAt, underlying, hs, hf, Instr.sureAddr, fieldPlace, sizeOf, typeInfo, hinf, h0, add_none]
 simp only [dop] at hd
 split at hd
 ·rename_i cells off ef
  simp only [Option.some.injEq] at hd
  subst hd
  rw [ef] at g1
  have g := repD_d g1
  generalize a.eval x = vx at *
  cases g with
  | ref b o off cells u hc hr ho1 =>
   rw [run_v (run b (o + off)), Nat.add_assoc]
   exact SimOut.plain hi (.d _ _ (.ref _ _ _ _ u hc hr ho1))
 ·rename_i id off ef
  simp only [Option.some.injEq] at hd
  subst hd
  rw [ef] at g1
  generalize a.eval x = vx at *
  cases g1 with
  | ptr id off b hb =>
   rw [run_v (run b off)]
   exact SimOut.plain hi (.ptr _ _ _ hb)
 ·rename_i id g k o ef
  simp only [Option.some.injEq] at hd
  subst hd
  rw [ef] at g1
  generalize a.eval x = vx at *
  cases g1 with
  | eptr b o' _ _ _ _ ht hr =>
   rw [run_v (run b o')]
   refine SimOut.plain hi (.eptr _ _ _ _ _ _ ht fun m hm => ⟨(hr m hm).1, fun e => ?_⟩)
   obtain ⟨C, sz, q1, q2⟩ := (hr m hm).2 e
   exact ⟨C, sz, q1, by rw [q2, Nat.add_assoc]⟩
 ·cases hd
theorem run_part {t : TypeId} {n : Option Nat} (hn : isAggB P t = some n) (cs : Array Value) (off : Nat) (hl : off + n.getD 1 ≤ cs.size) : (part t cs off).run P w = .ok (pack n fun j => cs.getD (off + j) undef) w := by
 obtain ⟨h1, h2⟩ := run_isAgg (w := w) hn
 cases n with
 | none =>
  have hl' : off < cs.size := by simp at hl; omega
  simp [part, h1, hl', pack, Array.getD_eq_getD_getElem?]
 | some k =>
  have hk := h2 k rfl
  simp only [part, Sem.run_bind, h1, Result.andThen_ok, Option.isSome_some, if_true, hk, Sem.run_pure, pack]
  congr 2
  apply Array.ext
  ·simp at hl ⊢; omega
  ·intro i h1 h2
   simp at h1 h2 hl
   simp [Array.getD_eq_getD_getElem?, show off + i < cs.size by omega]
theorem sim_fld (hi : Inv P G S ρ h w) (ha : RepA S ρ h w a.tmps ad) {s t : TypeId} {fields : Array Field} {f : Nat} {fl : Field} {n : Option Nat} {x : Operand} {x' : Opd} (hs : P.underlying s = some (.struct fields)) (hf : fields[f]? = some fl) (hn : isAggB P fl.type = some n)
  (h1 : trOpd P t x = some x') (hd : dop call (.fld n fl.offset x') ad h = some out) :
  SimOut P G S ρ h w ((do pure (Next.value (← Instr.field s (a.eval x) f)) : Sem Next).run P w) out := by
 have g1 := rep_opd ha h1
 have key : ∀ (cs : Array Value) (ds : List DV) (v : DV), a.eval x = .agg cs → cs.size = ds.length → (∀ (j : Nat) (y : DV), ds[j]? = some y → RepD S ρ h w (cs.getD j undef) y) → dload n ds fl.offset = some v →
   SimOut P G S ρ h w ((do pure (Next.value (← Instr.field s (a.eval x) f)) : Sem Next).run P w) (.val v h) := by
  intro cs ds v e hl hr hv
  obtain ⟨l1, l2⟩ := rep_dload (fun j => cs.getD j undef) hr hv
  have hp := run_part (P := P) (w := w) hn cs fl.offset (by omega)
  have : (Instr.field s (.agg cs) f).run P w = .ok (pack n fun j => cs.getD (fl.offset + j) undef) w := by
   simp [Instr.field, underlying, hs, hf, asAgg, hp]
  rw [e, run_v this]
  exact SimOut.plain hi l2
 simp only [dop] at hd
 split at hd
 ·rename_i fs e
  simp only [Option.map_eq_some_iff] at hd
  obtain ⟨v, hv, rfl⟩ := hd
  rw [e] at g1
  have g := repD_d g1
  generalize hvx : a.eval x = vx at *
  cases g with
  | agg cs fs hl hr =>
   refine key cs _ v rfl (by simp [hl]) (fun j y hy => ?_) hv
   simp only [List.getElem?_map, Option.map_eq_some_iff] at hy
   obtain ⟨z, hz, rfl⟩ := hy
   exact .d _ _ (hr j z hz)
 ·rename_i cs e
  simp only [Option.map_eq_some_iff] at hd
  obtain ⟨v, hv, rfl⟩ := hd
  rw [e] at g1
  generalize hvx : a.eval x = vx at *
  cases g1 with
  | agg vs cs hl hr => exact key vs cs v rfl hl (fun j y hy => hr j y hy) hv
 ·cases hd
theorem rep_elems {v : Value} {x : DV} (hx : RepD S ρ h w v x) {sz : Nat} {l : List (List FV)} (he : x.elems = some (sz, l)) : RepF S w v (.slice sz l) := by
 cases hx with
 | d v x hx =>
  cases x <;> simp only [DV.elems, Option.some.injEq, Prod.mk.injEq, reduceCtorEq] at he
  ·obtain ⟨rfl, rfl⟩ := he
   exact hx
  ·obtain ⟨rfl, rfl⟩ := he
   cases hx
   exact .slice0 none 0 _
  ·obtain ⟨rfl, rfl⟩ := he
   cases hx
   assumption
  ·obtain ⟨rfl, rfl⟩ := he
   cases hx
   exact .slice0 _ _ _
  ·obtain ⟨rfl, rfl⟩ := he
   cases hx
   exact .slice0 _ _ _
 | row v sz' elems t hx ht hr =>
  simp only [DV.elems, Option.some.injEq, Prod.mk.injEq] at he
  obtain ⟨rfl, rfl⟩ := he
  exact hx
 | _ => simp [DV.elems] at he
theorem rep_int {v : Value} {x : DV} (hx : RepD S ρ h w v x) {n : Int} (he : x.int = some n) : ∃ k, v = .int k n := by
 cases hx with
 | d v x hx =>
  cases x <;> simp only [DV.int, Option.some.injEq, reduceCtorEq] at he
  subst he
  exact ⟨_, repF_int hx⟩
 | _ => simp [DV.int] at he
theorem sim_idxAddr (hi : Inv P G S ρ h w) (ha : RepA S ρ h w a.tmps ad) {t e t1 t2 : TypeId} {info : TypeInfo} {x i : Operand} {x' i' : Opd} (ht : P.underlying t = some (.slice e)) (hinf : P.info? e = some info) (h1 : trOpd P t1 x = some x') (h2 : trOpd P t2 i = some i')
  (hd : dop call (.idxAddr info.size x' i') ad h = some out) : SimOut P G S ρ h w ((do pure (Next.value (← Instr.indexAt t (a.eval x) (a.eval i))) : Sem Next).run P w) out := by
 have g1 := rep_opd ha h1
 have g2 := rep_opd ha h2
 simp only [dop] at hd
 split at hd
 ·rename_i s l i he hi'
  split at hd
  ·rename_i hs
   obtain ⟨rfl, h0⟩ := hs
   simp only [Option.map_eq_some_iff] at hd
   obtain ⟨c, hc, rfl⟩ := hd
   have gl := rep_elems g1 he
   obtain ⟨k, hk⟩ := rep_int g2 hi'
   rw [hk]
   have hlt := (List.getElem?_eq_some_iff.1 hc).1
   generalize a.eval x = vx at *
   cases gl with
   | slice0 A cap => simp at hlt
   | slice b o n cap _ elems u hn hcap hsz hcc hr ho1 =>
    have hin : 0 ≤ i ∧ i < (n : Int) := ⟨h0, by omega⟩
    have run : (Instr.indexAt t (.slice (some ⟨b, o, none⟩) n cap) (.int k i)).run P w = .ok (.pointer (some ⟨b, o + i.toNat * info.size, none⟩)) w := by
     simp [Instr.indexAt, asIntOf, underlying, ht, hin, sizeOf, typeInfo, hinf, add_none]
    rw [run_v run]
    exact SimOut.plain hi (.d _ _ (.ref b (o + i.toNat * info.size) 0 c (u i.toNat) (fun j hj => hcc i.toNat j (by omega) (by rw [← hsz _ _ hc]; exact hj)) (fun j y hy => hr i.toNat j c y hc hy) (fun j y hy => ho1 i.toNat j c y hc hy)))
  ·cases hd
 ·rename_i i he hi'
  split at hd
  ·rename_i id off n hb
   split at hd
   ·rename_i hin
    simp only [Option.some.injEq] at hd
    subst hd
    obtain ⟨k, hk⟩ := rep_int g2 hi'
    rw [hk]
    rw [hb] at g1
    generalize a.eval x = vx at *
    cases g1 with
    | bslc id off n cap b hc hbb =>
     have run : (Instr.indexAt t (.slice (some ⟨b, off, none⟩) n cap) (.int k i)).run P w = .ok (.pointer (some ⟨b, off + i.toNat * info.size, none⟩)) w := by
      simp [Instr.indexAt, asIntOf, underlying, ht, hin, sizeOf, typeInfo, hinf, add_none]
     rw [run_v run]
     exact SimOut.plain hi (.ptr _ _ _ hbb)
   ·cases hd
  ·rename_i id g s off n hb
   split at hd
   ·rename_i hin
    obtain ⟨hs, hin⟩ := hin
    simp only [Option.some.injEq] at hd
    subst hd
    obtain ⟨k, hk⟩ := rep_int g2 hi'
    rw [hk]
    rw [hb] at g1
    generalize a.eval x = vx at *
    cases g1 with
    | vslc b o cap _ _ _ _ _ hc htt hr =>
     have run : (Instr.indexAt t (.slice (some ⟨b, o, none⟩) n cap) (.int k i)).run P w = .ok (.pointer (some ⟨b, o + i.toNat * info.size, none⟩)) w := by
      simp [Instr.indexAt, asIntOf, underlying, ht, hin, sizeOf, typeInfo, hinf, add_none]
     rw [run_v run]
     refine SimOut.plain hi (.eptr _ _ _ _ _ _ htt fun m hm => ⟨(hr m hm).1, fun e => ?_⟩)
     obtain ⟨C, q1, q2, q3, q4⟩ := (hr m hm).2 e
     exact ⟨C, s, q1, by rw [q2, ← hs, Nat.add_mul, Nat.add_zero]⟩
   ·cases hd
  ·cases hd
 ·cases hd
theorem sim_idxArr (hi : Inv P G S ρ h w) (ha : RepA S ρ h w a.tmps ad) {t e t1 t2 : TypeId} {len : Nat} {info : TypeInfo} {x i : Operand} {x' i' : Opd} (ht : P.underlying t = some (.array len e)) (hinf : P.info? e = some info) (h1 : trOpd P t1 x = some x') (h2 : trOpd P t2 i = some i')
  (hd : dop call (.idxArr len info.size x' i') ad h = some out) : SimOut P G S ρ h w ((do pure (Next.value (← Instr.indexAt t (a.eval x) (a.eval i))) : Sem Next).run P w) out := by
 have g1 := rep_opd ha h1
 have g2 := rep_opd ha h2
 have run : ∀ (b o : Nat) (k : IntKind) (i : Int), 0 ≤ i ∧ i < (len : Int) → (Instr.indexAt t (.pointer (some ⟨b, o, none⟩)) (.int k i)).run P w = .ok (.pointer (some ⟨b, o + i.toNat * info.size, none⟩)) w := fun b o k i hin => by
  simp [Instr.indexAt, asIntOf, underlying, ht, Instr.sureAddr, hin, sizeOf, typeInfo, hinf, add_none]
 simp only [dop] at hd
 split at hd
 ·rename_i cells off i he hi'
  split at hd
  ·rename_i hin
   simp only [Option.some.injEq] at hd
   subst hd
   obtain ⟨k, hk⟩ := rep_int g2 hi'
   rw [hk]
   rw [he] at g1
   have g := repD_d g1
   generalize a.eval x = vx at *
   cases g with
   | ref b o off cells u hc hr ho1 =>
    rw [run_v (run b (o + off) k i hin), Nat.add_assoc]
    exact SimOut.plain hi (.d _ _ (.ref _ _ _ _ u hc hr ho1))
  ·cases hd
 ·rename_i id off i he hi'
  split at hd
  ·rename_i hin
   simp only [Option.some.injEq] at hd
   subst hd
   obtain ⟨k, hk⟩ := rep_int g2 hi'
   rw [hk]
   rw [he] at g1
   generalize a.eval x = vx at *
   cases g1 with
   | ptr id off b hb =>
    rw [run_v (run b off k i hin)]
    exact SimOut.plain hi (.ptr _ _ _ hb)
  ·cases hd
 ·cases hd
theorem sim_idxVal (hi : Inv P G S ρ h w) (ha : RepA S ρ h w a.tmps ad) {t e t1 t2 : TypeId} {len : Nat} {info : TypeInfo} {m : Option Nat} {x i : Operand} {x' i' : Opd} (ht : P.underlying t = some (.array len e)) (hinf : P.info? e = some info) (hm : isAggB P e = some m) (h1 : trOpd P t1 x = some x') (h2 : trOpd P t2 i = some i')
  (hd : dop call (.idxVal len info.size m x' i') ad h = some out) : SimOut P G S ρ h w ((do pure (Next.value (← Instr.index t (a.eval x) (a.eval i))) : Sem Next).run P w) out := by
 have g1 := rep_opd ha h1
 have g2 := rep_opd ha h2
 simp only [dop] at hd
 split at hd
 ·rename_i i hi'
  obtain ⟨k, hk⟩ := rep_int g2 hi'
  rw [hk]
  split at hd
  ·rename_i hin
   have key : ∀ (cs : Array Value) (ds : List DV) (v : DV), a.eval x = .agg cs → cs.size = ds.length → (∀ (j : Nat) (y : DV), ds[j]? = some y → RepD S ρ h w (cs.getD j undef) y) → dload m ds (i.toNat * info.size) = some v →
     SimOut P G S ρ h w ((do pure (Next.value (← Instr.index t (a.eval x) (.int k i))) : Sem Next).run P w) (.val v h) := by
    intro cs ds v e hl hr hv
    obtain ⟨l1, l2⟩ := rep_dload (fun j => cs.getD j undef) hr hv
    have hp := run_part (P := P) (w := w) hm cs (i.toNat * info.size) (by omega)
    have : (Instr.index t (.agg cs) (.int k i)).run P w = .ok (pack m fun j => cs.getD (i.toNat * info.size + j) undef) w := by
     simp [Instr.index, asIntOf, underlying, ht, hin, sizeOf, typeInfo, hinf, hp]
    rw [e, run_v this]
    exact SimOut.plain hi l2
   split at hd
   ·rename_i fs e
    simp only [Option.map_eq_some_iff] at hd
    obtain ⟨v, hv, rfl⟩ := hd
    rw [e] at g1
    have g := repD_d g1
    generalize hvx : a.eval x = vx at *
    cases g with
    | agg cs fs hl hr =>
     refine key cs _ v rfl (by simp [hl]) (fun j y hy => ?_) hv
     simp only [List.getElem?_map, Option.map_eq_some_iff] at hy
     obtain ⟨z, hz, rfl⟩ := hy
     exact .d _ _ (hr j z hz)
   ·rename_i cs e
    simp only [Option.map_eq_some_iff] at hd
    obtain ⟨v, hv, rfl⟩ := hd
    rw [e] at g1
    generalize hvx : a.eval x = vx at *
    cases g1 with
    | agg vs cs hl hr => exact key vs cs v rfl hl (fun j y hy => hr j y hy) hv
   ·cases hd
  ·cases hd
 ·cases hd
theorem sim_idxStr (hi : Inv P G S ρ h w) (ha : RepA S ρ h w a.tmps ad) {t t1 t2 : TypeId} {x i : Operand} {x' i' : Opd} (ht : P.underlying t = some .string) (h1 : trOpd P t1 x = some x') (h2 : trOpd P t2 i = some i')
  (hd : dop call (.idxStr x' i') ad h = some out) : SimOut P G S ρ h w ((do pure (Next.value (← Instr.index t (a.eval x) (a.eval i))) : Sem Next).run P w) out := by
 have g1 := rep_opd ha h1
 have g2 := rep_opd ha h2
 simp only [dop] at hd
 split at hd
 ·rename_i s i he hi'
  split at hd
  ·rename_i h0
   simp only [Option.map_eq_some_iff] at hd
   obtain ⟨b, hb, rfl⟩ := hd
   obtain ⟨k, hk⟩ := rep_int g2 hi'
   rw [hk]
   rw [he] at g1
   rw [repF_str (repD_d g1)]
   have run : (Instr.index t (.string s) (.int k i)).run P w = .ok (.int .u8 b.toNat) w := by
    simp [Instr.index, asIntOf, underlying, ht, h0, hb]
   rw [run_v run]
   exact SimOut.plain hi (.d _ _ (.int _ _))
  ·cases hd
 ·cases hd
theorem sim_lenStr (hi : Inv P G S ρ h w) (ha : RepA S ρ h w a.tmps ad) {t t1 rt : TypeId} {ts : Array TypeId} {x : Operand} {x' : Opd} (h1 : trOpd P t1 x = some x') (h0 : ts[0]? = some t) (hu : P.underlying t = some .string)
  (hd : dop call (.len true x') ad h = some out) : SimOut P G S ρ h w ((do pure (Next.value (← Builtin.len_ ts rt #[a.eval x])) : Sem Next).run P w) out := by
 have g1 := rep_opd ha h1
 simp only [dop] at hd
 split at hd
 ·rename_i s he
  simp only [Option.some.injEq] at hd
  subst hd
  rw [he] at g1
  rw [repF_str (repD_d g1)]
  have run : (Builtin.len_ ts rt #[.string s]).run P w = .ok (.int .i64 s.size) w := by
   simp [Builtin.len_, h0, underlying, hu, goInt]
  rw [run_v run]
  exact SimOut.plain hi (.d _ _ (.int _ _))
 ·cases hd
theorem sim_lenSlc (hi : Inv P G S ρ h w) (ha : RepA S ρ h w a.tmps ad) {t t1 rt e : TypeId} {ts : Array TypeId} {x : Operand} {x' : Opd} (h1 : trOpd P t1 x = some x') (h0 : ts[0]? = some t) (hu : P.underlying t = some (.slice e))
  (hd : dop call (.len false x') ad h = some out) : SimOut P G S ρ h w ((do pure (Next.value (← Builtin.len_ ts rt #[a.eval x])) : Sem Next).run P w) out := by
 have g1 := rep_opd ha h1
 simp only [dop] at hd
 split at hd
 ·rename_i sz l he
  simp only [Option.some.injEq] at hd
  subst hd
  have g := rep_elems g1 he
  have run : ∀ (A : Option Addr) (n cap : Nat), (Builtin.len_ ts rt #[.slice A n cap]).run P w = .ok (.int .i64 n) w := fun A n cap => by
   simp [Builtin.len_, h0, underlying, hu, goInt]
  generalize a.eval x = vx at *
  cases g with
  | slice0 A cap => rw [run_v (run A 0 cap)]; exact SimOut.plain hi (.d _ _ (.int _ _))
  | slice b o n cap _ elems u hn hcap hsz hcc hr ho1 => rw [run_v (run _ n cap), ← hn]; exact SimOut.plain hi (.d _ _ (.int _ _))
 ·split at hd
  ·rename_i id off n hb
   simp only [Option.some.injEq] at hd
   subst hd
   rw [hb] at g1
   have run : ∀ (A : Option Addr) (n cap : Nat), (Builtin.len_ ts rt #[.slice A n cap]).run P w = .ok (.int .i64 n) w := fun A n cap => by
    simp [Builtin.len_, h0, underlying, hu, goInt]
   generalize a.eval x = vx at *
   cases g1 with
   | bslc id off n cap b hc hbb => rw [run_v (run _ n cap)]; exact SimOut.plain hi (.d _ _ (.int _ _))
  ·rename_i id g s off n hb
   simp only [Option.some.injEq] at hd
   subst hd
   rw [hb] at g1
   have run : ∀ (A : Option Addr) (n cap : Nat), (Builtin.len_ ts rt #[.slice A n cap]).run P w = .ok (.int .i64 n) w := fun A n cap => by
    simp [Builtin.len_, h0, underlying, hu, goInt]
   generalize a.eval x = vx at *
   cases g1 with
   | vslc b o cap _ _ _ _ _ hc ht hr => rw [run_v (run _ n cap)]; exact SimOut.plain hi (.d _ _ (.int _ _))
  ·cases hd
theorem sim_bstr (hi : Inv P G S ρ h w) (ha : RepA S ρ h w a.tmps ad) {src dst t e : TypeId} {x : Operand} {x' : Opd} (hs : P.underlying src = some (.slice e)) (hk : P.underlying dst = some .string) (he : P.underlying e = some (.int .u8)) (h1 : trOpd P t x = some x') (hd : dop call (.bstr x') ad h = some out) :
  SimOut P G S ρ h w ((do pure (Next.value (← convert src dst (a.eval x))) : Sem Next).run P w) out := by
 have g1 := rep_opd ha h1
 simp only [dop] at hd
 split at hd
 ·rename_i s l ef
  simp only [Option.map_eq_some_iff] at hd
  obtain ⟨ns, hns, rfl⟩ := hd
  obtain ⟨n1, n2⟩ := nums_at hns
  have g := rep_elems g1 ef
  generalize a.eval x = vx at *
  have : (convert src dst vx).run P w = .ok (.string (strOfNums ns)) w := by
   cases g with
   | slice0 A cap sz =>
    have : ns = [] := List.eq_nil_of_length_eq_zero n1
    subst this
    cases A with
    | none => rw [run_convert_bytes_nil w src e hs he 0 cap dst hk]; rfl
    | some A =>
     rw [run_convert_bytes_string w src dst e (some A) 0 cap hs he hk, run_bytesToString w A 0 cap [] (by simp [loadCells, loadCellsFrom])]
     rfl
   | slice b o n cap sz elems u hn hcap hsz hc hr h1 =>
    refine run_convert_bytes_arg w src e hs he b o n cap ns (by omega) (fun i hi => ?_) dst hk
    have hl : l[i]? = some l[i] := List.getElem?_eq_getElem (by omega)
    have hci := n2 i _ hl
    have hz := hsz i _ hl
    rw [hci] at hz
    simp at hz
    subst hz
    have hcell := (hc i 0 hi (by omega)).2
    have hrep := hr i 0 _ (.int .u8 (ns.getD i 0)) hl (by rw [hci]; rfl)
    simp only [Nat.mul_one, Nat.add_zero] at hcell
    rw [hcell, repF_int hrep]
  rw [run_v this]
  exact SimOut.plain hi (.d _ _ (.str _))
 ·cases hd
theorem take_get {α : Type} {l : List α} {n j : Nat} {x : α} (h : (l.take n)[j]? = some x) : l[j]? = some x := by
 rw [List.getElem?_take] at h
 split at h
 ·exact h
 ·cases h
theorem eqCells_lens : ∀ {ks : List Nat} {fs gs : List FV} {b : Bool}, eqCells ks fs gs = some b → fs.length = ks.length ∧ gs.length = ks.length
 | [], [], [], _, _ => ⟨rfl, rfl⟩
 | k :: ks, x :: xs, y :: ys, b, h => by
  simp only [eqCells] at h
  split at h
  ·rename_i a c ha hc
   have := eqCells_lens hc
   simp [this]
  ·cases h
 | [], _ :: _, _, _, h => by simp [eqCells] at h
 | [], [], _ :: _, _, h => by simp [eqCells] at h
 | _ :: _, [], _, _, h => by simp [eqCells] at h
 | _ :: _, _ :: _, [], _, h => by simp [eqCells] at h
theorem eqCells_len {ks : List Nat} {fs gs : List FV} {b : Bool} (h : eqCells ks fs gs = some b) {j : Nat} {f : FV} (hf : fs[j]? = some f) : j < ks.length := by
 rw [← (eqCells_lens h).1]; exact (List.getElem?_eq_some_iff.1 hf).1
theorem eqCells_len' {ks : List Nat} {fs gs : List FV} {b : Bool} (h : eqCells ks fs gs = some b) {j : Nat} {f : FV} (hf : gs[j]? = some f) : j < ks.length := by
 rw [← (eqCells_lens h).2]; exact (List.getElem?_eq_some_iff.1 hf).1
theorem eqCells_split : ∀ (ks ks' : List Nat) (fs gs : List FV) (b : Bool), eqCells (ks ++ ks') fs gs = some b → ∃ b1 b2, eqCells ks (fs.take ks.length) (gs.take ks.length) = some b1 ∧ eqCells ks' (fs.drop ks.length) (gs.drop ks.length) = some b2 ∧ b = (b1 && b2)
 | [], ks', fs, gs, b, h => ⟨true, b, by simp [eqCells], by simpa using h, by simp⟩
 | k :: ks, ks', x :: xs, y :: ys, b, h => by
  simp only [List.cons_append, eqCells] at h
  split at h
  ·rename_i a c ha hc
   simp only [Option.some.injEq] at h
   obtain ⟨b1, b2, h1, h2, h3⟩ := eqCells_split ks ks' xs ys c hc
   refine ⟨a && b1, b2, by simp only [List.length_cons, List.take_succ_cons, eqCells, ha, h1], by simpa using h2, by rw [← h, h3, Bool.and_assoc]⟩
  ·cases h
 | k :: ks, ks', [], [], b, h => by simp [eqCells] at h
 | k :: ks, ks', [], _ :: _, b, h => by simp [eqCells] at h
 | k :: ks, ks', _ :: _, [], b, h => by simp [eqCells] at h
theorem consec_at : ∀ (fl : List Field) (o n : Nat), consec P fl o = some n → o ≤ n ∧ ∀ f fl', fl = f :: fl' → f.offset = o ∧ o + P.cellsOf f.type ≤ n ∧ consec P fl' (o + P.cellsOf f.type) = some n
 | [], o, n, h => by
  simp only [consec, Option.some.injEq] at h
  exact ⟨by omega, fun f fl' he => by cases he⟩
 | f :: fl, o, n, h => by
  simp only [consec] at h
  split at h
  ·rename_i ho
   have := consec_at fl _ _ h
   exact ⟨by omega, fun f' fl' he => by cases he; exact ⟨ho, by omega, h⟩⟩
  ·cases h
theorem eq_type : ∀ (n : Nat) (t : TypeId) (ks : List Nat), leafs P n t = some ks → ks.length = P.cellsOf t → ∀ (d : Nat) (xs ys : Array Value) (off : Nat) (fs gs : List FV) (b : Bool), off + P.cellsOf t ≤ xs.size → off + P.cellsOf t ≤ ys.size →
  (∀ (j : Nat) (f : FV), fs[j]? = some f → RepF S w (xs.getD (off + j) undef) f) → (∀ (j : Nat) (f : FV), gs[j]? = some f → RepF S w (ys.getD (off + j) undef) f) → eqCells ks fs gs = some b →
  ∃ va vb, (part t xs off).run P w = .ok va w ∧ (part t ys off).run P w = .ok vb w ∧ (Op.equalIn (d + n) t va vb).run P w = .ok b w := by
 intro n
 induction n with
 | zero => intro t ks h; simp [leafs] at h
 | succ n ih =>
  intro t ks h hlen d xs ys off fs gs b hx hy rx ry he
  have scalar : ∀ (k : Nat), ks = [k] → P.cellsOf t = 1 → isAggB P t = some none → (∀ va vb f g, RepF S w va f → RepF S w vb g → eqFV k f g = some b → (Op.equalIn (d + n + 1) t va vb).run P w = .ok b w) → ∃ va vb, (part t xs off).run P w = .ok va w ∧ (part t ys off).run P w = .ok vb w ∧ (Op.equalIn (d + (n + 1)) t va vb).run P w = .ok b w := by
   rintro k rfl hc hagg hrun
   rw [hc] at hx hy
   match fs, gs, he with
   | [f], [g], he =>
    simp only [eqCells] at he
    split at he
    ·rename_i a c ha hc'
     simp only [Option.some.injEq] at hc' he
     subst hc'
     have : a = b := by simpa using he
     subst this
     refine ⟨_, _, run_part hagg xs off (by simpa using hx), run_part hagg ys off (by simpa using hy), hrun _ _ f g ?_ ?_ ha⟩
     ·simpa [pack] using rx 0 f rfl
     ·simpa [pack] using ry 0 g rfl
    ·cases he
   | [], [], he => simp [eqCells] at he
   | [], _ :: _, he => simp [eqCells] at he
   | _ :: _, [], he => simp [eqCells] at he
   | f :: _ :: _, [g], he =>
    simp only [eqCells] at he
    split at he <;> simp_all
   | [f], g :: _ :: _, he =>
    simp only [eqCells] at he
    split at he <;> simp_all
   | f :: _ :: _, g :: _ :: _, he =>
    simp only [eqCells] at he
    split at he <;> simp_all
  unfold leafs at h
  split at h
  ·rename_i kd hu
   split at h
   ·rename_i hc
    simp only [Bool.and_eq_true, beq_iff_eq] at hc
    simp only [Option.some.injEq] at h
    refine scalar 0 h.symm hc.1 hc.2 fun va vb f g ha hb hf => ?_
    cases f <;> cases g <;> simp only [eqFV, reduceCtorEq] at hf
    split at hf
    ·rename_i hkk
     subst hkk
     simp only [Option.some.injEq] at hf
     subst hf
     rw [repF_int ha, repF_int hb]
     exact run_equalIn_int w _ t _ kd _ _ hu
    ·cases hf
   ·cases h
  ·rename_i hu
   split at h
   ·rename_i hc
    simp only [Bool.and_eq_true, beq_iff_eq] at hc
    simp only [Option.some.injEq] at h
    refine scalar 1 h.symm hc.1 hc.2 fun va vb f g ha hb hf => ?_
    cases f <;> cases g <;> simp only [eqFV, reduceCtorEq, Option.some.injEq] at hf
    subst hf
    rw [repF_str ha, repF_str hb]
    exact run_equalIn_string w _ t _ _ hu
   ·cases h
  ·rename_i hu
   split at h
   ·rename_i hc
    simp only [Bool.and_eq_true, beq_iff_eq] at hc
    simp only [Option.some.injEq] at h
    refine scalar 2 h.symm hc.1 hc.2 fun va vb f g ha hb hf => ?_
    cases f <;> cases g <;> simp only [eqFV, reduceCtorEq, Option.some.injEq] at hf
    subst hf
    rw [repF_bool ha, repF_bool hb]
    exact run_equalIn_bool' w _ t _ _ hu
   ·cases h
  ·rename_i fl hu
   split at h
   ·rename_i hc
    simp only [Bool.and_eq_true, beq_iff_eq, Bool.not_eq_true', List.all_eq_true, bne_iff_ne, ne_eq] at hc
    obtain ⟨⟨⟨hst, hnames⟩, hcon⟩, hagg⟩ := hc
    split at h
    ·rename_i kss hkss
     simp only [Option.some.injEq] at h
     subst h
     refine ⟨_, _, run_part hagg xs off (by simpa using hx), run_part hagg ys off (by simpa using hy), ?_⟩
     have hfo : P.underlying t = some (.struct (P.fieldsOf t)) := by rw [hu]; simp [Program.fieldsOf, hu]
     have hfl : (P.fieldsOf t).toList = fl.toList := by simp [Program.fieldsOf, hu]
     simp only [pack]
     rw [show d + (n + 1) = (d + n) + 1 from rfl, run_equalIn_struct w (d + n) t _ _ hfo hst, hfl]
     generalize hA : ((List.range (P.cellsOf t)).map fun j => xs.getD (off + j) undef).toArray = A
     generalize hB : ((List.range (P.cellsOf t)).map fun j => ys.getD (off + j) undef).toArray = B
     have sA : A.size = P.cellsOf t := by rw [← hA]; simp
     have sB : B.size = P.cellsOf t := by rw [← hB]; simp
     have hat : ∀ (zs Z : Array Value), ((List.range (P.cellsOf t)).map fun j => zs.getD (off + j) undef).toArray = Z → ∀ j, j < P.cellsOf t → Z.getD j undef = zs.getD (off + j) undef := by
      rintro zs Z rfl j hj
      simp [Array.getD_eq_getD_getElem?, hj]
     have key : ∀ (fl : List Field) (kss : List (List Nat)) (o : Nat) (fs gs : List FV) (b : Bool), (∀ f ∈ fl, ¬ f.name = "_") → consec P fl o = some (P.cellsOf t) → (fl.mapM fun f => (leafs P n f.type).bind fun ks => if ks.length = P.cellsOf f.type then some ks else none) = some kss →
       (∀ (j : Nat) (f : FV), fs[j]? = some f → RepF S w (A.getD (o + j) undef) f) → (∀ (j : Nat) (f : FV), gs[j]? = some f → RepF S w (B.getD (o + j) undef) f) → eqCells kss.flatten fs gs = some b → (Op.eqFields (d + n) A B fl).run P w = .ok b w := by
      intro fl
      induction fl with
      | nil =>
       intro kss o fs gs b hn hcon hm ra rb he
       simp at hm
       subst hm
       match fs, gs, he with
       | [], [], he =>
        simp only [List.flatten_nil, eqCells, Option.some.injEq] at he
        subst he
        simp [Op.eqFields]
       | [], _ :: _, he => simp [eqCells] at he
       | _ :: _, _, he => simp [eqCells] at he
      | cons f fl ihf =>
       intro kss o fs gs b hn hcon hm ra rb he
       simp only [List.mapM_cons, Option.pure_def, Option.bind_eq_bind, Option.bind_eq_some_iff, Option.some.injEq] at hm
       obtain ⟨k1, ⟨k0, hk1, hk2⟩, ks', hks', rfl⟩ := hm
       split at hk2
       ·rename_i hkl
        simp only [Option.some.injEq] at hk2
        subst hk2
        obtain ⟨_, hcc⟩ := consec_at (P := P) (f :: fl) o _ hcon
        obtain ⟨ho, hle, hcon'⟩ := hcc f fl rfl
        rw [List.flatten_cons] at he
        obtain ⟨b1, b2, e1, e2, e3⟩ := eqCells_split k0 ks'.flatten fs gs b he
        obtain ⟨va, vb, p1, p2, p3⟩ := ih f.type k0 hk1 hkl d A B o _ _ b1 (by omega) (by omega) (fun j g hg => ra j g (take_get hg)) (fun j g hg => rb j g (take_get hg)) e1
        have rest := ihf ks' (o + P.cellsOf f.type) _ _ b2 (fun g hg => hn g (by simp [hg])) hcon' hks' (fun j g hg => by
         rw [List.getElem?_drop, hkl] at hg
         rw [Nat.add_assoc]; exact ra _ g hg) (fun j g hg => by
         rw [List.getElem?_drop, hkl] at hg
         rw [Nat.add_assoc]; exact rb _ g hg) e2
        simp only [Op.eqFields]
        rw [if_pos (hn f (by simp)), ho]
        simp only [Sem.run_bind, p1, p2, p3, Result.andThen_ok]
        subst e3
        cases b1
        ·simp
        ·simpa using rest
       ·cases hk2
     refine key fl.toList kss 0 fs gs b hnames hcon hkss (fun j f hf => ?_) (fun j f hf => ?_) he
     ·have hj : j < P.cellsOf t := by
       rw [← hlen]; exact eqCells_len he hf
      rw [Nat.zero_add, hat xs A hA j hj]
      exact rx j f hf
     ·have hj : j < P.cellsOf t := by
       rw [← hlen]; exact eqCells_len' he hf
      rw [Nat.zero_add, hat ys B hB j hj]
      exact ry j f hf
    ·cases h
   ·cases h
  ·cases h
theorem sim_eqs (hi : Inv P G S ρ h w) (ha : RepA S ρ h w a.tmps ad) {neq : Bool} {xt : TypeId} {ks : List Nat} {x y : Operand} {x' y' : Opd} (hl : leafs P 12 xt = some ks) (hk : ks.length = P.cellsOf xt) (hg : P.eqGuardType P.depth xt = false) (hu : ∃ fl, P.underlying xt = some (.struct fl))
  {t1 t2 : TypeId} (h1 : trOpd P t1 x = some x') (h2 : trOpd P t2 y = some y') (hd : dop call (.eqs neq ks x' y') ad h = some out) :
  SimOut P G S ρ h w ((do pure (Next.value (← binS (if neq then .neq else .eql) xt x y (a.eval x) (a.eval y))) : Sem Next).run P w) out := by
 have g1 := rep_opd ha h1
 have g2 := rep_opd ha h2
 simp only [dop] at hd
 split at hd
 ·rename_i fs gs e1 e2
  simp only [Option.map_eq_some_iff] at hd
  obtain ⟨b, hb, rfl⟩ := hd
  rw [e1] at g1
  rw [e2] at g2
  have r1 := repD_d g1
  have r2 := repD_d g2
  generalize a.eval x = vx at *
  generalize a.eval y = vy at *
  cases r1 with
  | agg cs _ hl1 hr1 =>
   cases r2 with
   | agg ds _ hl2 hr2 =>
    obtain ⟨q1, q2⟩ := eqCells_lens hb
    obtain ⟨va, vb, p1, p2, p3⟩ := eq_type (P := P) (S := S) (w := w) 12 xt ks hl hk 9988 cs ds 0 fs gs b (by omega) (by omega) (fun j f hf => by simpa using hr1 j f hf) (fun j f hf => by simpa using hr2 j f hf) hb
    have hagg : isAggB P xt = some (some (P.cellsOf xt)) := by
     obtain ⟨fl, hu⟩ := hu
     have := hl
     unfold leafs at this
     rw [hu] at this
     simp only at this
     split at this
     ·rename_i hc
      simp only [Bool.and_eq_true, beq_iff_eq] at hc
      exact hc.2
     ·cases this
    have whole : ∀ zs : Array Value, zs.size = P.cellsOf xt → (part xt zs 0).run P w = .ok (.agg zs) w := fun zs hz => by
     rw [run_part hagg zs 0 (by simp [hz])]
     simp only [pack, Nat.zero_add]
     congr 2
     apply Array.ext
     ·simp [hz]
     ·intro i h1 h2
      simp [Array.getD_eq_getD_getElem?, h2]
    rw [whole cs (by omega)] at p1
    rw [whole ds (by omega)] at p2
    cases p1
    cases p2
    have hge := run_eqGuard_agg (P := P) w (if neq then .neq else .eql) xt x y cs ds hg
    have : (binS (if neq then .neq else .eql) xt x y (.agg cs) (.agg ds)).run P w = .ok (.bool (if neq then !b else b)) w := by
     simp only [binS, Sem.run_bind, hge, Result.andThen_ok]
     cases neq
     ·simp only [Bool.false_eq_true, if_false]
      rw [run_eql_struct, p3]
      rfl
     ·simp only [if_true]
      rw [run_neq_struct, p3]
      rfl
    rw [run_v this]
    exact SimOut.plain hi (.d _ _ (.bool _))
 ·cases hd
theorem sim_bin (hi : Inv P G S ρ h w) (ha : RepA S ρ h w a.tmps ad) {op : BinOp} {xt yt : TypeId} {x y : Operand} {d : DOp} (ht : trBin P op xt yt x y = some d) (hd : dop call d ad h = some out) :
  SimOut P G S ρ h w ((do pure (Next.value (← binS op xt x y (a.eval x) (a.eval y))) : Sem Next).run P w) out := by
 unfold trBin at ht
 split at ht
 ·rename_i x' y' hx' hy'
  have hx := rep_opd ha hx'
  have hy := rep_opd ha hy'
  have plain : d = .bin op x' y' → SimOut P G S ρ h w ((do pure (Next.value (← binS op xt x y (a.eval x) (a.eval y))) : Sem Next).run P w) out := by
   rintro rfl
   simp only [dop] at hd
   split at hd
   ·rename_i fx fy ex ey
    simp only [Option.map_eq_some_iff] at hd
    obtain ⟨f, hf, rfl⟩ := hd
    rw [ex] at hx
    rw [ey] at hy
    obtain ⟨v, hv, hr⟩ := run_bin (P := P) (t := xt) (x := x) (y := y) (repD_d hx) (repD_d hy) hf
    rw [run_v (s := binS op xt x y (a.eval x) (a.eval y)) hv]
    exact SimOut.plain hi (.d _ _ hr)
   ·cases hd
  have bools : ∀ neq : Bool, op = (if neq then .neq else .eql) → P.underlying xt = some .bool → d = .eqb neq x' y' → SimOut P G S ρ h w ((do pure (Next.value (← binS op xt x y (a.eval x) (a.eval y))) : Sem Next).run P w) out := by
   rintro neq rfl hu rfl
   simp only [dop] at hd
   split at hd
   ·rename_i bx by_ ex ey
    simp only [Option.some.injEq] at hd
    subst hd
    rw [ex] at hx
    rw [ey] at hy
    rw [repF_bool (repD_d hx), repF_bool (repD_d hy)]
    have hg : (eqGuard (if neq then .neq else .eql) xt x y (.bool bx) (.bool by_)).run P w = .ok () w := by
     unfold eqGuard
     split <;> rfl
    have he : (Op.equal xt (.bool bx) (.bool by_)).run P w = .ok (bx == by_) w := by
     unfold Op.equal
     rw [show Op.maxDepth = 9999 + 1 from rfl]
     unfold Op.equalIn
     simp [underlying, hu]
    have : (binS (if neq then .neq else .eql) xt x y (.bool bx) (.bool by_)).run P w = .ok (.bool (if neq then !(bx == by_) else bx == by_)) w := by
     simp only [binS, Sem.run_bind, hg, Result.andThen_ok]
     cases neq <;> simp [binOp, he]
    rw [run_v this]
    exact SimOut.plain hi (.d _ _ (.bool _))
   ·cases hd
  have nils : ∀ (k : Nat) (u : TypeDesc), P.underlying xt = some u → KindOf k u → trNil op k x y x' y' = some d → SimOut P G S ρ h w ((do pure (Next.value (← binS op xt x y (a.eval x) (a.eval y))) : Sem Next).run P w) out := by
   intro k u hu hk ht
   have one : ∀ (neq : Bool), op = (if neq then .neq else .eql) → (if isNilConst k y then some (DOp.isnil k neq x') else if isNilConst k x then some (DOp.isnil k neq y') else none) = some d → SimOut P G S ρ h w ((do pure (Next.value (← binS op xt x y (a.eval x) (a.eval y))) : Sem Next).run P w) out := by
    rintro neq rfl ht
    split at ht
    ·rename_i hc
     simp only [Option.some.injEq] at ht
     subst ht
     simp only [dop, Option.map_eq_some_iff] at hd
     obtain ⟨b, hb, rfl⟩ := hd
     have hv := nil_val hx hb
     have hn : NilVal k true (a.eval y) := nil_const hc
     rw [run_v (bin_nil (w := w) hu hk hv hn (.inr hc)).1]
     exact SimOut.plain hi (.d _ _ (.bool _))
    ·split at ht
     ·rename_i hc
      simp only [Option.some.injEq] at ht
      subst ht
      simp only [dop, Option.map_eq_some_iff] at hd
      obtain ⟨b, hb, rfl⟩ := hd
      have hv := nil_val hy hb
      have hn : NilVal k true (a.eval x) := nil_const hc
      rw [run_v (bin_nil (w := w) hu hk hv hn (.inl hc)).2]
      exact SimOut.plain hi (.d _ _ (.bool _))
     ·cases ht
   unfold trNil at ht
   split at ht
   ·exact one false rfl ht
   ·exact one true rfl ht
   ·cases ht
  split at ht
  ·exact plain (by simpa using ht.symm)
  ·exact plain (by simpa using ht.symm)
  ·rename_i hu
   split at ht
   ·exact bools false rfl hu (by simpa using ht.symm)
   ·exact bools true rfl hu (by simpa using ht.symm)
   ·cases ht
  ·rename_i hu; exact nils 0 _ hu trivial ht
  ·rename_i hu; exact nils 1 _ hu trivial ht
  ·rename_i hu; exact nils 2 _ hu trivial ht
  ·rename_i hu; exact nils 3 _ hu trivial ht
  ·rename_i hu; exact nils 4 _ hu trivial ht
  ·rename_i fl hu
   split at ht
   ·rename_i ks hks
    split at ht
    ·rename_i hc
     split at ht
     ·simp only [Option.some.injEq] at ht
      subst ht
      exact sim_eqs (neq := false) hi ha hks hc.1 hc.2 ⟨fl, hu⟩ hx' hy' hd
     ·simp only [Option.some.injEq] at ht
      subst ht
      exact sim_eqs (neq := true) hi ha hks hc.1 hc.2 ⟨fl, hu⟩ hx' hy' hd
     ·cases ht
    ·cases ht
   ·cases ht
  ·cases ht
 ·cases ht
end
end Go.Deepv
namespace Go.Deepv
open Go.RowKit
section
variable {P : Program} {G : Glob} {S : Settled} {ρ : List RI} {h : List Res} {w : World} {a : Act} {ad : List DV} {call : Cle → List DV → List Res → Option DOut} {out : DOut}
theorem rep_bound (ha : RepA S ρ h w a.tmps ad) {x : Option Operand} {x' : Option Opd} (ht : optOpd P x = some x') {dflt most n : Nat} (hb : bound x' ad dflt most = some n) :
  (x = none ∧ n = dflt) ∨ ∃ y k, x = some y ∧ a.eval y = .int k n ∧ n ≤ most := by
 unfold optOpd at ht
 split at ht
 ·simp only [Option.some.injEq] at ht
  subst ht
  simp only [bound, Option.some.injEq] at hb
  exact .inl ⟨rfl, hb.symm⟩
 ·simp only [Option.map_eq_some_iff] at ht
  obtain ⟨y, hy, rfl⟩ := ht
  have g := rep_opd ha hy
  simp only [bound] at hb
  split at hb
  ·rename_i i hi
   split at hb
   ·rename_i hin
    simp only [Option.some.injEq] at hb
    obtain ⟨k, hk⟩ := rep_int g hi
    refine .inr ⟨_, k, rfl, ?_, by omega⟩
    rw [hk]
    congr 1
    omega
   ·cases hb
  ·cases hb
theorem run_bounds {isSlice : Bool} {len cap lo hi : Nat} {x y : Option Operand} (hlc : hi ≤ cap) (hlo : lo ≤ hi) (hx : (x = none ∧ lo = 0) ∨ ∃ z k, x = some z ∧ a.eval z = .int k lo) (hy : (y = none ∧ hi = len) ∨ ∃ z k, y = some z ∧ a.eval z = .int k hi) :
  (Instr.sliceBounds isSlice len cap (x.map a.eval) (y.map a.eval) none).run P w = .ok (lo, hi, cap) w := by
 rcases hy with ⟨rfl, rfl⟩ | ⟨z, k, rfl, ez⟩
 ·rcases hx with ⟨rfl, rfl⟩ | ⟨z', k', rfl, ez'⟩
  ·simp [Instr.sliceBounds]
  ·simp [Instr.sliceBounds, ez', Instr.sliceBound, asIntOf, hlo]
 ·rcases hx with ⟨rfl, rfl⟩ | ⟨z', k', rfl, ez'⟩
  ·simp [Instr.sliceBounds, ez, Instr.sliceBound, asIntOf, hlc]
  ·simp [Instr.sliceBounds, ez, ez', Instr.sliceBound, asIntOf, hlc, hlo]
theorem sim_slcStr (hi : Inv P G S ρ h w) (ha : RepA S ρ h w a.tmps ad) {t t1 : TypeId} {x : Operand} {lo hi' : Option Operand} {x' : Opd} {lo' hi'' : Option Opd} (hu : P.underlying t = some .string) (h1 : trOpd P t1 x = some x') (h2 : optOpd P lo = some lo') (h3 : optOpd P hi' = some hi'')
  (hd : dop call (.slcStr x' lo' hi'') ad h = some out) : SimOut P G S ρ h w ((do pure (Next.value (← Instr.sliceAt t (a.eval x) (lo.map a.eval) (hi'.map a.eval) none)) : Sem Next).run P w) out := by
 have g1 := rep_opd ha h1
 simp only [dop] at hd
 split at hd
 ·rename_i s es
  split at hd
  ·rename_i n hn
   split at hd
   ·rename_i m hm
    simp only [Option.some.injEq] at hd
    subst hd
    rw [es] at g1
    rw [repF_str (repD_d g1)]
    have b1 := rep_bound ha h3 hn
    have b2 := rep_bound ha h2 hm
    have hle : n ≤ s.size := by rcases b1 with ⟨_, rfl⟩ | ⟨_, _, _, _, h⟩ <;> omega
    have hle2 : m ≤ n := by rcases b2 with ⟨_, rfl⟩ | ⟨_, _, _, _, h⟩ <;> omega
    have rb := run_bounds (P := P) (w := w) (a := a) (isSlice := false) (len := s.size) (cap := s.size) hle hle2 (by rcases b2 with ⟨e, r⟩ | ⟨y, k, e1, e2, _⟩; exact .inl ⟨e, r⟩; exact .inr ⟨y, k, e1, e2⟩) (by rcases b1 with ⟨e, r⟩ | ⟨y, k, e1, e2, _⟩; exact .inl ⟨e, r⟩; exact .inr ⟨y, k, e1, e2⟩)
    have run : (Instr.sliceAt t (.string s) (lo.map a.eval) (hi'.map a.eval) none).run P w = .ok (.string (s.extract m n)) w := by
     simp [Instr.sliceAt, underlying, hu, Instr.slice, rb]
    rw [run_v run]
    exact SimOut.plain hi (.d _ _ (.str _))
   ·cases hd
  ·cases hd
 ·cases hd
theorem sim_slc (hi : Inv P G S ρ h w) (ha : RepA S ρ h w a.tmps ad) {t t1 e : TypeId} {info : TypeInfo} {x : Operand} {lo hi' : Option Operand} {x' : Opd} {lo' hi'' : Option Opd} (hu : P.underlying t = some (.slice e)) (hinf : P.info? e = some info) (h1 : trOpd P t1 x = some x') (h2 : optOpd P lo = some lo') (h3 : optOpd P hi' = some hi'')
  (hd : dop call (.slc info.size x' lo' hi'') ad h = some out) : SimOut P G S ρ h w ((do pure (Next.value (← Instr.sliceAt t (a.eval x) (lo.map a.eval) (hi'.map a.eval) none)) : Sem Next).run P w) out := by
 have g1 := rep_opd ha h1
 simp only [dop] at hd
 split at hd
 ·rename_i sz l es
  split at hd
  ·rename_i hsz0
   subst hsz0
   split at hd
   ·rename_i n hn
    split at hd
    ·rename_i m hm
     simp only [Option.some.injEq] at hd
     subst hd
     have g := rep_elems g1 es
     have b1 := rep_bound ha h3 hn
     have b2 := rep_bound ha h2 hm
     have hle : n ≤ l.length := by rcases b1 with ⟨_, rfl⟩ | ⟨_, _, _, _, h⟩ <;> omega
     have hle2 : m ≤ n := by rcases b2 with ⟨_, rfl⟩ | ⟨_, _, _, _, h⟩ <;> omega
     have hlen : ((l.take n).drop m).length = n - m := by simp; omega
     have run : ∀ (A : Option Addr) (cap : Nat), l.length ≤ cap → (Instr.sliceAt t (.slice A l.length cap) (lo.map a.eval) (hi'.map a.eval) none).run P w = .ok (.slice (if cap = m then A else A.map (·.add (m * info.size))) (n - m) (cap - m)) w := fun A cap hc => by
      have rb := run_bounds (P := P) (w := w) (a := a) (isSlice := true) (len := l.length) (cap := cap) (show n ≤ cap by omega) hle2 (by rcases b2 with ⟨e, r⟩ | ⟨y, k, e1, e2, _⟩; exact .inl ⟨e, r⟩; exact .inr ⟨y, k, e1, e2⟩) (by rcases b1 with ⟨e, r⟩ | ⟨y, k, e1, e2, _⟩; exact .inl ⟨e, r⟩; exact .inr ⟨y, k, e1, e2⟩)
      simp [Instr.sliceAt, underlying, hu, Instr.slice, rb, sizeOf, typeInfo, hinf]
     generalize hvx : a.eval x = vx at *
     have fin : ∀ (A : Option Addr) (cap : Nat), l.length ≤ cap → vx = .slice A l.length cap → RepF S w (.slice (if cap = m then A else A.map (·.add (m * info.size))) (n - m) (cap - m)) (.slice info.size ((l.take n).drop m)) →
       SimOut P G S ρ h w ((do pure (Next.value (← Instr.sliceAt t vx (lo.map a.eval) (hi'.map a.eval) none)) : Sem Next).run P w) (.val (.d (.slice info.size ((l.take n).drop m))) h) := fun A cap hc e hr => by
      rw [e, run_v (run A cap hc)]
      exact SimOut.plain hi (.d _ _ hr)
     cases g with
     | slice0 A cap =>
      refine fin A cap (by simp) rfl ?_
      have : n - m = 0 := by simp at hle; omega
      rw [this]
      have e : (([] : List (List FV)).take n).drop m = [] := by simp
      rw [e]
      exact .slice0 _ _ _
     | slice b o n0 cap _ elems u hn0 hcap hsz hcc hr ho1 =>
      refine fin _ cap (by omega) (by rw [hn0]) ?_
      by_cases h0 : n - m = 0
      ·rw [h0]
       have e : (l.take n).drop m = [] := List.eq_nil_of_length_eq_zero (by omega)
       rw [e]
       exact .slice0 _ _ _
      ·rw [if_neg (show ¬ cap = m by omega)]
       simp only [Option.map_some, add_none]
       refine .slice b (o + m * info.size) (n - m) (cap - m) info.size _ (fun i j => u (m + i) j) hlen (by omega) (fun i c hc => ?_) (fun i j hi1 hj => ?_) (fun i j c y hc hy => ?_) (fun i j c y hc hy => ?_)
       ·rw [List.getElem?_drop, List.getElem?_take] at hc
        split at hc
        ·exact hsz _ c hc
        ·cases hc
       ·have := hcc (m + i) j (by omega) hj
        rwa [Nat.add_mul, ← Nat.add_assoc] at this
       ·rw [List.getElem?_drop, List.getElem?_take] at hc
        split at hc
        ·exact hr _ j c y hc hy
        ·cases hc
       ·rw [List.getElem?_drop, List.getElem?_take] at hc
        split at hc
        ·exact ho1 _ j c y hc hy
        ·cases hc
    ·cases hd
   ·cases hd
  ·cases hd
 ·split at hd
  ·rename_i id off n0 hb
   split at hd
   ·rename_i n hn
    split at hd
    ·rename_i m hm
     simp only [Option.some.injEq] at hd
     subst hd
     rw [hb] at g1
     have b1 := rep_bound ha h3 hn
     have b2 := rep_bound ha h2 hm
     have hle : n ≤ n0 := by rcases b1 with ⟨_, rfl⟩ | ⟨_, _, _, _, h⟩ <;> omega
     have hle2 : m ≤ n := by rcases b2 with ⟨_, rfl⟩ | ⟨_, _, _, _, h⟩ <;> omega
     generalize a.eval x = vx at *
     cases g1 with
     | bslc id off n0 cap b hc hbb =>
      have rb := run_bounds (P := P) (w := w) (a := a) (isSlice := true) (len := n0) (cap := cap) (show n ≤ cap by omega) hle2 (by rcases b2 with ⟨e, r⟩ | ⟨y, k, e1, e2, _⟩; exact .inl ⟨e, r⟩; exact .inr ⟨y, k, e1, e2⟩) (by rcases b1 with ⟨e, r⟩ | ⟨y, k, e1, e2, _⟩; exact .inl ⟨e, r⟩; exact .inr ⟨y, k, e1, e2⟩)
      have run : (Instr.sliceAt t (.slice (some ⟨b, off, none⟩) n0 cap) (lo.map a.eval) (hi'.map a.eval) none).run P w = .ok (.slice (if cap = m then some ⟨b, off, none⟩ else (some (⟨b, off, none⟩ : Addr)).map (·.add (m * info.size))) (n - m) (cap - m)) w := by
       simp [Instr.sliceAt, underlying, hu, Instr.slice, rb, sizeOf, typeInfo, hinf]
      rw [run_v run]
      by_cases h0 : n - m = 0
      ·rw [if_pos h0, h0]
       exact SimOut.plain hi (.d _ _ (.slice0 _ _ _))
      ·rw [if_neg h0, if_neg (show ¬ cap = m by omega)]
       simp only [Option.map_some, add_none]
       exact SimOut.plain hi (.bslc _ _ _ _ _ (by omega) hbb)
    ·cases hd
   ·cases hd
  ·rename_i id g s off n0 hb
   split at hd
   ·rename_i hs
    subst hs
    split at hd
    ·rename_i n hn
     split at hd
     ·rename_i m hm
      simp only [Option.some.injEq] at hd
      subst hd
      rw [hb] at g1
      have b1 := rep_bound ha h3 hn
      have b2 := rep_bound ha h2 hm
      have hle : n ≤ n0 := by rcases b1 with ⟨_, rfl⟩ | ⟨_, _, _, _, h⟩ <;> omega
      have hle2 : m ≤ n := by rcases b2 with ⟨_, rfl⟩ | ⟨_, _, _, _, h⟩ <;> omega
      generalize a.eval x = vx at *
      cases g1 with
      | vslc b o cap _ _ _ _ _ hc ht hr =>
       have rb := run_bounds (P := P) (w := w) (a := a) (isSlice := true) (len := n0) (cap := cap) (show n ≤ cap by omega) hle2 (by rcases b2 with ⟨e, r⟩ | ⟨y, k, e1, e2, _⟩; exact .inl ⟨e, r⟩; exact .inr ⟨y, k, e1, e2⟩) (by rcases b1 with ⟨e, r⟩ | ⟨y, k, e1, e2, _⟩; exact .inl ⟨e, r⟩; exact .inr ⟨y, k, e1, e2⟩)
       have run : (Instr.sliceAt t (.slice (some ⟨b, o, none⟩) n0 cap) (lo.map a.eval) (hi'.map a.eval) none).run P w = .ok (.slice (if cap = m then some ⟨b, o, none⟩ else (some (⟨b, o, none⟩ : Addr)).map (·.add (m * info.size))) (n - m) (cap - m)) w := by
        simp [Instr.sliceAt, underlying, hu, Instr.slice, rb, sizeOf, typeInfo, hinf]
       rw [run_v run]
       by_cases h0 : n - m = 0 ∧ m ≠ 0
       ·rw [if_pos h0, h0.1]
        exact SimOut.plain hi (.d _ _ (.slice0 _ _ _))
       ·rw [if_neg h0]
        have hA : (if cap = m then some ⟨b, o, none⟩ else (some (⟨b, o, none⟩ : Addr)).map (·.add (m * info.size))) = some (⟨b, o + m * info.size, none⟩ : Addr) := by
         by_cases hcm : cap = m
         ·have : m = 0 := by omega
          subst this
          simp [hcm]
         ·rw [if_neg hcm]
          simp [add_none]
        rw [hA]
        refine SimOut.plain hi (.vslc _ _ _ _ _ _ _ _ (by omega) ht fun k hk => ⟨(hr k hk).1, fun e => ?_⟩)
        obtain ⟨C, q1, q2, q3, q4⟩ := (hr k hk).2 e
        exact ⟨C, q1, by rw [q2, Nat.add_mul], by omega, by omega⟩
     ·cases hd
    ·cases hd
   ·cases hd
  ·cases hd
theorem sim_slcA (hi : Inv P G S ρ h w) (ha : RepA S ρ h w a.tmps ad) {t t1 e : TypeId} {len : Nat} {info : TypeInfo} {x : Operand} {lo hi' : Option Operand} {x' : Opd} {lo' hi'' : Option Opd} (hu : P.underlying t = some (.array len e)) (hinf : P.info? e = some info) (h1 : trOpd P t1 x = some x') (h2 : optOpd P lo = some lo') (h3 : optOpd P hi' = some hi'')
  (hd : dop call (.slcA len info.size x' lo' hi'') ad h = some out) : SimOut P G S ρ h w ((do pure (Next.value (← Instr.sliceAt t (a.eval x) (lo.map a.eval) (hi'.map a.eval) none)) : Sem Next).run P w) out := by
 have g1 := rep_opd ha h1
 simp only [dop] at hd
 split at hd
 ·rename_i id off hb
  split at hd
  ·rename_i n hn
   split at hd
   ·rename_i m hm
    simp only [Option.some.injEq] at hd
    subst hd
    rw [hb] at g1
    have b1 := rep_bound ha h3 hn
    have b2 := rep_bound ha h2 hm
    have hle : n ≤ len := by rcases b1 with ⟨_, rfl⟩ | ⟨_, _, _, _, h⟩ <;> omega
    have hle2 : m ≤ n := by rcases b2 with ⟨_, rfl⟩ | ⟨_, _, _, _, h⟩ <;> omega
    generalize a.eval x = vx at *
    cases g1 with
    | ptr id off b hbb =>
     have rb := run_bounds (P := P) (w := w) (a := a) (isSlice := false) (len := len) (cap := len) hle hle2 (by rcases b2 with ⟨e, r⟩ | ⟨y, k, e1, e2, _⟩; exact .inl ⟨e, r⟩; exact .inr ⟨y, k, e1, e2⟩) (by rcases b1 with ⟨e, r⟩ | ⟨y, k, e1, e2, _⟩; exact .inl ⟨e, r⟩; exact .inr ⟨y, k, e1, e2⟩)
     have run : (Instr.sliceAt t (.pointer (some ⟨b, off, none⟩)) (lo.map a.eval) (hi'.map a.eval) none).run P w = .ok (.slice (some (if len = m then ⟨b, off, none⟩ else (⟨b, off, none⟩ : Addr).add (m * info.size))) (n - m) (len - m)) w := by
      simp [Instr.sliceAt, underlying, hu, Instr.sureAddr, rb, sizeOf, typeInfo, hinf]
     rw [run_v run]
     by_cases h0 : n - m = 0
     ·rw [if_pos h0, h0]
      exact SimOut.plain hi (.d _ _ (.slice0 _ _ _))
     ·rw [if_neg h0, if_neg (show ¬ len = m by omega)]
      simp only [add_none]
      exact SimOut.plain hi (.bslc _ _ _ _ _ (by omega) hbb)
   ·cases hd
  ·cases hd
 ·cases hd
theorem sim_ext (hi : Inv P G S ρ h w) (ha : RepA S ρ h w a.tmps ad) {t : TypeId} {i : Nat} {x : Operand} {x' : Opd} (h1 : trOpd P t x = some x') (hd : dop call (.ext i x') ad h = some out) :
  SimOut P G S ρ h w ((do pure (Next.value (← Instr.extract (a.eval x) i)) : Sem Next).run P w) out := by
 have g1 := rep_opd ha h1
 have run : ∀ cs : Array Value, i < cs.size → (Instr.extract (.tuple cs) i).run P w = .ok (cs.getD i undef) w := fun cs hl => by
  simp [Instr.extract, hl, Array.getD_eq_getD_getElem?]
 simp only [dop] at hd
 split at hd
 ·rename_i vs e
  simp only [Option.map_eq_some_iff] at hd
  obtain ⟨v, hv, rfl⟩ := hd
  rw [e] at g1
  have g := repD_d g1
  generalize a.eval x = vx at *
  cases g with
  | tup cs fs hl hh =>
   rw [run_v (run cs (by have := (List.getElem?_eq_some_iff.1 hv).1; omega))]
   exact SimOut.plain hi (.d _ _ (hh i v hv))
 ·rename_i vs e
  simp only [Option.map_eq_some_iff] at hd
  obtain ⟨v, hv, rfl⟩ := hd
  rw [e] at g1
  generalize a.eval x = vx at *
  cases g1 with
  | tup cs fs hl hh =>
   rw [run_v (run cs (by have := (List.getElem?_eq_some_iff.1 hv).1; omega))]
   exact SimOut.plain hi (hh i v hv)
 ·cases hd
theorem sim_mki (hi : Inv P G S ρ h w) (ha : RepA S ρ h w a.tmps ad) {t t1 : TypeId} {u : TypeDesc} {x : Operand} {x' : Opd} (hu : P.underlying t = some u) (hni : ∀ m, u ≠ .interface m) (h1 : trOpd P t1 x = some x') (hd : dop call (.mki t x') ad h = some out) :
  SimOut P G S ρ h w ((do pure (Next.value (← Instr.makeInterface t (a.eval x))) : Sem Next).run P w) out := by
 have g1 := rep_opd ha h1
 have run : (Instr.makeInterface t (a.eval x)).run P w = .ok (.iface t (a.eval x)) w := by
  cases u <;> simp_all [Instr.makeInterface, underlying]
 simp only [dop] at hd
 split at hd
 ·rename_i v e
  simp only [Option.some.injEq] at hd
  subst hd
  rw [e] at g1
  rw [run_v run]
  exact SimOut.plain hi (.d _ _ (.iface _ _ _ (repD_d g1)))
 ·rename_i y e
  simp only [Option.some.injEq] at hd
  subst hd
  rw [run_v run]
  exact SimOut.plain hi (.iface _ _ _ g1)
theorem sim_panic (hi : Inv P G S ρ h w) (ha : RepA S ρ h w a.tmps ad) {t : TypeId} {x : Operand} {x' : Opd} (h1 : trOpd P t x = some x') (hd : dop call (.panic x') ad h = some out) :
  SimOut P G S ρ h w ((do pure (Next.value (← Instr.panic (a.eval x))) : Sem Next).run P w) out := by
 have g1 := rep_opd ha h1
 simp only [dop] at hd
 split at hd
 ·rename_i t' v e
  simp only [Option.some.injEq] at hd
  subst hd
  rw [e] at g1
  have g := repD_d g1
  generalize a.eval x = vx at *
  cases g with
  | iface _ v0 _ hv =>
   refine ⟨.iface t' v0, w, S, ρ, ?_, .d _ _ (.iface _ _ _ hv), Ext.refl _ _ _ _, hi⟩
   simp [Instr.panic]
 ·cases hd
theorem sim_nilchk (hi : Inv P G S ρ h w) (ha : RepA S ρ h w a.tmps ad) {o : Oper} {t : TypeId} {x : Operand} {x' : Opd} (ho : o.op = .nilCheck x) (h1 : trOpd P t x = some x') (hd : dop call (.nilchk x') ad h = some out) :
  SimOut P G S ρ h w ((execOp a.eval o).run P w) out := by
 have g1 := rep_opd ha h1
 simp only [dop] at hd
 split at hd
 ·rename_i c off e
  simp only [Option.some.injEq] at hd
  subst hd
  rw [e] at g1
  have g := repD_d g1
  generalize hv : a.eval x = vx at *
  cases g with
  | ref b o' off cells u hc hr ho1 =>
   have : (execOp a.eval o).run P w = .ok (.value (.pointer (some ⟨b, o' + off, none⟩))) w := by simp [execOp, ho, hv]
   rw [this]
   exact SimOut.plain hi (.d _ _ (.ref _ _ _ _ u hc hr ho1))
 ·rename_i id off e
  simp only [Option.some.injEq] at hd
  subst hd
  rw [e] at g1
  generalize hv : a.eval x = vx at *
  cases g1 with
  | ptr id off b hb =>
   have : (execOp a.eval o).run P w = .ok (.value (.pointer (some ⟨b, off, none⟩))) w := by simp [execOp, ho, hv]
   rw [this]
   exact SimOut.plain hi (.ptr _ _ _ hb)
 ·rename_i g p q e
  simp only [Option.some.injEq] at hd
  subst hd
  rw [e] at g1
  have gg := repD_d g1
  generalize hv : a.eval x = vx at *
  cases gg with
  | func fn p' q' fp fq hp hq h1' h2' =>
   have : (execOp a.eval o).run P w = .ok (.value (.func (.func g) p' q')) w := by simp [execOp, ho, hv]
   rw [this]
   exact SimOut.plain hi (.d _ _ (.func _ _ _ _ _ hp hq h1' h2'))
 ·rename_i g p q e
  simp only [Option.some.injEq] at hd
  subst hd
  rw [e] at g1
  generalize hv : a.eval x = vx at *
  cases g1 with
  | clo fn p' q' fp fq hp hq h1' h2' =>
   have : (execOp a.eval o).run P w = .ok (.value (.func (.func g) p' q')) w := by simp [execOp, ho, hv]
   rw [this]
   exact SimOut.plain hi (.clo _ _ _ _ _ hp hq h1' h2')
 ·rename_i id e
  simp only [Option.some.injEq] at hd
  subst hd
  rw [e] at g1
  generalize hv : a.eval x = vx at *
  cases g1 with
  | yld id b hb =>
   have : (execOp a.eval o).run P w = .ok (.value (.func (.yield b) #[] #[])) w := by simp [execOp, ho, hv]
   rw [this]
   exact SimOut.plain hi (.yld _ _ hb)
 ·cases hd
theorem rep_opds (ha : RepA S ρ h w a.tmps ad) {ts : List Operand} {ds : List Opd} {f : Operand → Option Opd} (hf : ∀ x y, f x = some y → ∃ t, trOpd P t x = some y) (ht : ts.mapM f = some ds) :
  (ts.map a.eval).length = (ds.map (ev ad)).length ∧ ∀ (j : Nat) (y : DV), (ds.map (ev ad))[j]? = some y → RepD S ρ h w ((ts.map a.eval).getD j undef) y := by
 obtain ⟨h1, h2⟩ := mapM_some ht
 refine ⟨by simp [h1], fun j y hy => ?_⟩
 simp only [List.getElem?_map, Option.map_eq_some_iff] at hy
 obtain ⟨d, hd, rfl⟩ := hy
 obtain ⟨x, hx, hfx⟩ := h2 j d hd
 obtain ⟨t, htx⟩ := hf x d hfx
 have := rep_opd ha htx
 simpa [List.getD_eq_getElem?_getD, hx] using this
theorem sim_mkf (hi : Inv P G S ρ h w) (ha : RepA S ρ h w a.tmps ad) {t : TypeId} {fn : Fn} {p q : Array Operand} {p' q' : List Opd} (h1 : p.toList.mapM (trOpd P t) = some p') (h2 : q.toList.mapM (trOpd P t) = some q') (hd : dop call (.mkf fn p' q') ad h = some out) :
  SimOut P G S ρ h w ((do pure (Next.value (← Instr.makeFunc fn (p.map a.eval) (q.map a.eval))) : Sem Next).run P w) out := by
 obtain ⟨l1, r1⟩ := rep_opds ha (fun x y e => ⟨t, e⟩) h1
 obtain ⟨l2, r2⟩ := rep_opds ha (fun x y e => ⟨t, e⟩) h2
 rw [run_v (s := Instr.makeFunc fn (p.map a.eval) (q.map a.eval)) (w' := w) rfl]
 have e1 : ∀ j, (p.map a.eval).getD j undef = (p.toList.map a.eval).getD j undef := fun j => by simp [Array.getD_eq_getD_getElem?, List.getD_eq_getElem?_getD]
 have e2 : ∀ j, (q.map a.eval).getD j undef = (q.toList.map a.eval).getD j undef := fun j => by simp [Array.getD_eq_getD_getElem?, List.getD_eq_getElem?_getD]
 simp only [dop] at hd
 split at hd
 ·rename_i fp fq hp hq
  simp only [Option.some.injEq] at hd
  subst hd
  obtain ⟨m1, s1⟩ := rep_flats (u := fun j => (p.toList.map a.eval).getD j undef) r1 hp
  obtain ⟨m2, s2⟩ := rep_flats (u := fun j => (q.toList.map a.eval).getD j undef) r2 hq
  refine SimOut.plain hi (.d _ _ (.func _ _ _ _ _ ?_ ?_ (fun j x hx => by rw [e1]; exact s1 j x hx) (fun j x hx => by rw [e2]; exact s2 j x hx)))
  ·simp at l1 ⊢; simp at m1; omega
  ·simp at l2 ⊢; simp at m2; omega
 ·simp only [Option.some.injEq] at hd
  subst hd
  refine SimOut.plain hi (.clo _ _ _ _ _ ?_ ?_ (fun j x hx => by rw [e1]; exact r1 j x hx) (fun j x hx => by rw [e2]; exact r2 j x hx))
  ·simpa using l1
  ·simpa using l2
theorem run_fold {mx : Bool} : ∀ (ys : List Value) (fs : List FV) (v : Value) (f r : FV), ys.length = fs.length → (∀ (j : Nat) (y : FV), fs[j]? = some y → RepF S w (ys.getD j undef) y) → RepF S w v f → fs.foldlM (mnmx2 mx) f = some r →
  ∃ v', (ys.foldlM (if mx then Builtin.max2 else Builtin.min2) v).run P w = .ok v' w ∧ RepF S w v' r
 | [], [], v, f, r, _, _, hv, hf => by
  simp at hf
  subst hf
  exact ⟨v, rfl, hv⟩
 | y :: ys, g :: fs, v, f, r, hl, hr, hv, hf => by
  simp only [List.foldlM_cons, Option.bind_eq_bind, Option.bind_eq_some_iff] at hf
  obtain ⟨m, hm, hf⟩ := hf
  have hy : RepF S w y g := by simpa using hr 0 g rfl
  unfold mnmx2 at hm
  split at hm
  ·rename_i k a k' b
   split at hm
   ·rename_i hk
    subst hk
    simp only [Option.some.injEq] at hm
    subst hm
    obtain rfl := repF_int hv
    obtain rfl := repF_int hy
    obtain ⟨v', e, hv'⟩ := run_fold (mx := mx) ys fs (.int k (if mx then (if a < b then b else a) else (if b < a then b else a))) _ r (by simpa using hl) (fun j z hz => by simpa using hr (j + 1) z (by simpa using hz)) (.int _ _) hf
    refine ⟨v', ?_, hv'⟩
    simp only [List.foldlM_cons, Sem.run_bind]
    have : ((if mx then Builtin.max2 else Builtin.min2) (.int k a) (.int k b)).run P w = .ok (.int k (if mx then (if a < b then b else a) else (if b < a then b else a))) w := by
     cases mx <;> rfl
    rw [this]
    exact e
   ·cases hm
  ·cases hm
 | [], _ :: _, _, _, _, hl, _, _, _ => by simp at hl
 | _ :: _, [], _, _, _, hl, _, _, _ => by simp at hl
theorem sim_mnmx (hi : Inv P G S ρ h w) (ha : RepA S ρ h w a.tmps ad) {mx : Bool} {vs : List Value} {xs : List Opd} (hl : vs.length = xs.length) (hr : ∀ (j : Nat) (y : DV), (xs.map (ev ad))[j]? = some y → RepD S ρ h w (vs.getD j undef) y) {ts : Array TypeId} {rt : TypeId}
  (hd : dop call (.mnmx mx xs) ad h = some out) : SimOut P G S ρ h w ((do pure (Next.value (← (if mx then Builtin.max_ ts rt vs.toArray else Builtin.min_ ts rt vs.toArray))) : Sem Next).run P w) out := by
 simp only [dop] at hd
 split at hd
 ·rename_i x rest hx
  split at hd
  ·rename_i ys hys
   simp only [Option.map_eq_some_iff] at hd
   obtain ⟨r, hrr, rfl⟩ := hd
   have hlen : vs.length = (DV.d x :: rest).length := by rw [← hx]; simp [hl]
   cases vs with
   | nil => simp at hlen
   | cons v vs =>
    rw [hx] at hr
    have h0 : RepF S w v x := repD_d (by simpa using hr 0 _ rfl)
    obtain ⟨m1, s1⟩ := rep_flats (u := fun j => vs.getD j undef) (fun j y hy => by simpa using hr (j + 1) y (by simpa using hy)) hys
    obtain ⟨v', e, hv'⟩ := run_fold (P := P) (mx := mx) vs ys v x r (by simp at hlen; omega) s1 h0 hrr
    have : ((if mx then Builtin.max_ ts rt (v :: vs).toArray else Builtin.min_ ts rt (v :: vs).toArray)).run P w = .ok v' w := by
     cases mx <;> simpa [Builtin.max_, Builtin.min_] using e
    rw [run_v this]
    exact SimOut.plain hi (.d _ _ hv')
  ·cases hd
 ·cases hd
theorem slice_len {A : Option Addr} {n cap sz : Nat} {l : List (List FV)} (hf : RepF S w (.slice A n cap) (.slice sz l)) : l.length = n := by
 cases hf with
 | slice0 => rfl
 | slice b o n cap sz elems u hn => exact hn
theorem rep_nil (hi : Inv P G S ρ h w) {v : Value} {sz t : Nat} (hx : RepD S ρ h w v (.row sz [] t)) (hn : h[t]? = some .nilrow) : v = .slice none 0 0 := by
 cases hx with
 | row v sz elems t hx ht hr =>
  have h1 := (hr 0 (by rw [hn]; rfl)).2 rfl
  rw [hi.nilrow t hn] at h1
  simp only [Option.some.injEq, RI.row.injEq] at h1
  exact h1.symm
theorem sim_slc3 (hi : Inv P G S ρ h w) (ha : RepA S ρ h w a.tmps ad) {t t1 t2 t3 e : TypeId} {info : TypeInfo} {x hx mx : Operand} {lo : Option Operand} {x' hx' mx' : Opd} {lo' : Option Opd} (hu : P.underlying t = some (.slice e)) (hinf : P.info? e = some info) (h1 : trOpd P t1 x = some x') (h2 : optOpd P lo = some lo') (h3 : trOpd P t2 hx = some hx') (h4 : trOpd P t3 mx = some mx')
  (hd : dop call (.slc3 info.size x' lo' hx' mx') ad h = some out) : SimOut P G S ρ h w ((do pure (Next.value (← Instr.sliceAt t (a.eval x) (lo.map a.eval) (some (a.eval hx)) (some (a.eval mx)))) : Sem Next).run P w) out := by
 have g1 := rep_opd ha h1
 simp only [dop] at hd
 split at hd
 ·rename_i sz l i m es ei em
  split at hd
  ·rename_i hc
   obtain ⟨rfl, hi0, hil, rfl⟩ := hc
   split at hd
   ·rename_i lo1 hlo
    simp only [Option.some.injEq] at hd
    subst hd
    have g := rep_elems g1 es
    obtain ⟨k1, hk1⟩ := rep_int (rep_opd ha h3) ei
    obtain ⟨k2, hk2⟩ := rep_int (rep_opd ha h4) em
    have b2 := rep_bound ha h2 hlo
    obtain ⟨n, rfl⟩ : ∃ n : Nat, m = n := ⟨m.toNat, by omega⟩
    simp only [Int.toNat_natCast] at hlo b2 ⊢
    have hle2 : lo1 ≤ n := by rcases b2 with ⟨_, rfl⟩ | ⟨_, _, _, _, h⟩ <;> omega
    have hnl : n ≤ l.length := by omega
    have hlen : ((l.take n).drop lo1).length = n - lo1 := by simp; omega
    have run : ∀ (A : Option Addr) (cap : Nat), l.length ≤ cap → (Instr.sliceAt t (.slice A l.length cap) (lo.map a.eval) (some (a.eval hx)) (some (a.eval mx))).run P w = .ok (.slice (if n = lo1 then A else A.map (·.add (lo1 * info.size))) (n - lo1) (n - lo1)) w := fun A cap hc => by
     have hb : n ≤ cap := by omega
     have rb : (Instr.sliceBounds true l.length cap (lo.map a.eval) (some (a.eval hx)) (some (a.eval mx))).run P w = .ok (lo1, n, n) w := by
      rcases b2 with ⟨rfl, rfl⟩ | ⟨z, k, rfl, ez, _⟩
      ·simp [Instr.sliceBounds, hk1, hk2, Instr.sliceBound, asIntOf, hb]
      ·simp [Instr.sliceBounds, hk1, hk2, ez, Instr.sliceBound, asIntOf, hb, hle2]
     simp [Instr.sliceAt, underlying, hu, Instr.slice, rb, sizeOf, typeInfo, hinf]
    generalize hvx : a.eval x = vx at *
    have fin : ∀ (A : Option Addr) (cap : Nat), l.length ≤ cap → vx = .slice A l.length cap → RepF S w (.slice (if n = lo1 then A else A.map (·.add (lo1 * info.size))) (n - lo1) (n - lo1)) (.slice info.size ((l.take n).drop lo1)) →
      SimOut P G S ρ h w ((do pure (Next.value (← Instr.sliceAt t vx (lo.map a.eval) (some (a.eval hx)) (some (a.eval mx)))) : Sem Next).run P w) (.val (.d (.fulls info.size ((l.take n).drop lo1))) h) := fun A cap hc e hr => by
     rw [e, run_v (run A cap hc)]
     exact SimOut.plain hi (.d _ _ (.fulls _ _ _ _ hr))
    cases g with
    | slice0 A cap =>
     refine fin A cap (by simp) rfl ?_
     have : n - lo1 = 0 := by simp at hnl; omega
     rw [this]
     have e : (([] : List (List FV)).take n).drop lo1 = [] := by simp
     rw [e]
     exact .slice0 _ _ _
    | slice b o n0 cap _ elems u hn0 hcap hsz hcc hr ho1 =>
     refine fin _ cap (by omega) (by rw [hn0]) ?_
     by_cases h0 : n - lo1 = 0
     ·rw [h0]
      have e : (l.take n).drop lo1 = [] := List.eq_nil_of_length_eq_zero (by omega)
      rw [e]
      exact .slice0 _ _ _
     ·rw [if_neg (show ¬ n = lo1 by omega)]
      simp only [Option.map_some, add_none]
      refine .slice b (o + lo1 * info.size) (n - lo1) (n - lo1) info.size _ (fun i j => u (lo1 + i) j) hlen (by omega) (fun i c hc => ?_) (fun i j hi1 hj => ?_) (fun i j c y hc hy => ?_) (fun i j c y hc hy => ?_)
      ·rw [List.getElem?_drop, List.getElem?_take] at hc
       split at hc
       ·exact hsz _ c hc
       ·cases hc
      ·have := hcc (lo1 + i) j (by omega) hj
       rwa [Nat.add_mul, ← Nat.add_assoc] at this
      ·rw [List.getElem?_drop, List.getElem?_take] at hc
       split at hc
       ·exact hr _ j c y hc hy
       ·cases hc
      ·rw [List.getElem?_drop, List.getElem?_take] at hc
       split at hc
       ·exact ho1 _ j c y hc hy
       ·cases hc
   ·cases hd
  ·cases hd
 ·cases hd
theorem sim_slcn (hi : Inv P G S ρ h w) (ha : RepA S ρ h w a.tmps ad) {t t1 e : TypeId} {info : TypeInfo} {x : Operand} {lo hi' : Option Operand} {x' : Opd} {lo' hi'' : Option Opd} (hu : P.underlying t = some (.slice e)) (hinf : P.info? e = some info) (h1 : trOpd P t1 x = some x') (h2 : optOpd P lo = some lo') (h3 : optOpd P hi' = some hi'')
  (hd : dop call (.slcn info.size x' lo' hi'') ad h = some out) : SimOut P G S ρ h w ((do pure (Next.value (← Instr.sliceAt t (a.eval x) (lo.map a.eval) (hi'.map a.eval) none)) : Sem Next).run P w) out := by
 have g1 := rep_opd ha h1
 simp only [dop] at hd
 split at hd
 ·rename_i s t' ex
  split at hd
  ·rename_i hn
   split at hd
   ·rename_i hs
    subst hs
    split at hd
    ·rename_i n hbn
     split at hd
     ·rename_i m hbm
      simp only [Option.some.injEq] at hd
      subst hd
      rw [ex] at g1
      have hv := rep_nil hi g1 hn
      have b1 := rep_bound ha h3 hbn
      have b2 := rep_bound ha h2 hbm
      have hn0 : n = 0 := by rcases b1 with ⟨_, rfl⟩ | ⟨_, _, _, _, h⟩ <;> omega
      have hm0 : m = 0 := by rcases b2 with ⟨_, rfl⟩ | ⟨_, _, _, _, h⟩ <;> omega
      subst hn0 hm0
      have rb := run_bounds (P := P) (w := w) (a := a) (isSlice := true) (len := 0) (cap := 0) (Nat.le_refl 0) (Nat.le_refl 0) (by rcases b2 with ⟨e, r⟩ | ⟨y, k, e1, e2, _⟩; exact .inl ⟨e, r⟩; exact .inr ⟨y, k, e1, e2⟩) (by rcases b1 with ⟨e, r⟩ | ⟨y, k, e1, e2, _⟩; exact .inl ⟨e, r⟩; exact .inr ⟨y, k, e1, e2⟩)
      have run : (Instr.sliceAt t (.slice none 0 0) (lo.map a.eval) (hi'.map a.eval) none).run P w = .ok (.slice none 0 0) w := by
       simp [Instr.sliceAt, underlying, hu, Instr.slice, rb, sizeOf, typeInfo, hinf]
      rw [hv] at g1 ⊢
      rw [run_v run]
      exact SimOut.plain hi g1
     ·cases hd
    ·cases hd
   ·cases hd
  ·cases hd
 ·cases hd
theorem sim_capn (hi : Inv P G S ρ h w) (ha : RepA S ρ h w a.tmps ad) {t t1 rt e : TypeId} {ts : Array TypeId} {x : Operand} {x' : Opd} (h1 : trOpd P t1 x = some x') (h0 : ts[0]? = some t) (hu : P.underlying t = some (.slice e))
  (hd : dop call (.capn x') ad h = some out) : SimOut P G S ρ h w ((do pure (Next.value (← Builtin.cap_ ts rt #[a.eval x])) : Sem Next).run P w) out := by
 have g1 := rep_opd ha h1
 have run : ∀ (A : Option Addr) (n cap : Nat), (Builtin.cap_ ts rt #[.slice A n cap]).run P w = .ok (.int .i64 cap) w := fun A n cap => by
  simp [Builtin.cap_, h0, underlying, hu, goInt]
 simp only [dop] at hd
 split at hd
 ·rename_i v ev'
  simp only [Option.map_eq_some_iff] at hd
  obtain ⟨p, hp, rfl⟩ := hd
  rw [ev'] at g1
  have g2 := repD_d g1
  generalize a.eval x = vx at *
  cases v <;> simp only [fullOf, Option.some.injEq, reduceCtorEq] at hp
  ·subst hp
   cases g2
   rw [run_v (run _ _ _)]
   exact SimOut.plain hi (.d _ _ (.int _ _))
  ·subst hp
   cases g2 with
   | fulls A n sz elems hf =>
    rw [run_v (run _ _ _)]
    have := slice_len hf
    subst this
    exact SimOut.plain hi (.d _ _ (.int _ _))
 ·rename_i s t' ex
  split at hd
  ·rename_i hn
   simp only [Option.some.injEq] at hd
   subst hd
   rw [ex] at g1
   rw [rep_nil hi g1 hn, run_v (run _ _ _)]
   exact SimOut.plain hi (.d _ _ (.int _ _))
  ·cases hd
 ·cases hd
theorem sim_lenm (hi : Inv P G S ρ h w) (ha : RepA S ρ h w a.tmps ad) {t t1 rt k e : TypeId} {ts : Array TypeId} {x : Operand} {x' : Opd} (h1 : trOpd P t1 x = some x') (h0 : ts[0]? = some t) (hu : P.underlying t = some (.map k e))
  (hd : dop call (.lenm x') ad h = some out) : SimOut P G S ρ h w ((do pure (Next.value (← Builtin.len_ ts rt #[a.eval x])) : Sem Next).run P w) out := by
 have g1 := rep_opd ha h1
 simp only [dop] at hd
 split at hd
 ·rename_i id ex
  split at hd
  ·rename_i l hm
   simp only [Option.some.injEq] at hd
   subst hd
   obtain ⟨ri, r1, b, es, ck, rfl, m2, m3, m4, m5⟩ := hi.own id _ hm
   rw [ex] at g1
   generalize a.eval x = vx at *
   cases g1 with
   | mref id b' hb =>
    rw [r1] at hb
    simp at hb
    subst hb
    have run : (Builtin.len_ ts rt #[.map (some b)]).run P w = .ok (.int .i64 es.size) w := by
     have ho : (getObj b).run P w = .ok (.map es ck) w := by simp [getObj, Sem.run, m2]
     simp [Builtin.len_, h0, underlying, hu, goInt, ho]
    rw [run_v run, m3]
    exact SimOut.plain hi (.d _ _ (.int _ _))
  ·cases hd
 ·rename_i ex
  simp only [Option.some.injEq] at hd
  subst hd
  rw [ex] at g1
  have g2 := repD_d g1
  generalize a.eval x = vx at *
  cases g2
  have run : (Builtin.len_ ts rt #[.map none]).run P w = .ok (.int .i64 0) w := by
   simp [Builtin.len_, h0, underlying, hu, goInt]
  rw [run_v run]
  exact SimOut.plain hi (.d _ _ (.int _ _))
 ·cases hd
end
end Go.Deepv
namespace Go.Deepv
open Go.RowKit
mutual
theorem DV.low_mono {n m : Nat} (hnm : n ≤ m) : ∀ x : DV, x.low n = true → x.low m = true
 | .d _, _ => rfl
 | .ptr id _, h => by simp [DV.low] at h ⊢; omega
 | .row _ _ t, h => by simp [DV.low] at h ⊢; omega
 | .agg cs, h => by simp only [DV.low] at h ⊢; exact DV.lows_mono hnm cs h
 | .clo _ p q, h => by
  simp only [DV.low, Bool.and_eq_true] at h ⊢
  exact ⟨DV.lows_mono hnm p h.1, DV.lows_mono hnm q h.2⟩
 | .tup vs, h => by simp only [DV.low] at h ⊢; exact DV.lows_mono hnm vs h
 | .iface _ v, h => by simp only [DV.low] at h ⊢; exact DV.low_mono hnm v h
 | .yld id, h => by simp [DV.low] at h ⊢; omega
 | .rptr _ t, h => by simp [DV.low] at h ⊢; omega
 | .bslc id _ _, h => by simp [DV.low] at h ⊢; omega
 | .vslc id _ _ _ _, h => by simp [DV.low] at h ⊢; omega
 | .eptr id _ _ _, h => by simp [DV.low] at h ⊢; omega
 | .mref id, h => by simp [DV.low] at h ⊢; omega
theorem DV.lows_mono {n m : Nat} (hnm : n ≤ m) : ∀ l : List DV, DV.lows n l = true → DV.lows m l = true
 | [], _ => rfl
 | x :: xs, h => by
  simp only [DV.lows, Bool.and_eq_true] at h ⊢
  exact ⟨DV.low_mono hnm x h.1, DV.lows_mono hnm xs h.2⟩
end
theorem DV.lows_at {n : Nat} : ∀ {l : List DV} {j : Nat} {x : DV}, DV.lows n l = true → l[j]? = some x → x.low n = true
 | [], j, x, _, hx => by simp at hx
 | y :: ys, j, x, h, hx => by
  simp only [DV.lows, Bool.and_eq_true] at h
  cases j with
  | zero => simp at hx; subst hx; exact h.1
  | succ j => exact DV.lows_at h.2 (by simpa using hx)
section
variable {P : Program} {G : Glob} {S : Settled} {ρ : List RI} {h : List Res} {w : World} {a : Act} {ad : List DV} {call : Cle → List DV → List Res → Option DOut} {out : DOut}
theorem run_newVar (t : TypeId) (v : Value) : (newVar t v).run P w = .ok ⟨w.heap.size, 0, none⟩ (w.alloc (.cells v.cells t)) := by
 simp [newVar, newRow, World.alloc_eq]
theorem box_new (hi : Inv P G S ρ h w) {c : Array Value} {e : TypeId} {cs : List DV} {tag : Nat} (htag : tag = 0 ∨ e = tag) (hl : c.size = cs.length) (h1 : cs.all DV.one = true) (hlow : DV.lows h.length cs = true) (hr : ∀ (j : Nat) (x : DV), cs[j]? = some x → RepD S ρ h w (c.getD j undef) x) :
  ∃ S', Ext S ρ h w S' (ρ ++ [.box w.heap.size]) (h ++ [.box cs tag]) (w.alloc (.cells c e)) ∧ Inv P G S' (ρ ++ [.box w.heap.size]) (h ++ [.box cs tag]) (w.alloc (.cells c e)) := by
 have E := ext_alloc hi (.cells c e) (fun _ => False) [.box w.heap.size] [.box cs tag] (fun r b hr hb => by simp at hr; subst hr; simpa [RI.block] using hb.symm)
 refine ⟨_, E, inv_alloc_old hi _ (fun _ => False) _ _ (fun r b hr hb => by simp at hr; subst hr; simpa [RI.block] using hb.symm) rfl ?_ ?_ ?_ ?_ ?_⟩
 ·intro i j b r r' hr hr' _ _
  have a1 := (List.getElem?_eq_some_iff.1 hr).1
  have a2 := (List.getElem?_eq_some_iff.1 hr').1
  simp at a1 a2
  omega
 ·intro i cells tag' hc
  have a1 := (List.getElem?_eq_some_iff.1 hc).1
  have hi0 : i = 0 := by simp at a1; omega
  subst hi0
  simp at hc
  obtain ⟨rfl, rfl⟩ := hc
  refine ⟨w.heap.size, c, e, rfl, heap_alloc_at _ _, ⟨hl, htag⟩, fun j x hx => ⟨(List.all_eq_true.1 h1) _ (List.mem_of_getElem? hx), DV.low_mono (by omega) _ (DV.lows_at hlow hx), (hr j x hx).mono E⟩, fun o ho => ?_⟩
  rcases ho with ho | ho
  ·have := hi.bound _ _ ho
   omega
  ·exact ho.2
 ·intro i hc
  have a1 := (List.getElem?_eq_some_iff.1 hc).1
  have hi0 : i = 0 := by simp at a1; omega
  subst hi0
  simp at hc
 ·intro i sz n et hc
  have a1 := (List.getElem?_eq_some_iff.1 hc).1
  have hi0 : i = 0 := by simp at a1; omega
  subst hi0
  simp at hc
 ·intro i s pos hc
  have a1 := (List.getElem?_eq_some_iff.1 hc).1
  have hi0 : i = 0 := by simp at a1; omega
  subst hi0
  simp at hc
theorem ref_new (hi : Inv P G S ρ h w) {c : Array Value} {e : TypeId} {fs : List FV} (hl : c.size = fs.length) (h1 : ∀ (j : Nat) (x : FV), fs[j]? = some x → x.one = true) (hr : ∀ (j : Nat) (x : FV), fs[j]? = some x → RepF S w (c.getD j undef) x) :
  ∃ S', Ext S ρ h w S' ρ h (w.alloc (.cells c e)) ∧ Inv P G S' ρ h (w.alloc (.cells c e)) ∧ RepF S' (w.alloc (.cells c e)) (.pointer (some ⟨w.heap.size, 0, none⟩)) (.ref fs 0) := by
 have E := ext_alloc hi (.cells c e) (fun x => x < c.size) [] [] (fun r b hr hb => by simp at hr)
 have I := inv_alloc_old hi (.cells c e) (fun x => x < c.size) [] [] (fun r b hr hb => by simp at hr) rfl (fun i j b r r' hr => by simp at hr) (fun i cells tag hc => by simp at hc) (fun i hc => by simp at hc) (fun i sz n et hc => by simp at hc) (fun i s pos hc => by simp at hc)
 simp only [List.append_nil] at E I
 refine ⟨_, E, I, ?_⟩
 refine .ref w.heap.size 0 0 fs (fun j => c.getD j undef) (fun j hj => ⟨.inr ⟨rfl, by omega⟩, ?_⟩) (fun j x hx => (hr j x hx).mono E.settled E.cells) h1
 simp only [World.cell?, heap_alloc_at, Nat.zero_add]
 simp [Array.getD_eq_getD_getElem?, show j < c.size by omega]
theorem sim_box (hi : Inv P G S ρ h w) (ha : RepA S ρ h w a.tmps ad) {imm : Bool} {t t1 : TypeId} {x : Operand} {x' : Opd} (h1 : trOpd P t1 x = some x') (hd : dop call (.box imm x') ad h = some out) :
  SimOut P G S ρ h w ((do pure (Next.value (← Instr.box t (a.eval x))) : Sem Next).run P w) out := by
 have g1 := rep_opd ha h1
 have run : (Instr.box t (a.eval x)).run P w = .ok (.pointer (some ⟨w.heap.size, 0, none⟩)) (w.alloc (.cells (a.eval x).cells t)) := by
  simp [Instr.box, run_newVar]
 rw [run_v run]
 simp only [dop] at hd
 split at hd
 ·rename_i hone
  obtain ⟨c1, c2, c3⟩ := rep_cells g1 hone
  cases imm with
  | true =>
   simp only [if_true, Option.map_eq_some_iff] at hd
   obtain ⟨fs, hfs, rfl⟩ := hd
   obtain ⟨m1, s1⟩ := rep_flats (u := fun j => (a.eval x).cells.getD j undef) c2 hfs
   have one : ∀ (j : Nat) (y : FV), fs[j]? = some y → y.one = true := fun j y hy => by
    obtain ⟨z, hz, hf⟩ := (mapM_some hfs).2 j y hy
    have := (List.all_eq_true.1 hone) _ (List.mem_of_getElem? hz)
    cases z <;> simp only [DV.flat, Option.some.injEq, reduceCtorEq] at hf
    ·subst hf; exact this
    ·subst hf; rfl
   obtain ⟨S', E, I, R⟩ := ref_new hi (e := t) (by omega) one s1
   exact ⟨_, _, S', ρ, .inl rfl, .d _ _ R, E, I⟩
  | false =>
   simp only [Bool.false_eq_true, if_false] at hd
   split at hd
   ·rename_i hlow
    simp only [Option.some.injEq] at hd
    subst hd
    obtain ⟨S', E, I⟩ := box_new hi (e := t) (.inl rfl) c1 hone hlow c2
    exact ⟨_, _, S', _, .inl rfl, .ptr _ _ _ (by rw [← hi.len]; simp), E, I⟩
   ·cases hd
 ·cases hd
theorem sim_nilrow (hi : Inv P G S ρ h w) {sz : Nat} (hd : dop call (.nilrow sz) ad h = some out) : SimOut P G S ρ h w (.ok (.value (.slice none 0 0)) w) out := by
 simp only [dop, Option.some.injEq] at hd
 subst hd
 have E := ext_rows hi 1
 have I := inv_rows hi 1
 refine ⟨.slice none 0 0, w, S, _, .inl rfl, .row _ _ _ _ (.slice0 _ _ _) (by simp) (fun n hn => ?_), E, I⟩
 simp [Res.tip] at hn
 subst hn
 refine ⟨by simp, fun _ => ?_⟩
 rw [← hi.len]
 simp
theorem minted_ok : ∀ {zs : List Value} {fs : List FV} (n : Nat), constsOk zs fs = true → ∀ {S : Settled} {ρ : List RI} {h : List Res} {w : World},
  (allocCells (minted zs fs) n).1.length = zs.length ∧ (allocCells (minted zs fs) n).2 = List.replicate (allocCells (minted zs fs) n).2.length .nilrow ∧
  (∀ (j : Nat) (x : DV), (allocCells (minted zs fs) n).1[j]? = some x → (∃ f, x = .d f ∧ RepF S w (zs.getD j undef) f) ∨ (∃ sz k, x = .row sz [] (n + k) ∧ k < (allocCells (minted zs fs) n).2.length ∧ zs.getD j undef = .slice none 0 0)) := by
 intro zs
 induction zs with
 | nil => intro fs n hc S ρ h w; cases fs <;> simp [minted, allocCells]
 | cons z zs ih =>
  intro fs n hc S ρ h w
  cases fs with
  | nil => simp [constsOk] at hc
  | cons f fs =>
   simp only [constsOk, Bool.and_eq_true] at hc
   by_cases hm : ∃ sz l, z = .slice none 0 0 ∧ f = .slice sz l
   ·obtain ⟨sz, l, rfl, rfl⟩ := hm
    obtain ⟨l1, l2, l3⟩ := ih (n + 1) hc.2 (S := S) (ρ := ρ) (h := h) (w := w)
    simp only [minted, mint1, allocCells]
    refine ⟨by simp [l1], ?_, fun j x hx => ?_⟩
    ·rw [List.length_cons, List.replicate_succ, ← l2]
    ·cases j with
     | zero => simp at hx; subst hx; exact .inr ⟨sz, 0, rfl, by simp, rfl⟩
     | succ j =>
      rcases l3 j x (by simpa using hx) with ⟨g, rfl, hg⟩ | ⟨sz', k, rfl, hk, hz⟩
      ·exact .inl ⟨g, rfl, by simpa using hg⟩
      ·exact .inr ⟨sz', k + 1, by congr 1; omega, by simp; omega, by simpa using hz⟩
   ·have e : minted (z :: zs) (f :: fs) = .ok f :: minted zs fs := by
     have : mint1 z f = .ok f := by
      unfold mint1
      split
      ·rename_i sz l
       exact absurd ⟨sz, l, rfl, rfl⟩ hm
      ·rfl
     simp only [minted, this]
    rw [e]
    obtain ⟨l1, l2, l3⟩ := ih n hc.2 (S := S) (ρ := ρ) (h := h) (w := w)
    simp only [allocCells]
    refine ⟨by simp [l1], l2, fun j x hx => ?_⟩
    cases j with
    | zero => simp at hx; subst hx; exact .inl ⟨f, rfl, by simpa using rep_const hc.1⟩
    | succ j =>
     rcases l3 j x (by simpa using hx) with ⟨g, rfl, hg⟩ | ⟨sz', k, rfl, hk, hz⟩
     ·exact .inl ⟨g, rfl, by simpa using hg⟩
     ·exact .inr ⟨sz', k, rfl, hk, by simpa using hz⟩
theorem tagOf_ok (t : TypeId) : tagOf P t = 0 ∨ t = tagOf P t := by
 unfold tagOf
 split
 ·split
  ·split
   ·exact .inr rfl
   ·exact .inl rfl
  ·exact .inl rfl
 ·exact .inl rfl
theorem tagE_ok (e : TypeId) : tagE P e = 0 ∨ e = tagE P e := by
 unfold tagE
 split
 ·exact .inr rfl
 ·exact .inl rfl
theorem sim_alloc (hi : Inv P G S ρ h w) {t : TypeId} {z : List Value × List FV} (hz : zeroCellsOf P t = some z) (hd : dop call (.alloc (minted z.1 z.2) (tagOf P t)) ad h = some out) :
  SimOut P G S ρ h w ((do pure (Next.value (← Instr.alloc t true (.tuple #[]))) : Sem Next).run P w) out := by
 unfold zeroCellsOf at hz
 split at hz
 ·rename_i i hi'
  split at hz
  ·rename_i zv hzv
   split at hz
   ·rename_i fs hfs
    split at hz
    ·rename_i hk
     simp only [Option.some.injEq] at hz
     subst hz
     have run : (Instr.alloc t true (.tuple #[])).run P w = .ok (.pointer (some ⟨w.heap.size, 0, none⟩)) (w.alloc (.cells zv.cells t)) := by
      simp [Instr.alloc, zeroValue, typeInfo, hi', hzv, run_newVar]
     rw [run_v run]
     simp only [dop] at hd
     split at hd
     ·rename_i hone
      simp only [Option.some.injEq] at hd
      subst hd
      generalize hr : allocCells (minted zv.cells.toList fs) h.length = r at *
      have I1 := inv_rows hi r.2.length
      have E1 := ext_rows hi r.2.length
      obtain ⟨l1, l2, l3⟩ := minted_ok h.length hk (S := S) (ρ := ρ ++ List.replicate r.2.length (.row (.slice none 0 0))) (h := h ++ r.2) (w := w)
      rw [hr] at l1 l2 l3
      rw [← l2] at I1 E1
      have rep : ∀ (j : Nat) (x : DV), r.1[j]? = some x → RepD S (ρ ++ List.replicate r.2.length (.row (.slice none 0 0))) (h ++ r.2) w (zv.cells.getD j undef) x ∧ x.low (h ++ r.2).length = true := fun j x hx => by
       have e : zv.cells.getD j undef = zv.cells.toList.getD j undef := by simp [Array.getD_eq_getD_getElem?, List.getD_eq_getElem?_getD]
       rw [e]
       rcases l3 j x hx with ⟨f, rfl, hf⟩ | ⟨sz, k, rfl, hk, hz⟩
       ·exact ⟨.d _ _ hf, rfl⟩
       ·rw [hz]
        refine ⟨.row _ _ _ _ (.slice0 _ _ _) (by simp; omega) fun n hn => ?_, by simp [DV.low]; omega⟩
        rw [l2, List.getElem?_append_right (by omega)] at hn
        simp [hk, Res.tip] at hn
        subst hn
        refine ⟨by simp, fun _ => ?_⟩
        rw [List.getElem?_append_right (by rw [hi.len]; omega), hi.len]
        simp [hk]
      have lows : DV.lows (h ++ r.2).length r.1 = true := by
       have : ∀ (l : List DV), (∀ (j : Nat) (x : DV), l[j]? = some x → x.low (h ++ r.2).length = true) → DV.lows (h ++ r.2).length l = true := by
        intro l
        induction l with
        | nil => intro _; rfl
        | cons y l ih =>
         intro hl
         simp only [DV.lows, Bool.and_eq_true]
         exact ⟨hl 0 y rfl, ih fun j x hx => hl (j + 1) x (by simpa using hx)⟩
       exact this _ fun j x hx => (rep j x hx).2
      obtain ⟨S', E, I⟩ := box_new I1 (e := t) (c := zv.cells) (tag := tagOf P t) (tagOf_ok t) (by simpa using l1.symm) hone lows (fun j x hx => (rep j x hx).1)
      refine ⟨_, _, S', _, .inl rfl, .ptr _ _ _ ?_, E1.trans E, I⟩
      rw [List.getElem?_append_right (by simp [hi.len])]
      simp [hi.len]
     ·cases hd
    ·cases hz
   ·cases hz
  ·cases hz
 ·cases hz
theorem mintD_ok : ∀ (cs : List DV) (n : Nat), (mintD cs n).1.length = cs.length ∧ (mintD cs n).2 = List.replicate (mintD cs n).2.length .nilrow ∧
  (∀ (j : Nat) (x : DV), (mintD cs n).1[j]? = some x → cs[j]? = some x ∨ (∃ sz k, x = .row sz [] (n + k) ∧ k < (mintD cs n).2.length ∧ cs[j]? = some (.d (.nils sz)))) := by
 intro cs
 induction cs with
 | nil => intro n; simp [mintD]
 | cons z cs ih =>
  intro n
  by_cases hm : ∃ sz, z = .d (.nils sz)
  ·obtain ⟨sz, rfl⟩ := hm
   obtain ⟨l1, l2, l3⟩ := ih (n + 1)
   simp only [mintD]
   refine ⟨by simp [l1], ?_, fun j x hx => ?_⟩
   ·rw [List.length_cons, List.replicate_succ, ← l2]
   ·cases j with
    | zero => simp at hx; subst hx; exact .inr ⟨sz, 0, rfl, by simp, rfl⟩
    | succ j =>
     rcases l3 j x (by simpa using hx) with hg | ⟨sz', k, rfl, hk, hz⟩
     ·exact .inl (by simpa using hg)
     ·exact .inr ⟨sz', k + 1, by congr 1; omega, by simp; omega, by simpa using hz⟩
  ·have e : mintD (z :: cs) n = (z :: (mintD cs n).1, (mintD cs n).2) := by
    rcases z with v | _ | _ | _ | _ | _ | _ | _ | _ | _ | _ | _ | _
    ·cases v <;> first | rfl | exact absurd ⟨_, rfl⟩ hm
    all_goals rfl
   rw [e]
   obtain ⟨l1, l2, l3⟩ := ih n
   refine ⟨by simp [l1], l2, fun j x hx => ?_⟩
   cases j with
   | zero => simp at hx; subst hx; exact .inl rfl
   | succ j =>
    rcases l3 j x (by simpa using hx) with hg | ⟨sz', k, rfl, hk, hz⟩
    ·exact .inl (by simpa using hg)
    ·exact .inr ⟨sz', k, rfl, hk, by simpa using hz⟩
theorem sim_boxn (hi : Inv P G S ρ h w) (ha : RepA S ρ h w a.tmps ad) {t t1 : TypeId} {x : Operand} {x' : Opd} (h1 : trOpd P t1 x = some x') (hd : dop call (.boxn x') ad h = some out) :
  SimOut P G S ρ h w ((do pure (Next.value (← Instr.box t (a.eval x))) : Sem Next).run P w) out := by
 have g1 := rep_opd ha h1
 have run : (Instr.box t (a.eval x)).run P w = .ok (.pointer (some ⟨w.heap.size, 0, none⟩)) (w.alloc (.cells (a.eval x).cells t)) := by
  simp [Instr.box, run_newVar]
 rw [run_v run]
 simp only [dop] at hd
 split at hd
 ·rename_i hc
  obtain ⟨hone, hlow⟩ := hc
  obtain ⟨c1, c2, c3⟩ := rep_cells g1 hone
  simp only [Option.some.injEq] at hd
  subst hd
  obtain ⟨l1, l2, l3⟩ := mintD_ok (ev ad x').cells h.length
  generalize mintD (ev ad x').cells h.length = r at *
  generalize (ev ad x').cells = cs at *
  have I1 := inv_rows hi r.2.length
  have E1 := ext_rows hi r.2.length
  rw [← l2] at I1 E1
  have rep : ∀ (j : Nat) (x : DV), r.1[j]? = some x → RepD S (ρ ++ List.replicate r.2.length (.row (.slice none 0 0))) (h ++ r.2) w ((a.eval _).cells.getD j undef) x ∧ x.low (h ++ r.2).length = true ∧ x.one = true := fun j x hx => by
   rcases l3 j x hx with hg | ⟨sz, k, rfl, hk, hz⟩
   ·exact ⟨(c2 j x hg).mono E1, DV.low_mono (by simp) _ (DV.lows_at hlow hg), (List.all_eq_true.1 hone) _ (List.mem_of_getElem? hg)⟩
   ·have hr := c2 j _ hz
    generalize (a.eval _).cells.getD j undef = vv at *
    cases hr with
    | d _ _ hf =>
     cases hf
     refine ⟨.row _ _ _ _ (.slice0 _ _ _) (by simp; omega) fun n hn => ?_, by simp [DV.low]; omega, rfl⟩
     rw [l2, List.getElem?_append_right (by omega)] at hn
     simp [hk, Res.tip] at hn
     subst hn
     refine ⟨by simp, fun _ => ?_⟩
     rw [List.getElem?_append_right (by rw [hi.len]; omega), hi.len]
     simp [hk]
  have lows : ∀ (l : List DV), (∀ (j : Nat) (x : DV), l[j]? = some x → x.low (h ++ r.2).length = true ∧ x.one = true) → DV.lows (h ++ r.2).length l = true ∧ l.all DV.one = true := by
   intro l
   induction l with
   | nil => intro _; exact ⟨rfl, rfl⟩
   | cons y l ih =>
    intro hl
    obtain ⟨i1, i2⟩ := ih fun j x hx => hl (j + 1) x (by simpa using hx)
    have h0 := hl 0 y rfl
    simp only [DV.lows, Bool.and_eq_true, List.all_cons]
    exact ⟨⟨h0.1, i1⟩, h0.2, i2⟩
  obtain ⟨k1, k2⟩ := lows r.1 fun j x hx => (rep j x hx).2
  obtain ⟨S', E, I⟩ := box_new I1 (e := t) (c := (a.eval _).cells) (tag := 0) (.inl rfl) (by omega) k2 k1 (fun j x hx => (rep j x hx).1)
  refine ⟨_, _, S', _, .inl rfl, .ptr _ _ _ ?_, E1.trans E, I⟩
  rw [List.getElem?_append_right (by simp [hi.len])]
  simp [hi.len]
 ·cases hd
section
variable {S' : Settled} {ρ' : List RI} {h' : List Res} {w' : World}
theorem take_at {α : Type} {l : List α} {n i : Nat} (h : i < n) : (l.take n)[i]? = l[i]? := List.getElem?_take_of_lt h
theorem take_some {α : Type} {l : List α} {n i : Nat} {x : α} (h : (l.take n)[i]? = some x) : i < n ∧ l[i]? = some x := by
 rw [List.getElem?_take] at h
 split at h
 ·exact ⟨by assumption, h⟩
 ·cases h
theorem RepD.take {n : Nat} {v : Value} {x : DV} (hx : RepD S ρ h w v x) : x.low n = true → RepD S (ρ.take n) (h.take n) w v x := by
 induction hx with
 | d v x hx => exact fun _ => .d _ _ hx
 | ptr id off b hb => exact fun hl => .ptr _ _ _ (by rw [take_at (by simpa [DV.low] using hl)]; exact hb)
 | row v sz elems t hx ht hr =>
  intro hl
  have hl' : t < n := by simpa [DV.low] using hl
  refine .row _ _ _ _ hx (by simp; omega) fun k hk => ?_
  rw [take_at hl'] at hk
  obtain ⟨h1, h2⟩ := hr k hk
  exact ⟨h1, fun e => by rw [take_at hl']; exact h2 e⟩
 | agg cs fs hl hh ih => exact fun h1 => .agg _ _ hl fun j x hx => ih j x hx (DV.lows_at (by simpa [DV.low] using h1) hx)
 | clo fn p q fp fq hp hq h1 h2 ih1 ih2 =>
  intro hl
  simp only [DV.low, Bool.and_eq_true] at hl
  exact .clo _ _ _ _ _ hp hq (fun j x hx => ih1 j x hx (DV.lows_at hl.1 hx)) (fun j x hx => ih2 j x hx (DV.lows_at hl.2 hx))
 | tup cs fs hl hh ih => exact fun h1 => .tup _ _ hl fun j x hx => ih j x hx (DV.lows_at (by simpa [DV.low] using h1) hx)
 | iface t v x hh ih => exact fun hl => .iface _ _ _ (ih (by simpa [DV.low] using hl))
 | yld id b hb => exact fun hl => .yld _ _ (by rw [take_at (by simpa [DV.low] using hl)]; exact hb)
 | bslc id off n0 cap b hc hb => exact fun hl => .bslc _ _ _ _ _ hc (by rw [take_at (by simpa [DV.low] using hl)]; exact hb)
 | rptr A p n0 cap elems t hx hp ht hr =>
  intro hl
  have hl' : t < n := by simpa [DV.low] using hl
  refine .rptr _ _ _ _ _ _ hx hp (by simp; omega) fun k hk => ?_
  rw [take_at hl'] at hk
  obtain ⟨h1, h2⟩ := hr k hk
  exact ⟨h1, fun e => by rw [take_at hl']; exact h2 e⟩
 | vslc b o cap id g sz off k hc ht hr =>
  intro hl
  have hl' : id < n := by simpa [DV.low] using hl
  refine .vslc _ _ _ _ _ _ _ _ hc (by simp; omega) fun k hk => ?_
  rw [take_at hl'] at hk
  obtain ⟨h1, h2⟩ := hr k hk
  exact ⟨h1, fun e => by rw [take_at hl']; exact h2 e⟩
 | eptr b o' id g k o ht hr =>
  intro hl
  have hl' : id < n := by simpa [DV.low] using hl
  refine .eptr _ _ _ _ _ _ (by simp; omega) fun k hk => ?_
  rw [take_at hl'] at hk
  obtain ⟨h1, h2⟩ := hr k hk
  exact ⟨h1, fun e => by rw [take_at hl']; exact h2 e⟩
 | mref id b hb => exact fun hl => .mref _ _ (by rw [take_at (by simpa [DV.low] using hl)]; exact hb)
theorem Inv.take (hi : Inv P G S ρ h w) (n : Nat) : Inv P G S (ρ.take n) (h.take n) w where
 len := by simp [hi.len]
 bound := hi.bound
 glob := hi.glob
 low := fun i b r hr hb => hi.low i b r (take_some hr).2 hb
 apart := fun i j b r r' hr hr' hb hb' => hi.apart i j b r r' (take_some hr).2 (take_some hr').2 hb hb'
 box := fun i cells tag hc => by
  obtain ⟨hin, hc⟩ := take_some hc
  obtain ⟨b, c, e, g1, g2, g3, g4, g5⟩ := hi.box i cells _ hc
  exact ⟨b, c, e, by rw [take_at hin]; exact g1, g2, g3, fun j x hx => ⟨(g4 j x hx).1, (g4 j x hx).2.1, (g4 j x hx).2.2.take (DV.low_mono (by omega) _ (g4 j x hx).2.1)⟩, g5⟩
 nilrow := fun i hc => by
  obtain ⟨hin, hc⟩ := take_some hc
  rw [take_at hin]
  exact hi.nilrow i hc
 row := fun i sz k et hc => by
  obtain ⟨hin, hc⟩ := take_some hc
  obtain ⟨b, o, cap, c, e, g1, g⟩ := hi.row i sz k et hc
  exact ⟨b, o, cap, c, e, by rw [take_at hin]; exact g1, g⟩
 iter := fun i s pos hc => by
  obtain ⟨hin, hc⟩ := take_some hc
  obtain ⟨b, g1, g2⟩ := hi.iter i s pos hc
  exact ⟨b, by rw [take_at hin]; exact g1, g2⟩
 loop := fun i ps as_ bd snap st hc => by
  obtain ⟨hin, hc⟩ := take_some hc
  obtain ⟨b, r, g1, g2, g3, g4, g5⟩ := hi.loop i ps as_ bd snap st hc
  exact ⟨b, r, by rw [take_at hin]; exact g1, g2, g3, g4, fun j x hx => ⟨(g5 j x hx).1, (g5 j x hx).2.take (DV.low_mono (by omega) _ (g5 j x hx).1)⟩⟩
 own := fun i r hc => by
  obtain ⟨hin, hc⟩ := take_some hc
  obtain ⟨ri, g1, g2⟩ := hi.own i r hc
  exact ⟨ri, by rw [take_at hin]; exact g1, g2⟩
theorem Ext.takeN {n : Nat} (hln : h.length ≤ n) (hi : Inv P G S ρ h w) (E : Ext S ρ h w S' ρ' h' w') : Ext S ρ h w S' (ρ'.take n) (h'.take n) w' where
 settled := E.settled
 cells := E.cells
 len := by have := E.len; simp; omega
 boxes := fun id b hb => by
  have : id < h.length := by rw [← hi.len]; exact (List.getElem?_eq_some_iff.1 hb).1
  rw [take_at (by omega)]
  exact E.boxes id b hb
 rows := fun t n' ht hn => by
  rw [take_at (by omega)] at hn
  obtain ⟨n, h1, h2, h3⟩ := E.rows t n' ht hn
  exact ⟨n, h1, h2, fun e => by rw [take_at (by omega)]; exact h3 e⟩
 size := E.size
 os := E.os
 tape := E.tape
 output := E.output
 frame := E.frame
 blocks := fun i b r hr hb => E.blocks i b r (take_some hr).2 hb
 fresh := E.fresh
theorem Ext.take (hi : Inv P G S ρ h w) (E : Ext S ρ h w S' ρ' h' w') : Ext S ρ h w S' (ρ'.take h.length) (h'.take h.length) w' where
 settled := E.settled
 cells := E.cells
 len := by have := E.len; simp; omega
 boxes := fun id b hb => by
  have : id < h.length := by rw [← hi.len]; exact (List.getElem?_eq_some_iff.1 hb).1
  rw [take_at this]
  exact E.boxes id b hb
 rows := fun t n' ht hn => by
  rw [take_at ht] at hn
  obtain ⟨n, h1, h2, h3⟩ := E.rows t n' ht hn
  exact ⟨n, h1, h2, fun e => by rw [take_at ht]; exact h3 e⟩
 size := E.size
 os := E.os
 tape := E.tape
 output := E.output
 frame := E.frame
 blocks := fun i b r hr hb => E.blocks i b r (take_some hr).2 hb
 fresh := E.fresh
end
end
end Go.Deepv
namespace Go.Deepv
open Go.RowKit
section
variable {P : Program} {G : Glob} {S S' : Settled} {ρ : List RI} {h : List Res} {w w' : World} {a : Act} {ad : List DV} {call : Cle → List DV → List Res → Option DOut} {out : DOut}
theorem inv_upd (hi : Inv P G S ρ h w) {id : Nat} {r' : Res} {ri' : RI} (hid : id < h.length) (E : Ext S ρ h w S' (ρ.set id ri') (h.set id r') w')
  (hoth : ∀ (i b : Nat) (r : RI), i ≠ id → ρ[i]? = some r → r.block = some b → w'.heap[b]? = w.heap[b]? ∧ ∀ o, S' b o → S b o)
  (hb : ∀ b o, S' b o → b < w'.heap.size)
  (hri : ∀ b, ri'.block = some b → b < w'.heap.size ∧ ∀ (i : Nat) (r : RI), i ≠ id → ρ[i]? = some r → r.block ≠ some b)
  (hbox : ∀ cells tag, r' = .box cells tag → ∃ b c e, ri' = .box b ∧ w'.heap[b]? = some (.cells c e (0, 0)) ∧ (c.size = cells.length ∧ (tag = 0 ∨ e = tag)) ∧
   (∀ (j : Nat) (x : DV), cells[j]? = some x → x.one = true ∧ x.low (id + 1) = true ∧ RepD S' (ρ.set id ri') (h.set id r') w' (c.getD j undef) x) ∧ ∀ o, ¬ S' b o)
  (hnil : r' = .nilrow → ri' = .row (.slice none 0 0))
  (hrow : ∀ sz n et, r' = .row sz n et → ∃ b o cap c e, ri' = .row (.slice (some ⟨b, o, none⟩) n cap) ∧ w'.heap[b]? = some (.cells c e (0, 0)) ∧ (0 < sz ∧ (et = 0 ∨ (e = et ∧ o = 0))) ∧ n ≤ cap ∧ o + cap * sz ≤ c.size ∧ ∀ x, o + n * sz ≤ x → ¬ S' b x)
  (hiter : ∀ s pos, r' = .iter s pos → ∃ b, ri' = .box b ∧ w'.heap[b]? = some (.stringIter s pos))
  (hloop : ∀ ps as_ bd snap st, r' = .loop ps as_ bd snap st → ∃ b r, ri' = .box b ∧ w'.heap[b]? = some (.loop r) ∧ LoopOk P ps as_ bd st r ∧ r.tmps.size = snap.length ∧
   (∀ (j : Nat) (x : DV), snap[j]? = some x → x.low id = true ∧ RepD S' (ρ.set id ri') (h.set id r') w' (r.tmps.getD j undef) x) := by intro ps as_ bd snap st hc; cases hc)
  (hown : OwnOk S' w' ri' r' := by trivial) : Inv P G S' (ρ.set id ri') (h.set id r') w' := by
 have hid' : id < ρ.length := by rw [hi.len]; exact hid
 have look : ∀ (i : Nat) (r : Res), (h.set id r')[i]? = some r → (i = id ∧ r = r') ∨ (i ≠ id ∧ h[i]? = some r) := fun i r hr => by
  by_cases e : i = id
  ·subst e
   rw [List.getElem?_set_self hid] at hr
   exact .inl ⟨rfl, by simpa using hr.symm⟩
  ·rw [List.getElem?_set_ne (Ne.symm e)] at hr
   exact .inr ⟨e, hr⟩
 have lookρ : ∀ (i : Nat) (r : RI), (ρ.set id ri')[i]? = some r → (i = id ∧ r = ri') ∨ (i ≠ id ∧ ρ[i]? = some r) := fun i r hr => by
  by_cases e : i = id
  ·subst e
   rw [List.getElem?_set_self hid'] at hr
   exact .inl ⟨rfl, by simpa using hr.symm⟩
  ·rw [List.getElem?_set_ne (Ne.symm e)] at hr
   exact .inr ⟨e, hr⟩
 have at_ : (ρ.set id ri')[id]? = some ri' := List.getElem?_set_self hid'
 have ne_ : ∀ i, i ≠ id → (ρ.set id ri')[i]? = ρ[i]? := fun i e => List.getElem?_set_ne (Ne.symm e)
 constructor
 ·simp [hi.len]
 ·exact hb
 ·exact fun b x v g => ⟨E.settled _ _ (hi.glob b x v g).1, (E.cells _ _ (hi.glob b x v g).1).trans (hi.glob b x v g).2⟩
 ·intro i b r hr hbl
  rcases lookρ i r hr with ⟨rfl, rfl⟩ | ⟨_, hr⟩
  ·exact (hri b hbl).1
  ·exact Nat.lt_of_lt_of_le (hi.low i b r hr hbl) E.size
 ·intro i j b r r0 hr hr0 hbl hbl0
  rcases lookρ i r hr with ⟨ei, er⟩ | ⟨hne, hr2⟩ <;> rcases lookρ j r0 hr0 with ⟨ej, er0⟩ | ⟨hne0, hr3⟩
  ·rw [ei, ej]
  ·exact absurd hbl0 ((hri b (by rw [← er]; exact hbl)).2 j r0 hne0 hr3)
  ·exact absurd hbl ((hri b (by rw [← er0]; exact hbl0)).2 i r hne hr2)
  ·exact hi.apart i j b r r0 hr2 hr3 hbl hbl0
 ·intro i cells tag hc
  rcases look i _ hc with ⟨rfl, e⟩ | ⟨hne, hc⟩
  ·obtain ⟨b, c, e', g1, g⟩ := hbox cells _ e.symm
   exact ⟨b, c, e', by rw [at_, g1], g⟩
  ·obtain ⟨b, c, e', g1, g2, g3, g4, g5⟩ := hi.box i cells _ hc
   obtain ⟨o1, o2⟩ := hoth i b _ hne g1 rfl
   exact ⟨b, c, e', by rw [ne_ i hne]; exact g1, by rw [o1]; exact g2, g3, fun j x hx => ⟨(g4 j x hx).1, (g4 j x hx).2.1, (g4 j x hx).2.2.mono E⟩, fun o ho => g5 o (o2 o ho)⟩
 ·intro i hc
  rcases look i _ hc with ⟨rfl, e⟩ | ⟨hne, hc⟩
  ·rw [at_, hnil e.symm]
  ·rw [ne_ i hne]; exact hi.nilrow i hc
 ·intro i sz n et hc
  rcases look i _ hc with ⟨rfl, e⟩ | ⟨hne, hc⟩
  ·obtain ⟨b, o, cap, c, e', g1, g⟩ := hrow sz n et e.symm
   exact ⟨b, o, cap, c, e', by rw [at_, g1], g⟩
  ·obtain ⟨b, o, cap, c, e', g1, g2, g3, g4, g5, g7⟩ := hi.row i sz n et hc
   obtain ⟨o1, o2⟩ := hoth i b _ hne g1 rfl
   exact ⟨b, o, cap, c, e', by rw [ne_ i hne]; exact g1, by rw [o1]; exact g2, g3, g4, g5, fun x hx hs => g7 x hx (o2 x hs)⟩
 ·intro i s pos hc
  rcases look i _ hc with ⟨rfl, e⟩ | ⟨hne, hc⟩
  ·obtain ⟨b, g1, g⟩ := hiter s pos e.symm
   exact ⟨b, by rw [at_, g1], g⟩
  ·obtain ⟨b, g1, g2⟩ := hi.iter i s pos hc
   exact ⟨b, by rw [ne_ i hne]; exact g1, by rw [(hoth i b _ hne g1 rfl).1]; exact g2⟩
 ·intro i ps as_ bd snap st hc
  rcases look i _ hc with ⟨rfl, e⟩ | ⟨hne, hc⟩
  ·obtain ⟨b, r, g1, g⟩ := hloop ps as_ bd snap st e.symm
   exact ⟨b, r, by rw [at_, g1], g⟩
  ·obtain ⟨b, r, g1, g2, g3, g4, g5⟩ := hi.loop i ps as_ bd snap st hc
   exact ⟨b, r, by rw [ne_ i hne]; exact g1, by rw [(hoth i b _ hne g1 rfl).1]; exact g2, g3, g4, fun j x hx => ⟨(g5 j x hx).1, (g5 j x hx).2.mono E⟩⟩
 ·intro i r hc
  rcases look i _ hc with ⟨rfl, rfl⟩ | ⟨hne, hc⟩
  ·exact ⟨_, at_, hown⟩
  ·obtain ⟨ri, g1, g2⟩ := hi.own i r hc
   exact ⟨ri, by rw [ne_ i hne]; exact g1, g2.mono E.settled E.cells fun b hb => hoth i b _ hne g1 hb⟩
theorem set_self {α : Type} : ∀ (l : List α) (i : Nat) (x : α), l[i]? = some x → l.set i x = l
 | [], i, x, h => by simp at h
 | y :: l, 0, x, h => by simp at h; simp [h]
 | y :: l, i + 1, x, h => by simp only [List.set_cons_succ]; rw [set_self l i x (by simpa using h)]
theorem coe_one (x : DV) : x.coe.one = x.one := by
 cases x with
 | agg cs =>
  simp only [DV.coe, DV.mkAgg]
  split <;> rfl
 | tup vs =>
  simp only [DV.coe]
  split <;> rfl
 | _ => rfl
theorem rep_lowCells {k : Nat} {v : Value} {x : DV} (hx : RepD S ρ h w v x) (h1 : (lowCells k x.cells).all DV.one = true) : v.cells.size = (lowCells k x.cells).length ∧ (∀ (j : Nat) (y : DV), (lowCells k x.cells)[j]? = some y → RepD S ρ h w (v.cells.getD j undef) y) ∧ ∀ u ∈ v.cells.toList, u.oneCell' = true := by
 unfold lowCells at h1 ⊢
 split at h1
 ·rename_i hl
  simp only [if_pos hl]
  exact rep_cells hx h1
 ·rename_i hl
  simp only [if_neg hl]
  have h2 : x.cells.all DV.one = true := by
   rw [List.all_map] at h1
   simpa [Function.comp_def, coe_one] using h1
  obtain ⟨c1, c2, c3⟩ := rep_cells hx h2
  refine ⟨by simp [c1], fun j y hy => ?_, c3⟩
  simp only [List.getElem?_map, Option.map_eq_some_iff] at hy
  obtain ⟨z, hz, rfl⟩ := hy
  exact rep_coe (c2 j z hz)
theorem sim_put (hi : Inv P G S ρ h w) {t : TypeId} {info : TypeInfo} {vx vv : Value} {id off tag : Nat} {cells cs new : List DV} (hinf : P.info? t = some info) (g1 : RepD S ρ h w vx (.ptr id off)) (hcells : h[id]? = some (.box cells tag))
  (c1 : vv.cells.size = new.length) (c2 : ∀ (j : Nat) (y : DV), new[j]? = some y → RepD S ρ h w (vv.cells.getD j undef) y) (c3 : ∀ u ∈ vv.cells.toList, u.oneCell' = true)
  (hlen : new.length = info.size) (hlow : DV.lows (id + 1) new = true) (hput : putCells cells off new = some cs) :
  SimOut P G S ρ h w ((do Instr.storeAt t vx vv; pure Next.skip : Sem Next).run P w) (.val (.d (.tup [])) (h.set id (.box cs tag))) := by
 unfold putCells at hput
 split at hput
 ·rename_i hput'
  obtain ⟨hfit, hone⟩ := hput'
  have hcs := Option.some.inj hput
  obtain ⟨b, c, e, b1, b2, ⟨b3, btag⟩, b4, b5⟩ := hi.box id cells _ hcells
  cases g1 with
  | ptr id off b' hb' =>
   have hbb : b' = b := by rw [b1] at hb'; simpa using hb'.symm
   subst hbb
   have hidl : id < h.length := (List.getElem?_eq_some_iff.1 hcells).1
   have run := run_storeCells_at P b' off e vv.cells.toList 0 c w b2 (by simp; omega) c3
   simp only [Nat.add_zero] at run
   generalize hc' : (c.toList.take off ++ vv.cells.toList ++ c.toList.drop (off + vv.cells.toList.length)).toArray = c' at run
   have hrun : (do Instr.storeAt t (.pointer (some ⟨b', off, none⟩)) vv; pure Next.skip : Sem Next).run P w = .ok .skip (w.setRow b' c') := by
    simp [Instr.storeAt, Instr.sureAddr, storeVar, sizeOf, typeInfo, hinf, c1, hlen, run]
   rw [hrun]
   have size' : c'.size = cs.length := by
    rw [← hc', ← hcs]
    simp only [List.size_toArray, List.length_append, List.length_take, List.length_drop, Array.length_toList]
    omega
   have hbl : b' < w.heap.size := (Array.getElem?_eq_some_iff.1 b2).1
   have hset : ρ.set id (.box b') = ρ := set_self _ _ _ b1
   have E : Ext S ρ h w S (ρ.set id (.box b')) (h.set id (.box cs tag)) (w.setRow b' c') := by
    rw [hset]
    exact { Ext.refl S ρ h w with
     cells := fun b o hs => by
      rw [cell_setRow_other _ _ _ _ (by intro hh; exact b5 o (by simp at hh; rw [← hh]; exact hs))]
     len := by simp
     rows := fun t n' ht hn => by
      by_cases e : t = id
      ·subst e
       rw [List.getElem?_set_self ht] at hn
       simp [Res.tip] at hn
      ·rw [List.getElem?_set_ne (Ne.symm e)] at hn
       exact ⟨n', hn, Nat.le_refl _, fun _ => rfl⟩
     size := by simp
     os := rfl
     tape := rfl
     output := rfl
     frame := fun b hb hn => setRow_other _ _ _ _ (by rintro rfl; exact hn id _ b1 rfl) }
   have I : Inv P G S (ρ.set id (.box b')) (h.set id (.box cs tag)) (w.setRow b' c') := by
    refine inv_upd hi hidl E (fun i b r hne hr hbk => ?_) (fun b o hs => by simpa using hi.bound b o hs) (fun b hbk => ?_) (fun cells' tag' hce => ?_) (fun hh => by cases hh) (fun _ _ _ hh => by cases hh) (fun _ _ hh => by cases hh)
    ·have : b ≠ b' := by rintro rfl; exact hne (hi.apart i id _ r _ hr b1 hbk rfl)
     exact ⟨setRow_other _ _ _ _ this, fun o ho => ho⟩
    ·simp [RI.block] at hbk
     subst hbk
     refine ⟨by simpa using hbl, fun i r hne hr hbk => hne (hi.apart i id _ r _ hr b1 hbk rfl)⟩
    ·simp only [Res.box.injEq] at hce
     obtain ⟨rfl, rfl⟩ := hce
     refine ⟨b', c', e, rfl, setRow_heap _ _ _ _ _ _ b2, ⟨size', btag⟩, fun j y hy => ?_, b5⟩
     have look : (cs[j]? = some y ∧ (j < off ∨ off + new.length ≤ j) ∧ cells[j]? = some y ∧ c'.getD j undef = c.getD j undef) ∨ (∃ k, j = off + k ∧ new[k]? = some y ∧ c'.getD j undef = vv.cells.getD k undef) := by
      have hl1 : (cells.take off).length = off := by simp; omega
      have hl2 : (c.toList.take off).length = off := by simp; omega
      have hl3 : vv.cells.toList.length = new.length := by simpa using c1
      have hcg : c'.getD j undef = ((c.toList.take off ++ vv.cells.toList ++ c.toList.drop (off + vv.cells.toList.length))[j]?).getD undef := by
       rw [← hc']; simp [Array.getD_eq_getD_getElem?]
      rw [hcg]
      rw [← hcs] at hy ⊢
      rcases Nat.lt_or_ge j off with hj | hj
      ·rw [List.append_assoc, List.getElem?_append_left (by omega), List.getElem?_take_of_lt hj] at hy
       refine .inl ⟨by rw [List.append_assoc, List.getElem?_append_left (by omega), List.getElem?_take_of_lt hj]; exact hy, .inl hj, hy, ?_⟩
       rw [List.append_assoc, List.getElem?_append_left (by omega), List.getElem?_take_of_lt hj]
       simp [Array.getD_eq_getD_getElem?]
      ·rcases Nat.lt_or_ge j (off + new.length) with hj2 | hj2
       ·refine .inr ⟨j - off, by omega, ?_, ?_⟩
        ·rw [List.append_assoc, List.getElem?_append_right (by omega), hl1, List.getElem?_append_left (by omega)] at hy
         exact hy
        ·rw [List.append_assoc, List.getElem?_append_right (by omega), hl2, List.getElem?_append_left (by omega)]
         simp [Array.getD_eq_getD_getElem?]
       ·rw [List.getElem?_append_right (by simp; omega)] at hy
        have e3 : off + new.length + (j - (cells.take off ++ new).length) = j := by simp; omega
        rw [List.getElem?_drop, e3] at hy
        refine .inl ⟨by rw [List.getElem?_append_right (by simp; omega), List.getElem?_drop, e3]; exact hy, .inr hj2, hy, ?_⟩
        rw [List.getElem?_append_right (by simp at hl3 ⊢; omega), List.getElem?_drop]
        have e4 : off + vv.cells.toList.length + (j - (c.toList.take off ++ vv.cells.toList).length) = j := by simp at hl3 ⊢; omega
        rw [e4]
        simp [Array.getD_eq_getD_getElem?]
     rcases look with ⟨_, _, hy', hg⟩ | ⟨k, rfl, hy', hg⟩
     ·rw [hg]
      exact ⟨(b4 j y hy').1, (b4 j y hy').2.1, (b4 j y hy').2.2.mono E⟩
     ·rw [hg]
      exact ⟨(List.all_eq_true.1 hone) _ (List.mem_of_getElem? hy'), DV.lows_at hlow hy', (c2 k y hy').mono E⟩
   rw [hset] at E I
   exact ⟨undef, _, S, ρ, .inr ⟨rfl, rfl⟩, .d _ _ (.tup #[] [] rfl (fun j y hy => by simp at hy)), E, I⟩
 ·cases hput
theorem rep_flatCells {v : Value} {x : DV} (hx : RepD S ρ h w v x) {cs : List FV} (hf : flatCells x = some cs) (h1 : cs.all FV.one = true) : v.cells.size = cs.length ∧ ∀ (j : Nat) (y : FV), cs[j]? = some y → RepF S w (v.cells.getD j undef) y := by
 unfold flatCells at hf
 have hone : x.cells.all DV.one = true := by
  rw [List.all_eq_true]
  intro z hz
  obtain ⟨j, hj, rfl⟩ := List.getElem_of_mem hz
  have hl := (mapM_some hf).1
  have hj' : j < cs.length := by omega
  obtain ⟨z', hz', hfz⟩ := (mapM_some hf).2 j cs[j] (List.getElem?_eq_getElem hj')
  have e : z' = x.cells[j] := by rw [List.getElem?_eq_getElem hj] at hz'; simpa using hz'.symm
  subst e
  have := (List.all_eq_true.1 h1) _ (List.getElem_mem hj')
  generalize x.cells[j] = q at *
  cases q <;> simp only [DV.flat, Option.some.injEq, reduceCtorEq] at hfz
  ·subst hfz; exact this
  ·rfl
 obtain ⟨c1, c2, c3⟩ := rep_cells hx hone
 obtain ⟨m1, s1⟩ := rep_flats (u := fun j => v.cells.getD j undef) c2 hf
 exact ⟨by omega, s1⟩
theorem rep_unnil {v : Value} {x : FV} (hx : RepF S w v x) : RepF S w v (unnil x) := by
 cases hx with
 | nils sz => exact .slice0 _ _ _
 | fulls A n sz elems hf => exact hf
 | nonn a cap sz => exact .slice0 _ _ _
 | nilm => exact .nilm
 | nilx cap sz => exact .slice0 _ _ _
 | slice0 A cap sz => exact .slice0 _ _ _
 | slice b o n cap sz elems u hn hcap hsz hc hr h1 => exact .slice b o n cap sz elems u hn hcap hsz hc hr h1
 | agg cs fs hl hh => exact .agg cs fs hl hh
 | ref b o off cells u hc hr h1 => exact .ref b o off cells u hc hr h1
 | func fn p q fp fq hp hq h1 h2 => exact .func fn p q fp fq hp hq h1 h2
 | tup cs fs hl hh => exact .tup cs fs hl hh
 | iface t v x hh => exact .iface t v x hh
 | int k n => exact .int k n
 | bool b => exact .bool b
 | str s => exact .str s
 | nilp => exact .nilp
 | nili => exact .nili
 | nilf => exact .nilf
 | undef v => exact .undef v
theorem unnil_one {x : FV} (h1 : x.one = true) : (unnil x).one = true := by cases x <;> first | rfl | exact h1
theorem sim_estore (hi : Inv P G S ρ h w) {t : TypeId} {info : TypeInfo} {vx vv : Value} {id k o sz fz et : Nat} {l : List (List FV)} {c' fs : List FV} (hinf : P.info? t = some info) (g1 : RepD S ρ h w vx (.eptr id l.length k o)) (hv : h[id]? = some (.vec sz l fz et)) (hk : l[k]? = some c') (hfz : fz ≤ k)
  (hlen : fs.length = info.size) (hfit : o + info.size ≤ c'.length) (h1 : fs.all FV.one = true) (c1 : vv.cells.size = fs.length) (c2 : ∀ (j : Nat) (y : FV), fs[j]? = some y → RepF S w (vv.cells.getD j undef) y) :
  SimOut P G S ρ h w ((do Instr.storeAt t vx vv; pure Next.skip : Sem Next).run P w) (.val (.d (.tup [])) (h.set id (.vec sz (l.set k (c'.take o ++ fs.map unnil ++ c'.drop (o + info.size))) fz et))) := by
 have c3 : ∀ u ∈ vv.cells.toList, u.oneCell' = true := fun u hu => by
  obtain ⟨j, hj, rfl⟩ := List.getElem_of_mem hu
  have hj' : j < fs.length := by rw [← c1]; simpa using hj
  have r := c2 j _ (List.getElem?_eq_getElem hj')
  have e : vv.cells.getD j undef = vv.cells.toList[j] := by
   rw [Array.getD_eq_getD_getElem?, Array.getElem?_eq_getElem (by simpa using hj)]
   simp
  rw [e] at r
  exact r.one ((List.all_eq_true.1 h1) _ (List.getElem_mem hj'))
 obtain ⟨ri, r1, b, C, c, e, rfl, g2, g3, g4, g5, g6, g7, g8, g9⟩ := hi.own id _ hv
 obtain ⟨hl', hc'⟩ := g9 k c' hk
 have hkl : k < l.length := (List.getElem?_eq_some_iff.1 hk).1
 have hkC : (k + 1) * sz ≤ C * sz := Nat.mul_le_mul_right _ (by omega)
 rw [Nat.add_mul, Nat.one_mul] at hkC
 have hfzk : fz * sz ≤ k * sz := Nat.mul_le_mul_right _ hfz
 cases g1 with
 | eptr b' o' _ _ _ _ ht hr =>
  obtain ⟨C', sz', q1, q2⟩ := (hr l.length (by rw [hv]; rfl)).2 rfl
  rw [r1] at q1
  simp only [Option.some.injEq, RI.vec.injEq] at q1
  obtain ⟨rfl, rfl, rfl⟩ := q1
  subst q2
  have hidl : id < h.length := (List.getElem?_eq_some_iff.1 hv).1
  have hl3 : vv.cells.toList.length = fs.length := by simpa using c1
  have run := run_storeCells_at P b (k * sz + o) e vv.cells.toList 0 c w g2 (by simp; omega) c3
  simp only [Nat.add_zero] at run
  generalize hcn : (c.toList.take (k * sz + o) ++ vv.cells.toList ++ c.toList.drop (k * sz + o + vv.cells.toList.length)).toArray = cn at run
  have hrun : (do Instr.storeAt t (.pointer (some ⟨b, k * sz + o, none⟩)) vv; pure Next.skip : Sem Next).run P w = .ok .skip (w.setRow b cn) := by
   simp [Instr.storeAt, Instr.sureAddr, storeVar, sizeOf, typeInfo, hinf, c1, hlen, run]
  rw [hrun]
  have size' : cn.size = c.size := by
   rw [← hcn]
   simp only [List.size_toArray, List.length_append, List.length_take, List.length_drop, Array.length_toList]
   omega
  have hbl : b < w.heap.size := (Array.getElem?_eq_some_iff.1 g2).1
  have hset : ρ.set id (.vec b C sz) = ρ := set_self _ _ _ r1
  have cell : ∀ x, x < c.size → cn.getD x undef = if k * sz + o ≤ x ∧ x < k * sz + o + fs.length then vv.cells.getD (x - (k * sz + o)) undef else c.getD x undef := fun x hx => by
   have hl2 : (c.toList.take (k * sz + o)).length = k * sz + o := by simp; omega
   have hcg : cn.getD x undef = ((c.toList.take (k * sz + o) ++ vv.cells.toList ++ c.toList.drop (k * sz + o + vv.cells.toList.length))[x]?).getD undef := by
    rw [← hcn]; simp [Array.getD_eq_getD_getElem?]
   rw [hcg]
   rcases Nat.lt_or_ge x (k * sz + o) with hj | hj
   ·rw [List.append_assoc, List.getElem?_append_left (by omega), List.getElem?_take_of_lt hj, if_neg (by omega)]
    simp [Array.getD_eq_getD_getElem?]
   ·rcases Nat.lt_or_ge x (k * sz + o + fs.length) with hj2 | hj2
    ·rw [List.append_assoc, List.getElem?_append_right (by omega), hl2, List.getElem?_append_left (by omega), if_pos ⟨hj, hj2⟩]
     simp [Array.getD_eq_getD_getElem?]
    ·rw [List.getElem?_append_right (by simp at hl3 ⊢; omega), List.getElem?_drop, if_neg (by omega)]
     have e4 : k * sz + o + vv.cells.toList.length + (x - (c.toList.take (k * sz + o) ++ vv.cells.toList).length) = x := by simp at hl3 ⊢; omega
     rw [e4]
     simp [Array.getD_eq_getD_getElem?]
  generalize hcs : c'.take o ++ fs.map unnil ++ c'.drop (o + info.size) = cs'
  have hcsl : cs'.length = sz := by rw [← hcs]; simp; omega
  have E : Ext S ρ h w S (ρ.set id (.vec b C sz)) (h.set id (.vec sz (l.set k cs') fz et)) (w.setRow b cn) := by
   rw [hset]
   exact { Ext.refl S ρ h w with
    cells := fun b' x hs => by
     by_cases hbb : b' = b
     ·subst hbb
      have hx : x < fz * sz := by
       rcases Nat.lt_or_ge x (fz * sz) with h | h
       ·exact h
       ·exact absurd hs (g8 x h)
      have := cell x (by omega)
      rw [if_neg (by omega)] at this
      simp only [World.cell?, setRow_heap _ _ _ _ _ _ g2, g2]
      simp only [Array.getD_eq_getD_getElem?] at this
      have l1 : x < cn.size := by omega
      have l2 : x < c.size := by omega
      simp [l1, l2] at this ⊢
      exact this
     ·rw [cell_setRow_other _ _ _ _ (by intro hh; exact hbb (by simpa using hh))]
    len := by simp
    rows := fun t' n' ht' hn => by
     by_cases e : t' = id
     ·subst e
      rw [List.getElem?_set_self ht'] at hn
      simp [Res.tip] at hn
      exact ⟨l.length, by rw [hv]; rfl, by omega, fun _ => rfl⟩
     ·rw [List.getElem?_set_ne (Ne.symm e)] at hn
      exact ⟨n', hn, Nat.le_refl _, fun _ => rfl⟩
    size := by simp
    os := rfl
    tape := rfl
    output := rfl
    frame := fun b' hb hn => setRow_other _ _ _ _ (by rintro rfl; exact hn id _ r1 rfl) }
  have I : Inv P G S (ρ.set id (.vec b C sz)) (h.set id (.vec sz (l.set k cs') fz et)) (w.setRow b cn) := by
   refine inv_upd hi hidl E (fun i b' r hne hr9 hbk => ?_) (fun b o hs => by simpa using hi.bound b o hs) (fun b' hbk => ?_) (fun cells' tag' hce => by cases hce) (fun hh => by cases hh) (fun _ _ _ hh => by cases hh) (fun _ _ hh => by cases hh) (fun _ _ _ _ _ hh => by cases hh) ?_
   ·have : b' ≠ b := by rintro rfl; exact hne (hi.apart i id _ r _ hr9 r1 hbk rfl)
    exact ⟨setRow_other _ _ _ _ this, fun o ho => ho⟩
   ·simp [RI.block] at hbk
    subst hbk
    refine ⟨by simpa using hbl, fun i r hne hr hbk => hne (hi.apart i id _ r _ hr r1 hbk rfl)⟩
   ·refine ⟨b, C, cn, e, rfl, setRow_heap _ _ _ _ _ _ g2, g3, g4, by omega, by simpa using g6, by simpa using g7, g8, fun k' c'' hk' => ?_⟩
    by_cases hkk : k' = k
    ·subst hkk
     rw [List.getElem?_set_self hkl] at hk'
     simp only [Option.some.injEq] at hk'
     subst hk'
     refine ⟨hcsl, fun j x hx => ?_⟩
     have hjs : j < sz := by rw [← hcsl]; exact (List.getElem?_eq_some_iff.1 hx).1
     rw [cell (k' * sz + j) (by omega)]
     rw [← hcs] at hx
     rcases Nat.lt_or_ge j o with hj | hj
     ·rw [List.append_assoc, List.getElem?_append_left (by simp; omega), List.getElem?_take_of_lt hj] at hx
      rw [if_neg (by omega)]
      exact ⟨(hc' j x hx).1, ((hc' j x hx).2).mono E.settled E.cells⟩
     ·rcases Nat.lt_or_ge j (o + fs.length) with hj2 | hj2
      ·rw [List.append_assoc, List.getElem?_append_right (by simp; omega), List.getElem?_append_left (by simp; omega)] at hx
       have e5 : j - (c'.take o).length = j - o := by simp; omega
       rw [e5, List.getElem?_map, Option.map_eq_some_iff] at hx
       obtain ⟨f, hf, rfl⟩ := hx
       rw [if_pos (by omega), show k' * sz + j - (k' * sz + o) = j - o by omega]
       exact ⟨unnil_one ((List.all_eq_true.1 h1) _ (List.mem_of_getElem? hf)), (rep_unnil (c2 _ f hf)).mono E.settled E.cells⟩
      ·rw [List.getElem?_append_right (by simp; omega), List.getElem?_drop] at hx
       have e5 : o + info.size + (j - (c'.take o ++ fs.map unnil).length) = j := by simp; omega
       rw [e5] at hx
       rw [if_neg (by omega)]
       exact ⟨(hc' j x hx).1, ((hc' j x hx).2).mono E.settled E.cells⟩
    ·rw [List.getElem?_set_ne (Ne.symm hkk)] at hk'
     obtain ⟨z1, z2⟩ := g9 k' c'' hk'
     refine ⟨z1, fun j x hx => ?_⟩
     have hjs : j < sz := by rw [← z1]; exact (List.getElem?_eq_some_iff.1 hx).1
     have hkl' : k' < l.length := (List.getElem?_eq_some_iff.1 hk').1
     have hkC' : (k' + 1) * sz ≤ C * sz := Nat.mul_le_mul_right _ (by omega)
     rw [Nat.add_mul, Nat.one_mul] at hkC'
     rw [cell (k' * sz + j) (by omega), if_neg (by
      rcases Nat.lt_or_gt_of_ne hkk with h | h
      ·have : (k' + 1) * sz ≤ k * sz := Nat.mul_le_mul_right _ (by omega)
       rw [Nat.add_mul, Nat.one_mul] at this
       omega
      ·have : (k + 1) * sz ≤ k' * sz := Nat.mul_le_mul_right _ (by omega)
       rw [Nat.add_mul, Nat.one_mul] at this
       omega)]
     exact ⟨(z2 j x hx).1, ((z2 j x hx).2).mono E.settled E.cells⟩
  rw [hset] at E I
  exact ⟨undef, _, S, ρ, .inr ⟨rfl, rfl⟩, .d _ _ (.tup #[] [] rfl (fun j y hy => by simp at hy)), E, I⟩
theorem sim_store (hi : Inv P G S ρ h w) (ha : RepA S ρ h w a.tmps ad) {t t1 t2 : TypeId} {info : TypeInfo} {x v : Operand} {x' v' : Opd} (hinf : P.info? t = some info) (h1 : trOpd P t1 x = some x') (h2 : trOpd P t2 v = some v')
  (hd : dop call (.store info.size x' v') ad h = some out) : SimOut P G S ρ h w ((do Instr.storeAt t (a.eval x) (a.eval v); pure Next.skip : Sem Next).run P w) out := by
 have g1 := rep_opd ha h1
 have g2 := rep_opd ha h2
 simp only [dop] at hd
 split at hd
 ·rename_i id off e1
  split at hd
  ·rename_i cells tag hcells
   split at hd
   ·rename_i hn
    obtain ⟨hlen, hlow⟩ := hn
    simp only [Option.map_eq_some_iff] at hd
    obtain ⟨cs, hcs, rfl⟩ := hd
    have hone : (lowCells (id + 1) (ev ad v').cells).all DV.one = true := by
     unfold putCells at hcs
     split at hcs
     ·rename_i hp
      exact hp.2
     ·cases hcs
    obtain ⟨c1, c2, c3⟩ := rep_lowCells g2 hone
    rw [e1] at g1
    exact sim_put hi hinf g1 hcells c1 c2 c3 hlen hlow hcs
   ·cases hd
  ·cases hd
 ·rename_i id g k o e1
  split at hd
  ·rename_i sz l fz et hv
   split at hd
   ·rename_i c' fs hk hf
    split at hd
    ·rename_i hc
     obtain ⟨rfl, hfz, hlen, hfit, h1⟩ := hc
     simp only [Option.some.injEq] at hd
     subst hd
     rw [e1] at g1
     obtain ⟨c1, c2⟩ := rep_flatCells g2 hf h1
     exact sim_estore hi hinf g1 hv hk hfz hlen hfit h1 c1 c2
    ·cases hd
   ·cases hd
  ·cases hd
 ·cases hd
theorem keepNil_len (h : List Res) : ∀ (xs cs : List DV), (keepNil h cs xs).length = xs.length
 | [], cs => by cases cs <;> rfl
 | x :: xs, [] => by simp [keepNil, keepNil_len h xs []]
 | x :: xs, c :: cs => by simp [keepNil, keepNil_len h xs cs]
theorem keepNil_at (h : List Res) : ∀ (xs cs : List DV) (j : Nat) (y : DV), (keepNil h cs xs)[j]? = some y → ∃ x, xs[j]? = some x ∧
  (y = x ∨ ∃ sz, x = .d (.nils sz) ∧ (y = .d (.slice sz []) ∨ ∃ s t, cs[j]? = some (.row s [] t) ∧ h[t]? = some .nilrow ∧ y = .row s [] t))
 | [], cs, j, y, hy => by cases cs <;> simp [keepNil] at hy
 | x :: xs, [], 0, y, hy => by
  simp only [keepNil, List.getElem?_cons_zero, Option.some.injEq] at hy
  refine ⟨x, rfl, ?_⟩
  split at hy
  ·rename_i sz
   exact .inr ⟨sz, rfl, .inl hy.symm⟩
  ·exact .inl hy.symm
 | x :: xs, [], j + 1, y, hy => by
  simp only [keepNil, List.getElem?_cons_succ] at hy
  obtain ⟨x', h1, h2⟩ := keepNil_at h xs [] j y hy
  exact ⟨x', by simpa using h1, by simpa using h2⟩
 | x :: xs, c :: cs, 0, y, hy => by
  simp only [keepNil, List.getElem?_cons_zero, Option.some.injEq] at hy
  refine ⟨x, rfl, ?_⟩
  split at hy
  ·rename_i sz
   split at hy
   ·rename_i s t
    split at hy
    ·rename_i hn
     exact .inr ⟨sz, rfl, .inr ⟨s, t, rfl, hn, hy.symm⟩⟩
    ·exact .inr ⟨sz, rfl, .inl hy.symm⟩
   ·exact .inr ⟨sz, rfl, .inl hy.symm⟩
  ·exact .inl hy.symm
 | x :: xs, c :: cs, j + 1, y, hy => by
  simp only [keepNil, List.getElem?_cons_succ] at hy
  obtain ⟨x', h1, h2⟩ := keepNil_at h xs cs j y hy
  exact ⟨x', by simpa using h1, by simpa using h2⟩
theorem keepNil_one (h : List Res) (xs cs : List DV) (h1 : (keepNil h cs xs).all DV.one = true) : xs.all DV.one = true := by
 rw [List.all_eq_true]
 intro x hx
 obtain ⟨j, hj⟩ := List.getElem?_of_mem hx
 have hl := (List.getElem?_eq_some_iff.1 hj).1
 have hy : (keepNil h cs xs)[j]? = some ((keepNil h cs xs)[j]'(by rw [keepNil_len]; exact hl)) := List.getElem?_eq_getElem _
 obtain ⟨x', e1, e2⟩ := keepNil_at h xs cs j _ hy
 rw [hj] at e1
 obtain rfl := Option.some.inj e1
 have ho := List.all_eq_true.1 h1 _ (List.mem_of_getElem? hy)
 rcases e2 with e | ⟨sz, rfl, _⟩
 ·rw [← e]
  exact ho
 ·rfl
theorem sim_storen (hi : Inv P G S ρ h w) (ha : RepA S ρ h w a.tmps ad) {t t1 t2 : TypeId} {info : TypeInfo} {x v : Operand} {x' v' : Opd} (hinf : P.info? t = some info) (h1 : trOpd P t1 x = some x') (h2 : trOpd P t2 v = some v')
  (hd : dop call (.storen info.size x' v') ad h = some out) : SimOut P G S ρ h w ((do Instr.storeAt t (a.eval x) (a.eval v); pure Next.skip : Sem Next).run P w) out := by
 have g1 := rep_opd ha h1
 have g2 := rep_opd ha h2
 simp only [dop] at hd
 split at hd
 ·rename_i id off e1
  split at hd
  ·rename_i cells tag hcells
   split at hd
   ·rename_i hn
    obtain ⟨hlen, hlow⟩ := hn
    simp only [Option.map_eq_some_iff] at hd
    obtain ⟨cs, hcs, rfl⟩ := hd
    have hone : (keepNil h (cells.drop off) (lowCells (id + 1) (ev ad v').cells)).all DV.one = true := by
     unfold putCells at hcs
     split at hcs
     ·rename_i hp
      exact hp.2
     ·cases hcs
    obtain ⟨c1, c2, c3⟩ := rep_lowCells g2 (keepNil_one _ _ _ hone)
    rw [e1] at g1
    refine sim_put hi hinf g1 hcells (by rw [keepNil_len]; exact c1) (fun j y hy => ?_) c3 hlen hlow hcs
    obtain ⟨z, z1, z2⟩ := keepNil_at _ _ _ _ _ hy
    have hr := c2 j z z1
    rcases z2 with rfl | ⟨sz, rfl, rfl | ⟨s, t', k1, k2, rfl⟩⟩
    ·exact hr
    ·have hv : (a.eval v).cells.getD j undef = .slice none 0 0 := by
      generalize (a.eval v).cells.getD j undef = u at hr
      cases hr with
      | d _ _ hf => cases hf; rfl
     rw [hv]
     exact .d _ _ (.slice0 none 0 _)
    ·have hv : (a.eval v).cells.getD j undef = .slice none 0 0 := by
      generalize (a.eval v).cells.getD j undef = u at hr
      cases hr with
      | d _ _ hf => cases hf; rfl
     rw [hv]
     refine .row _ _ _ _ (.slice0 none 0 _) (List.getElem?_eq_some_iff.1 k2).1 fun n hn => ?_
     rw [k2] at hn
     simp [Res.tip] at hn
     subst hn
     exact ⟨Nat.le_refl _, fun _ => hi.nilrow _ k2⟩
   ·cases hd
  ·cases hd
 ·rename_i id g k o e1
  split at hd
  ·rename_i sz l fz et hv
   split at hd
   ·rename_i c' fs hk hf
    split at hd
    ·rename_i hc
     obtain ⟨rfl, hfz, hlen, hfit, h1⟩ := hc
     simp only [Option.some.injEq] at hd
     subst hd
     rw [e1] at g1
     obtain ⟨c1, c2⟩ := rep_flatCells g2 hf h1
     exact sim_estore hi hinf g1 hv hk hfz hlen hfit h1 c1 c2
    ·cases hd
   ·cases hd
  ·cases hd
 ·cases hd
end
end Go.Deepv
