/-
  Deep values: what a Go value says, without memory; the relation of a machine's value and a deep value; what keeps it; The deep machine: what a function's code does to deep values, without memory; its limit over all numbers of rounds; From a function's code to the deep machine's code; the relation of the machine's memory and the deep machine's; What each kind of step keeps: the relation of the machine's memory and the deep machine's, step by step; Operations that make no memory: the deep machine's answer is the machine's
  Conditions: none.
-/
import Derived.Laws.Cells
import Derived.Laws.IdiomCopy
import Derived.Below
import Derived.Laws.BytesArg
import Derived.Lib.Bytealg
import Derived.WalkKit
namespace Go.Deepv
inductive FV where
 | int (k : IntKind) (n : Int)
 | bool (b : Bool)
 | str (s : ByteArray)
 | slice (sz : Nat) (elems : List (List FV))
 | agg (cells : List FV)
 | ref (cells : List FV) (off : Nat)
 | nilp
 | iface (t : TypeId) (v : FV)
 | nili
 | func (fn : Fn) (first captured : List FV)
 | nilf
 | tup (vs : List FV)
 | undef
 | nils (sz : Nat)
 | fulls (sz : Nat) (elems : List (List FV))
 | nonn (sz : Nat)
 | nilm
 | nilx (sz : Nat)
 deriving Inhabited
inductive DV where
 | d (v : FV)
 | ptr (id off : Nat)
 | row (sz : Nat) (elems : List (List FV)) (t : Nat)
 | agg (cells : List DV)
 | clo (fn : Fn) (first captured : List DV)
 | tup (vs : List DV)
 | iface (t : TypeId) (v : DV)
 | yld (id : Nat)
 | rptr (elems : List (List FV)) (t : Nat)
 | bslc (id off n : Nat)
 | vslc (id g sz off n : Nat)
 | eptr (id g k o : Nat)
 | mref (id : Nat)
 deriving Inhabited
inductive Opd where
 | tmp (t : Nat)
 | con (v : FV)
 | fn (f : FuncId)
 deriving Inhabited
inductive DOp where
 | mv (x : Opd)
 | nilrow (sz : Nat)
 | pick (c a b : Opd)
 | box (imm : Bool) (x : Opd)
 | alloc (zero : List (Except Nat FV)) (tag : Nat := 0)
 | load (n : Option Nat) (a : Opd)
 | loadk (n : Option Nat) (a : Opd)
 | store (n : Nat) (a x : Opd)
 | storen (n : Nat) (a x : Opd)
 | bin (op : BinOp) (x y : Opd)
 | eqb (neq : Bool) (x y : Opd)
 | isnil (k : Nat) (neq : Bool) (x : Opd)
 | un (op : UnOp) (x : Opd)
 | cvt (k : IntKind) (x : Opd)
 | bstr (x : Opd)
 | addOff (off : Nat) (x : Opd)
 | fld (n : Option Nat) (off : Nat) (x : Opd)
 | idxAddr (sz : Nat) (x i : Opd)
 | idxArr (len sz : Nat) (x i : Opd)
 | idxStr (x i : Opd)
 | len (str : Bool) (x : Opd)
 | slcStr (x : Opd) (lo hi : Option Opd)
 | slc (sz : Nat) (x : Opd) (lo hi : Option Opd)
 | ext (i : Nat) (x : Opd)
 | lit (imm : Bool) (et sz len : Nat) (zero : List FV) (parts : List (Nat × Opd))
 | build (zero : List FV) (parts : List (Nat × Nat × Opd))
 | app (str : Bool) (et sz bytes : Nat) (s x : Opd)
 | eqs (neq : Bool) (ks : List Nat) (x y : Opd)
 | rng (x : Opd)
 | next (x : Opd)
 | sbytes (x : Opd)
 | rstr (x : Opd)
 | tass (t : TypeId) (comma : Bool) (zero : FV) (x : Opd)
 | usd (x : Opd)
 | mark (x : Opd)
 | ustr (et : Nat) (x n : Opd)
 | mnmx (max : Bool) (xs : List Opd)
 | call (f : Opd) (args : List Opd)
 | mkf (fn : Fn) (first captured : List Opd)
 | nilchk (x : Opd)
 | mki (t : TypeId) (x : Opd)
 | panic (x : Opd)
 | calln (sz : Nat) (f : Opd) (args : List Opd)
 | idxB (x y : Opd)
 | slcA (len sz : Nat) (x : Opd) (lo hi : Option Opd)
 | idxVal (len : Nat) (sz : Nat) (n : Option Nat) (x i : Opd)
 | calld (f : Opd) (args : List Opd)
 | vlit (et sz len : Nat) (zero : List FV) (parts : List (Nat × Opd))
 | vmake (imm : Bool) (et sz bytes : Nat) (zero : List FV) (n c : Opd)
 | vapp (et sz bytes : Nat) (s x : Opd)
 | frz (x : Opd)
 | mkmap
 | mlook (comma : Bool) (kz zero : FV) (x i : Opd)
 | mupd (kz : FV) (x k v : Opd)
 | slc3 (sz : Nat) (x : Opd) (lo : Option Opd) (hi mx : Opd)
 | slcn (sz : Nat) (x : Opd) (lo hi : Option Opd)
 | capn (x : Opd)
 | boxn (x : Opd)
 | lenm (x : Opd)
 | vappn (et sz bytes : Nat) (zero : List FV) (s n : Opd)
 | stuck
 deriving Inhabited
structure DOper where
 dst : Option Nat
 op : DOp
 guard : Option (Nat × Bool) := none
 deriving Inhabited
inductive ACode where
 | skip
 | region (ops : List DOper)
 | draw (ops : List DOper) (alts : List (List DOper))
 | seq (a b : ACode)
 | cond (c : Opd) (thn els : ACode)
 | block (id : Nat) (body : ACode)
 | loop (cut : Bool) (hd ex : List Bool) (body : ACode)
 | rangeFn (f : Opd) (ps : List Nat) (sn : List Bool) (as_ bd : ACode)
 | exit (id : Nat)
 | ret
 | stuck
 deriving Inhabited
inductive LSt where
 | ready
 | busy
 | done (jump : Option Nat)
 deriving Inhabited
inductive Res where
 | box (cells : List DV) (tag : Nat := 0)
 | nilrow
 | row (sz n : Nat) (et : Nat := 0)
 | iter (s : ByteArray) (pos : Nat)
 | loop (ps : List Nat) (as_ bd : ACode) (snap : List DV) (st : LSt)
 | vec (sz : Nat) (l : List (List FV)) (fz : Nat) (et : Nat)
 | map (l : List (FV × FV))
 | dead
 deriving Inhabited
def Res.tip : Res → Option Nat
 | .nilrow => some 0
 | .row _ n _ => some n
 | .vec _ l _ _ => some l.length
 | _ => none
inductive RI where
 | box (b : Nat)
 | row (v : Value)
 | vec (b C sz : Nat)
 | none
def RI.block : RI → Option Nat
 | .box b => some b
 | .row (.slice (some a) _ _) => some a.block
 | .vec b _ _ => some b
 | _ => .none
def RI.isRow : RI → Bool
 | .row _ => true
 | .vec _ _ _ => true
 | _ => false
abbrev Settled := Nat → Nat → Prop
def FV.one : FV → Bool
 | .agg _ | .tup _ | .undef => false
 | _ => true
inductive RepF (S : Settled) (w : World) : Value → FV → Prop
 | int (k : IntKind) (n : Int) : RepF S w (.int k n) (.int k n)
 | bool (b : Bool) : RepF S w (.bool b) (.bool b)
 | str (s : ByteArray) : RepF S w (.string s) (.str s)
 | slice0 (A : Option Addr) (cap sz : Nat) : RepF S w (.slice A 0 cap) (.slice sz [])
 | slice (b o n cap sz : Nat) (elems : List (List FV)) (u : Nat → Nat → Value) (hn : elems.length = n) (hcap : n ≤ cap)
   (hsz : ∀ (i : Nat) (c : List FV), elems[i]? = some c → c.length = sz)
   (hc : ∀ i j, i < n → j < sz → S b (o + i * sz + j) ∧ w.cell? ⟨b, o + i * sz + j, none⟩ = some (u i j))
   (hr : ∀ (i j : Nat) (c : List FV) (x : FV), elems[i]? = some c → c[j]? = some x → RepF S w (u i j) x)
   (h1 : ∀ (i j : Nat) (c : List FV) (x : FV), elems[i]? = some c → c[j]? = some x → x.one = true) :
   RepF S w (.slice (some ⟨b, o, none⟩) n cap) (.slice sz elems)
 | agg (cs : Array Value) (fs : List FV) (hl : cs.size = fs.length) (h : ∀ (j : Nat) (x : FV), fs[j]? = some x → RepF S w (cs.getD j undef) x) : RepF S w (.agg cs) (.agg fs)
 | ref (b o off : Nat) (cells : List FV) (u : Nat → Value) (hc : ∀ j, j < cells.length → S b (o + j) ∧ w.cell? ⟨b, o + j, none⟩ = some (u j))
   (hr : ∀ (j : Nat) (x : FV), cells[j]? = some x → RepF S w (u j) x)
   (h1 : ∀ (j : Nat) (x : FV), cells[j]? = some x → x.one = true) : RepF S w (.pointer (some ⟨b, o + off, none⟩)) (.ref cells off)
 | nilp : RepF S w (.pointer none) .nilp
 | iface (t : TypeId) (v : Value) (x : FV) (h : RepF S w v x) : RepF S w (.iface t v) (.iface t x)
 | nili : RepF S w .nilIface .nili
 | func (fn : Fn) (p q : Array Value) (fp fq : List FV) (hp : p.size = fp.length) (hq : q.size = fq.length)
   (h1 : ∀ (j : Nat) (x : FV), fp[j]? = some x → RepF S w (p.getD j undef) x) (h2 : ∀ (j : Nat) (x : FV), fq[j]? = some x → RepF S w (q.getD j undef) x) : RepF S w (.func fn p q) (.func fn fp fq)
 | nilf : RepF S w .nilFunc .nilf
 | tup (cs : Array Value) (fs : List FV) (hl : cs.size = fs.length) (h : ∀ (j : Nat) (x : FV), fs[j]? = some x → RepF S w (cs.getD j undef) x) : RepF S w (.tuple cs) (.tup fs)
 | undef (v : Value) : RepF S w v .undef
 | nils (sz : Nat) : RepF S w (.slice none 0 0) (.nils sz)
 | fulls (A : Option Addr) (n sz : Nat) (elems : List (List FV)) (h : RepF S w (.slice A n n) (.slice sz elems)) : RepF S w (.slice A n n) (.fulls sz elems)
 | nonn (a : Addr) (cap sz : Nat) : RepF S w (.slice (some a) 0 cap) (.nonn sz)
 | nilm : RepF S w (.map none) .nilm
 | nilx (cap sz : Nat) : RepF S w (.slice none 0 cap) (.nilx sz)
theorem RepF.mono {S S' : Settled} {w w' : World} (hS : ∀ b o, S b o → S' b o) (hw : ∀ b o, S b o → w'.cell? ⟨b, o, none⟩ = w.cell? ⟨b, o, none⟩) {v : Value} {x : FV} (h : RepF S w v x) : RepF S' w' v x := by
 induction h with
 | int k n => exact .int k n
 | bool b => exact .bool b
 | str s => exact .str s
 | slice0 A cap sz => exact .slice0 A cap sz
 | slice b o n cap sz elems u hn hcap hsz hc hr h1 ih =>
  exact .slice b o n cap sz elems u hn hcap hsz (fun i j hi hj => ⟨hS _ _ (hc i j hi hj).1, by rw [hw _ _ (hc i j hi hj).1]; exact (hc i j hi hj).2⟩) ih h1
 | agg cs fs hl h ih => exact .agg cs fs hl ih
 | ref b o off cells u hc hr h1 ih => exact .ref b o off cells u (fun j hj => ⟨hS _ _ (hc j hj).1, by rw [hw _ _ (hc j hj).1]; exact (hc j hj).2⟩) ih h1
 | nilp => exact .nilp
 | iface t v x h ih => exact .iface t v x ih
 | nili => exact .nili
 | func fn p q fp fq hp hq h1 h2 ih1 ih2 => exact .func fn p q fp fq hp hq ih1 ih2
 | nilf => exact .nilf
 | tup cs fs hl h ih => exact .tup cs fs hl ih
 | undef v => exact .undef v
 | nils sz => exact .nils sz
 | fulls A n sz elems h ih => exact .fulls A n sz elems ih
 | nonn a cap sz => exact .nonn a cap sz
 | nilm => exact .nilm
 | nilx cap sz => exact .nilx cap sz
theorem RepF.one {S : Settled} {w : World} {v : Value} {x : FV} (h : RepF S w v x) (hx : x.one = true) : v.oneCell' = true := by
 cases h <;> simp_all [FV.one, Value.oneCell']
inductive RepD (S : Settled) (ρ : List RI) (h : List Res) (w : World) : Value → DV → Prop
 | d (v : Value) (x : FV) (hx : RepF S w v x) : RepD S ρ h w v (.d x)
 | ptr (id off b : Nat) (hb : ρ[id]? = some (.box b)) : RepD S ρ h w (.pointer (some ⟨b, off, none⟩)) (.ptr id off)
 | row (v : Value) (sz : Nat) (elems : List (List FV)) (t : Nat) (hx : RepF S w v (.slice sz elems)) (ht : t < h.length)
   (hr : ∀ n, (h[t]?).bind Res.tip = some n → elems.length ≤ n ∧ (elems.length = n → ρ[t]? = some (.row v))) : RepD S ρ h w v (.row sz elems t)
 | agg (cs : Array Value) (fs : List DV) (hl : cs.size = fs.length) (hh : ∀ (j : Nat) (x : DV), fs[j]? = some x → RepD S ρ h w (cs.getD j undef) x) : RepD S ρ h w (.agg cs) (.agg fs)
 | clo (fn : Fn) (p q : Array Value) (fp fq : List DV) (hp : p.size = fp.length) (hq : q.size = fq.length)
   (h1 : ∀ (j : Nat) (x : DV), fp[j]? = some x → RepD S ρ h w (p.getD j undef) x) (h2 : ∀ (j : Nat) (x : DV), fq[j]? = some x → RepD S ρ h w (q.getD j undef) x) : RepD S ρ h w (.func fn p q) (.clo fn fp fq)
 | tup (cs : Array Value) (fs : List DV) (hl : cs.size = fs.length) (hh : ∀ (j : Nat) (x : DV), fs[j]? = some x → RepD S ρ h w (cs.getD j undef) x) : RepD S ρ h w (.tuple cs) (.tup fs)
 | iface (t : TypeId) (v : Value) (x : DV) (hh : RepD S ρ h w v x) : RepD S ρ h w (.iface t v) (.iface t x)
 | yld (id b : Nat) (hb : ρ[id]? = some (.box b)) : RepD S ρ h w (.func (.yield b) #[] #[]) (.yld id)
 | bslc (id off n cap b : Nat) (hc : n ≤ cap) (hb : ρ[id]? = some (.box b)) : RepD S ρ h w (.slice (some ⟨b, off, none⟩) n cap) (.bslc id off n)
 | rptr (A p : Option Addr) (n cap : Nat) (elems : List (List FV)) (t : Nat) (hx : RepF S w (.slice A n cap) (.slice 1 elems)) (hp : elems ≠ [] → p = A) (ht : t < h.length)
   (hr : ∀ n', (h[t]?).bind Res.tip = some n' → elems.length ≤ n' ∧ (elems.length = n' → ρ[t]? = some (.row (.slice A n cap)))) : RepD S ρ h w (.pointer p) (.rptr elems t)
 | vslc (b o cap id g sz off n : Nat) (hc : n ≤ cap) (ht : id < h.length) (hr : ∀ m, (h[id]?).bind Res.tip = some m → g ≤ m ∧ (g = m → ∃ C, ρ[id]? = some (.vec b C sz) ∧ o = off * sz ∧ cap = C - off ∧ off + n ≤ m)) : RepD S ρ h w (.slice (some ⟨b, o, none⟩) n cap) (.vslc id g sz off n)
 | eptr (b o' id g k o : Nat) (ht : id < h.length) (hr : ∀ m, (h[id]?).bind Res.tip = some m → g ≤ m ∧ (g = m → ∃ C sz, ρ[id]? = some (.vec b C sz) ∧ o' = k * sz + o)) : RepD S ρ h w (.pointer (some ⟨b, o', none⟩)) (.eptr id g k o)
 | mref (id b : Nat) (hb : ρ[id]? = some (.box b)) : RepD S ρ h w (.map (some b)) (.mref id)
structure Ext (S : Settled) (ρ : List RI) (h : List Res) (w : World) (S' : Settled) (ρ' : List RI) (h' : List Res) (w' : World) : Prop where
 settled : ∀ b o, S b o → S' b o
 cells : ∀ b o, S b o → w'.cell? ⟨b, o, none⟩ = w.cell? ⟨b, o, none⟩
 len : h.length ≤ h'.length
 boxes : ∀ (id b : Nat), ρ[id]? = some (.box b) → ρ'[id]? = some (.box b)
 rows : ∀ (t n' : Nat), t < h.length → (h'[t]?).bind Res.tip = some n' → ∃ n, (h[t]?).bind Res.tip = some n ∧ n ≤ n' ∧ (n = n' → ρ'[t]? = ρ[t]?)
 size : w.heap.size ≤ w'.heap.size
 os : w'.os = w.os
 tape : w'.tape = w.tape
 output : w'.output = w.output
 frame : ∀ b, b < w.heap.size → (∀ (i : Nat) (r : RI), ρ[i]? = some r → r.block ≠ some b) → w'.heap[b]? = w.heap[b]?
 blocks : ∀ (i b : Nat) (r : RI), ρ'[i]? = some r → r.block = some b → w.heap.size ≤ b ∨ ∃ (j : Nat) (r0 : RI), ρ[j]? = some r0 ∧ r0.block = some b ∧ (r.isRow = true → r0.isRow = true)
 fresh : ∀ b o, S' b o → S b o ∨ w.heap.size ≤ b ∨ ∃ (i : Nat) (r : RI), ρ[i]? = some r ∧ r.isRow = true ∧ r.block = some b
theorem RepD.monoW {S S' : Settled} {ρ ρ' : List RI} {h h' : List Res} {w w' : World} (settled : ∀ b o, S b o → S' b o) (cells : ∀ b o, S b o → w'.cell? ⟨b, o, none⟩ = w.cell? ⟨b, o, none⟩) (len : h.length ≤ h'.length) (boxes : ∀ (id b : Nat), ρ[id]? = some (.box b) → ρ'[id]? = some (.box b))
  (rows : ∀ (t n' : Nat), t < h.length → (h'[t]?).bind Res.tip = some n' → ∃ n, (h[t]?).bind Res.tip = some n ∧ n ≤ n' ∧ (n = n' → ρ'[t]? = ρ[t]?)) {v : Value} {x : DV} (hx : RepD S ρ h w v x) : RepD S' ρ' h' w' v x := by
 induction hx with
 | d v x hx => exact .d v x (hx.mono settled cells)
 | ptr id off b hb => exact .ptr id off b (boxes _ _ hb)
 | row v sz elems t hx ht hr =>
  refine .row v sz elems t (hx.mono settled cells) (Nat.lt_of_lt_of_le ht len) fun n' hn' => ?_
  obtain ⟨n, hn, hle, he⟩ := rows t n' ht hn'
  obtain ⟨h1, h2⟩ := hr n hn
  refine ⟨by omega, fun hl => ?_⟩
  have : n = n' := by omega
  rw [he this]
  exact h2 (by omega)
 | agg cs fs hl hh ih => exact .agg cs fs hl ih
 | clo fn p q fp fq hp hq h1 h2 ih1 ih2 => exact .clo fn p q fp fq hp hq ih1 ih2
 | tup cs fs hl hh ih => exact .tup cs fs hl ih
 | iface t v x hh ih => exact .iface t v x ih
 | yld id b hb => exact .yld id b (boxes _ _ hb)
 | bslc id off n cap b hc hb => exact .bslc id off n cap b hc (boxes _ _ hb)
 | rptr A p n cap elems t hx hp ht hr =>
  refine .rptr A p n cap elems t (hx.mono settled cells) hp (Nat.lt_of_lt_of_le ht len) fun n' hn' => ?_
  obtain ⟨n, hn, hle, he⟩ := rows t n' ht hn'
  obtain ⟨h1, h2⟩ := hr n hn
  refine ⟨by omega, fun hl => ?_⟩
  have : n = n' := by omega
  rw [he this]
  exact h2 (by omega)
 | vslc b o cap id g sz off n hc ht hr =>
  refine .vslc b o cap id g sz off n hc (Nat.lt_of_lt_of_le ht len) fun n' hn' => ?_
  obtain ⟨n, hn, hle, he⟩ := rows id n' ht hn'
  obtain ⟨h1, h2⟩ := hr n hn
  refine ⟨by omega, fun hl => ?_⟩
  have : n = n' := by omega
  subst this
  rw [he rfl]
  exact h2 (by omega)
 | eptr b o' id g k o ht hr =>
  refine .eptr b o' id g k o (Nat.lt_of_lt_of_le ht len) fun n' hn' => ?_
  obtain ⟨n, hn, hle, he⟩ := rows id n' ht hn'
  obtain ⟨h1, h2⟩ := hr n hn
  refine ⟨by omega, fun hl => ?_⟩
  have : n = n' := by omega
  subst this
  rw [he rfl]
  exact h2 (by omega)
 | mref id b hb => exact .mref id b (boxes _ _ hb)
theorem RepD.mono {S S' : Settled} {ρ ρ' : List RI} {h h' : List Res} {w w' : World} (E : Ext S ρ h w S' ρ' h' w') {v : Value} {x : DV} (hx : RepD S ρ h w v x) : RepD S' ρ' h' w' v x :=
 hx.monoW E.settled E.cells E.len E.boxes E.rows
def DV.one : DV → Bool
 | .d x => x.one
 | .agg _ | .tup _ => false
 | _ => true
theorem RepD.one {S : Settled} {ρ : List RI} {h : List Res} {w : World} {v : Value} {x : DV} (hx : RepD S ρ h w v x) (h1 : x.one = true) : v.oneCell' = true := by
 cases hx with
 | d v x hx => exact hx.one h1
 | row v sz elems t hx ht hr => exact hx.one rfl
 | _ => simp_all [DV.one, Value.oneCell']
end Go.Deepv
namespace Go.Deepv
def DOp.opds : DOp → List Opd
 | .mv x | .box _ x | .load _ x | .loadk _ x | .un _ x | .cvt _ x | .addOff _ x | .fld _ _ x | .len _ x | .ext _ x | .nilchk x | .mki _ x | .panic x | .isnil _ _ x | .bstr x | .rng x | .next x | .sbytes x | .rstr x | .tass _ _ _ x | .usd x | .mark x | .frz x | .capn x | .boxn x | .lenm x => [x]
 | .nilrow _ | .alloc _ _ | .stuck | .mkmap => []
 | .pick c x y => [c, x, y]
 | .store _ x v | .storen _ x v => [x, v]
 | .bin _ x y | .eqb _ x y | .eqs _ _ x y | .ustr _ x y | .idxAddr _ x y | .idxArr _ _ x y | .idxStr x y | .idxB x y | .idxVal _ _ _ x y | .vmake _ _ _ _ _ x y | .vapp _ _ _ x y | .vappn _ _ _ _ x y | .mlook _ _ _ x y => [x, y]
 | .mupd _ x k v => [x, k, v]
 | .slcStr x lo hi | .slc _ x lo hi | .slcA _ _ x lo hi | .slcn _ x lo hi => x :: (lo.toList ++ hi.toList)
 | .slc3 _ x lo hi mx => x :: hi :: mx :: lo.toList
 | .lit _ _ _ _ _ ps | .vlit _ _ _ _ ps => ps.map (·.2)
 | .build _ ps => ps.map (·.2.2)
 | .app _ _ _ _ s x => [s, x]
 | .mnmx _ xs => xs
 | .call f xs | .calln _ f xs | .calld f xs => f :: xs
 | .mkf _ p q => p ++ q
def Opd.slots : Opd → List Nat
 | .tmp t => [t]
 | _ => []
def DOp.pure : DOp → Bool
 | .mv _ | .pick .. | .bin .. | .eqb .. | .isnil .. | .un .. | .cvt .. | .bstr _ | .addOff .. | .fld .. | .idxAddr .. | .idxArr .. | .idxStr .. | .len .. | .slcStr .. | .slc .. | .ext .. | .build .. | .mnmx .. | .mkf .. | .nilchk _ | .mki .. | .eqs .. | .rstr _ | .sbytes _ | .tass .. | .slcA .. | .idxVal .. | .calld .. | .slc3 .. => true
 | .box b _ => b
 | .lit b .. => b
 | .vmake b .. => b
 | _ => false
def DOp.quiet : DOp → Bool
 | .load .. => true
 | .loadk .. => true
 | .mlook .. => true
 | .slcn .. => true
 | .capn .. => true
 | .lenm .. => true
 | o => o.pure
def DOper.looks (o : DOper) : List Nat := o.op.opds.flatMap Opd.slots ++ (match o.guard with | some (t, _) => [t] | none => [])
def DOper.comm (x y : DOper) : Bool :=
 (match x.dst with | some d => !y.looks.contains d | none => true) && (match y.dst with | some d => !x.looks.contains d | none => true) &&
 (match x.dst, y.dst with | some d, some e => d != e | _, _ => true) && (x.op.pure || y.op.pure || (x.op.quiet && y.op.quiet))
inductive DRes where
 | tmp (t : Nat)
 | cell (n : Option Nat) (t : Nat)
 deriving Inhabited
inductive Cle where
 | fn (g : FuncId)
 | yld (id : Nat)
 deriving Inhabited
def ACode.noRange : ACode → Bool
 | .seq a b | .cond _ a b => a.noRange && b.noRange
 | .block _ b | .loop _ _ _ b => b.noRange
 | .rangeFn .. => false
 | _ => true
structure DGuard where
 pre : List ACode
 caps : List Opd
 slot : Nat
 dst : Nat
 ops : List (Nat × Opd)
 code : ACode
 ntmps : Nat
 deriving Inhabited
structure AFunc where
 ntmps : Nat
 results : List DRes
 body : ACode
 coe : Bool := true
 keep : Nat := 0
 guard : Option DGuard := none
 deriving Inhabited
def DV.flat : DV → Option FV
 | .d v => some v
 | .row sz elems _ => some (.slice sz elems)
 | _ => none
def DV.mkAgg (cs : List DV) : DV := match cs.mapM DV.flat with
 | some fs => .d (.agg fs)
 | none => .agg cs
def DV.coe : DV → DV
 | .row sz elems _ => .d (.slice sz elems)
 | .agg cs => DV.mkAgg cs
 | .tup vs => match vs.mapM DV.flat with
  | some fs => .d (.tup fs)
  | none => .tup vs
 | x => x
def DV.isD : DV → Bool
 | .d _ => true
 | _ => false
def DV.cells : DV → List DV
 | .d (.agg fs) => fs.map .d
 | .agg cs => cs
 | x => [x]
mutual
def DV.low (n : Nat) : DV → Bool
 | .d _ => true
 | .ptr id _ => id < n
 | .row _ _ t => t < n
 | .agg cs => DV.lows n cs
 | .clo _ p q => DV.lows n p && DV.lows n q
 | .tup vs => DV.lows n vs
 | .iface _ v => DV.low n v
 | .yld id => id < n
 | .rptr _ t => t < n
 | .bslc id _ _ => id < n
 | .vslc id _ _ _ _ => id < n
 | .eptr id _ _ _ => id < n
 | .mref id => id < n
def DV.lows (n : Nat) : List DV → Bool
 | [] => true
 | x :: xs => DV.low n x && DV.lows n xs
end
def DV.elems : DV → Option (Nat × List (List FV))
 | .d (.slice sz l) => some (sz, l)
 | .row sz l _ => some (sz, l)
 | .d (.nils sz) => some (sz, [])
 | .d (.fulls sz l) => some (sz, l)
 | .d (.nonn sz) => some (sz, [])
 | .d (.nilx sz) => some (sz, [])
 | _ => none
def DV.int : DV → Option Int
 | .d (.int _ n) => some n
 | _ => none
inductive DOut where
 | val (v : DV) (h : List Res)
 | pan (v : DV) (h : List Res)
 deriving Inhabited
def DOut.heap : DOut → List Res
 | .val _ h | .pan _ h => h
def ev (a : List DV) : Opd → DV
 | .tmp t => a.getD t (.d .undef)
 | .con v => .d v
 | .fn f => .d (.func (.func f) [] [])
def dbin (op : BinOp) (x y : FV) : Option FV :=
 match op, x, y with
 | .shl, .int k x, .int _ y => if y < 0 then none else some (.int k (k.wrap (x * 2 ^ (min y.toNat k.bits))))
 | .shr, .int k x, .int _ y => if y < 0 then none else some (.int k (x.fdiv (2 ^ (min y.toNat k.bits))))
 | op, .int k x, .int k' y =>
  if k ≠ k' then none else
  match op with
  | .add => some (.int k (k.wrap (x + y)))
  | .sub => some (.int k (k.wrap (x - y)))
  | .mul => some (.int k (k.wrap (x * y)))
  | .quo => if y = 0 then none else some (.int k (k.wrap (x.tdiv y)))
  | .rem => if y = 0 then none else some (.int k (x.tmod y))
  | .and => some (.int k (k.wrap ((BitVec.ofInt k.bits x &&& BitVec.ofInt k.bits y).toNat)))
  | .or => some (.int k (k.wrap ((BitVec.ofInt k.bits x ||| BitVec.ofInt k.bits y).toNat)))
  | .eql => some (.bool (x == y))
  | .neq => some (.bool (x != y))
  | .lss => some (.bool (x < y))
  | .leq => some (.bool (x ≤ y))
  | .gtr => some (.bool (x > y))
  | .geq => some (.bool (x ≥ y))
  | _ => none
 | .add, .str x, .str y => if x.size + y.size ≤ 9223372036854775807 then some (.str (x ++ y)) else none
 | .eql, .str x, .str y => some (.bool (x.toList == y.toList))
 | .neq, .str x, .str y => some (.bool !(x.toList == y.toList))
 | _, _, _ => none
def dun (op : UnOp) (x : FV) : Option FV :=
 match op, x with
 | .neg, .int k n => some (.int k (k.wrap (0 - n)))
 | .not, .bool b => some (.bool !b)
 | _, _ => none
def putCells (cells : List DV) (off : Nat) (new : List DV) : Option (List DV) :=
 if off + new.length ≤ cells.length ∧ new.all DV.one then some (cells.take off ++ new ++ cells.drop (off + new.length)) else none
def keepNil (h : List Res) : List DV → List DV → List DV
 | c :: cs, x :: xs => (match x with
  | .d (.nils sz) => (match c with
   | .row s [] t => (match h[t]? with
    | some .nilrow => .row s [] t
    | _ => .d (.slice sz []))
   | _ => .d (.slice sz []))
  | _ => x) :: keepNil h cs xs
 | [], x :: xs => (match x with
  | .d (.nils sz) => .d (.slice sz [])
  | _ => x) :: keepNil h [] xs
 | _, [] => []
def allocCells : List (Except Nat FV) → Nat → List DV × List Res
 | [], _ => ([], [])
 | .ok v :: r, n => (.d v :: (allocCells r n).1, (allocCells r n).2)
 | .error sz :: r, n => (.row sz [] n :: (allocCells r (n + 1)).1, .nilrow :: (allocCells r (n + 1)).2)
def nilC (h : List Res) : DV → DV
 | .row sz [] t => (match h[t]? with
  | some .nilrow => .d (.nils sz)
  | _ => .row sz [] t)
 | x => x
def dload (n : Option Nat) (cells : List DV) (off : Nat) : Option DV :=
 match n with
 | none => cells[off]?
 | some n => if off + n ≤ cells.length then some (DV.mkAgg ((cells.drop off).take n)) else none
def bound (x : Option Opd) (a : List DV) (dflt most : Nat) : Option Nat :=
 match x with
 | none => some dflt
 | some x => match (ev a x).int with
  | some i => if 0 ≤ i ∧ i ≤ most then some i.toNat else none
  | none => none
def fill (cells : List FV) : List (Nat × List FV) → Option (List FV)
 | [] => some cells
 | (off, new) :: r => if off + new.length ≤ cells.length then fill (cells.take off ++ new ++ cells.drop (off + new.length)) r else none
def flatCells (x : DV) : Option (List FV) := x.cells.mapM DV.flat
def DV.isRow : DV → Bool
 | .row .. => true
 | _ => false
def FV.isNils : FV → Bool
 | .nils _ => true
 | _ => false
def fillD (cells : List DV) : List (Nat × List DV) → Option (List DV)
 | [] => some cells
 | (off, new) :: r => if off + new.length ≤ cells.length then fillD (cells.take off ++ new ++ cells.drop (off + new.length)) r else none
def buildD (zero : List FV) (parts : List (Nat × Nat × DV)) : Option DV :=
 match parts.mapM (fun p => if p.2.2.cells.length = p.2.1 ∧ p.2.2.cells.all DV.one = true then some (p.1, p.2.2.cells) else none) with
 | some ps => (fillD (zero.map .d) ps).map .agg
 | none => none
def numsOf (l : List (List FV)) : Option (List Int) := l.mapM fun c => match c with
 | [.int .u8 n] => some n
 | _ => none
def nilness (k : Nat) (x : DV) : Option Bool :=
 match k, x with
 | 0, .d .nilp => some true
 | 0, .d (.ref _ _) => some false
 | 0, .ptr _ _ => some false
 | 1, .d .nili => some true
 | 1, .d (.iface _ _) => some false
 | 1, .iface _ _ => some false
 | 2, .d .nilf => some true
 | 2, .d (.func _ _ _) => some false
 | 2, .clo _ _ _ => some false
 | 2, .yld _ => some false
 | 3, .d (.nils _) => some true
 | 3, .d (.nonn _) => some false
 | 3, .d (.nilx _) => some true
 | 3, .d (.slice _ (_ :: _)) => some false
 | 4, .d .nilm => some true
 | 4, .mref _ => some false
 | _, _ => none
def mnmx2 (max : Bool) (x y : FV) : Option FV :=
 match x, y with
 | .int k a, .int k' b => if k = k' then some (.int k (if max then (if a < b then b else a) else (if b < a then b else a))) else none
 | _, _ => none
def mintD : List DV → Nat → List DV × List Res
 | [], _ => ([], [])
 | .d (.nils sz) :: r, n => (.row sz [] n :: (mintD r (n + 1)).1, .nilrow :: (mintD r (n + 1)).2)
 | x :: r, n => (x :: (mintD r n).1, (mintD r n).2)
def fullOf : FV → Option (Nat × List (List FV))
 | .nils sz => some (sz, [])
 | .fulls sz l => some (sz, l)
 | _ => none
def unfull : FV → FV
 | .fulls sz l => .slice sz l
 | v => v
def appRow (sz bytes : Nat) (s : DV) (x : Option (Nat × List (List FV))) (h : List Res) (et : Nat := 0) : Option DOut :=
 match s, x with
 | .row s1 l t, some (s2, new) =>
  if (s2 = sz ∨ new = []) ∧ (l.length + new.length) * bytes ≤ 140737488355328 ∧ 0 < sz ∧ 0 < bytes then
   match h[t]? with
   | some .nilrow => if l = [] then (if new = [] then some (.val (.row sz [] t) h) else some (.val (.row sz new t) (h.set t (.row sz new.length et)))) else none
   | some (.row s3 n et3) => if s1 = sz ∧ s3 = sz ∧ n = l.length ∧ et3 = et then some (.val (.row sz (l ++ new) t) (h.set t (.row sz (l.length + new.length) et))) else none
   | _ => none
  else none
 | .d v, some (s2, new) => match fullOf v with
  | some (s1, l) =>
   if (s2 = sz ∨ new = []) ∧ (l.length + new.length) * bytes ≤ 140737488355328 ∧ 0 < sz ∧ 0 < bytes ∧ s1 = sz then
    if new = [] then some (.val (.d (unfull v)) h) else some (.val (.row sz (l ++ new) h.length) (h ++ [.row sz (l.length + new.length) et]))
   else none
  | none => none
 | _, _ => none
def strCells (s : ByteArray) : List (List FV) := s.data.toList.map fun b => [.int .u8 b.toNat]
def srcElems (str : Bool) (x : DV) : Option (Nat × List (List FV)) := if str then (match x with | .d (.str s) => some (1, strCells s) | _ => none) else x.elems
def eqFV : Nat → FV → FV → Option Bool
 | 0, .int k a, .int k' b => if k = k' then some (a == b) else none
 | 1, .str a, .str b => some (a.toList == b.toList)
 | 2, .bool a, .bool b => some (a == b)
 | _, _, _ => none
def eqCells : List Nat → List FV → List FV → Option Bool
 | [], [], [] => some true
 | k :: ks, x :: xs, y :: ys => match eqFV k x y, eqCells ks xs ys with
  | some a, some b => some (a && b)
  | _, _ => none
 | _, _, _ => none
def unnil : FV → FV
 | .nils sz => .slice sz []
 | .fulls sz l => .slice sz l
 | .nonn sz => .slice sz []
 | .nilx sz => .slice sz []
 | v => v
def keyEq : FV → FV → Option Bool
 | .int k a, .int k' b => if k = k' then some (a == b) else none
 | .str a, .str b => some (a.toList == b.toList)
 | .bool a, .bool b => some (a == b)
 | _, _ => none
def keyOk : FV → FV → Bool
 | .int k _, .int k' _ => decide (k = k')
 | .str _, .str _ => true
 | .bool _, .bool _ => true
 | _, _ => false
def findE (k : FV) : List (FV × FV) → Nat → Option (Option (Nat × FV))
 | [], _ => some none
 | (x, v) :: r, i => match keyEq k x with
  | some true => some (some (i, v))
  | some false => findE k r (i + 1)
  | none => none
def appVec (et sz bytes : Nat) (s : DV) (x : Option (Nat × List (List FV))) (h : List Res) : Option DOut :=
 match s, x with
 | .row _ l t, some (s2, new) =>
  if (s2 = sz ∨ new = []) ∧ new.length * bytes ≤ 140737488355328 ∧ 0 < sz ∧ 0 < bytes ∧ l = [] then
   match h[t]? with
   | some .nilrow => if new = [] then some (.val (.row sz [] t) h) else some (.val (.vslc t new.length sz 0 new.length) (h.set t (.vec sz new 0 et)))
   | _ => none
  else none
 | .vslc id g s1 off n, some (s2, new) => match h[id]? with
  | some (.vec s3 l fz et3) =>
   if (s2 = sz ∨ new = []) ∧ (n + new.length) * bytes ≤ 140737488355328 ∧ 0 < bytes ∧ s1 = sz ∧ s3 = sz ∧ et3 = et ∧ g = l.length then
    if off + n = l.length then
     if off = 0 then some (.val (.vslc id (l.length + new.length) sz 0 (n + new.length)) (h.set id (.vec sz (l ++ new) fz et))) else none
    else if off + n + new.length ≤ l.length ∧ fz ≤ off + n then some (.val (.vslc id g sz off (n + new.length)) (h.set id (.vec sz (l.take (off + n) ++ new ++ l.drop (off + n + new.length)) fz et))) else none
   else none
  | _ => none
 | _, _ => none
def lowCells (k : Nat) (cs : List DV) : List DV := if DV.lows k cs then cs else cs.map DV.coe
section
variable (call : Cle → List DV → List Res → Option DOut)
def dcallV (f : DV) (args : List DV) (h : List Res) : Option DOut :=
 match f with
 | .d (.func (.func g) p q) => call (.fn g) (p.map .d ++ args ++ q.map .d) h
 | .clo (.func g) p q => call (.fn g) (p ++ args ++ q) h
 | .yld id => call (.yld id) args h
 | _ => none
def dop (o : DOp) (a : List DV) (h : List Res) : Option DOut :=
 match o with
 | .stuck => none
 | .mv x => some (.val (ev a x) h)
 | .nilrow sz => some (.val (.row sz [] h.length) (h ++ [.nilrow]))
 | .pick c x y => match ev a c with
  | .d (.bool b) => some (.val (if b then ev a x else ev a y) h)
  | _ => none
 | .box imm x =>
  let cs := (ev a x).cells
  if cs.all DV.one then
   if imm then (cs.mapM DV.flat).map fun fs => .val (.d (.ref fs 0)) h
   else if DV.lows h.length cs then some (.val (.ptr h.length 0) (h ++ [.box cs])) else none
  else none
 | .alloc zero tag => let r := allocCells zero h.length; if r.1.all DV.one then some (.val (.ptr (h.length + r.2.length) 0) (h ++ r.2 ++ [.box r.1 tag])) else none
 | .load n x => match ev a x with
  | .d (.ref cells off) => (dload n (cells.map .d) off).map fun v => .val v h
  | .ptr id off => match h[id]? with
   | some (.box cells _) => (dload n cells off).map fun v => .val v h
   | _ => none
  | .eptr id g k o => match h[id]? with
   | some (.vec _ l _ _) => if g = l.length then (match l[k]? with
    | some c => (dload n (c.map .d) o).map fun v => .val v h
    | none => none) else none
   | _ => none
  | _ => none
 | .loadk n x => match ev a x with
  | .d (.ref cells off) => (dload n (cells.map .d) off).map fun v => .val v h
  | .ptr id off => match h[id]? with
   | some (.box cells _) => (dload n (cells.map (nilC h)) off).map fun v => .val v h
   | _ => none
  | .eptr id g k o => match h[id]? with
   | some (.vec _ l _ _) => if g = l.length then (match l[k]? with
    | some c => (dload n (c.map .d) o).map fun v => .val v h
    | none => none) else none
   | _ => none
  | _ => none
 | .store n x v => match ev a x with
  | .ptr id off => match h[id]? with
   | some (.box cells tag) =>
    let new := lowCells (id + 1) (ev a v).cells
    if new.length = n ∧ DV.lows (id + 1) new then (putCells cells off new).map fun cs => .val (.d (.tup [])) (h.set id (.box cs tag)) else none
   | _ => none
  | .eptr id g k o => match h[id]? with
   | some (.vec sz l fz et) => (match l[k]?, flatCells (ev a v) with
    | some c, some fs => if g = l.length ∧ fz ≤ k ∧ fs.length = n ∧ o + n ≤ c.length ∧ fs.all FV.one then some (.val (.d (.tup [])) (h.set id (.vec sz (l.set k (c.take o ++ fs.map unnil ++ c.drop (o + n))) fz et))) else none
    | _, _ => none)
   | _ => none
  | _ => none
 | .storen n x v => match ev a x with
  | .ptr id off => match h[id]? with
   | some (.box cells tag) =>
    let new := keepNil h (cells.drop off) (lowCells (id + 1) (ev a v).cells)
    if new.length = n ∧ DV.lows (id + 1) new then (putCells cells off new).map fun cs => .val (.d (.tup [])) (h.set id (.box cs tag)) else none
   | _ => none
  | .eptr id g k o => match h[id]? with
   | some (.vec sz l fz et) => (match l[k]?, flatCells (ev a v) with
    | some c, some fs => if g = l.length ∧ fz ≤ k ∧ fs.length = n ∧ o + n ≤ c.length ∧ fs.all FV.one then some (.val (.d (.tup [])) (h.set id (.vec sz (l.set k (c.take o ++ fs.map unnil ++ c.drop (o + n))) fz et))) else none
    | _, _ => none)
   | _ => none
  | _ => none
 | .bin op x y => match ev a x, ev a y with
  | .d x, .d y => (dbin op x y).map fun v => .val (.d v) h
  | _, _ => none
 | .eqb neq x y => match ev a x, ev a y with
  | .d (.bool x), .d (.bool y) => some (.val (.d (.bool (if neq then !(x == y) else x == y))) h)
  | _, _ => none
 | .isnil k neq x => (nilness k (ev a x)).map fun b => .val (.d (.bool (if neq then !b else b))) h
 | .un op x => match ev a x with
  | .d x => (dun op x).map fun v => .val (.d v) h
  | _ => none
 | .cvt k x => match ev a x with
  | .d (.int _ n) => some (.val (.d (.int k (k.wrap n))) h)
  | _ => none
 | .bstr x => match (ev a x).elems with
  | some (_, l) => (numsOf l).map fun ns => .val (.d (.str (strOfNums ns))) h
  | none => none
 | .addOff n x => match ev a x with
  | .d (.ref cells off) => some (.val (.d (.ref cells (off + n))) h)
  | .ptr id off => some (.val (.ptr id (off + n)) h)
  | .eptr id g k o => some (.val (.eptr id g k (o + n)) h)
  | _ => none
 | .fld n off x => match ev a x with
  | .d (.agg fs) => (dload n (fs.map .d) off).map fun v => .val v h
  | .agg cs => (dload n cs off).map fun v => .val v h
  | _ => none
 | .idxAddr sz x i => match (ev a x).elems, (ev a i).int with
  | some (s, l), some i => if s = sz ∧ 0 ≤ i then (l[i.toNat]?).map fun c => .val (.d (.ref c 0)) h else none
  | none, some i => (match ev a x with
   | .bslc id off n => if 0 ≤ i ∧ i < n then some (.val (.ptr id (off + i.toNat * sz)) h) else none
   | .vslc id g s off n => if s = sz ∧ 0 ≤ i ∧ i < n then some (.val (.eptr id g (off + i.toNat) 0) h) else none
   | _ => none)
  | _, _ => none
 | .idxArr len sz x i => match ev a x, (ev a i).int with
  | .d (.ref cells off), some i => if 0 ≤ i ∧ i < len then some (.val (.d (.ref cells (off + i.toNat * sz))) h) else none
  | .ptr id off, some i => if 0 ≤ i ∧ i < len then some (.val (.ptr id (off + i.toNat * sz)) h) else none
  | _, _ => none
 | .idxStr x i => match ev a x, (ev a i).int with
  | .d (.str s), some i => if 0 ≤ i then (s[i.toNat]?).map fun b => .val (.d (.int .u8 b.toNat)) h else none
  | _, _ => none
 | .len true x => match ev a x with
  | .d (.str s) => some (.val (.d (.int .i64 s.size)) h)
  | _ => none
 | .len false x => match (ev a x).elems with
  | some (_, l) => some (.val (.d (.int .i64 l.length)) h)
  | none => match ev a x with
   | .bslc _ _ n => some (.val (.d (.int .i64 n)) h)
   | .vslc _ _ _ _ n => some (.val (.d (.int .i64 n)) h)
   | _ => none
 | .slcStr x lo hi => match ev a x with
  | .d (.str s) => match bound hi a s.size s.size with
   | some hi => match bound lo a 0 hi with
    | some lo => some (.val (.d (.str (s.extract lo hi))) h)
    | none => none
   | none => none
  | _ => none
 | .slc sz x lo hi => match (ev a x).elems with
  | some (s, l) => if s = sz then match bound hi a l.length l.length with
   | some hi => match bound lo a 0 hi with
    | some lo => some (.val (.d (.slice sz ((l.take hi).drop lo))) h)
    | none => none
   | none => none else none
  | none => match ev a x with
   | .bslc id off n => match bound hi a n n with
    | some hi => match bound lo a 0 hi with
     | some lo => some (.val (if hi - lo = 0 then .d (.slice sz []) else .bslc id (off + lo * sz) (hi - lo)) h)
     | none => none
    | none => none
   | .vslc id g s off n => if s = sz then (match bound hi a n n with
    | some hi => match bound lo a 0 hi with
     | some lo => some (.val (if hi - lo = 0 ∧ lo ≠ 0 then .d (.slice sz []) else .vslc id g s (off + lo) (hi - lo)) h)
     | none => none
    | none => none) else none
   | _ => none
 | .slcA len sz x lo hi => match ev a x with
  | .ptr id off => match bound hi a len len with
   | some hi => match bound lo a 0 hi with
    | some lo => some (.val (if hi - lo = 0 then .d (.slice sz []) else .bslc id (off + lo * sz) (hi - lo)) h)
    | none => none
   | none => none
  | _ => none
 | .idxVal len sz n x i => match (ev a i).int with
  | some i => if 0 ≤ i ∧ i < len then (match ev a x with
   | .d (.agg fs) => (dload n (fs.map .d) (i.toNat * sz)).map fun v => .val v h
   | .agg cs => (dload n cs (i.toNat * sz)).map fun v => .val v h
   | _ => none) else none
  | none => none
 | .calld f args => match ev a f with
  | .d (.func (.func g) [] []) => if (args.map (ev a)).all DV.isD then (match call (.fn g) (args.map (ev a)) [] with
   | some (.val (.d v) []) => some (.val (.d v) h)
   | _ => none) else none
  | _ => none
 | .ext i x => match ev a x with
  | .d (.tup vs) => (vs[i]?).map fun v => .val (.d v) h
  | .tup vs => (vs[i]?).map fun v => .val v h
  | _ => none
 | .lit imm et sz len zero parts =>
  if sz = 0 ∨ zero.length ≠ sz ∨ len * sz > 16777216 then none else
  match parts.mapM (fun p => (flatCells (ev a p.2)).map fun cs => (p.1, cs)) with
  | some ps => match ps.foldlM (fun (l : List (List FV)) p => if p.1 < l.length ∧ p.2.length = sz ∧ p.2.all FV.one then some (l.set p.1 p.2) else none) (List.replicate len zero) with
   | some l => if zero.all FV.one then some (if imm then .val (.d (.slice sz l)) h else .val (.row sz l h.length) (h ++ [.row sz len et])) else none
   | none => none
  | none => none
 | .build zero parts =>
  if (zero.any FV.isNils && parts.any fun p => (ev a p.2.2).isRow) = true then (buildD zero (parts.map fun p => (p.1, p.2.1, ev a p.2.2))).map fun v => .val v h
  else match parts.mapM (fun p => match flatCells (ev a p.2.2) with | some cs => if cs.length = p.2.1 ∧ cs.all FV.one then some (p.1, cs) else none | none => none) with
  | some ps => (fill zero ps).map fun cs => .val (.d (.agg cs)) h
  | none => (buildD zero (parts.map fun p => (p.1, p.2.1, ev a p.2.2))).map fun v => .val v h
 | .app str et sz bytes s x => appRow sz bytes (ev a s) (srcElems str (ev a x)) h et
 | .eqs neq ks x y => match ev a x, ev a y with
  | .d (.agg xs), .d (.agg ys) => (eqCells ks xs ys).map fun b => .val (.d (.bool (if neq then !b else b))) h
  | _, _ => none
 | .rng x => match ev a x with
  | .d (.str s) => some (.val (.ptr h.length 0) (h ++ [.iter s 0]))
  | _ => none
 | .next x => match ev a x with
  | .ptr id 0 => match h[id]? with
   | some (.iter s pos) =>
    if pos < s.size then some (.val (.d (.tup [.bool true, .int .i64 pos, .int .i32 (Utf8.decode s pos).1])) (h.set id (.iter s (pos + (Utf8.decode s pos).2))))
    else some (.val (.d (.tup [.bool false])) h)
   | _ => none
  | _ => none
 | .sbytes x => match ev a x with
  | .d (.str s) => if s.size ≤ 140737488355328 then some (.val (.d (.slice 1 (strCells s))) h) else none
  | _ => none
 | .rstr x => match ev a x with
  | .d (.int _ n) => some (.val (.d (.str (Utf8.encode n))) h)
  | _ => none
 | .tass t comma zero x => match ev a x with
  | .d (.iface t' v) => if t' = t then some (.val (.d (if comma then .tup [v, .bool true] else v)) h) else if comma then some (.val (.d (.tup [zero, .bool false])) h) else none
  | .d .nili => if comma then some (.val (.d (.tup [zero, .bool false])) h) else none
  | _ => none
 | .usd x => match ev a x with
  | .row 1 l t => match h[t]? with
   | some .nilrow => if l = [] then some (.val (.rptr l t) h) else none
   | some (.row 1 n _) => if n = l.length ∧ 0 < n then some (.val (.rptr l t) h) else none
   | _ => none
  | _ => none
 | .mark x => match ev a x with
  | .row 1 l t => match h[t]? with
   | some (.row 1 n _) => if n = l.length then some (.val (.d (.slice 1 l)) (h.set t .dead)) else none
   | _ => none
  | _ => none
 | .ustr et x n => match ev a x, (ev a n).int with
  | .rptr l t, some k => if k = (l.length : Int) then match numsOf l with
    | some ns => if l = [] then some (.val (.d (.str (strOfNums []))) h) else match h[t]? with
     | some (.row 1 m et') => if m = l.length ∧ m ≤ 9223372036854775807 ∧ et' = et ∧ et ≠ 0 ∧ ns.all (fun n => decide (0 ≤ n ∧ n < 256)) then some (.val (.d (.str (strOfNums ns))) (h.set t .dead)) else none
     | _ => none
    | none => none
   else none
  | _, _ => none
 | .mnmx max xs => match xs.map (ev a) with
  | .d x :: rest => match rest.mapM DV.flat with
   | some ys => (ys.foldlM (mnmx2 max) x).map fun v => .val (.d v) h
   | none => none
  | _ => none
 | .call f args => dcallV call (ev a f) (args.map (ev a)) h
 | .idxB x y => match ev a x, ev a y with
  | .d (.str s), .d (.int .u8 c) => some (.val (.d (.int .i64 (Lib.indexByte s.data.toList c.toNat.toUInt8))) h)
  | _, _ => none
 | .calln sz f args => match ev a f with
  | .d (.func (.func g) [] []) => call (.fn g) (.row sz [] h.length :: args.map (ev a)) (h ++ [.nilrow])
  | _ => none
 | .mkf fn p q =>
  let p := p.map (ev a)
  let q := q.map (ev a)
  match p.mapM DV.flat, q.mapM DV.flat with
  | some p, some q => some (.val (.d (.func fn p q)) h)
  | _, _ => some (.val (.clo fn p q) h)
 | .nilchk x => match ev a x with
  | .d (.ref c o) => some (.val (.d (.ref c o)) h)
  | .ptr id o => some (.val (.ptr id o) h)
  | .d (.func (.func g) p q) => some (.val (.d (.func (.func g) p q)) h)
  | .clo (.func g) p q => some (.val (.clo (.func g) p q) h)
  | .yld id => some (.val (.yld id) h)
  | _ => none
 | .mki t x => match ev a x with
  | .d v => some (.val (.d (.iface t v)) h)
  | x => some (.val (.iface t x) h)
 | .panic x => match ev a x with
  | .d (.iface t v) => some (.pan (.d (.iface t v)) h)
  | _ => none
 | .vlit et sz len zero parts =>
  if sz = 0 ∨ zero.length ≠ sz ∨ len * sz > 16777216 then none else
  match parts.mapM (fun p => (flatCells (ev a p.2)).map fun cs => (p.1, cs)) with
  | some ps => match ps.foldlM (fun (l : List (List FV)) p => if p.1 < l.length ∧ p.2.length = sz ∧ p.2.all FV.one then some (l.set p.1 p.2) else none) (List.replicate len zero) with
   | some l => if zero.all FV.one then some (.val (.vslc h.length len sz 0 len) (h ++ [.vec sz l 0 et])) else none
   | none => none
  | none => none
 | .vmake imm et sz bytes zero n c => match (ev a n).int, (ev a c).int with
  | some n, some c =>
   if 0 ≤ n ∧ n ≤ c ∧ c < 9223372036854775808 ∧ c * bytes ≤ 140737488355328 ∧ 0 < bytes ∧ 0 < sz ∧ zero.length = sz ∧ zero.all FV.one then
    some (if imm then .val (.d (.slice sz (List.replicate n.toNat zero))) h else .val (.vslc h.length n.toNat sz 0 n.toNat) (h ++ [.vec sz (List.replicate n.toNat zero) 0 et]))
   else none
  | _, _ => none
 | .vapp et sz bytes s x => appVec et sz bytes (ev a s) (ev a x).elems h
 | .frz x => match ev a x with
  | .vslc id g s off n => match h[id]? with
   | some (.vec sz l fz et) => if g = l.length ∧ s = sz then some (.val (.d (.slice sz ((l.drop off).take n))) (h.set id (.vec sz l (max fz (off + n)) et))) else none
   | _ => none
  | .row sz l _ => some (.val (.d (.slice sz l)) h)
  | .d v => some (.val (.d v) h)
  | _ => none
 | .mkmap => some (.val (.mref h.length) (h ++ [.map []]))
 | .mlook comma kz zero x i => match ev a x, ev a i with
  | .mref id, .d k => if keyOk kz k then match h[id]? with
   | some (.map l) => match findE k l 0 with
    | some (some (_, v)) => some (.val (.d (if comma then .tup [v, .bool true] else v)) h)
    | some none => some (.val (.d (if comma then .tup [zero, .bool false] else zero)) h)
    | none => none
   | _ => none else none
  | _, _ => none
 | .mupd kz x k v => match ev a x, ev a k, (ev a v).flat with
  | .mref id, .d k, some v => if keyOk kz k then match h[id]? with
   | some (.map l) => match findE k l 0 with
    | some (some (i, _)) => some (.val (.d (.tup [])) (h.set id (.map (l.set i (k, unnil v)))))
    | some none => some (.val (.d (.tup [])) (h.set id (.map (l ++ [(k, unnil v)]))))
    | none => none
   | _ => none else none
  | _, _, _ => none
 | .slc3 sz x lo hi mx => match (ev a x).elems, (ev a hi).int, (ev a mx).int with
  | some (s, l), some i, some m => if s = sz ∧ 0 ≤ i ∧ i ≤ l.length ∧ m = i then (match bound lo a 0 i.toNat with
   | some lo => some (.val (.d (.fulls sz ((l.take i.toNat).drop lo))) h)
   | none => none) else none
  | _, _, _ => none
 | .slcn sz x lo hi => match ev a x with
  | .row s [] t => match h[t]? with
   | some .nilrow => if s = sz then (match bound hi a 0 0 with
    | some _ => match bound lo a 0 0 with
     | some _ => some (.val (.row s [] t) h)
     | none => none
    | none => none) else none
   | _ => none
  | _ => none
 | .boxn x =>
  let cs := (ev a x).cells
  let r := mintD cs h.length
  if cs.all DV.one ∧ DV.lows h.length cs then some (.val (.ptr (h.length + r.2.length) 0) (h ++ r.2 ++ [.box r.1])) else none
 | .vappn et sz bytes zero s n => match ev a s, (ev a n).int with
  | .row _ [] t, some n => (match h[t]? with
   | some .nilrow => if 0 < n ∧ n * bytes ≤ 140737488355328 ∧ 0 < bytes ∧ 0 < sz ∧ zero.length = sz ∧ zero.all FV.one then some (.val (.vslc t n.toNat sz 0 n.toNat) (h.set t (.vec sz (List.replicate n.toNat zero) 0 et))) else none
   | _ => none)
  | _, _ => none
 | .lenm x => match ev a x with
  | .mref id => match h[id]? with
   | some (.map l) => some (.val (.d (.int .i64 l.length)) h)
   | _ => none
  | .d .nilm => some (.val (.d (.int .i64 0)) h)
  | _ => none
 | .capn x => match ev a x with
  | .d v => (fullOf v).map fun p => .val (.d (.int .i64 p.2.length)) h
  | .row _ [] t => match h[t]? with
   | some .nilrow => some (.val (.d (.int .i64 0)) h)
   | _ => none
  | _ => none
inductive DExit where
 | normal
 | exit (id : Nat)
 | ret
 | pan (v : DV)
 deriving Inhabited
abbrev DRun := DExit × List DV × List Res
def put (a : List DV) : Option Nat → DV → List DV
 | some d, v => a.set d v
 | none, _ => a
def wants (a : List DV) : Option (Nat × Bool) → Option Bool
 | none => some true
 | some (t, b) => match a[t]? with
  | some (.d (.bool c)) => some (c == b)
  | some (.d (.tup [])) => some false
  | _ => none
def dops : List DOper → List DV → List Res → Option DRun
 | [], a, h => some (.normal, a, h)
 | o :: rest, a, h => match wants a o.guard with
  | some true => match dop call o.op a h with
   | some (.val v h') => dops rest (put a o.dst v) h'
   | some (.pan v h') => some (.pan v, a, h')
   | none => none
  | some false => dops rest (put a o.dst (.d (.tup []))) h
  | none => none
open Classical in
noncomputable def same (alts : List (List DOper)) (a : List DV) (h : List Res) (r : DRun) : Bool := decide (∀ l ∈ alts, dops call l a h = some r)
abbrev LoopF := Nat → Bool → List Bool → List Bool → ACode → List DV → List Res → Option DRun
variable (loop : LoopF)
def mask : List Bool → List DV → List DV
 | true :: m, x :: xs => x :: mask m xs
 | false :: m, _ :: xs => .d .undef :: mask m xs
 | [], _ :: xs => .d .undef :: mask [] xs
 | _, [] => []
noncomputable def dexec : ACode → List DV → List Res → Option DRun
 | .skip, a, h => some (.normal, a, h)
 | .region ops, a, h => dops call ops a h
 | .draw ops alts, a, h => match dops call ops a h with
  | some (.normal, a', h') => if same call alts a h (.normal, a', h') then some (.normal, a', h') else none
  | _ => none
 | .seq c d, a, h => match dexec c a h with
  | some (.normal, a', h') => dexec d a' h'
  | r => r
 | .cond c t e, a, h => match ev a c with
  | .d (.bool b) => if b then dexec t a h else dexec e a h
  | _ => none
 | .block id c, a, h => match dexec c a h with
  | some (.exit i, a', h') => if i = id then some (.normal, a', h') else some (.exit i, a', h')
  | r => r
 | .loop cut hd ex c, a, h => loop h.length cut hd ex c (mask hd a) h
 | .rangeFn f ps sn as_ bd, a, h => match ev a f with
  | .yld _ => none
  | fv => match dcallV call fv [.yld h.length] (h ++ [.loop ps as_ bd (mask sn a) .ready]) with
   | some (.val _ h') => match h'[h.length]? with
    | some (.loop _ _ _ _ .ready) => some (.normal, a, h'.take h.length)
    | some (.loop _ _ _ _ (.done (some i))) => some (.exit i, a, h'.take h.length)
    | some (.loop _ _ _ _ (.done none)) => some (.ret, a, h'.take h.length)
    | _ => none
   | _ => none
 | .exit id, a, h => some (.exit id, a, h)
 | .ret, a, h => some (.ret, a, h)
 | .stuck, _, _ => none
def setAll (a : List DV) (ps : List Nat) (args : List DV) : List DV := (ps.zip args).foldl (fun a p => a.set p.1 p.2) a
def LSt.isReady : LSt → Bool
 | .ready => true
 | _ => false
def markLoop (id : Nat) (st : LSt) (h : List Res) : Option (List Res) := match h[id]? with
 | some (.loop ps as_ bd snap _) => some (h.set id (.loop ps as_ bd snap st))
 | _ => none
def endLoop (id n : Nat) (st : LSt) (h : List Res) : Option DOut := (markLoop id st h).map fun h => .val (.d (.bool st.isReady)) (h.take n)
noncomputable def dyield (id : Nat) (args : List DV) (h : List Res) : Option DOut :=
 match h[id]? with
 | some (.loop ps as_ bd snap .ready) =>
  if args.length = ps.length then
   match dexec call loop as_ (setAll snap ps args) h with
   | some (.normal, a1, h1) => match h1[id]? with
    | some (.loop _ _ _ _ .ready) => match markLoop id .busy h1 with
     | some h1 => match dexec call loop bd a1 h1 with
      | some (.normal, _, h2) => endLoop id h.length .ready h2
      | some (.exit i, _, h2) => endLoop id h.length (.done (some i)) h2
      | some (.ret, _, h2) => endLoop id h.length (.done none) h2
      | _ => none
     | none => none
    | _ => none
   | _ => none
  else none
 | _ => none
def trim (cut : Bool) (n0 : Nat) (h : List Res) : List Res := if cut then h.take n0 else h
def trims (cut : Bool) (n0 : Nat) (a : List DV) : Bool := if cut then DV.lows n0 a else true
noncomputable def dround (n0 : Nat) (cut : Bool) (hd ex : List Bool) (c : ACode) (a : List DV) (h : List Res) : Option DRun :=
 match dexec call loop c a h with
 | some (.normal, a', h') => if trims cut n0 (mask hd a') then loop n0 cut hd ex c (mask hd a') (trim cut n0 h') else none
 | some (.pan v, a', h') => some (.pan v, a', h')
 | some (e, a', h') => if trims cut n0 (mask ex a') then some (e, mask ex a', trim cut n0 h') else none
 | none => none
def dresult (a : List DV) (h : List Res) : DRes → Option DV
 | .tmp t => some (a.getD t (.d .undef))
 | .cell n t => match a.getD t (.d .undef) with
  | .ptr id off => match h[id]? with
   | some (.box cells _) => dload n cells off
   | _ => none
  | .d (.ref cells off) => dload n (cells.map .d) off
  | _ => none
def dresults (co : Bool) (rs : List DV) : DV := if co then (match rs with
 | [x] => x.coe
 | rs => (DV.tup (rs.map DV.coe)).coe) else match rs with
 | [x] => x
 | rs => .tup rs
noncomputable def dpre : List ACode → List DV → List Res → Option DRun
 | [], a, h => some (.normal, a, h)
 | c :: cs, a, h => match dexec call loop c a h with
  | some (.normal, a', h') => dpre cs a' h'
  | r => r
def mvs (l : List (Nat × Opd)) (a : List DV) : List DV := l.foldl (fun a p => a.set p.1 (ev a p.2)) a
noncomputable def dlast (g : DGuard) (cs : List DV) (v : DV) (a : List DV) (h : List Res) : Option DRun :=
 match dexec call loop g.code (mvs g.ops ((cs ++ List.replicate (g.ntmps - cs.length) (DV.d .undef)).set g.dst v)) h with
 | some (.normal, _, h') => some (.ret, a, h')
 | some (.ret, _, h') => some (.ret, a, h')
 | _ => none
noncomputable def drun (F : AFunc) (a : List DV) (h : List Res) : Option DRun := match F.guard with
 | none => dexec call loop F.body a h
 | some g => match dpre call loop g.pre a h with
  | some (.normal, a1, h1) => if g.slot < a1.length then (match dexec call loop F.body (a1.set g.slot (.d .undef)) h1 with
   | some (.pan v, a2, h2) => dlast call loop g (g.caps.map (ev a1)) v a2 h2
   | some (.normal, a2, h2) => dlast call loop g (g.caps.map (ev a1)) (.d .nili) a2 h2
   | some (.ret, a2, h2) => dlast call loop g (g.caps.map (ev a1)) (.d .nili) a2 h2
   | _ => none) else none
  | some (.ret, a1, h1) => some (.ret, a1, h1)
  | _ => none
noncomputable def dbody (F : AFunc) (args : List DV) (h : List Res) : Option DOut :=
 match drun call loop F (args ++ List.replicate (F.ntmps - args.length) (.d .undef)) h with
 | some (.pan v, _, h') => if v.low h.length then some (.pan v (h'.take h.length)) else none
 | some (.normal, a, h') | some (.ret, a, h') => match F.results.mapM (dresult a h') with
  | some rs => if (dresults (F.keep == 0 && F.coe) rs).low (h.length + F.keep) then some (.val (dresults (F.keep == 0 && F.coe) rs) (h'.take (h.length + F.keep))) else none
  | none => none
 | _ => none
structure Env where
 af : FuncId → Option AFunc
 ext : FuncId → Option (List DV → List Res → Option DOut)
def withHeap (h : List Res) : DOut → DOut
 | .val v _ => .val v h
 | .pan v _ => .pan v h
noncomputable def dcallF (E : Env) (f : FuncId) (args : List DV) (h : List Res) : Option DOut :=
 match E.ext f with
 | some F => F args h
 | none => match E.af f with
  | none => none
  | some F =>
   let args' := if F.coe then args.map DV.coe else args
   if F.keep == 0 && args'.all DV.isD then (dbody call loop F args' []).map (withHeap h) else dbody call loop F args' h
noncomputable def dcall (E : Env) (c : Cle) (args : List DV) (h : List Res) : Option DOut := match c with
 | .fn f => dcallF call loop E f args h
 | .yld id => dyield call loop id args h
end
end Go.Deepv
namespace Go.Deepv
def constOk : Value → FV → Bool
 | .int k n, .int k' n' => k == k' && n == n'
 | .bool b, .bool b' => b == b'
 | .string s, .str s' => s.data == s'.data
 | .slice none 0 0, .slice _ [] => true
 | .slice none 0 0, .nils _ => true
 | .pointer none, .nilp => true
 | .nilIface, .nili => true
 | .nilFunc, .nilf => true
 | .map none, .nilm => true
 | _, _ => false
def nilz (l : List FV) : List FV := l.map fun x => match x with
 | .slice sz [] => .nils sz
 | x => x
def nilOpd (imm : Nat → Bool) : Opd → Bool
 | .tmp d => imm d
 | _ => false
def constsOk : List Value → List FV → Bool
 | [], [] => true
 | v :: vs, x :: xs => constOk v x && constsOk vs xs
 | _, _ => false
def scalarFV : Value → Option FV
 | .int k n => some (.int k n)
 | .bool b => some (.bool b)
 | .string s => some (.str s)
 | .pointer none => some .nilp
 | .nilIface => some .nili
 | .nilFunc => some .nilf
 | .map none => some .nilm
 | _ => none
section
variable (P : Program)
def typedCells : Nat → TypeId → List Value → Option (List FV)
 | 0, _, _ => none
 | n + 1, t, cs => match P.underlying t with
  | some (.struct fields) => (fields.toList.mapM fun f => typedCells n f.type ((cs.drop f.offset).take (P.cellsOf f.type))).map List.flatten
  | some (.array k e) => ((List.range k).mapM fun i => typedCells n e ((cs.drop (i * P.cellsOf e)).take (P.cellsOf e))).map List.flatten
  | some (.slice e) => match cs with
   | [.slice none 0 0] => some [.slice (P.cellsOf e) []]
   | _ => none
  | some _ => match cs with
   | [v] => (scalarFV v).map ([·])
   | _ => none
  | none => none
def trConst (t : TypeId) (v : Value) : Option FV :=
 match typedCells P 12 t v.cells.toList with
 | some fs => match v with
  | .agg cs => if constsOk cs.toList fs then some (.agg fs) else none
  | v => match fs with
   | [x] => if constOk v x then some x else none
   | _ => none
 | none => none
def trOpd (t : TypeId) : Operand → Option Opd
 | .tmp t => some (.tmp t)
 | .func f => some (.fn f)
 | .const v => (trConst P t v).map .con
 | .global _ => none
def isAggB (t : TypeId) : Option (Option Nat) := match P.underlying t with
 | some (.struct _) => (P.info? t).map fun i => some i.size
 | some (.array _ _) => (P.info? t).map fun i => some i.size
 | some _ => some none
 | none => none
def isNilSlice : Operand → Bool
 | .const (.slice none 0 0) => true
 | _ => false
def vecM (imm : Nat → Bool) (o : Oper) : Bool := match o.dst with
 | some d => imm (d + 1000000)
 | none => false
def frzM (imm : Nat → Bool) (o : Oper) : Bool := match o.dst with
 | some d => imm (d + 2000000)
 | none => false
def trMove (imm : Nat → Bool) (o : Oper) (x : Operand) : Option DOp :=
 if isNilSlice x then match P.underlying o.type with
  | some (.slice e) => if (o.dst.map imm).getD false then some (.mv (.con (.slice (P.cellsOf e) []))) else some (.nilrow (P.cellsOf e))
  | _ => none
 else (trOpd P o.type x).map .mv
def isNilConst (k : Nat) : Operand → Bool
 | .const (.pointer none) => k == 0
 | .const .nilIface => k == 1
 | .const .nilFunc => k == 2
 | .const (.slice none 0 0) => k == 3
 | .const (.map none) => k == 4
 | _ => false
def trNil (op : BinOp) (k : Nat) (x y : Operand) (x' y' : Opd) : Option DOp :=
 match op with
 | .eql => if isNilConst k y then some (.isnil k false x') else if isNilConst k x then some (.isnil k false y') else none
 | .neq => if isNilConst k y then some (.isnil k true x') else if isNilConst k x then some (.isnil k true y') else none
 | _ => none
def consec : List Field → Nat → Option Nat
 | [], o => some o
 | f :: fs, o => if f.offset = o then consec fs (o + P.cellsOf f.type) else none
def leafs : Nat → TypeId → Option (List Nat)
 | 0, _ => none
 | n + 1, t => match P.underlying t with
  | some (.int _) => if P.cellsOf t == 1 && isAggB P t == some none then some [0] else none
  | some .string => if P.cellsOf t == 1 && isAggB P t == some none then some [1] else none
  | some .bool => if P.cellsOf t == 1 && isAggB P t == some none then some [2] else none
  | some (.struct fl) => if !P.stoodInHeld t && (fl.toList.all fun f => f.name != "_") && consec P fl.toList 0 == some (P.cellsOf t) && isAggB P t == some (some (P.cellsOf t)) then
    match fl.toList.mapM fun f => (leafs n f.type).bind fun ks => if ks.length = P.cellsOf f.type then some ks else none with
    | some kss => some kss.flatten
    | none => none
   else none
  | _ => none
def trBin (op : BinOp) (xt yt : TypeId) (x y : Operand) : Option DOp :=
 match trOpd P xt x, trOpd P yt y with
 | some x', some y' => match P.underlying xt with
  | some (.int _) | some .string => some (.bin op x' y')
  | some .bool => match op with
   | .eql => some (.eqb false x' y')
   | .neq => some (.eqb true x' y')
   | _ => none
  | some (.pointer _) => trNil op 0 x y x' y'
  | some (.interface _) => trNil op 1 x y x' y'
  | some (.func _ _ _) => trNil op 2 x y x' y'
  | some (.slice _) => trNil op 3 x y x' y'
  | some (.map _ _) => trNil op 4 x y x' y'
  | some (.struct _) => match leafs P 12 xt with
   | some ks => if ks.length = P.cellsOf xt ∧ P.eqGuardType P.depth xt = false then match op with
    | .eql => some (.eqs false ks x' y')
    | .neq => some (.eqs true ks x' y')
    | _ => none else none
   | none => none
  | _ => none
 | _, _ => none
def trIdxAddr (t : TypeId) (x i : Operand) : Option DOp :=
 match P.underlying t with
 | some (.slice e) => match P.info? e, trOpd P t x, trOpd P 3 i with
  | some info, some x, some i => some (.idxAddr info.size x i)
  | _, _, _ => none
 | some (.array n e) => match P.info? e, trOpd P t x, trOpd P 3 i with
  | some info, some x, some i => some (.idxArr n info.size x i)
  | _, _, _ => none
 | _ => none
def optOpd (x : Option Operand) : Option (Option Opd) := match x with
 | none => some none
 | some x => (trOpd P 3 x).map some
def zeroCellsOf (t : TypeId) : Option (List Value × List FV) := match P.info? t with
 | some i => match i.zero with
  | some z => match typedCells P 12 t z.cells.toList with
   | some fs => if constsOk z.cells.toList fs then some (z.cells.toList, fs) else none
   | none => none
  | none => none
 | none => none
def mint1 : Value → FV → Except Nat FV
 | .slice none 0 0, .slice sz _ => .error sz
 | _, f => .ok f
def minted : List Value → List FV → List (Except Nat FV)
 | v :: vs, f :: fs => mint1 v f :: minted vs fs
 | _, _ => []
def tagE (e : TypeId) : Nat := match P.underlying e with
 | some (.int .u8) => e
 | _ => 0
def trSlice (nm : Bool) (t : TypeId) (x : Operand) (lo hi mx : Option Operand) : Option DOp :=
 match mx with
 | some mx => match hi with
  | some hi => match trOpd P t x, optOpd P lo, trOpd P 3 hi, trOpd P 3 mx with
   | some x, some lo, some hi, some mx => match P.underlying t with
    | some (.slice e) => match P.info? e with
     | some i => some (.slc3 i.size x lo hi mx)
     | none => none
    | _ => none
   | _, _, _, _ => none
  | none => none
 | none =>
 match trOpd P t x, optOpd P lo, optOpd P hi with
 | some x, some lo, some hi => match P.underlying t with
  | some .string => some (.slcStr x lo hi)
  | some (.slice e) => match P.info? e with
   | some i => some (if nm then .slcn i.size x lo hi else .slc i.size x lo hi)
   | none => none
  | some (.array n e) => match P.info? e with
   | some i => some (.slcA n i.size x lo hi)
   | none => none
  | _ => none
 | _, _, _ => none
def trCall (c : Call) : Option DOp := match c.callee with
 | .value f => match trOpd P 0 f, (c.args.toList.zip c.argTypes.toList).mapM (fun p => trOpd P p.2 p.1) with
  | some f, some args => if c.args.size = c.argTypes.size then some (.call f args) else none
  | _, _ => none
 | .builtin b => match (c.args.toList.zip c.argTypes.toList).mapM (fun p => trOpd P p.2 p.1) with
  | some args => if c.args.size ≠ c.argTypes.size then none else match b, args with
   | .len, [x] => match (c.argTypes[0]?).bind P.underlying with
    | some .string => some (.len true x)
    | some (.slice _) => some (.len false x)
    | some (.map _ _) => some (.lenm x)
    | _ => none
   | .cap, [x] => match (c.argTypes[0]?).bind P.underlying with
    | some (.slice _) => some (.capn x)
    | _ => none
   | .unsafeSliceData, [x] => some (.usd x)
   | .unsafeString, [x, n] => match (c.argTypes[0]?).bind P.underlying with
    | some (.pointer e) => match P.info? e, P.underlying e with
     | some i, some (.int .u8) => if i.size = 1 ∧ P.cellsOf e = 1 then some (.ustr e x n) else none
     | _, _ => none
    | _ => none
   | .min, x :: xs => some (.mnmx false (x :: xs))
   | .max, x :: xs => some (.mnmx true (x :: xs))
   | .append, [s, x] => match (c.argTypes[0]?).bind P.underlying, (c.argTypes[1]?).bind P.underlying with
    | some (.slice e), some (.slice _) => match P.info? e with
     | some i => match i.zero with
      | some z => if z.cells.size = i.size then some (.app false (tagE P e) i.size i.bytes s x) else none
      | none => none
     | none => none
    | some (.slice e), some (.int _) => match P.info? e, zeroCellsOf P e with
     | some i, some z => some (.vappn (tagE P e) i.size i.bytes z.2 s x)
     | _, _ => none
    | some (.slice e), some .string => match P.info? e with
     | some i => match i.zero with
      | some z => if z.cells.size = i.size ∧ i.size = 1 then some (.app true (tagE P e) i.size i.bytes s x) else none
      | none => none
     | none => none
    | _, _ => none
   | _, _ => none
  | none => none
 | _ => none
def tagOf (t : TypeId) : Nat := match P.info? t with
 | some i => match i.desc with
  | .named n _ => if n = "strings.Builder" then t else 0
  | _ => 0
 | none => 0
def nilFirst (c : Call) : Option Nat := match c.callee, c.args.toList, (c.argTypes[0]?).bind P.underlying with
 | .value (.func _), x :: _, some (.slice e) => if isNilSlice x then some (P.cellsOf e) else none
 | _, _, _ => none
def isIdxB (c : Call) : Bool := match c.callee with
 | .value (.func g) => match P.funcs[g]? with
  | some fn => fn.name == "internal/bytealg.IndexByteString" && fn.origin == "" && fn.body.isNone
  | none => false
 | _ => false
def trCallN (c : Call) : Option DOp := if isIdxB P c then (match trCall P c with | some (.call _ [x, y]) => some (.idxB x y) | _ => none) else match nilFirst P c, trCall P c with
 | some sz, some (.call f (_ :: rest)) => some (.calln sz f rest)
 | _, r => r
def dataCall (o : Option DOp) : Option DOp := match o with
 | some (.call f args) => some (.calld f args)
 | r => r
def vecCall (b : Bool) (o : Option DOp) : Option DOp := if b then (match o with
 | some (.app false et sz bytes s x) => some (.vapp et sz bytes s x)
 | r => r) else o
def keyZero (t : TypeId) : Option FV := match P.underlying t with
 | some (.int k) => some (.int k 0)
 | some .string => some (.str ⟨#[]⟩)
 | some .bool => some (.bool false)
 | _ => none
def trOp (imm : Nat → Bool) (o : Oper) : Option DOp := match o.op with
 | .move x | .assign x => if frzM imm o then (trOpd P o.type x).map .frz else trMove P imm o x
 | .pick c a b => match trOpd P 4 c, trOpd P o.type a, trOpd P o.type b with
  | some c, some a, some b => some (.pick c a b)
  | _, _, _ => none
 | .alloc t => (zeroCellsOf P t).map fun z => .alloc (minted z.1 z.2) (tagOf P t)
 | .box t x => if vecM imm o then (trOpd P t x).map .boxn else (trOpd P t x).map (.box (match o.dst with | some d => imm d | none => false))
 | .load t x => match isAggB P t, trOpd P 0 x with
  | some n, some x => some (if n.isSome && (match o.dst with | some d => imm d | none => false) then .loadk n x else .load n x)
  | _, _ => none
 | .store t x v => match P.info? t, trOpd P 0 x, trOpd P t v with
  | some i, some x, some v => some (if nilOpd imm v then .storen i.size x v else .store i.size x v)
  | _, _, _ => none
 | .binOp op xt x y yt => trBin P op xt yt x y
 | .unOp op t x => (trOpd P t x).map (.un op)
 | .convert src dst x => match P.underlying src, P.underlying dst, trOpd P src x with
  | some _, some (.int k), some x => some (.cvt k x)
  | some (.slice e), some .string, some x => match P.underlying e with
   | some (.int .u8) => some (.bstr x)
   | _ => none
  | some (.int _), some .string, some x => some (.rstr x)
  | some (.slice _), some (.slice e), some x => if src = dst then match P.underlying e with
   | some (.int .u8) => some (.mark x)
   | _ => none else none
  | some .string, some (.slice e), some x => match P.underlying e, P.info? e with
   | some (.int .u8), some i => if i.size = 1 ∧ P.cellsOf e = 1 then some (.sbytes x) else none
   | _, _ => none
  | _, _, _ => none
 | .range t x => match P.underlying t, trOpd P t x with
  | some .string, some x => some (.rng x)
  | _, _ => none
 | .next x true => (trOpd P 0 x).map .next
 | .typeAssert x t1 t comma => match P.underlying t, (P.info? t).bind fun i => i.zero.bind (trConst P t), trOpd P t1 x with
  | some (.interface _), _, _ => none
  | some _, some zf, some x => some (.tass t comma zf x)
  | _, _, _ => none
 | .fieldAddr s x f => match P.underlying s with
  | some (.struct fields) => match fields[f]? with
   | some fl => match P.info? fl.type, trOpd P 0 x with
    | some i, some x => if i.size = 0 then none else some (.addOff fl.offset x)
    | _, _ => none
   | none => none
  | _ => none
 | .field s x f => match P.underlying s with
  | some (.struct fields) => match fields[f]? with
   | some fl => match isAggB P fl.type, trOpd P s x with
    | some n, some x => some (.fld n fl.offset x)
    | _, _ => none
   | none => none
  | _ => none
 | .indexAddr t x i => trIdxAddr P t x i
 | .index t x i => match P.underlying t, trOpd P t x, trOpd P 3 i with
  | some .string, some x, some i => some (.idxStr x i)
  | some (.array n e), some x, some i => match P.info? e, isAggB P e with
   | some info, some m => some (.idxVal n info.size m x i)
   | _, _ => none
  | _, _, _ => none
 | .slice t x lo hi mx => trSlice P (match o.dst with | some d => imm d | none => false) t x lo hi mx
 | .extract x i => (trOpd P 0 x).map (.ext i)
 | .buildSlice t len parts => match P.underlying t with
  | some (.slice e) => match P.info? e, zeroCellsOf P e, parts.toList.mapM (fun p => (trOpd P e p.2).map (Prod.mk p.1)) with
   | some i, some z, some ps => some (if vecM imm o then .vlit (tagE P e) i.size len z.2 ps else .lit (match o.dst with | some d => imm d | none => false) (tagE P e) i.size len z.2 ps)
   | _, _, _ => none
  | _ => none
 | .build t parts => match P.underlying t with
  | some (.struct fields) => match fields.toList.mapM (fun f => (P.info? f.type).map fun i => (f.offset, i.size)) with
   | some places => match zeroCellsOf P t, parts.toList.mapM (fun p => match places[p.1]?, fields[p.1]? with
     | some pl, some fl => (trOpd P fl.type p.2).map fun x => (pl.1, pl.2, x)
     | _, _ => none) with
    | some z, some ps => some (.build (if (match o.dst with | some d => imm d | none => false) then nilz z.2 else z.2) ps)
    | _, _ => none
   | none => none
  | some (.array _ e) => match P.info? e with
   | some i => match zeroCellsOf P t, parts.toList.mapM (fun p => (trOpd P e p.2).map fun x => (p.1 * i.size, i.size, x)) with
    | some z, some ps => some (.build z.2 ps)
    | _, _ => none
   | none => none
  | _ => none
 | .call c => if (match o.dst with | some d => imm d | none => false) then dataCall (trCallN P c) else vecCall (vecM imm o) (trCallN P c)
 | .makeSlice t n c => match P.underlying t with
  | some (.slice e) => match P.info? e, zeroCellsOf P e, trOpd P 3 n, trOpd P 3 c with
   | some i, some z, some n, some c => some (.vmake (match o.dst with | some d => imm d | none => false) (tagE P e) i.size i.bytes z.2 n c)
   | _, _, _, _ => none
  | _ => none
 | .makeMap t none => match P.underlying t with
  | some (.map _ _) => some .mkmap
  | _ => none
 | .lookup t x i comma => match P.underlying t with
  | some (.map k e) => match (P.info? e).bind fun i => i.zero.bind (trConst P e), trOpd P t x, trOpd P k i, keyZero P k with
   | some zf, some x, some i, some kz => some (.mlook comma kz zf x i)
   | _, _, _, _ => none
  | _ => none
 | .mapUpdate t m k v => match P.underlying t with
  | some (.map kt e) => match trOpd P t m, trOpd P kt k, trOpd P e v, keyZero P kt with
   | some m, some k, some v, some kz => some (.mupd kz m k v)
   | _, _, _, _ => none
  | _ => none
 | .makeFunc fn p q => match p.toList.mapM (trOpd P 0), q.toList.mapM (trOpd P 0) with
  | some p, some q => some (.mkf fn p q)
  | _, _ => none
 | .nilCheck x => (trOpd P 0 x).map .nilchk
 | .makeInterface t x => match P.underlying t, trOpd P t x with
  | some (.interface _), _ => none
  | some _, some x => some (.mki t x)
  | _, _ => none
 | .panic x => (trOpd P 0 x).map .panic
 | _ => none
def trGuard (ops : Array Oper) : Option (Nat × Bool) → Option (Option (Nat × Bool))
 | none => some none
 | some (j, b) => match (ops[j]?).bind (·.dst) with
  | some t => some (some (t, b))
  | none => none
def trOper (imm : Nat → Bool) (ops : Array Oper) (o : Oper) : Option DOper :=
 match trOp P imm o, trGuard ops o.guard with
 | some op, some g => some ⟨o.dst, op, g⟩
 | none, some g => some ⟨o.dst, .stuck, g⟩
 | _, none => none
theorem trOper_cases {imm : Nat → Bool} {ops : Array Oper} {o : Oper} {d : DOper} (h : trOper P imm ops o = some d) : ∃ op g, d = ⟨o.dst, op, g⟩ ∧ trGuard ops o.guard = some g ∧ (trOp P imm o = some op ∨ op = .stuck) := by
 unfold trOper at h
 split at h
 ·rename_i op g h1 h2
  exact ⟨op, g, by simpa using h.symm, h2, .inl h1⟩
 ·rename_i g h1 h2
  exact ⟨.stuck, g, by simpa using h.symm, h2, .inr rfl⟩
 ·cases h
structure Marks where
 cut : Nat → Bool
 hd : Nat → List Bool
 ex : Nat → List Bool
 imm : Nat → Bool
 alts : Nat → List (List Nat) := fun _ => []
 sn : Nat → List Bool := fun _ => []
 keep : Nat := 0
def firstRegion : Code → Nat
 | .region id _ _ => id
 | .seq a _ => firstRegion a
 | .cond _ t _ => firstRegion t
 | .block _ b => firstRegion b
 | .loop b => firstRegion b
 | _ => 0
def edgesOf (o : Oper) : List Nat := (o.after.toList.filter (Region.binds .any)).map (·.on)
def depsOf (ops : Array Oper) : List (List Nat) := ops.toList.map edgesOf
def bitsOf (acc : List Nat) : List Nat → Nat
 | [] => 0
 | j :: r => bitsOf acc r ||| (1 <<< j) ||| acc.getD j 0
def closureOf : List (List Nat) → List Nat → List Nat
 | [], acc => acc
 | d :: r, acc => closureOf r (acc ++ [bitsOf acc d])
def orients : List (Nat × Nat) → List (List (Nat × Nat))
 | [] => [[]]
 | (j, i) :: r => (orients r).flatMap fun e => [(j, i) :: e, (i, j) :: e]
def agrees (τ : List Nat) (ε : List (Nat × Nat)) : Bool := ε.all fun p => decide (τ.idxOf p.1 < τ.idxOf p.2)
def lnk (clo : List Nat) (p q : Nat × Nat) : Bool := p.2 == q.1 || (clo.getD q.1 0).testBit p.2
def incons (clo : List Nat) (ε : List (Nat × Nat)) : Bool :=
 ε.any fun p => ε.any fun q => lnk clo p q && (lnk clo q p || ε.any fun r => lnk clo q r && lnk clo r p)
def conflicts (n : Nat) (clo : List Nat) (dl : List DOper) : List (Nat × Nat) :=
 (List.range n).flatMap fun i => ((List.range i).filter fun j => !(clo.getD i 0).testBit j && !(dl.getD j default).comm (dl.getD i default)).map fun j => (j, i)
def nodupB : List Nat → Bool
 | [] => true
 | x :: r => !r.contains x && nodupB r
def goodOrder (n : Nat) (deps : List (List Nat)) (τ : List Nat) : Bool :=
 nodupB τ && τ.all (fun i => decide (i < n)) && (List.range n).all (fun i => τ.contains i) && (List.range n).all fun i => (deps.getD i []).all fun j => decide (τ.idxOf j < τ.idxOf i)
def forwardB : List (List Nat) → Nat → Bool
 | [], _ => true
 | d :: r, i => d.all (fun j => decide (j < i)) && forwardB r (i + 1)
def drawOk (ops : Array Oper) (dl : List DOper) (alts : List (List Nat)) : Bool :=
 let deps := depsOf ops
 let clo := closureOf deps []
 let orders := List.range ops.size :: alts
 forwardB deps 0 && orders.all (goodOrder ops.size deps) && (orients (conflicts ops.size clo dl)).all fun ε => incons clo ε || orders.any (agrees · ε)
def ordered (dl : List DOper) (τ : List Nat) : List DOper := τ.map fun i => dl.getD i default
def gid (l : Nat) : Nat := 1000000 + l
def kid (l : Nat) : Nat := 2000000 + l
def alabels : ACode → List Nat
 | .seq a b => alabels a ++ alabels b
 | .block id .skip => if 3000000 ≤ id then [id - 3000000] else []
 | _ => []
def afind : ACode → Nat → Option ACode
 | .seq a b, l => match afind a l with
  | some r => some (.seq r b)
  | none => afind b l
 | .block id .skip, l => if id = 3000000 + l then some .skip else none
 | _, _ => none
def scopeA (M : Marks) (A : ACode) : Option ACode := match alabels A with
 | [] => some A
 | [l] => match afind A l with
  | some R => if l < 1000000 then some (.block (kid l) (.seq (.block (gid l) (.seq A (.exit (kid l)))) (.loop (M.cut (5000000 + l)) (M.hd (5000000 + l)) (M.ex (5000000 + l)) (.block (gid l) (.seq R (.exit (kid l))))))) else some .stuck
  | none => some .stuck
 | _ => some .stuck
def trCode (M : Marks) : Code → Option ACode
 | .skip => some .skip
 | .region id ops draw => match ops.toList.mapM (trOper P M.imm ops) with
  | none => none
  | some dl => if draw then (if P.follows .mixedOrders && drawOk ops dl (M.alts id) then some (.draw dl ((M.alts id).map (ordered dl))) else some .stuck) else some (.region dl)
 | .seq a b => match trCode M a, trCode M b with
  | some a, some b => some (.seq a b)
  | _, _ => none
 | .cond c t e => match trOpd P 4 c, trCode M t, trCode M e with
  | some c, some t, some e => some (.cond c t e)
  | _, _, _ => none
 | .block id b => if id < 1000000 then (trCode M b).map (.block id) else none
 | .loop b => (trCode M b).map (.loop (M.cut (firstRegion b)) (M.hd (firstRegion b)) (M.ex (firstRegion b)))
 | .rangeFunc f ps as_ bd => match trOpd P 0 f, trCode M as_, trCode M bd with
  | some f, some A, some B => if A.noRange && B.noRange then some (.rangeFn f ps.toList (M.sn (firstRegion bd)) A B) else none
  | _, _, _ => none
 | .exit id => some (if id < 1000000 then .exit id else .stuck)
 | .ret => some .ret
 | .refuse _ => some .stuck
 | .scope c => (trCode M c).bind (scopeA M)
 | .label l => if l < 1000000 then some (.block (3000000 + l) .skip) else none
 | .goto l => some (if l < 1000000 then .exit (gid l) else .stuck)
def trRes : ResultVar → Option DRes
 | .tmp t => some (.tmp t)
 | .cell a t => (isAggB P t).map fun n => .cell n a
def trFunc (M : Marks) (coe : Bool) (F : Func) : Option AFunc :=
 match F.body, F.results.toList.mapM (trRes P) with
 | some b, some rs => (trCode P M b).map fun c => { ntmps := F.ntmps, results := rs, body := c, coe := coe, keep := M.keep }
 | _, _ => none
def isVal : Callee → Option Nat
 | .value (.tmp t) => some t
 | _ => none
def isRec : Callee → Bool
 | .builtin .recover => true
 | _ => false
def isGuard : List Oper → Option (Nat × FuncId × List Operand)
 | [o1, o2] => match o1.dst, o1.op, o1.guard, o2.dst, o2.op, o2.guard with
  | some t, .makeFunc (.func f) cs caps, none, none, .defer c, none => if cs.size = 0 ∧ c.args.size = 0 ∧ isVal c.callee = some t then some (t, f, caps.toList) else none
  | _, _, _, _, _, _ => none
 | _ => none
def peelG : Code → Option (List Code × Array Oper × Code)
 | .seq x y => match x with
  | .region _ ops false => if (isGuard ops.toList).isSome then some ([], ops, y) else (peelG y).map fun r => (x :: r.1, r.2)
  | _ => (peelG y).map fun r => (x :: r.1, r.2)
 | _ => none
def trMv (o : Oper) : Option (Nat × Opd) := match o.dst, o.op, o.guard with
 | some d, .move x, none => (trOpd P o.type x).map fun x => (d, x)
 | some d, .assign x, none => (trOpd P o.type x).map fun x => (d, x)
 | _, _, _ => none
def trClo (M : Marks) (F : Func) : Option (Nat × List (Nat × Opd) × ACode) := match F.body with
 | some (.seq (.region _ ops false) y) => match ops.toList with
  | o :: os => match o.dst, o.op, o.guard, os.mapM (trMv P), trCode P M y with
   | some d, .call c, none, some l, some A => if isRec c.callee = true ∧ F.results.size = 0 ∧ A.noRange = true then some (d, l, A) else none
   | _, _, _, _, _ => none
  | [] => none
 | _ => none
def trFuncG (M Mc : Marks) (coe : Bool) (F : Func) : Option AFunc :=
 match F.body, F.results.toList.mapM (trRes P) with
 | some b, some rs => match peelG b with
  | some (pre, ops, rest) => match isGuard ops.toList with
   | some (t, f, caps) => match pre.mapM (trCode P M), trCode P M rest, caps.mapM (trOpd P 0), P.funcs[f]? with
    | some pre', some rest', some caps', some cl => match trClo P Mc cl with
     | some (d, l, A) => if (cl.name == "runtime.NumGoroutine") = false ∧ (pre'.all ACode.noRange) = true then some { ntmps := F.ntmps, results := rs, body := rest', coe := coe, keep := M.keep, guard := some { pre := pre', caps := caps', slot := t, dst := d, ops := l, code := A, ntmps := cl.ntmps } } else none
     | none => none
    | _, _, _, _ => none
   | none => none
  | none => none
 | _, _ => none
end
def LSt.fits : LSt → LoopState → Option Code → Prop
 | .ready, .ready, none => True
 | .busy, .busy, none => True
 | .done (some i), .done, some (.exit j) => i = j ∧ i < 1000000
 | .done (some i), .done, some (.goto l) => i = gid l ∧ l < 1000000
 | .done none, .done, some .ret => True
 | _, _, _ => False
structure LoopOk (P : Program) (ps : List Nat) (as_ bd : ACode) (st : LSt) (r : Loop) : Prop where
 params : r.params.toList = ps
 code : ∃ M, trCode P M r.assign = some as_ ∧ trCode P M r.body = some bd
 norange : as_.noRange = true ∧ bd.noRange = true
 state : st.fits r.state r.pending
abbrev Glob := Nat → Nat → Option Value → Prop
def OwnOk (S : Settled) (w : World) (ri : RI) (r : Res) : Prop := match r with
 | .vec sz l fz et => ∃ b C c e, ri = .vec b C sz ∧ w.heap[b]? = some (.cells c e (0, 0)) ∧ 0 < sz ∧ (et = 0 ∨ e = et) ∧ C * sz ≤ c.size ∧ l.length ≤ C ∧ fz ≤ l.length ∧ (∀ x, fz * sz ≤ x → ¬ S b x) ∧
  ∀ (k : Nat) (c' : List FV), l[k]? = some c' → c'.length = sz ∧ ∀ (j : Nat) (x : FV), c'[j]? = some x → x.one = true ∧ RepF S w (c.getD (k * sz + j) undef) x
 | .map l => ∃ b es ck, ri = .box b ∧ w.heap[b]? = some (.map es ck) ∧ es.size = l.length ∧ (∀ o, ¬ S b o) ∧
  ∀ (j : Nat) (k v : FV), l[j]? = some (k, v) → ∃ e, es[j]? = some e ∧ RepF S w e.key k ∧ RepF S w e.val v
 | _ => True
structure Inv (P : Program) (G : Glob) (S : Settled) (ρ : List RI) (h : List Res) (w : World) : Prop where
 len : ρ.length = h.length
 bound : ∀ b o, S b o → b < w.heap.size
 glob : ∀ b o v, G b o v → S b o ∧ w.cell? ⟨b, o, none⟩ = v
 low : ∀ (i b : Nat) (r : RI), ρ[i]? = some r → r.block = some b → b < w.heap.size
 apart : ∀ (i j b : Nat) (r r' : RI), ρ[i]? = some r → ρ[j]? = some r' → r.block = some b → r'.block = some b → i = j
 box : ∀ (i : Nat) (cells : List DV) (tag : Nat), h[i]? = some (.box cells tag) → ∃ b c e, ρ[i]? = some (.box b) ∧ w.heap[b]? = some (.cells c e (0, 0)) ∧ (c.size = cells.length ∧ (tag = 0 ∨ e = tag)) ∧
  (∀ (j : Nat) (x : DV), cells[j]? = some x → x.one = true ∧ x.low (i + 1) = true ∧ RepD S ρ h w (c.getD j undef) x) ∧ ∀ o, ¬ S b o
 nilrow : ∀ (i : Nat), h[i]? = some Res.nilrow → ρ[i]? = some (RI.row (.slice none 0 0))
 row : ∀ (i sz n et : Nat), h[i]? = some (.row sz n et) → ∃ b o cap c e, ρ[i]? = some (.row (.slice (some ⟨b, o, none⟩) n cap)) ∧ w.heap[b]? = some (.cells c e (0, 0)) ∧ (0 < sz ∧ (et = 0 ∨ (e = et ∧ o = 0))) ∧ n ≤ cap ∧ o + cap * sz ≤ c.size ∧
  ∀ x, o + n * sz ≤ x → ¬ S b x
 iter : ∀ (i : Nat) (s : ByteArray) (pos : Nat), h[i]? = some (.iter s pos) → ∃ b, ρ[i]? = some (.box b) ∧ w.heap[b]? = some (.stringIter s pos)
 loop : ∀ (i : Nat) (ps : List Nat) (as_ bd : ACode) (snap : List DV) (st : LSt), h[i]? = some (.loop ps as_ bd snap st) → ∃ b r, ρ[i]? = some (.box b) ∧ w.heap[b]? = some (.loop r) ∧ LoopOk P ps as_ bd st r ∧ r.tmps.size = snap.length ∧
  (∀ (j : Nat) (x : DV), snap[j]? = some x → x.low i = true ∧ RepD S ρ h w (r.tmps.getD j undef) x)
 own : ∀ (i : Nat) (r : Res), h[i]? = some r → ∃ ri, ρ[i]? = some ri ∧ OwnOk S w ri r
theorem OwnOk.mono {S S' : Settled} {w w' : World} {ri : RI} {r : Res} (settled : ∀ b o, S b o → S' b o) (cells : ∀ b o, S b o → w'.cell? ⟨b, o, none⟩ = w.cell? ⟨b, o, none⟩)
  (hb : ∀ b, ri.block = some b → w'.heap[b]? = w.heap[b]? ∧ ∀ o, S' b o → S b o) (h : OwnOk S w ri r) : OwnOk S' w' ri r := by
 cases r with
 | vec sz l fz et =>
  obtain ⟨b, C, c, e, rfl, g2, g3, g4, g5, g6, g7, g8, g9⟩ := h
  obtain ⟨o1, o2⟩ := hb b rfl
  exact ⟨b, C, c, e, rfl, by rw [o1]; exact g2, g3, g4, g5, g6, g7, fun x hx hs => g8 x hx (o2 x hs), fun k c' hk => ⟨(g9 k c' hk).1, fun j x hx => ⟨((g9 k c' hk).2 j x hx).1, ((g9 k c' hk).2 j x hx).2.mono settled cells⟩⟩⟩
 | map l =>
  obtain ⟨b, es, ck, rfl, g2, g3, g4, g5⟩ := h
  obtain ⟨o1, o2⟩ := hb b rfl
  exact ⟨b, es, ck, rfl, by rw [o1]; exact g2, g3, fun o ho => g4 o (o2 o ho), fun j k v hj => by
   obtain ⟨e, h1, h2, h3⟩ := g5 j k v hj
   exact ⟨e, h1, h2.mono settled cells, h3.mono settled cells⟩⟩
 | _ => trivial
end Go.Deepv
set_option linter.unusedVariables false
set_option linter.unusedSimpArgs false
namespace Go.Deepv
open Go.RowKit
section
variable {P : Program} {G : Glob} {S S' S'' : Settled} {ρ ρ' ρ'' : List RI} {h h' h'' : List Res} {w w' w'' : World}
theorem Ext.refl (S : Settled) (ρ : List RI) (h : List Res) (w : World) : Ext S ρ h w S ρ h w where
 settled := fun _ _ x => x
 cells := fun _ _ _ => rfl
 len := Nat.le_refl _
 boxes := fun _ _ x => x
 rows := fun t n' _ hn => ⟨n', hn, Nat.le_refl _, fun _ => rfl⟩
 size := Nat.le_refl _
 os := rfl
 tape := rfl
 output := rfl
 frame := fun _ _ _ => rfl
 blocks := fun i b r hr hb => .inr ⟨i, r, hr, hb, id⟩
 fresh := fun _ _ x => .inl x
theorem Ext.trans (E : Ext S ρ h w S' ρ' h' w') (E' : Ext S' ρ' h' w' S'' ρ'' h'' w'') : Ext S ρ h w S'' ρ'' h'' w'' where
 settled := fun b o x => E'.settled b o (E.settled b o x)
 cells := fun b o x => (E'.cells b o (E.settled b o x)).trans (E.cells b o x)
 len := Nat.le_trans E.len E'.len
 boxes := fun id b x => E'.boxes id b (E.boxes id b x)
 rows := fun t n2 ht hn => by
  obtain ⟨n1, h1, l1, e1⟩ := E'.rows t n2 (Nat.lt_of_lt_of_le ht E.len) hn
  obtain ⟨n0, h0, l0, e0⟩ := E.rows t n1 ht h1
  exact ⟨n0, h0, by omega, fun he => (e1 (by omega)).trans (e0 (by omega))⟩
 size := Nat.le_trans E.size E'.size
 os := E'.os.trans E.os
 tape := E'.tape.trans E.tape
 output := E'.output.trans E.output
 frame := fun b hb hn => by
  rw [E'.frame b (Nat.lt_of_lt_of_le hb E.size) (fun i r hr he => ?_), E.frame b hb hn]
  rcases E.blocks i b r hr he with h1 | ⟨j, r0, hj, hb0, _⟩
  ·omega
  ·exact hn j r0 hj hb0
 blocks := fun i b r hr hb => by
  rcases E'.blocks i b r hr hb with h1 | ⟨j, r0, hj, hb0, hk⟩
  ·exact .inl (Nat.le_trans E.size h1)
  ·rcases E.blocks j b r0 hj hb0 with h2 | ⟨j', r1, hj', hb1, hk'⟩
   ·exact .inl h2
   ·exact .inr ⟨j', r1, hj', hb1, fun x => hk' (hk x)⟩
 fresh := fun b o x => by
  rcases E'.fresh b o x with h1 | h1 | ⟨i, r, hr, hk, hb⟩
  ·exact E.fresh b o h1
  ·exact .inr (.inl (Nat.le_trans E.size h1))
  ·rcases E.blocks i b r hr hb with h2 | ⟨j, r0, hj, hb0, hk0⟩
   ·exact .inr (.inl h2)
   ·exact .inr (.inr ⟨j, r0, hj, hk0 hk, hb0⟩)
theorem cell?_heap {b o : Nat} (e : w'.heap[b]? = w.heap[b]?) : w'.cell? ⟨b, o, none⟩ = w.cell? ⟨b, o, none⟩ := by
 simp only [World.cell?, e]
theorem ext_quiet (hh : w'.heap = w.heap) (ho : w'.os = w.os) (ht : w'.tape = w.tape) (hp : w'.output = w.output) : Ext S ρ h w S ρ h w' :=
 { Ext.refl S ρ h w with
  cells := fun b o _ => cell?_heap (by rw [hh])
  size := by rw [hh]; exact Nat.le_refl _
  os := ho, tape := ht, output := hp
  frame := fun b _ _ => by rw [hh] }
theorem inv_quiet (hi : Inv P G S ρ h w) (hh : w'.heap = w.heap) (ho : w'.os = w.os) (ht : w'.tape = w.tape) (hp : w'.output = w.output) : Inv P G S ρ h w' where
 len := hi.len
 bound := fun b o x => by rw [hh]; exact hi.bound b o x
 glob := fun b o v g => ⟨(hi.glob b o v g).1, (cell?_heap (by rw [hh])).trans (hi.glob b o v g).2⟩
 low := fun i b r h1 h2 => by rw [hh]; exact hi.low i b r h1 h2
 apart := hi.apart
 box := fun i cells tag h1 => by
  obtain ⟨b, c, e, g1, g2, g3, g4, g5⟩ := hi.box i cells _ h1
  exact ⟨b, c, e, g1, by rw [hh]; exact g2, g3, fun j x hx => ⟨(g4 j x hx).1, (g4 j x hx).2.1, (g4 j x hx).2.2.mono (ext_quiet hh ho ht hp)⟩, g5⟩
 nilrow := hi.nilrow
 row := fun i sz n et h1 => by
  obtain ⟨b, o, cap, c, e, g1, g2, g3⟩ := hi.row i sz n et h1
  exact ⟨b, o, cap, c, e, g1, by rw [hh]; exact g2, g3⟩
 iter := fun i s pos h1 => by
  obtain ⟨b, g1, g2⟩ := hi.iter i s pos h1
  exact ⟨b, g1, by rw [hh]; exact g2⟩
 loop := fun i ps as_ bd snap st h1 => by
  obtain ⟨b, r, g1, g2, g3, g4, g5⟩ := hi.loop i ps as_ bd snap st h1
  exact ⟨b, r, g1, by rw [hh]; exact g2, g3, g4, fun j x hx => ⟨(g5 j x hx).1, (g5 j x hx).2.mono (ext_quiet hh ho ht hp)⟩⟩
 own := fun i r h1 => by
  obtain ⟨ri, g1, g2⟩ := hi.own i r h1
  exact ⟨ri, g1, g2.mono (fun _ _ x => x) (fun b o _ => cell?_heap (by rw [hh])) fun b _ => ⟨by rw [hh], fun _ x => x⟩⟩
theorem heap_alloc_lt (w : World) (o : Obj) {b : Nat} (hb : b < w.heap.size) : (w.alloc o).heap[b]? = w.heap[b]? := Below.heap_alloc w o b hb
theorem heap_alloc_at (w : World) (o : Obj) : (w.alloc o).heap[w.heap.size]? = some o := by
 show (w.heap.push o)[w.heap.size]? = _
 simp
theorem size_alloc (w : World) (o : Obj) : (w.alloc o).heap.size = w.heap.size + 1 := by
 show (w.heap.push o).size = _
 simp
theorem ext_alloc (hi : Inv P G S ρ h w) (o : Obj) (N : Nat → Prop) (rs : List RI) (hs : List Res) (hrs : ∀ (r : RI) (b : Nat), r ∈ rs → r.block = some b → b = w.heap.size) :
  Ext S ρ h w (fun b x => S b x ∨ (b = w.heap.size ∧ N x)) (ρ ++ rs) (h ++ hs) (w.alloc o) where
 settled := fun b o x => .inl x
 cells := fun b x hx => cell?_heap (heap_alloc_lt w o (hi.bound b x hx))
 len := by simp
 boxes := fun id b x => by rw [List.getElem?_append_left (List.getElem?_eq_some_iff.1 x).1]; exact x
 rows := fun t n' ht hn => by
  rw [List.getElem?_append_left ht] at hn
  exact ⟨n', hn, Nat.le_refl _, fun _ => by rw [List.getElem?_append_left (by rw [hi.len]; exact ht)]⟩
 size := by rw [size_alloc]; omega
 os := rfl
 tape := rfl
 output := rfl
 frame := fun b hb _ => heap_alloc_lt w o hb
 blocks := fun i b r hr hb => by
  rcases Nat.lt_or_ge i ρ.length with hl | hl
  ·rw [List.getElem?_append_left hl] at hr
   exact .inr ⟨i, r, hr, hb, id⟩
  ·rw [List.getElem?_append_right hl] at hr
   have := hrs r b (List.mem_of_getElem? hr) hb
   exact .inl (by omega)
 fresh := fun b o x => by
  rcases x with x | ⟨rfl, _⟩
  ·exact .inl x
  ·exact .inr (.inl (Nat.le_refl _))
theorem inv_alloc_old (hi : Inv P G S ρ h w) (o : Obj) (N : Nat → Prop) (rs : List RI) (hs : List Res) (hrs : ∀ (r : RI) (b : Nat), r ∈ rs → r.block = some b → b = w.heap.size) (hlen : rs.length = hs.length)
  (h1 : ∀ (i j b : Nat) (r r' : RI), rs[i]? = some r → rs[j]? = some r' → r.block = some b → r'.block = some b → i = j)
  (hbox : ∀ (i : Nat) (cells : List DV) (tag : Nat), hs[i]? = some (.box cells tag) → ∃ b c e, rs[i]? = some (.box b) ∧ (w.alloc o).heap[b]? = some (.cells c e (0, 0)) ∧ (c.size = cells.length ∧ (tag = 0 ∨ e = tag)) ∧
   (∀ (j : Nat) (x : DV), cells[j]? = some x → x.one = true ∧ x.low (h.length + i + 1) = true ∧ RepD (fun b x => S b x ∨ (b = w.heap.size ∧ N x)) (ρ ++ rs) (h ++ hs) (w.alloc o) (c.getD j undef) x) ∧ ∀ o, ¬ (S b o ∨ (b = w.heap.size ∧ N o)))
  (hnil : ∀ (i : Nat), hs[i]? = some Res.nilrow → rs[i]? = some (RI.row (.slice none 0 0)))
  (hrow : ∀ (i sz n et : Nat), hs[i]? = some (.row sz n et) → ∃ b o' cap c e, rs[i]? = some (.row (.slice (some ⟨b, o', none⟩) n cap)) ∧ (w.alloc o).heap[b]? = some (.cells c e (0, 0)) ∧ (0 < sz ∧ (et = 0 ∨ (e = et ∧ o' = 0))) ∧ n ≤ cap ∧ o' + cap * sz ≤ c.size ∧
   ∀ x, o' + n * sz ≤ x → ¬ (S b x ∨ (b = w.heap.size ∧ N x)))
  (hiter : ∀ (i : Nat) (s : ByteArray) (pos : Nat), hs[i]? = some (.iter s pos) → ∃ b, rs[i]? = some (.box b) ∧ (w.alloc o).heap[b]? = some (.stringIter s pos))
  (hloop : ∀ (i : Nat) (ps : List Nat) (as_ bd : ACode) (snap : List DV) (st : LSt), hs[i]? = some (.loop ps as_ bd snap st) → ∃ b r, rs[i]? = some (.box b) ∧ (w.alloc o).heap[b]? = some (.loop r) ∧ LoopOk P ps as_ bd st r ∧ r.tmps.size = snap.length ∧
   (∀ (j : Nat) (x : DV), snap[j]? = some x → x.low (h.length + i) = true ∧ RepD (fun b x => S b x ∨ (b = w.heap.size ∧ N x)) (ρ ++ rs) (h ++ hs) (w.alloc o) (r.tmps.getD j undef) x) := by intro i ps as_ bd snap st hc; rcases i with _ | i <;> simp at hc)
  (hown : ∀ (i : Nat) (r : Res), hs[i]? = some r → ∃ ri, rs[i]? = some ri ∧ OwnOk (fun b x => S b x ∨ (b = w.heap.size ∧ N x)) (w.alloc o) ri r := by
   intro i r hc
   rcases i with _ | i
   ·simp at hc
    try subst hc
    try exact ⟨_, rfl, trivial⟩
   ·simp at hc) :
  Inv P G (fun b x => S b x ∨ (b = w.heap.size ∧ N x)) (ρ ++ rs) (h ++ hs) (w.alloc o) := by
 have E := ext_alloc hi o N rs hs hrs
 have lo : ∀ (i b : Nat) (r : RI), ρ[i]? = some r → r.block = some b → (w.alloc o).heap[b]? = w.heap[b]? ∧ b ≠ w.heap.size := fun i b r hr hb => by
  have := hi.low i b r hr hb
  exact ⟨heap_alloc_lt w o this, by omega⟩
 constructor
 ·simp [hi.len, hlen]
 ·intro b x hx
  rw [size_alloc]
  rcases hx with hx | ⟨rfl, _⟩
  ·have := hi.bound b x hx
   omega
  ·omega
 ·exact fun b x v g => ⟨E.settled _ _ (hi.glob b x v g).1, (E.cells _ _ (hi.glob b x v g).1).trans (hi.glob b x v g).2⟩
 ·intro i b r hr hb
  rw [size_alloc]
  rcases Nat.lt_or_ge i ρ.length with hl | hl
  ·rw [List.getElem?_append_left hl] at hr
   have := hi.low i b r hr hb
   omega
  ·rw [List.getElem?_append_right hl] at hr
   have := hrs r b (List.mem_of_getElem? hr) hb
   omega
 ·intro i j b r r' hr hr' hb hb'
  rcases Nat.lt_or_ge i ρ.length with hl | hl <;> rcases Nat.lt_or_ge j ρ.length with hl' | hl'
  ·rw [List.getElem?_append_left hl] at hr
   rw [List.getElem?_append_left hl'] at hr'
   exact hi.apart i j b r r' hr hr' hb hb'
  ·rw [List.getElem?_append_left hl] at hr
   rw [List.getElem?_append_right hl'] at hr'
   have a1 := hi.low i b r hr hb
   have a2 := hrs r' b (List.mem_of_getElem? hr') hb'
   omega
  ·rw [List.getElem?_append_right hl] at hr
   rw [List.getElem?_append_left hl'] at hr'
   have a1 := hi.low j b r' hr' hb'
   have a2 := hrs r b (List.mem_of_getElem? hr) hb
   omega
  ·rw [List.getElem?_append_right hl] at hr
   rw [List.getElem?_append_right hl'] at hr'
   have := h1 _ _ b r r' hr hr' hb hb'
   omega
 ·intro i cells tag hc
  rcases Nat.lt_or_ge i h.length with hl | hl
  ·rw [List.getElem?_append_left hl] at hc
   obtain ⟨b, c, e, g1, g2, g3, g4, g5⟩ := hi.box i cells _ hc
   obtain ⟨l1, l2⟩ := lo i b _ g1 rfl
   exact ⟨b, c, e, E.boxes _ _ g1, by rw [l1]; exact g2, g3, fun j x hx => ⟨(g4 j x hx).1, (g4 j x hx).2.1, (g4 j x hx).2.2.mono E⟩, fun o ho => ho.elim (g5 o) fun ho => l2 ho.1⟩
  ·rw [List.getElem?_append_right hl] at hc
   obtain ⟨b, c, e, g1, g2, g3, g4, g5⟩ := hbox _ cells _ hc
   refine ⟨b, c, e, by rw [List.getElem?_append_right (by rw [hi.len]; exact hl), hi.len]; exact g1, g2, g3, fun j x hx => ⟨(g4 j x hx).1, ?_, (g4 j x hx).2.2⟩, g5⟩
   have := (g4 j x hx).2.1
   rwa [show h.length + (i - h.length) + 1 = i + 1 by omega] at this
 ·intro i hc
  rcases Nat.lt_or_ge i h.length with hl | hl
  ·rw [List.getElem?_append_left hl] at hc
   rw [List.getElem?_append_left (by rw [hi.len]; exact hl)]
   exact hi.nilrow i hc
  ·rw [List.getElem?_append_right hl] at hc
   rw [List.getElem?_append_right (by rw [hi.len]; exact hl), hi.len]
   exact hnil _ hc
 ·intro i sz n et hc
  rcases Nat.lt_or_ge i h.length with hl | hl
  ·rw [List.getElem?_append_left hl] at hc
   obtain ⟨b, o', cap, c, e, g1, g2, g3, g4, g5, g7⟩ := hi.row i sz n et hc
   obtain ⟨l1, l2⟩ := lo i b _ g1 rfl
   exact ⟨b, o', cap, c, e, by rw [List.getElem?_append_left (by rw [hi.len]; exact hl)]; exact g1, by rw [l1]; exact g2, g3, g4, g5, fun x hx hs => hs.elim (g7 x hx) fun ho => l2 ho.1⟩
  ·rw [List.getElem?_append_right hl] at hc
   obtain ⟨b, o', cap, c, e, g1, g⟩ := hrow _ sz n et hc
   exact ⟨b, o', cap, c, e, by rw [List.getElem?_append_right (by rw [hi.len]; exact hl), hi.len]; exact g1, g⟩
 ·intro i s pos hc
  rcases Nat.lt_or_ge i h.length with hl | hl
  ·rw [List.getElem?_append_left hl] at hc
   obtain ⟨b, g1, g2⟩ := hi.iter i s pos hc
   exact ⟨b, E.boxes _ _ g1, by rw [(lo i b _ g1 rfl).1]; exact g2⟩
  ·rw [List.getElem?_append_right hl] at hc
   obtain ⟨b, g1, g2⟩ := hiter _ s pos hc
   exact ⟨b, by rw [List.getElem?_append_right (by rw [hi.len]; exact hl), hi.len]; exact g1, g2⟩
 ·intro i ps as_ bd snap st hc
  rcases Nat.lt_or_ge i h.length with hl | hl
  ·rw [List.getElem?_append_left hl] at hc
   obtain ⟨b, r, g1, g2, g3, g4, g5⟩ := hi.loop i ps as_ bd snap st hc
   exact ⟨b, r, E.boxes _ _ g1, by rw [(lo i b _ g1 rfl).1]; exact g2, g3, g4, fun j x hx => ⟨(g5 j x hx).1, (g5 j x hx).2.mono E⟩⟩
  ·rw [List.getElem?_append_right hl] at hc
   obtain ⟨b, r, g1, g2, g3, g4, g5⟩ := hloop _ ps as_ bd snap st hc
   refine ⟨b, r, by rw [List.getElem?_append_right (by rw [hi.len]; exact hl), hi.len]; exact g1, g2, g3, g4, fun j x hx => ⟨?_, (g5 j x hx).2⟩⟩
   have := (g5 j x hx).1
   rwa [show h.length + (i - h.length) = i by omega] at this
 ·intro i r hc
  rcases Nat.lt_or_ge i h.length with hl | hl
  ·rw [List.getElem?_append_left hl] at hc
   obtain ⟨ri, g1, g2⟩ := hi.own i r hc
   refine ⟨ri, by rw [List.getElem?_append_left (by rw [hi.len]; exact hl)]; exact g1, g2.mono E.settled E.cells fun b hb => ?_⟩
   obtain ⟨l1, l2⟩ := lo i b _ g1 hb
   exact ⟨l1, fun o ho => ho.elim id fun ho => absurd ho.1 l2⟩
  ·rw [List.getElem?_append_right hl] at hc
   obtain ⟨ri, g1, g2⟩ := hown _ r hc
   exact ⟨ri, by rw [List.getElem?_append_right (by rw [hi.len]; exact hl), hi.len]; exact g1, g2⟩
theorem ext_rows (hi : Inv P G S ρ h w) (n : Nat) : Ext S ρ h w S (ρ ++ List.replicate n (.row (.slice none 0 0))) (h ++ List.replicate n .nilrow) w :=
 { Ext.refl S ρ h w with
  len := by simp
  boxes := fun id b x => by rw [List.getElem?_append_left (List.getElem?_eq_some_iff.1 x).1]; exact x
  rows := fun t n' ht hn => by
   rw [List.getElem?_append_left ht] at hn
   exact ⟨n', hn, Nat.le_refl _, fun _ => by rw [List.getElem?_append_left (by rw [hi.len]; exact ht)]⟩
  blocks := fun i b r hr hb => by
   rcases Nat.lt_or_ge i ρ.length with hl | hl
   ·rw [List.getElem?_append_left hl] at hr
    exact .inr ⟨i, r, hr, hb, id⟩
   ·rw [List.getElem?_append_right hl] at hr
    have := List.mem_of_getElem? hr
    simp at this
    rw [this.2] at hb
    simp [RI.block] at hb }
theorem inv_rows (hi : Inv P G S ρ h w) (n : Nat) : Inv P G S (ρ ++ List.replicate n (.row (.slice none 0 0))) (h ++ List.replicate n .nilrow) w := by
 have E := ext_rows hi n
 have old : ∀ (i : Nat) (r : RI), (ρ ++ List.replicate n (RI.row (.slice none 0 0)))[i]? = some r → ρ[i]? = some r ∨ r = .row (.slice none 0 0) := fun i r hr => by
  rcases Nat.lt_or_ge i ρ.length with hl | hl
  ·rw [List.getElem?_append_left hl] at hr
   exact .inl hr
  ·rw [List.getElem?_append_right hl] at hr
   have := List.mem_of_getElem? hr
   simp at this
   exact .inr this.2
 have oldh : ∀ (i : Nat) (r : Res), (h ++ List.replicate n Res.nilrow)[i]? = some r → (h[i]? = some r ∧ (ρ ++ List.replicate n (RI.row (.slice none 0 0)))[i]? = ρ[i]?) ∨ (r = .nilrow ∧ (ρ ++ List.replicate n (RI.row (.slice none 0 0)))[i]? = some (.row (.slice none 0 0))) := fun i r hr => by
  rcases Nat.lt_or_ge i h.length with hl | hl
  ·rw [List.getElem?_append_left hl] at hr
   exact .inl ⟨hr, List.getElem?_append_left (by rw [hi.len]; exact hl)⟩
  ·rw [List.getElem?_append_right hl] at hr
   have h1 := List.mem_of_getElem? hr
   simp at h1
   refine .inr ⟨h1.2, ?_⟩
   rw [List.getElem?_append_right (by rw [hi.len]; exact hl), hi.len]
   have := (List.getElem?_eq_some_iff.1 hr).1
   simp at this
   simp [this]
 constructor
 ·simp [hi.len]
 ·exact hi.bound
 ·exact hi.glob
 ·intro i b r hr hb
  rcases old i r hr with h1 | rfl
  ·exact hi.low i b r h1 hb
  ·simp [RI.block] at hb
 ·intro i j b r r' hr hr' hb hb'
  rcases old i r hr with h1 | rfl
  ·rcases old j r' hr' with h2 | rfl
   ·exact hi.apart i j b r r' h1 h2 hb hb'
   ·simp [RI.block] at hb'
  ·simp [RI.block] at hb
 ·intro i cells tag hc
  rcases oldh i _ hc with ⟨h1, h2⟩ | ⟨h1, _⟩
  ·obtain ⟨b, c, e, g1, g2, g3, g4, g5⟩ := hi.box i cells _ h1
   exact ⟨b, c, e, by rw [h2]; exact g1, g2, g3, fun j x hx => ⟨(g4 j x hx).1, (g4 j x hx).2.1, (g4 j x hx).2.2.mono E⟩, g5⟩
  ·cases h1
 ·intro i hc
  rcases oldh i _ hc with ⟨h1, h2⟩ | ⟨_, h2⟩
  ·rw [h2]; exact hi.nilrow i h1
  ·exact h2
 ·intro i sz k et hc
  rcases oldh i _ hc with ⟨h1, h2⟩ | ⟨h1, _⟩
  ·rw [h2]; exact hi.row i sz k et h1
  ·cases h1
 ·intro i s pos hc
  rcases oldh i _ hc with ⟨h1, h2⟩ | ⟨h1, _⟩
  ·rw [h2]; exact hi.iter i s pos h1
  ·cases h1
 ·intro i ps as_ bd snap st hc
  rcases oldh i _ hc with ⟨h1, h2⟩ | ⟨h1, _⟩
  ·obtain ⟨b, r, g1, g2, g3, g4, g5⟩ := hi.loop i ps as_ bd snap st h1
   exact ⟨b, r, by rw [h2]; exact g1, g2, g3, g4, fun j x hx => ⟨(g5 j x hx).1, (g5 j x hx).2.mono E⟩⟩
  ·cases h1
 ·intro i r hc
  rcases oldh i _ hc with ⟨h1, h2⟩ | ⟨rfl, h2⟩
  ·obtain ⟨ri, g1, g2⟩ := hi.own i r h1
   exact ⟨ri, by rw [h2]; exact g1, g2⟩
  ·exact ⟨_, h2, trivial⟩
end
end Go.Deepv

namespace Go.Deepv
open Go.RowKit
structure RepA (S : Settled) (ρ : List RI) (h : List Res) (w : World) (a : Array Value) (ad : List DV) : Prop where
  len : a.size = ad.length
  at_ : ∀ (j : Nat) (x : DV), ad[j]? = some x → RepD S ρ h w (a.getD j undef) x
theorem RepA.mono {S S' : Settled} {ρ ρ' : List RI} {h h' : List Res} {w w' : World} {a : Array Value} {ad : List DV} (E : Ext S ρ h w S' ρ' h' w') (ha : RepA S ρ h w a ad) : RepA S' ρ' h' w' a ad :=
  ⟨ha.len, fun j x hx => (ha.at_ j x hx).mono E⟩
def SimOut (P : Program) (G : Glob) (S : Settled) (ρ : List RI) (h : List Res) (w : World) (r : Result Next) : DOut → Prop
  | .val v h' => ∃ x w' S' ρ', (r = .ok (.value x) w' ∨ (r = .ok .skip w' ∧ x = undef)) ∧ RepD S' ρ' h' w' x v ∧ Ext S ρ h w S' ρ' h' w' ∧ Inv P G S' ρ' h' w'
  | .pan v h' => ∃ x w' S' ρ', r = .halt (.panic x) w' ∧ RepD S' ρ' h' w' x v ∧ Ext S ρ h w S' ρ' h' w' ∧ Inv P G S' ρ' h' w'
section
variable {P : Program} {G : Glob} {S : Settled} {ρ : List RI} {h : List Res} {w : World} {a : Act} {ad : List DV}
theorem SimOut.plain (hi : Inv P G S ρ h w) {x : Value} {v : DV} (hx : RepD S ρ h w x v) : SimOut P G S ρ h w (.ok (.value x) w) (.val v h) :=
  ⟨x, w, S, ρ, .inl rfl, hx, Ext.refl _ _ _ _, hi⟩
theorem rep_const {v : Value} {x : FV} (hc : constOk v x = true) : RepF S w v x := by
  unfold constOk at hc
  split at hc
  · simp at hc; obtain ⟨rfl, rfl⟩ := hc; exact .int _ _
  · simp at hc; subst hc; exact .bool _
  · rename_i s s'
    have : s = s' := by cases s; cases s'; simp at hc; simpa using hc
    subst this; exact .str _
  · exact .slice0 _ _ _
  · exact .nils _
  · exact .nilp
  · exact .nili
  · exact .nilf
  · exact .nilm
  · cases hc
theorem rep_consts : ∀ {vs : List Value} {fs : List FV}, constsOk vs fs = true → vs.length = fs.length ∧ ∀ (j : Nat) (x : FV), fs[j]? = some x → RepF S w (vs.getD j undef) x
  | [], [], _ => ⟨rfl, fun j x hx => by simp at hx⟩
  | v :: vs, f :: fs, hc => by
    simp only [constsOk, Bool.and_eq_true] at hc
    obtain ⟨l, r⟩ := rep_consts hc.2
    refine ⟨by simp [l], fun j x hx => ?_⟩
    cases j with
    | zero => simp at hx; subst hx; simpa using rep_const hc.1
    | succ j => simpa using r j x (by simpa using hx)
  | [], _ :: _, hc => by simp [constsOk] at hc
  | _ :: _, [], hc => by simp [constsOk] at hc
theorem rep_trConst {t : TypeId} {v : Value} {x : FV} (hc : trConst P t v = some x) : RepF S w v x := by
  unfold trConst at hc
  split at hc
  · split at hc
    · rename_i fs _ cs
      split at hc
      · rename_i hk
        simp at hc
        subst hc
        obtain ⟨l, r⟩ := rep_consts (S := S) (w := w) hk
        exact .agg _ _ (by simpa using l) (fun j x hx => by simpa [Array.getD_eq_getD_getElem?, List.getD_eq_getElem?_getD] using r j x hx)
      · cases hc
    · split at hc
      · split at hc
        · rename_i hk
          simp at hc
          subst hc
          exact rep_const hk
        · cases hc
      · cases hc
  · cases hc
theorem rep_opd (ha : RepA S ρ h w a.tmps ad) {t : TypeId} {x : Operand} {y : Opd} (ht : trOpd P t x = some y) : RepD S ρ h w (a.eval x) (ev ad y) := by
  cases x with
  | tmp t =>
    simp only [trOpd, Option.some.injEq] at ht
    subst ht
    simp only [Act.eval, ev]
    rcases Nat.lt_or_ge t ad.length with hl | hl
    · rw [List.getD_eq_getElem?_getD, List.getElem?_eq_getElem hl, Option.getD_some]
      exact ha.at_ t _ (List.getElem?_eq_getElem hl)
    · rw [List.getD_eq_getElem?_getD, List.getElem?_eq_none hl, Option.getD_none]
      exact .d _ _ (.undef _)
  | const v =>
    simp only [trOpd, Option.map_eq_some_iff] at ht
    obtain ⟨f, hf, rfl⟩ := ht
    exact .d _ _ (rep_trConst hf)
  | global g => simp [trOpd] at ht
  | func f =>
    simp only [trOpd, Option.some.injEq] at ht
    subst ht
    exact .d _ _ (.func _ _ _ _ _ rfl rfl (fun j x hx => by simp at hx) (fun j x hx => by simp at hx))
theorem repD_d {v : Value} {x : FV} (hx : RepD S ρ h w v (.d x)) : RepF S w v x := by cases hx; assumption
theorem repF_int {v : Value} {k : IntKind} {n : Int} (hx : RepF S w v (.int k n)) : v = .int k n := by cases hx; rfl
theorem repF_bool {v : Value} {b : Bool} (hx : RepF S w v (.bool b)) : v = .bool b := by cases hx; rfl
theorem repF_str {v : Value} {s : ByteArray} (hx : RepF S w v (.str s)) : v = .string s := by cases hx; rfl
theorem run_bin {op : BinOp} {t : TypeId} {x y : Operand} {vx vy : Value} {fx fy f : FV} (hx : RepF S w vx fx) (hy : RepF S w vy fy) (hd : dbin op fx fy = some f) :
    ∃ v, ((do eqGuard op t x y vx vy; binOp op t vx vy : Sem Value)).run P w = .ok v w ∧ RepF S w v f := by
  cases fx with
  | int k n =>
    cases fy with
    | int k' m =>
      obtain rfl := repF_int hx
      obtain rfl := repF_int hy
      have hg : (eqGuard op t x y (.int k n) (.int k' m)).run P w = .ok () w := by
        unfold eqGuard
        split <;> rfl
      simp only [Sem.run_bind, hg, Result.andThen_ok]
      by_cases h1 : op = .shl
      · subst h1
        simp only [dbin] at hd
        split at hd
        · cases hd
        · rename_i hn
          simp at hd
          subst hd
          exact ⟨_, by simp only [binOp, Op.shift]; rw [if_neg hn]; rfl, .int _ _⟩
      by_cases h2 : op = .shr
      · subst h2
        simp only [dbin] at hd
        split at hd
        · cases hd
        · rename_i hn
          simp at hd
          subst hd
          exact ⟨_, by simp only [binOp, Op.shift]; rw [if_neg hn]; rfl, .int _ _⟩
      have hkk : k = k' := by
        by_cases hk : k = k'
        · exact hk
        · cases op <;> simp_all [dbin]
      subst hkk
      cases op <;> simp only [dbin, ne_eq, not_true_eq_false, if_false, Option.some.injEq, reduceCtorEq] at hd h1 h2 <;> first
        | contradiction
        | (subst hd; first
            | exact ⟨_, by simp only [binOp, ne_eq, not_true_eq_false, if_false, Op.intArith, Op.intBits, Op.intCmp]; rfl, .int _ _⟩
            | exact ⟨_, by simp only [binOp, ne_eq, not_true_eq_false, if_false, Op.intArith, Op.intBits, Op.intCmp]; rfl, .bool _⟩)
        | (split at hd
           · cases hd
           · rename_i hn
             simp at hd
             subst hd
             exact ⟨_, by simp only [binOp, ne_eq, not_true_eq_false, if_false, Op.intDiv]; rw [if_neg hn]; rfl, .int _ _⟩)
    | _ => cases op <;> simp [dbin] at hd
  | str s =>
    cases fy with
    | str s' =>
      obtain rfl := repF_str hx
      obtain rfl := repF_str hy
      have hg : (eqGuard op t x y (.string s) (.string s')).run P w = .ok () w := by
        unfold eqGuard
        split <;> rfl
      simp only [Sem.run_bind, hg, Result.andThen_ok]
      cases op <;> simp only [dbin, Option.some.injEq, reduceCtorEq] at hd
      case add =>
        split at hd
        · rename_i hn
          simp at hd
          subst hd
          refine ⟨_, ?_, .str _⟩
          have hm : ¬ (((s.size + s'.size : Nat) : Int) > IntKind.i64.max) := by
            have : IntKind.i64.max = 9223372036854775807 := by decide
            rw [this]
            omega
          simp only [binOp, Op.stringOp]
          rw [if_neg hm]
          rfl
        · cases hd
      all_goals
        subst hd
        exact ⟨_, by simp only [binOp, Op.stringOp]; rfl, .bool _⟩
    | _ => cases op <;> simp [dbin] at hd
  | _ => cases op <;> simp [dbin] at hd
theorem mapM_some {α β : Type} {f : α → Option β} : ∀ {l : List α} {r : List β}, l.mapM f = some r → r.length = l.length ∧ ∀ (j : Nat) (y : β), r[j]? = some y → ∃ x, l[j]? = some x ∧ f x = some y
  | [], r, h => by
    simp at h
    subst h
    exact ⟨rfl, fun j y hy => by simp at hy⟩
  | x :: l, r, h => by
    simp only [List.mapM_cons, Option.pure_def, Option.bind_eq_bind, Option.bind_eq_some_iff, Option.some.injEq] at h
    obtain ⟨y, hy, r', hr, rfl⟩ := h
    obtain ⟨h1, h2⟩ := mapM_some hr
    refine ⟨by simp [h1], fun j z hz => ?_⟩
    cases j with
    | zero => simp at hz; subst hz; exact ⟨x, rfl, hy⟩
    | succ j => simpa using h2 j z (by simpa using hz)
theorem rep_flat {v : Value} {x : DV} {f : FV} (hx : RepD S ρ h w v x) (hf : x.flat = some f) : RepF S w v f := by
  cases hx with
  | d v x hx => simp [DV.flat] at hf; subst hf; exact hx
  | row v sz elems t hx ht hr => simp [DV.flat] at hf; subst hf; exact hx
  | _ => simp [DV.flat] at hf
theorem rep_flats {u : Nat → Value} {cs : List DV} {fs : List FV} (hx : ∀ (j : Nat) (x : DV), cs[j]? = some x → RepD S ρ h w (u j) x) (hf : cs.mapM DV.flat = some fs) :
    fs.length = cs.length ∧ ∀ (j : Nat) (x : FV), fs[j]? = some x → RepF S w (u j) x := by
  obtain ⟨h1, h2⟩ := mapM_some hf
  refine ⟨h1, fun j x hj => ?_⟩
  obtain ⟨y, hy, hfy⟩ := h2 j x hj
  exact rep_flat (hx j y hy) hfy
theorem rep_mkAgg {cs : Array Value} {fs : List DV} (hl : cs.size = fs.length) (hx : ∀ (j : Nat) (x : DV), fs[j]? = some x → RepD S ρ h w (cs.getD j undef) x) : RepD S ρ h w (.agg cs) (DV.mkAgg fs) := by
  unfold DV.mkAgg
  split
  · rename_i gs hg
    obtain ⟨h1, h2⟩ := rep_flats hx hg
    exact .d _ _ (.agg _ _ (by rw [hl, h1]) h2)
  · exact .agg _ _ hl hx
theorem rep_coe {v : Value} {x : DV} (hx : RepD S ρ h w v x) : RepD S ρ h w v x.coe := by
  cases hx with
  | d v x hx => exact .d _ _ hx
  | ptr id off b hb => exact .ptr _ _ _ hb
  | row v sz elems t hx ht hr => exact .d _ _ hx
  | agg cs fs hl hh => exact rep_mkAgg hl hh
  | clo fn p q fp fq hp hq h1 h2 => exact .clo _ _ _ _ _ hp hq h1 h2
  | tup cs fs hl hh =>
    simp only [DV.coe]
    split
    · rename_i gs hg
      obtain ⟨h1, h2⟩ := rep_flats hh hg
      exact .d _ _ (.tup _ _ (by rw [hl, h1]) h2)
    · exact .tup _ _ hl hh
  | iface t v x hh => exact .iface _ _ _ hh
  | yld id b hb => exact .yld _ _ hb
  | bslc id off n cap b hc hb => exact .bslc _ _ _ _ _ hc hb
  | rptr A p n cap elems t hx hp ht hr => exact .rptr _ _ _ _ _ _ hx hp ht hr
  | vslc b o cap id g sz off n hc ht hr => exact .vslc _ _ _ _ _ _ _ _ hc ht hr
  | eptr b o' id g k o ht hr => exact .eptr _ _ _ _ _ _ ht hr
  | mref id b hb => exact .mref _ _ hb
theorem rep_cells {v : Value} {x : DV} (hx : RepD S ρ h w v x) (h1 : x.cells.all DV.one = true) : v.cells.size = x.cells.length ∧ (∀ (j : Nat) (y : DV), x.cells[j]? = some y → RepD S ρ h w (v.cells.getD j undef) y) ∧ ∀ u ∈ v.cells.toList, u.oneCell' = true := by
  have key : v.cells.size = x.cells.length ∧ (∀ (j : Nat) (y : DV), x.cells[j]? = some y → RepD S ρ h w (v.cells.getD j undef) y) := by
    have plain : v.cells = #[v] → x.cells = [x] → v.cells.size = x.cells.length ∧ (∀ (j : Nat) (y : DV), x.cells[j]? = some y → RepD S ρ h w (v.cells.getD j undef) y) := fun e1 e2 => by
      rw [e1, e2]
      refine ⟨rfl, fun j y hy => ?_⟩
      cases j with
      | zero => simp at hy; subst hy; simpa using hx
      | succ j => simp at hy
    cases hx with
    | d v x hf =>
      cases hf with
      | agg cs fs hl hh =>
        refine ⟨by simp [Value.cells, DV.cells, hl], fun j y hy => ?_⟩
        simp only [DV.cells, List.getElem?_map, Option.map_eq_some_iff] at hy
        obtain ⟨f, hf, rfl⟩ := hy
        exact .d _ _ (hh j f hf)
      | undef v => simp [DV.cells, DV.one, FV.one] at h1
      | _ => exact plain rfl rfl
    | agg cs fs hl hh => exact ⟨by simp [Value.cells, DV.cells, hl], fun j y hy => hh j y hy⟩
    | row v sz elems t hx0 ht hr =>
      cases hx0 <;> exact plain rfl rfl
    | _ => exact plain rfl rfl
  refine ⟨key.1, key.2, fun u hu => ?_⟩
  obtain ⟨j, hj, rfl⟩ := List.getElem_of_mem hu
  have hj' : j < x.cells.length := by rw [← key.1]; simpa using hj
  have := key.2 j _ (List.getElem?_eq_getElem hj')
  have e : v.cells.getD j undef = v.cells.toList[j] := by
    rw [Array.getD_eq_getD_getElem?, Array.getElem?_eq_getElem (by simpa using hj)]
    simp
  rw [e] at this
  exact this.one ((List.all_eq_true.1 h1) _ (List.getElem_mem hj'))
theorem add_none (b o j : Nat) : (⟨b, o, none⟩ : Addr).add j = ⟨b, o + j, none⟩ := by unfold Addr.add; split <;> simp_all
theorem run_isAgg {t : TypeId} {n : Option Nat} (hn : isAggB P t = some n) : (isAgg t).run P w = .ok n.isSome w ∧ ∀ k, n = some k → (sizeOf t).run P w = .ok k w := by
  unfold isAggB at hn
  split at hn
  · rename_i h1
    simp only [Option.map_eq_some_iff] at hn
    obtain ⟨i, hi, rfl⟩ := hn
    exact ⟨by simp [isAgg, underlying, h1], fun k hk => by simp at hk; subst hk; simp [sizeOf, typeInfo, hi]⟩
  · rename_i h1
    simp only [Option.map_eq_some_iff] at hn
    obtain ⟨i, hi, rfl⟩ := hn
    exact ⟨by simp [isAgg, underlying, h1], fun k hk => by simp at hk; subst hk; simp [sizeOf, typeInfo, hi]⟩
  · rename_i d h1 h2 h3
    simp only [Option.some.injEq] at hn
    subst hn
    refine ⟨?_, fun k hk => by cases hk⟩
    cases d <;> simp_all [isAgg, underlying]
  · cases hn
def pack : Option Nat → (Nat → Value) → Value
  | none, u => u 0
  | some k, u => .agg ((List.range k).map u).toArray
theorem run_loadVar {t : TypeId} {n : Option Nat} (hn : isAggB P t = some n) (b o : Nat) (u : Nat → Value) (hc : ∀ j, j < n.getD 1 → w.cell? ⟨b, o + j, none⟩ = some (u j)) :
    (loadVar t ⟨b, o, none⟩).run P w = .ok (pack n u) w := by
  obtain ⟨h1, h2⟩ := run_isAgg (w := w) hn
  cases n with
  | none =>
    have := hc 0 (by simp)
    simp only [Nat.add_zero] at this
    simp [loadVar, h1, this, pack]
  | some k =>
    have hk := h2 k rfl
    have hl := run_loadCells (P := P) w ⟨b, o, none⟩ k u (fun j hj => by rw [add_none]; exact hc j hj)
    simp [loadVar, h1, hk, hl, pack]
theorem rep_dload {n : Option Nat} {cells : List DV} {off : Nat} {v : DV} (u : Nat → Value) (hu : ∀ (j : Nat) (x : DV), cells[j]? = some x → RepD S ρ h w (u j) x) (hd : dload n cells off = some v) :
    off + n.getD 1 ≤ cells.length ∧ RepD S ρ h w (pack n fun j => u (off + j)) v := by
  unfold dload at hd
  cases n with
  | none =>
    simp only at hd
    have := (List.getElem?_eq_some_iff.1 hd).1
    exact ⟨by simp; omega, hu off v hd⟩
  | some k =>
    simp only at hd
    split at hd
    · rename_i hk
      simp only [Option.some.injEq] at hd
      subst hd
      refine ⟨by simpa using hk, rep_mkAgg (by simp; omega) fun j x hx => ?_⟩
      have hj : j < k := by
        have := (List.getElem?_eq_some_iff.1 hx).1
        simp at this
        omega
      rw [List.getElem?_take_of_lt hj, List.getElem?_drop] at hx
      have := hu (off + j) x hx
      simpa [Array.getD_eq_getD_getElem?, hj] using this
    · cases hd
theorem own_elem (hi : Inv P G S ρ h w) {id sz k fz et : Nat} {l : List (List FV)} {c' : List FV} (hv : h[id]? = some (.vec sz l fz et)) (hk : l[k]? = some c') :
    ∃ b C c e, ρ[id]? = some (.vec b C sz) ∧ w.heap[b]? = some (.cells c e (0, 0)) ∧ 0 < sz ∧ k * sz + c'.length ≤ c.size ∧ c'.length = sz ∧ (∀ (j : Nat) (x : FV), c'[j]? = some x → x.one = true ∧ RepF S w (c.getD (k * sz + j) undef) x) := by
  obtain ⟨ri, r1, b, C, c, e, rfl, g2, g3, g4, g5, g6, g7, g8, g9⟩ := hi.own id _ hv
  obtain ⟨h1, h2⟩ := g9 k c' hk
  refine ⟨b, C, c, e, r1, g2, g3, ?_, h1, h2⟩
  have : k < l.length := (List.getElem?_eq_some_iff.1 hk).1
  have h3 : (k + 1) * sz ≤ C * sz := Nat.mul_le_mul_right _ (by omega)
  rw [Nat.add_mul, Nat.one_mul] at h3
  omega
theorem rep_place (hi : Inv P G S ρ h w) {v : Value} {x : DV} (hx : RepD S ρ h w v x) {cells : List DV} {off : Nat}
    (hp : (∃ fs, x = .d (.ref fs off) ∧ cells = fs.map .d) ∨ (∃ id tag, x = .ptr id off ∧ h[id]? = some (.box cells tag)) ∨ (∃ id k sz l fz et c, x = .eptr id l.length k off ∧ h[id]? = some (.vec sz l fz et) ∧ l[k]? = some c ∧ cells = c.map .d)) :
    ∃ (b o : Nat) (u : Nat → Value), v = .pointer (some ⟨b, o + off, none⟩) ∧ (∀ j, j < cells.length → w.cell? ⟨b, o + j, none⟩ = some (u j)) ∧ ∀ (j : Nat) (y : DV), cells[j]? = some y → RepD S ρ h w (u j) y := by
  rcases hp with ⟨fs, rfl, rfl⟩ | ⟨id, tag, rfl, hb⟩ | ⟨id, k, sz, l, fz, et, c', rfl, hv, hk, rfl⟩
  · have := repD_d hx
    cases this with
    | ref b o off cells u hc hr ho1 =>
      refine ⟨b, o, u, rfl, fun j hj => (hc j (by simpa using hj)).2, fun j y hy => ?_⟩
      simp only [List.getElem?_map, Option.map_eq_some_iff] at hy
      obtain ⟨f, hf, rfl⟩ := hy
      exact .d _ _ (hr j f hf)
  · cases hx with
    | ptr id off b hid =>
      obtain ⟨b', c, e, g1, g2, ⟨g3, _⟩, g4, g5⟩ := hi.box id cells _ hb
      have : b = b' := by rw [hid] at g1; simpa using g1
      subst this
      refine ⟨b, 0, fun j => c.getD j undef, by simp, fun j hj => ?_, fun j y hy => (g4 j y hy).2.2⟩
      simp only [World.cell?, g2, Nat.zero_add]
      have hj' : j < c.size := by omega
      simp [Array.getD_eq_getD_getElem?, hj']
  · obtain ⟨b, C, c, e, g1, g2, g3, g4, g5, g6⟩ := own_elem hi hv hk
    cases hx with
    | eptr b' o' _ _ _ _ ht hr =>
      obtain ⟨C', sz', q1, q2⟩ := (hr l.length (by rw [hv]; rfl)).2 rfl
      rw [g1] at q1
      simp only [Option.some.injEq, RI.vec.injEq] at q1
      obtain ⟨rfl, rfl, rfl⟩ := q1
      refine ⟨b, k * sz, fun j => c.getD (k * sz + j) undef, by rw [q2], fun j hj => ?_, fun j y hy => ?_⟩
      · simp only [World.cell?, g2]
        have hj' : k * sz + j < c.size := by simp at hj; omega
        simp [Array.getD_eq_getD_getElem?, hj']
      · simp only [List.getElem?_map, Option.map_eq_some_iff] at hy
        obtain ⟨f, hf, rfl⟩ := hy
        exact .d _ _ (g6 j f hf).2
theorem sim_load (hi : Inv P G S ρ h w) (ha : RepA S ρ h w a.tmps ad) {t : TypeId} {x : Operand} {n : Option Nat} {y : Opd} (hn : isAggB P t = some n) (ho : trOpd P 0 x = some y) {call : Cle → List DV → List Res → Option DOut} {out : DOut}
    (hd : dop call (.load n y) ad h = some out) : SimOut P G S ρ h w ((do pure (Next.value (← Instr.loadAt t (a.eval x))) : Sem Next).run P w) out := by
  have hx := rep_opd ha ho
  simp only [dop] at hd
  have key : ∀ (cells : List DV) (off : Nat) (v : DV), ((∃ fs, ev ad y = .d (.ref fs off) ∧ cells = fs.map .d) ∨ (∃ id tag, ev ad y = .ptr id off ∧ h[id]? = some (.box cells tag)) ∨ (∃ id k sz l fz et c, ev ad y = .eptr id l.length k off ∧ h[id]? = some (.vec sz l fz et) ∧ l[k]? = some c ∧ cells = c.map .d)) → dload n cells off = some v → out = .val v h →
      SimOut P G S ρ h w ((do pure (Next.value (← Instr.loadAt t (a.eval x))) : Sem Next).run P w) out := by
    intro cells off v hp hv he
    obtain ⟨b, o, u, e, hc, hr⟩ := rep_place hi hx hp
    obtain ⟨l1, l2⟩ := rep_dload u hr hv
    have hl := run_loadVar (P := P) (w := w) hn b (o + off) (fun j => u (off + j)) (fun j hj => by rw [Nat.add_assoc]; exact hc _ (by omega))
    subst he
    have e2 : ((do pure (Next.value (← Instr.loadAt t (a.eval x))) : Sem Next).run P w) = .ok (.value (pack n fun j => u (off + j))) w := by
      rw [e]
      simp only [Instr.loadAt, Instr.sureAddr, pure_bind, Sem.run_bind, hl, Result.andThen_ok, Sem.run_pure]
    rw [e2]
    exact SimOut.plain hi l2
  split at hd
  · rename_i cells off hev
    simp only [Option.map_eq_some_iff] at hd
    obtain ⟨v, hv, rfl⟩ := hd
    exact key _ off v (.inl ⟨cells, hev, rfl⟩) hv rfl
  · rename_i id off hev
    split at hd
    · rename_i cells hb
      simp only [Option.map_eq_some_iff] at hd
      obtain ⟨v, hv, rfl⟩ := hd
      exact key _ off v (.inr (.inl ⟨id, _, hev, hb⟩)) hv rfl
    · cases hd
  · rename_i id g k o hev
    split at hd
    · rename_i sz l fz et hb
      split at hd
      · rename_i hg
        subst hg
        split at hd
        · rename_i c hk
          simp only [Option.map_eq_some_iff] at hd
          obtain ⟨v, hv, rfl⟩ := hd
          exact key _ o v (.inr (.inr ⟨id, k, _, l, _, _, c, hev, hb, hk, rfl⟩)) hv rfl
        · cases hd
      · cases hd
    · cases hd
  · cases hd
theorem nilC_map (h : List Res) (l : List FV) : (l.map DV.d).map (nilC h) = l.map DV.d := by
  rw [List.map_map]
  rfl
theorem rep_nilC (hi : Inv P G S ρ h w) {v : Value} {x : DV} (hx : RepD S ρ h w v x) : RepD S ρ h w v (nilC h x) := by
  cases hx with
  | row v sz elems t hx ht hr =>
    cases elems with
    | nil =>
      simp only [nilC]
      split
      · rename_i hn
        have h1 := (hr 0 (by rw [hn]; rfl)).2 rfl
        rw [hi.nilrow t hn] at h1
        simp only [Option.some.injEq, RI.row.injEq] at h1
        subst h1
        exact .d _ _ (.nils _)
      · exact .row v sz [] t hx ht hr
    | cons a l => exact .row v sz (a :: l) t hx ht hr
  | d v x hx => exact .d v x hx
  | ptr id off b hb => exact .ptr id off b hb
  | agg cs fs hl hh => exact .agg cs fs hl hh
  | clo fn p q fp fq hp hq h1 h2 => exact .clo fn p q fp fq hp hq h1 h2
  | tup cs fs hl hh => exact .tup cs fs hl hh
  | iface t v x hh => exact .iface t v x hh
  | yld id b hb => exact .yld id b hb
  | bslc id off n cap b hc hb => exact .bslc id off n cap b hc hb
  | rptr A p n cap elems t hx hp ht hr => exact .rptr A p n cap elems t hx hp ht hr
  | vslc b o cap id g sz off n hc ht hr => exact .vslc b o cap id g sz off n hc ht hr
  | eptr b o' id g k o ht hr => exact .eptr b o' id g k o ht hr
  | mref id b hb => exact .mref id b hb
theorem sim_loadk (hi : Inv P G S ρ h w) (ha : RepA S ρ h w a.tmps ad) {t : TypeId} {x : Operand} {n : Option Nat} {y : Opd} (hn : isAggB P t = some n) (ho : trOpd P 0 x = some y) {call : Cle → List DV → List Res → Option DOut} {out : DOut}
    (hd : dop call (.loadk n y) ad h = some out) : SimOut P G S ρ h w ((do pure (Next.value (← Instr.loadAt t (a.eval x))) : Sem Next).run P w) out := by
  have hx := rep_opd ha ho
  simp only [dop] at hd
  have key : ∀ (cells : List DV) (off : Nat) (v : DV), ((∃ fs, ev ad y = .d (.ref fs off) ∧ cells = fs.map .d) ∨ (∃ id tag, ev ad y = .ptr id off ∧ h[id]? = some (.box cells tag)) ∨ (∃ id k sz l fz et c, ev ad y = .eptr id l.length k off ∧ h[id]? = some (.vec sz l fz et) ∧ l[k]? = some c ∧ cells = c.map .d)) → dload n (cells.map (nilC h)) off = some v → out = .val v h →
      SimOut P G S ρ h w ((do pure (Next.value (← Instr.loadAt t (a.eval x))) : Sem Next).run P w) out := by
    intro cells off v hp hv he
    obtain ⟨b, o, u, e, hc0, hr0⟩ := rep_place hi hx hp
    have hc : ∀ j, j < (cells.map (nilC h)).length → w.cell? ⟨b, o + j, none⟩ = some (u j) := fun j hj => hc0 j (by simpa using hj)
    have hr : ∀ (j : Nat) (y : DV), (cells.map (nilC h))[j]? = some y → RepD S ρ h w (u j) y := fun j y hy => by
      simp only [List.getElem?_map, Option.map_eq_some_iff] at hy
      obtain ⟨z, hz, rfl⟩ := hy
      exact rep_nilC hi (hr0 j z hz)
    obtain ⟨l1, l2⟩ := rep_dload u hr hv
    have hl := run_loadVar (P := P) (w := w) hn b (o + off) (fun j => u (off + j)) (fun j hj => by rw [Nat.add_assoc]; exact hc _ (by omega))
    subst he
    have e2 : ((do pure (Next.value (← Instr.loadAt t (a.eval x))) : Sem Next).run P w) = .ok (.value (pack n fun j => u (off + j))) w := by
      rw [e]
      simp only [Instr.loadAt, Instr.sureAddr, pure_bind, Sem.run_bind, hl, Result.andThen_ok, Sem.run_pure]
    rw [e2]
    exact SimOut.plain hi l2
  split at hd
  · rename_i cells off hev
    simp only [Option.map_eq_some_iff] at hd
    obtain ⟨v, hv, rfl⟩ := hd
    exact key _ off v (.inl ⟨cells, hev, rfl⟩) (by rw [nilC_map]; exact hv) rfl
  · rename_i id off hev
    split at hd
    · rename_i cells hb
      simp only [Option.map_eq_some_iff] at hd
      obtain ⟨v, hv, rfl⟩ := hd
      exact key _ off v (.inr (.inl ⟨id, _, hev, hb⟩)) hv rfl
    · cases hd
  · rename_i id g k o hev
    split at hd
    · rename_i sz l fz et hb
      split at hd
      · rename_i hg
        subst hg
        split at hd
        · rename_i c hk
          simp only [Option.map_eq_some_iff] at hd
          obtain ⟨v, hv, rfl⟩ := hd
          exact key _ o v (.inr (.inr ⟨id, k, _, l, _, _, c, hev, hb, hk, rfl⟩)) (by rw [nilC_map]; exact hv) rfl
        · cases hd
      · cases hd
    · cases hd
  · cases hd
end
end Go.Deepv
