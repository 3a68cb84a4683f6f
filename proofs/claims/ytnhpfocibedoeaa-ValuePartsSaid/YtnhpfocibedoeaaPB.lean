/-
  Appends to a row of the call's own; Literals: structs and slices that are built; More operations: texts gone through, texts as rows of bytes and back, numbers as texts, an interface's value; Rows that are stored into, and maps: each operation does what the deep machine says; A row that is stored into grows; Maps: each operation does what the deep machine says; Each operation, and each region, of a function's code does what the deep machine's does; The deep machine is sound: a call of a function does what the deep machine says of it; Operations of the deep machine in another order; Regions that draw their order: all orders come to the same
  Conditions: none.
-/
import Derived.Test.YtnhpfocibedoeaaPA
import Derived.Deep.Upon
import Derived.Lib.UnsafeStr
import Derived.Laws.IdiomStrings
import Derived.MapKept
import Derived.Carry
import Derived.Laws.MakeOwn
import Derived.Lib.AppendZerosOnto
import Derived.Laws.Externs
import Derived.TacticsIn
import Derived.OwnWalkIn
import Derived.LoopNIn
import Derived.LoopN
import Derived.RangeFuncRecord
import Derived.Orders
set_option linter.unusedVariables false
set_option linter.unusedSimpArgs false
namespace Go.Deepv
open Go.RowKit
theorem setCells_block (b : Nat) : ∀ (vs : List Value) (o : Nat) (w : World) (c : Array Value) (e : TypeId) (fr : Nat × Nat), w.heap[b]? = some (.cells c e fr) → o + vs.length ≤ c.size →
  ∃ c', (w.setCells b o vs).heap[b]? = some (.cells c' e fr) ∧ c'.size = c.size ∧ (∀ x, c'.getD x undef = if o ≤ x ∧ x < o + vs.length then vs.getD (x - o) undef else c.getD x undef) ∧
   (∀ k, k ≠ b → (w.setCells b o vs).heap[k]? = w.heap[k]?) ∧ (w.setCells b o vs).heap.size = w.heap.size ∧ (w.setCells b o vs).os = w.os ∧ (w.setCells b o vs).tape = w.tape ∧ (w.setCells b o vs).output = w.output
 | [], o, w, c, e, fr, hb, hl => ⟨c, hb, rfl, fun x => by rw [if_neg (by simp only [List.length_nil]; omega)], fun _ _ => rfl, rfl, rfl, rfl, rfl⟩
 | v :: vs, o, w, c, e, fr, hb, hl => by
  simp only [List.length_cons] at hl
  have h1 : (w.setCell ⟨b, o, none⟩ v).heap[b]? = some (.cells (c.setIfInBounds o v) e fr) := by
   simp only [World.setCell, Array.getElem?_modify, hb]
   simp
  obtain ⟨c', g1, g2, g3, g4, g5, g6, g7, g8⟩ := setCells_block b vs (o + 1) (w.setCell ⟨b, o, none⟩ v) _ e fr h1 (by simp; omega)
  refine ⟨c', g1, by simpa using g2, fun x => ?_, fun k hk => ?_, ?_, g6, g7, g8⟩
  ·rw [g3]
   simp only [List.length_cons]
   by_cases hx : x = o
   ·subst hx
    rw [if_neg (by omega), if_pos (by omega)]
    simp [Array.getD_eq_getD_getElem?, show x < c.size by omega]
   ·by_cases hx2 : o + 1 ≤ x ∧ x < o + 1 + vs.length
    ·rw [if_pos hx2, if_pos (by omega)]
     rw [show x - o = (x - (o + 1)) + 1 by omega]
     simp
    ·rw [if_neg hx2, if_neg (by omega)]
     simp only [Array.getD_eq_getD_getElem?]
     rw [Array.getElem?_setIfInBounds_ne (by omega)]
  ·rw [World.setCells, g4 k hk]
   simp only [World.setCell, Array.getElem?_modify]
   rw [if_neg (by simpa using Ne.symm hk)]
  ·rw [World.setCells, g5]
   simp [World.setCell]
section
variable {P : Program} {G : Glob} {S S' : Settled} {ρ : List RI} {h : List Res} {w w' : World} {a : Act} {ad : List DV} {call : Cle → List DV → List Res → Option DOut} {out : DOut}
def flatFV (l : List (List FV)) : List FV := l.flatten
theorem flatten_at {α : Type} {sz : Nat} : ∀ {l : List (List α)}, (∀ (i : Nat) (c : List α), l[i]? = some c → c.length = sz) → l.flatten.length = l.length * sz ∧ ∀ (i j : Nat) (c : List α), l[i]? = some c → j < sz → l.flatten[i * sz + j]? = c[j]?
 | [], _ => ⟨by simp, fun i j c h => by simp at h⟩
 | d :: l, hl => by
  have hd := hl 0 d rfl
  obtain ⟨g1, g2⟩ := flatten_at (l := l) (fun i c hc => hl (i + 1) c (by simpa using hc))
  refine ⟨by simp [g1, hd, Nat.add_mul, Nat.add_comm], fun i j c hc hj => ?_⟩
  cases i with
  | zero =>
   simp at hc
   subst hc
   rw [List.flatten_cons, Nat.zero_mul, Nat.zero_add, List.getElem?_append_left (by omega)]
  | succ i =>
   rw [List.flatten_cons, List.getElem?_append_right (by rw [hd, Nat.succ_mul]; omega), hd]
   rw [show (i + 1) * sz + j - sz = i * sz + j by rw [Nat.succ_mul]; omega]
   exact g2 i j c (by simpa using hc) hj
structure Cellrow (S : Settled) (w : World) (b o sz : Nat) (l : List (List FV)) (u : Nat → Value) : Prop where
 sz_ : ∀ (i : Nat) (c : List FV), l[i]? = some c → c.length = sz
 at_ : ∀ k, k < l.length * sz → S b (o + k) ∧ w.cell? ⟨b, o + k, none⟩ = some (u k)
 rep : ∀ (i j : Nat) (c : List FV) (x : FV), l[i]? = some c → c[j]? = some x → RepF S w (u (i * sz + j)) x ∧ x.one = true
theorem Cellrow.mk_ {b o n cap sz : Nat} {l : List (List FV)} (hx : RepF S w (.slice (some ⟨b, o, none⟩) n cap) (.slice sz l)) (h0 : 0 < sz) : n = l.length ∧ (l ≠ [] → l.length ≤ cap) ∧ ∃ u, Cellrow S w b o sz l u := by
 cases hx with
 | slice0 A cap => exact ⟨rfl, fun h => absurd rfl h, fun _ => undef, fun i c h => by simp at h, fun k hk => by simp at hk, fun i j c x h => by simp at h⟩
 | slice b o n cap sz elems u hn hcap hsz hcc hr ho1 =>
  refine ⟨hn.symm, fun _ => by omega, fun k => u (k / sz) (k % sz), hsz, fun k hk => ?_, fun i j c x hc hx => ?_⟩
  ·have := hcc (k / sz) (k % sz) (by rw [← hn]; exact Nat.div_lt_of_lt_mul (by rw [Nat.mul_comm]; exact hk)) (Nat.mod_lt _ h0)
   rwa [Nat.add_assoc, Nat.mul_comm (k / sz), Nat.div_add_mod] at this
  ·have hj : j < sz := by rw [← hsz i c hc]; exact (List.getElem?_eq_some_iff.1 hx).1
   have e1 : (i * sz + j) / sz = i := by rw [Nat.add_comm, Nat.add_mul_div_right _ _ h0, Nat.div_eq_of_lt hj, Nat.zero_add]
   have e2 : (i * sz + j) % sz = j := by rw [Nat.add_comm, Nat.add_mul_mod_self_right, Nat.mod_eq_of_lt hj]
   simp only [e1, e2]
   exact ⟨hr i j c x hc hx, ho1 i j c x hc hx⟩
theorem Cellrow.repF {b o cap sz : Nat} {l : List (List FV)} {u : Nat → Value} (h : Cellrow S w b o sz l u) (hcap : l.length ≤ cap) : RepF S w (.slice (some ⟨b, o, none⟩) l.length cap) (.slice sz l) := by
 refine .slice b o l.length cap sz l (fun i j => u (i * sz + j)) rfl hcap h.sz_ (fun i j hi hj => ?_) (fun i j c x hc hx => (h.rep i j c x hc hx).1) (fun i j c x hc hx => (h.rep i j c x hc hx).2)
 have := h.at_ (i * sz + j) (by
  have : (i + 1) * sz ≤ l.length * sz := Nat.mul_le_mul_right _ hi
  rw [Nat.succ_mul] at this
  omega)
 rwa [← Nat.add_assoc] at this
theorem Cellrow.one {b o sz : Nat} {l : List (List FV)} {u : Nat → Value} (h : Cellrow S w b o sz l u) (h0 : 0 < sz) {k : Nat} (hk : k < l.length * sz) : (u k).oneCell' = true := by
 have hi : k / sz < l.length := Nat.div_lt_of_lt_mul (by rw [Nat.mul_comm]; exact hk)
 have hc := List.getElem?_eq_getElem hi
 have hj : k % sz < l[k / sz].length := by rw [h.sz_ _ _ hc]; exact Nat.mod_lt _ h0
 obtain ⟨r, o1⟩ := h.rep (k / sz) (k % sz) _ _ hc (List.getElem?_eq_getElem hj)
 rw [Nat.mul_comm, Nat.div_add_mod] at r
 exact r.one o1
theorem src_of {tx e' : TypeId} (hk : P.underlying tx = some (.slice e')) {x : Value} {sz : Nat} {l : List (List FV)} (hx : RepF S w x (.slice sz l)) (h0 : 0 < sz) :
  ∃ u : Nat → Value, Src P sz tx x l.length ((List.range (l.length * sz)).map u) w ∧ ∀ (i j : Nat) (c : List FV) (y : FV), l[i]? = some c → c[j]? = some y → c.length = sz ∧ RepF S w (u (i * sz + j)) y ∧ y.one = true := by
 have hx' := hx
 cases hx with
 | slice0 A cap =>
  refine ⟨fun _ => undef, ?_, fun i j c y h => by simp at h⟩
  cases A with
  | none => simpa using Src.ofNil (P := P) (size := sz) w hk cap
  | some A => simpa using Src.ofSlice (P := P) (size := sz) w hk A 0 cap [] (by simp) (fun j u h => by simp at h) (fun u h => by cases h)
 | slice b o n cap sz elems u hn hcap hsz hcc hr ho1 =>
  obtain ⟨g1, g2, u, g3⟩ := Cellrow.mk_ hx' h0
  refine ⟨u, ?_, fun i j c y hc hy => ⟨g3.sz_ i c hc, g3.rep i j c y hc hy⟩⟩
  rw [g1]
  refine Src.ofSlice (P := P) w hk ⟨b, o, none⟩ l.length cap _ (by simp) (fun j v hv => ?_) (fun v hv => ?_)
  ·simp only [List.getElem?_map, Option.map_eq_some_iff] at hv
   obtain ⟨k, hk, rfl⟩ := hv
   have hj := (List.getElem?_eq_some_iff.1 hk).1
   simp at hj
   have : k = j := by simpa [List.getElem?_range hj] using hk.symm
   subst this
   rw [add_none]
   exact (g3.at_ k hj).2
  ·simp only [List.mem_map, List.mem_range] at hv
   obtain ⟨k, hk, rfl⟩ := hv
   exact g3.one h0 hk
theorem app_rep {S' : Settled} {w' : World} {b o sz : Nat} {l new : List (List FV)} {u v : Nat → Value} (hl : Cellrow S' w' b o sz l u) (hsz : ∀ (i : Nat) (c : List FV), new[i]? = some c → c.length = sz) (hat : ∀ k, k < new.length * sz → S' b (o + l.length * sz + k) ∧ w'.cell? ⟨b, o + l.length * sz + k, none⟩ = some (v k))
  (hrep : ∀ (i j : Nat) (c : List FV) (x : FV), new[i]? = some c → c[j]? = some x → RepF S' w' (v (i * sz + j)) x ∧ x.one = true) :
  Cellrow S' w' b o sz (l ++ new) (fun k => if k < l.length * sz then u k else v (k - l.length * sz)) := by
 refine ⟨fun i c hc => ?_, fun k hk => ?_, fun i j c x hc hx => ?_⟩
 ·rcases Nat.lt_or_ge i l.length with hi | hi
  ·rw [List.getElem?_append_left hi] at hc
   exact hl.sz_ i c hc
  ·rw [List.getElem?_append_right hi] at hc
   exact hsz _ c hc
 ·by_cases h1 : k < l.length * sz
  ·simp only [if_pos h1]
   exact hl.at_ k h1
  ·simp only [if_neg h1]
   have := hat (k - l.length * sz) (by rw [List.length_append, Nat.add_mul] at hk; omega)
   rwa [show o + l.length * sz + (k - l.length * sz) = o + k by omega] at this
 ·rcases Nat.lt_or_ge i l.length with hi | hi
  ·rw [List.getElem?_append_left hi] at hc
   have hj : j < sz := by rw [← hl.sz_ i c hc]; exact (List.getElem?_eq_some_iff.1 hx).1
   have h1 : i * sz + j < l.length * sz := by
    have : (i + 1) * sz ≤ l.length * sz := Nat.mul_le_mul_right _ hi
    rw [Nat.succ_mul] at this
    omega
   simp only [if_pos h1]
   exact hl.rep i j c x hc hx
  ·rw [List.getElem?_append_right hi] at hc
   have h1 : ¬ i * sz + j < l.length * sz := by
    have : l.length * sz ≤ i * sz := Nat.mul_le_mul_right _ hi
    omega
   have h2 := hrep _ j c x hc hx
   have e : i * sz + j - l.length * sz = (i - l.length) * sz + j := by
    rw [Nat.sub_mul]
    have : l.length * sz ≤ i * sz := Nat.mul_le_mul_right _ hi
    omega
   simp only [if_neg h1, e]
   exact h2
theorem repF_empty {v : Value} {s s' : Nat} (hx : RepF S w v (.slice s [])) : RepF S w v (.slice s' []) := by
 cases hx with
 | slice0 A cap => exact .slice0 _ _ _
 | slice b o n cap sz elems u hn hcap hsz hcc hr ho1 =>
  have : n = 0 := by simpa using hn.symm
  subst this
  exact .slice0 _ _ _
theorem row_moved (hi : Inv P G S ρ h w) {tk n0 sz et : Nat} {l new : List (List FV)} (htip : (h[tk]?).bind Res.tip = some n0) (hn0 : n0 ≤ l.length) (hρ : ∃ v0, ρ[tk]? = some (.row v0)) (h0 : 0 < sz) (hm : new ≠ [])
  (u v : Nat → Value) (hl : ∀ (i j : Nat) (c : List FV) (y : FV), l[i]? = some c → c[j]? = some y → c.length = sz ∧ RepF S w (u (i * sz + j)) y ∧ y.one = true) (hl' : ∀ (i : Nat) (c : List FV), l[i]? = some c → c.length = sz)
  (hnew : ∀ (i j : Nat) (c : List FV) (y : FV), new[i]? = some c → c[j]? = some y → c.length = sz ∧ RepF S w (v (i * sz + j)) y ∧ y.one = true) (hnew' : ∀ (i : Nat) (c : List FV), new[i]? = some c → c.length = sz)
  (arr : Array Value) (e : TypeId) (het : et = 0 ∨ e = et) (gcap : Nat) (hg : l.length + new.length ≤ gcap) (hsize : arr.size = gcap * sz)
  (ha1 : ∀ k, k < l.length * sz → arr.getD k undef = u k) (ha2 : ∀ k, k < new.length * sz → arr.getD (l.length * sz + k) undef = v k) :
  ∃ S' ρ', RepD S' ρ' (h.set tk (.row sz (l.length + new.length) et)) (w.drew.alloc (.cells arr e)) (.slice (some ⟨w.heap.size, 0, none⟩) (l.length + new.length) gcap) (.row sz (l ++ new) tk) ∧
   Ext S ρ h w S' ρ' (h.set tk (.row sz (l.length + new.length) et)) (w.drew.alloc (.cells arr e)) ∧ Inv P G S' ρ' (h.set tk (.row sz (l.length + new.length) et)) (w.drew.alloc (.cells arr e)) := by
 obtain ⟨v0, hρ⟩ := hρ
 have hmpos : 0 < new.length := List.length_pos_iff.2 hm
 have htk : tk < h.length := by
  cases hh : h[tk]? with
  | none => simp [hh] at htip
  | some r => exact (List.getElem?_eq_some_iff.1 hh).1
 have htk' : tk < ρ.length := by rw [hi.len]; exact htk
 generalize hv' : (Value.slice (some ⟨w.heap.size, 0, none⟩) (l.length + new.length) gcap) = v'
 have hblk : (RI.row v').block = some w.heap.size := by rw [← hv']; rfl
 have hw : ∀ b, b < w.heap.size → (w.drew.alloc (.cells arr e)).heap[b]? = w.heap[b]? := fun b hb => heap_alloc_lt w.drew _ hb
 have hwn : (w.drew.alloc (.cells arr e)).heap[w.heap.size]? = some (.cells arr e (0, 0)) := heap_alloc_at w.drew _
 have hws : (w.drew.alloc (.cells arr e)).heap.size = w.heap.size + 1 := size_alloc w.drew _
 let S' : Settled := fun b x => S b x ∨ (b = w.heap.size ∧ x < (l.length + new.length) * sz)
 have E : Ext S ρ h w S' (ρ.set tk (.row v')) (h.set tk (.row sz (l.length + new.length) et)) (w.drew.alloc (.cells arr e)) :=
  {settled := fun b o x => .inl x
   cells := fun b x hx => cell?_heap (hw b (hi.bound b x hx))
   len := by simp
   boxes := fun id b hb => by
    have : id ≠ tk := by rintro rfl; rw [hρ] at hb; simp at hb
    rw [List.getElem?_set_ne (Ne.symm this)]
    exact hb
   rows := fun t n' ht hn => by
    by_cases e : t = tk
    ·subst e
     rw [List.getElem?_set_self ht] at hn
     simp [Res.tip] at hn
     exact ⟨n0, htip, by omega, fun h => by omega⟩
    ·rw [List.getElem?_set_ne (Ne.symm e)] at hn
     exact ⟨n', hn, Nat.le_refl _, fun _ => List.getElem?_set_ne (Ne.symm e)⟩
   size := by omega
   os := rfl, tape := rfl, output := rfl
   frame := fun b hb _ => hw b hb
   blocks := fun i b r hr hb => by
    by_cases e : i = tk
    ·subst e
     rw [List.getElem?_set_self htk'] at hr
     simp at hr
     subst hr
     rw [hblk] at hb
     simp at hb
     exact .inl (by omega)
    ·rw [List.getElem?_set_ne (Ne.symm e)] at hr
     exact .inr ⟨i, r, hr, hb, id⟩
   fresh := fun b o x => by
    rcases x with x | ⟨rfl, _⟩
    ·exact .inl x
    ·exact .inr (.inl (Nat.le_refl _)) }
 have hcell : ∀ k, k < gcap * sz → (w.drew.alloc (.cells arr e)).cell? ⟨w.heap.size, 0 + k, none⟩ = some (arr.getD k undef) := fun k hk => by
  simp only [World.cell?, hwn, Nat.zero_add]
  simp [Array.getD_eq_getD_getElem?, show k < arr.size by omega]
 have hle : (l.length + new.length) * sz ≤ gcap * sz := Nat.mul_le_mul_right _ hg
 have hsum : (l.length + new.length) * sz = l.length * sz + new.length * sz := Nat.add_mul _ _ _
 have C1 : Cellrow S' (w.drew.alloc (.cells arr e)) w.heap.size 0 sz l u :=
  ⟨hl', fun k hk => ⟨.inr ⟨rfl, by omega⟩, by rw [hcell k (by omega), ha1 k hk]⟩, fun i j c x hc hx => ⟨((hl i j c x hc hx).2.1).mono E.settled E.cells, (hl i j c x hc hx).2.2⟩⟩
 have C2 := app_rep (new := new) (v := v) C1 hnew' (fun k hk => ⟨.inr ⟨rfl, by omega⟩, by rw [Nat.zero_add, ← Nat.zero_add (l.length * sz + k), hcell _ (by omega), ha2 k hk]⟩)
  (fun i j c x hc hx => ⟨((hnew i j c x hc hx).2.1).mono E.settled E.cells, (hnew i j c x hc hx).2.2⟩)
 have R := C2.repF (cap := gcap) (by simpa using hg)
 rw [List.length_append, hv'] at R
 refine ⟨S', _, ?_, E, ?_⟩
 ·refine .row _ _ _ _ R (by simpa using htk) fun n hn => ?_
  rw [List.getElem?_set_self htk] at hn
  simp [Res.tip] at hn
  subst hn
  exact ⟨by simp, fun _ => List.getElem?_set_self htk'⟩
 ·refine inv_upd hi htk E (fun i b r hne hr hb => ?_) (fun b o hs => ?_) (fun b hb => ?_) (fun cells tag hh => by cases hh) (fun hh => by cases hh) (fun sz' n et' hh => ?_) (fun s pos hh => by cases hh)
  ·have := hi.low i b r hr hb
   exact ⟨hw b this, fun o ho => ho.elim id fun ho => by omega⟩
  ·rcases hs with hs | ⟨rfl, _⟩
   ·have := hi.bound b o hs
    omega
   ·omega
  ·rw [hblk] at hb
   simp at hb
   subst hb
   refine ⟨by omega, fun i r hne hr hb => ?_⟩
   have := hi.low i _ r hr hb
   omega
  ·simp only [Res.row.injEq] at hh
   obtain ⟨rfl, rfl, rfl⟩ := hh
   refine ⟨w.heap.size, 0, gcap, arr, e, by rw [hv'], hwn, ⟨h0, het.imp _root_.id fun h => ⟨h, rfl⟩⟩, hg, by omega, fun x hx hs => ?_⟩
   rcases hs with hs | ⟨_, hs⟩
   ·have := hi.bound _ _ hs
    omega
   ·omega
structure SrcOk (P : Program) (S : Settled) (w : World) (sz : Nat) (tx : TypeId) (x : Value) (s2 : Nat) (new : List (List FV)) : Prop where
 same : s2 = sz ∨ new = []
 src : ∃ v : Nat → Value, Src P sz tx x new.length ((List.range (new.length * sz)).map v) w ∧ ∀ (i j : Nat) (c : List FV) (y : FV), new[i]? = some c → c[j]? = some y → c.length = sz ∧ RepF S w (v (i * sz + j)) y ∧ y.one = true
 len : ∀ (i : Nat) (c : List FV), new[i]? = some c → c.length = sz
theorem strCells_at (s : ByteArray) (i : Nat) : (strCells s)[i]? = (s.data.toList[i]?).map fun b => [.int .u8 b.toNat] := by simp [strCells]
theorem strCells_len (s : ByteArray) : (strCells s).length = s.size := by
 unfold strCells
 rw [List.length_map, Array.length_toList]
 rfl
theorem src_str {tx : TypeId} (hk : P.underlying tx = some .string) (s : ByteArray) : SrcOk P S w 1 tx (.string s) 1 (strCells s) := by
 refine ⟨.inl rfl, ⟨fun k => (byteCells s).getD k undef, ?_, fun i j c y hc hy => ?_⟩, fun i c hc => ?_⟩
 ·have := Src.ofString (P := P) w hk s
  rw [strCells_len]
  have hl := byteCells_length s
  have e : (List.range (s.size * 1)).map (fun k => (byteCells s).getD k undef) = byteCells s := ?_
  ·rw [e]; exact this
  apply List.ext_getElem?
  intro k
  simp only [Nat.mul_one, List.getElem?_map]
  rcases Nat.lt_or_ge k s.size with h | h
  ·rw [List.getElem?_range h]
   simp only [Option.map_some, List.getD_eq_getElem?_getD]
   rw [List.getElem?_eq_getElem (by omega)]
   rfl
  ·rw [List.getElem?_eq_none (by simpa using h), List.getElem?_eq_none (by omega)]
   rfl
 ·rw [strCells_at] at hc
  simp only [Option.map_eq_some_iff] at hc
  obtain ⟨b, hb, rfl⟩ := hc
  cases j with
  | zero =>
   simp at hy
   subst hy
   refine ⟨rfl, ?_, rfl⟩
   have : (byteCells s).getD (i * 1 + 0) undef = .int .u8 b.toNat := by
    simp [byteCells, List.getD_eq_getElem?_getD, hb]
   simp only [this]
   exact .int _ _
  | succ j => simp at hy
 ·rw [strCells_at] at hc
  simp only [Option.map_eq_some_iff] at hc
  obtain ⟨b, hb, rfl⟩ := hc
  rfl
theorem src_row {tx e' : TypeId} (hk : P.underlying tx = some (.slice e')) {x : Value} {sz s2 : Nat} {new : List (List FV)} (hs2 : s2 = sz ∨ new = []) (h0 : 0 < sz) (hx : RepF S w x (.slice s2 new)) : SrcOk P S w sz tx x s2 new := by
 have gx : RepF S w x (.slice sz new) := by
  rcases hs2 with rfl | rfl
  ·exact hx
  ·exact repF_empty hx
 refine ⟨hs2, src_of hk gx h0, fun i' c hc => ?_⟩
 cases gx with
 | slice0 A cap => simp at hc
 | slice b o n cap sz elems u hn hcap hsz' hcc hr ho1 => exact hsz' i' c hc
theorem sim_appX (hi : Inv P G S ρ h w) (ha : RepA S ρ h w a.tmps ad) {t tx e rt t1 : TypeId} {i : TypeInfo} {z : Value} {s x : Operand} {s' : Opd} (ht : P.underlying t = some (.slice e)) (hinf : P.info? e = some i) (hz : i.zero = some z) (hzs : z.cells.size = i.size)
  (h1 : trOpd P t1 s = some s') {et : Nat} (het : et = 0 ∨ e = et) {src : Option (Nat × List (List FV))} (hsrcOk : ∀ s2 new, src = some (s2, new) → (s2 = i.size ∨ new = []) → 0 < i.size → SrcOk P S w i.size tx (a.eval x) s2 new) (hd : appRow i.size i.bytes (ev ad s') src h et = some out) :
  SimOut P G S ρ h w ((do pure (Next.value (← Builtin.append_ #[t, tx] rt #[a.eval s, a.eval x])) : Sem Next).run P w) out := by
 have g1 := rep_opd ha h1
 simp only [appRow] at hd
 split at hd
 ·rename_i s1 l tk s2 new e1
  split at hd
  ·rename_i hc
   obtain ⟨hs2, hlim, hsz, hby⟩ := hc
   rw [e1] at g1
   obtain ⟨_, ⟨v, hsrc, hv⟩, hv'⟩ := hsrcOk s2 new rfl hs2 hsz
   clear hsrcOk
   generalize hvx : a.eval x = vx at *
   generalize hvs : a.eval s = vs at *
   have lim63 : ((l.length + new.length : Nat) : Int) ≤ 9223372036854775807 := by
    have : (l.length + new.length) * 1 ≤ (l.length + new.length) * i.bytes := Nat.mul_le_mul_left _ hby
    omega
   have newsAt : ∀ k, k < new.length * i.size → ((List.range (new.length * i.size)).map v).getD k undef = v k := fun k hk => by
    simp [List.getD_eq_getElem?_getD, hk]
   cases g1 with
   | row _ _ _ _ hl htk hr =>
    have grow : ∀ (base : Option Addr) (cap n0 : Nat) (u : Nat → Value), vs = .slice base l.length cap → (h[tk]?).bind Res.tip = some n0 → n0 = l.length → (∃ v0, ρ[tk]? = some (.row v0)) → cap < l.length + new.length → l.length ≤ cap →
      (∀ (i' j : Nat) (c : List FV) (y : FV), l[i']? = some c → c[j]? = some y → c.length = i.size ∧ RepF S w (u (i' * i.size + j)) y ∧ y.one = true) → (∀ (i' : Nat) (c : List FV), l[i']? = some c → c.length = i.size) →
      (Builtin.firstCells i.size l.length vs).run P w.drew = .ok ((List.range (l.length * i.size)).map u).toArray w.drew → out = .val (.row i.size (l ++ new) tk) (h.set tk (.row i.size (l.length + new.length) et)) →
      SimOut P G S ρ h w ((do pure (Next.value (← Builtin.append_ #[t, tx] rt #[vs, vx])) : Sem Next).run P w) out := by
     rintro base cap n0 u rfl htip hn0 hρ hcap hlc hu hu' hold rfl
     have hfit : Builtin.nextslicecap (l.length + new.length) cap * i.bytes ≤ 281474976710656 := by
      have := nextslicecap_le hcap
      have h3 : Builtin.nextslicecap (l.length + new.length) cap * i.bytes ≤ (2 * (l.length + new.length)) * i.bytes := Nat.mul_le_mul_right _ this
      rw [Nat.mul_assoc] at h3
      omega
     have run := run_append_grow_src (P := P) w t tx rt e i z ht hinf hz base l.length cap _ hold vx new.length _ hsrc hcap lim63 hfit
     rw [run_v run]
     have hgc := grownCap_ge w (l.length + new.length) cap e
     generalize grownCap w (l.length + new.length) cap e = gcap at *
     have hzc : (Builtin.zeroCells z.cells (gcap - (l.length + new.length))).size = (gcap - (l.length + new.length)) * i.size := by simp [Builtin.zeroCells, hzs]
     have hmne : new ≠ [] := by rintro rfl; simp at hcap; omega
     obtain ⟨S', ρ', R, E, I⟩ := row_moved hi (sz := i.size) htip (Nat.le_of_eq hn0) hρ hsz hmne u v hu hu' hv hv' ((((List.range (l.length * i.size)).map u ++ (List.range (new.length * i.size)).map v)).toArray ++ Builtin.zeroCells z.cells (gcap - (l.length + new.length))) e het gcap hgc
      (by
       rw [Array.size_append, hzc]
       simp only [List.size_toArray, List.length_append, List.length_map, List.length_range]
       rw [← Nat.add_mul, ← Nat.add_mul]
       congr 1
       omega)
      (fun k hk => by
       have : k < ((List.range (l.length * i.size)).map u ++ (List.range (new.length * i.size)).map v).toArray.size := by simp; omega
       rw [Array.getD_eq_getD_getElem?, Array.getElem?_append_left this]
       simp [List.getElem?_append_left, hk])
      (fun k hk => by
       have : l.length * i.size + k < ((List.range (l.length * i.size)).map u ++ (List.range (new.length * i.size)).map v).toArray.size := by simp; omega
       rw [Array.getD_eq_getD_getElem?, Array.getElem?_append_left this]
       simp [List.getElem?_append_right, hk])
     exact ⟨_, _, S', ρ', .inl rfl, R, E, I⟩
    split at hd
    ·rename_i hnr
     split at hd
     ·rename_i hl0
      subst hl0
      obtain ⟨_, hρ⟩ := hr 0 (by simp [hnr, Res.tip])
      have hρ' := hρ rfl
      have hvs0 : vs = .slice none 0 0 := by
       have := hi.nilrow tk hnr
       rw [hρ'] at this
       simpa using this
      subst hvs0
      split at hd
      ·rename_i hn0
       subst hn0
       simp only [Option.some.injEq] at hd
       subst hd
       have run := run_append_nothing (P := P) w t tx rt e i ht hinf none 0 0 (Nat.le_refl _) vx (by simpa using hsrc)
       rw [run_v run]
       refine SimOut.plain hi (.row _ _ _ _ (.slice0 _ _ _) htk fun n hn => ?_)
       exact hr n hn
      ·rename_i hn0
       simp only [Option.some.injEq] at hd
       exact grow none 0 0 (fun _ => undef) rfl (by simp [hnr, Res.tip]) rfl ⟨_, hρ'⟩ (by simpa using List.length_pos_iff.2 hn0) (Nat.le_refl _) (fun i' j c y hc => by simp at hc) (fun i' c hc => by simp at hc)
        (by simpa using run_firstCells_none (P := P) w.drew i.size 0 0 0) (by simpa using hd.symm)
     ·cases hd
    ·rename_i s3 n et3 hrow
     split at hd
     ·rename_i hcc
      obtain ⟨rfl, rfl, rfl, rfl⟩ := hcc
      simp only [Option.some.injEq] at hd
      have htip : (h[tk]?).bind Res.tip = some l.length := by simp [hrow, Res.tip]
      obtain ⟨_, hρ⟩ := hr _ htip
      have hρ' := hρ rfl
      obtain ⟨b, o, cap, c, e3, b1, b2, ⟨b3, bet⟩, b4, b5, b6⟩ := hi.row tk _ _ _ hrow
      have hvs0 : vs = .slice (some ⟨b, o, none⟩) l.length cap := by rw [hρ'] at b1; simpa using b1
      subst hvs0
      obtain ⟨_, _, u, C⟩ := Cellrow.mk_ hl hsz
      by_cases hroom : l.length + new.length ≤ cap
      ·subst hd
       have hmulle : (l.length + new.length) * i.size ≤ cap * i.size := Nat.mul_le_mul_right _ hroom
       have hsum : (l.length + new.length) * i.size = l.length * i.size + new.length * i.size := Nat.add_mul _ _ _
       have run := run_append_room_src (P := P) w t tx rt e i ht hinf b o l.length cap vx new.length _ hsrc hroom
        (fun j hj => by simp at hj; simp only [World.cell?, b2]; simp [show o + l.length * i.size + j < c.size by omega])
        (fun j hj => by simp [World.frozen?, b2])
       rw [run_v run]
       obtain ⟨c', c1, c2, c3, c4, c5, c6, c7, c8⟩ := setCells_block b ((List.range (new.length * i.size)).map v) (o + l.length * i.size) w c e3 (0, 0) b2 (by simp; omega)
       generalize hw' : w.setCells b (o + l.length * i.size) ((List.range (new.length * i.size)).map v) = w' at *
       have hbl : b < w.heap.size := (Array.getElem?_eq_some_iff.1 b2).1
       have htk' : tk < ρ.length := by rw [hi.len]; exact htk
       let S' : Settled := fun b' x => S b' x ∨ (b' = b ∧ o + l.length * i.size ≤ x ∧ x < o + (l.length + new.length) * i.size)
       have keepc : ∀ x, x < o + l.length * i.size → w'.cell? ⟨b, x, none⟩ = w.cell? ⟨b, x, none⟩ := fun x hx => by
        have := c3 x
        rw [if_neg (by omega)] at this
        simp only [World.cell?, c1, b2]
        simp only [Array.getD_eq_getD_getElem?] at this
        have l1 : x < c'.size := by omega
        have l2 : x < c.size := by omega
        simp [l1, l2] at this ⊢
        exact this
       have E : Ext S ρ h w S' (ρ.set tk (.row (.slice (some ⟨b, o, none⟩) (l.length + new.length) cap))) (h.set tk (.row i.size (l.length + new.length) et3)) w' :=
        {settled := fun b o x => .inl x
         cells := fun b' x hx => by
          by_cases hb : b' = b
          ·subst hb
           refine keepc x ?_
           rcases Nat.lt_or_ge x (o + l.length * i.size) with h1 | h1
           ·exact h1
           ·exact absurd hx (b6 x h1)
          ·exact cell?_heap (c4 b' hb)
         len := by simp
         boxes := fun id b' hb => by
          have : id ≠ tk := by rintro rfl; rw [b1] at hb; simp at hb
          rw [List.getElem?_set_ne (Ne.symm this)]
          exact hb
         rows := fun t n' ht hn => by
          by_cases e : t = tk
          ·subst e
           rw [List.getElem?_set_self ht] at hn
           simp [Res.tip] at hn
           refine ⟨l.length, htip, by omega, fun h => ?_⟩
           rw [List.getElem?_set_self htk', b1]
           have : new.length = 0 := by omega
           rw [this, Nat.add_zero]
          ·rw [List.getElem?_set_ne (Ne.symm e)] at hn
           exact ⟨n', hn, Nat.le_refl _, fun _ => List.getElem?_set_ne (Ne.symm e)⟩
         size := by omega
         os := c6, tape := c7, output := c8
         frame := fun b' hb hn => c4 b' (by rintro rfl; exact hn tk _ b1 rfl)
         blocks := fun i' b' r hr hb => by
          by_cases e : i' = tk
          ·subst e
           rw [List.getElem?_set_self htk'] at hr
           simp at hr
           subst hr
           simp [RI.block] at hb
           subst hb
           exact .inr ⟨i', _, b1, rfl, fun _ => rfl⟩
          ·rw [List.getElem?_set_ne (Ne.symm e)] at hr
           exact .inr ⟨i', r, hr, hb, id⟩
         fresh := fun b' o' x => by
          rcases x with x | ⟨rfl, _⟩
          ·exact .inl x
          ·exact .inr (.inr ⟨tk, _, b1, rfl, rfl⟩) }
       have C1 : Cellrow S' w' b o i.size l u := ⟨C.sz_, fun k hk => ⟨.inl (C.at_ k hk).1, by rw [keepc _ (by omega)]; exact (C.at_ k hk).2⟩, fun i' j c x hc hx => ⟨((C.rep i' j c x hc hx).1).mono E.settled E.cells, (C.rep i' j c x hc hx).2⟩⟩
       have C2 := app_rep (new := new) (v := v) C1 hv' (fun k hk => ⟨.inr ⟨rfl, by omega, by omega⟩, by
         have := c3 (o + l.length * i.size + k)
         rw [if_pos (by simp; omega), show o + l.length * i.size + k - (o + l.length * i.size) = k by omega, newsAt k hk] at this
         simp only [World.cell?, c1]
         simp only [Array.getD_eq_getD_getElem?] at this
         have l1 : o + l.length * i.size + k < c'.size := by omega
         simp [l1] at this ⊢
         exact this⟩)
        (fun i' j c x hc hx => ⟨((hv i' j c x hc hx).2.1).mono E.settled E.cells, (hv i' j c x hc hx).2.2⟩)
       have R := C2.repF (cap := cap) (by simpa using hroom)
       rw [List.length_append] at R
       refine ⟨_, w', S', _, .inl rfl, .row _ _ _ _ R (by simpa using htk) (fun n hn => ?_), E, ?_⟩
       ·rw [List.getElem?_set_self htk] at hn
        simp [Res.tip] at hn
        subst hn
        exact ⟨by simp, fun _ => List.getElem?_set_self htk'⟩
       ·refine inv_upd hi htk E (fun i' b' r hne hr9 hb => ?_) (fun b' o' hs => ?_) (fun b' hb => ?_) (fun cells tag hh => by cases hh) (fun hh => by cases hh) (fun sz' n et' hh => ?_) (fun s pos hh => by cases hh)
        ·have : b' ≠ b := by rintro rfl; exact hne (hi.apart i' tk _ r _ hr9 b1 hb rfl)
         exact ⟨c4 b' this, fun o ho => ho.elim id fun ho => absurd ho.1 this⟩
        ·rw [c5]
         rcases hs with hs | ⟨rfl, _⟩
         ·exact hi.bound b' o' hs
         ·exact hbl
        ·simp [RI.block] at hb
         subst hb
         exact ⟨by rw [c5]; exact hbl, fun i' r hne hr9 hb9 => hne (hi.apart i' tk _ r _ hr9 b1 hb9 rfl)⟩
        ·simp only [Res.row.injEq] at hh
         obtain ⟨rfl, rfl, rfl⟩ := hh
         refine ⟨b, o, cap, c', e3, rfl, c1, ⟨hsz, bet⟩, hroom, by omega, fun x hx hs => ?_⟩
         rcases hs with hs | ⟨_, _, hs⟩
         ·exact b6 x (by omega) hs
         ·omega
      ·exact grow (some ⟨b, o, none⟩) cap l.length u rfl htip rfl ⟨_, hρ'⟩ (by omega) b4 (fun i' j c y hc hy => ⟨C.sz_ i' c hc, C.rep i' j c y hc hy⟩) C.sz_
        (run_firstCells_some (P := P) w.drew i.size l.length ⟨b, o, none⟩ l.length cap _ (by simp) (fun j v hv => by
         simp only [List.getElem?_map, Option.map_eq_some_iff] at hv
         obtain ⟨k, hk, rfl⟩ := hv
         have hj := (List.getElem?_eq_some_iff.1 hk).1
         simp at hj
         have : k = j := by simpa [List.getElem?_range hj] using hk.symm
         subst this
         rw [add_none]
         exact (C.at_ k hj).2)) hd.symm
     ·cases hd
    ·cases hd
  ·cases hd
 ·rename_i v0 s2 new e1
  split at hd
  ·rename_i s1 l hfull
   split at hd
   ·rename_i hc
    obtain ⟨hs2, hlim, hsz, hby, rfl⟩ := hc
    rw [e1] at g1
    have g2 := repD_d g1
    obtain ⟨_, ⟨v, hsrc, hv⟩, hv'⟩ := hsrcOk s2 new rfl hs2 hsz
    clear hsrcOk
    generalize hvx : a.eval x = vx at *
    generalize hvs : a.eval s = vs at *
    obtain ⟨A, rfl, hF, hun⟩ : ∃ A, vs = .slice A l.length l.length ∧ RepF S w (.slice A l.length l.length) (.slice i.size l) ∧ RepF S w (.slice A l.length l.length) (unfull v0) := by
     cases v0 <;> simp only [fullOf, Option.some.injEq, Prod.mk.injEq, reduceCtorEq] at hfull
     ·obtain ⟨rfl, rfl⟩ := hfull
      cases g2
      exact ⟨none, rfl, .slice0 _ _ _, .nils _⟩
     ·obtain ⟨rfl, rfl⟩ := hfull
      cases g2 with
      | fulls A n sz elems hf =>
       have := slice_len hf
       subst this
       exact ⟨A, rfl, hf, hf⟩
    split at hd
    ·rename_i hn0
     subst hn0
     simp only [Option.some.injEq] at hd
     subst hd
     have run := run_append_nothing (P := P) w t tx rt e i ht hinf A l.length l.length (Nat.le_refl _) vx (by simpa using hsrc)
     rw [run_v run]
     exact SimOut.plain hi (.d _ _ hun)
    ·rename_i hn0
     simp only [Option.some.injEq] at hd
     subst hd
     have hpos : 0 < new.length := List.length_pos_iff.2 hn0
     have lim63 : ((l.length + new.length : Nat) : Int) ≤ 9223372036854775807 := by
      have : (l.length + new.length) * 1 ≤ (l.length + new.length) * i.bytes := Nat.mul_le_mul_left _ hby
      omega
     have newsAt : ∀ k, k < new.length * i.size → ((List.range (new.length * i.size)).map v).getD k undef = v k := fun k hk => by
      simp [List.getD_eq_getElem?_getD, hk]
     have hcap : l.length < l.length + new.length := by omega
     have hfit : Builtin.nextslicecap (l.length + new.length) l.length * i.bytes ≤ 281474976710656 := by
      have := nextslicecap_le hcap
      have h3 : Builtin.nextslicecap (l.length + new.length) l.length * i.bytes ≤ (2 * (l.length + new.length)) * i.bytes := Nat.mul_le_mul_right _ this
      rw [Nat.mul_assoc] at h3
      omega
     obtain ⟨u, hu, hu', hold⟩ : ∃ u : Nat → Value, (∀ (i' j : Nat) (c : List FV) (y : FV), l[i']? = some c → c[j]? = some y → c.length = i.size ∧ RepF S w (u (i' * i.size + j)) y ∧ y.one = true) ∧ (∀ (i' : Nat) (c : List FV), l[i']? = some c → c.length = i.size) ∧
       (Builtin.firstCells i.size l.length (.slice A l.length l.length)).run P w.drew = .ok ((List.range (l.length * i.size)).map u).toArray w.drew := by
      by_cases hl0 : l = []
      ·subst hl0
       refine ⟨fun _ => undef, fun i' j c y hc => by simp at hc, fun i' c hc => by simp at hc, ?_⟩
       cases A with
       | none => simpa using run_firstCells_none (P := P) w.drew i.size 0 0 0
       | some A => simpa using run_firstCells_some (P := P) w.drew i.size 0 A 0 0 [] (by simp) (fun j v hv => by simp at hv)
      ·generalize hq : Value.slice A l.length l.length = q at hF
       cases hF with
       | slice0 A' cap => exact absurd rfl hl0
       | slice b o n cap _ _ uu hn hcap hsz' hcc hr ho1 =>
        simp only [Value.slice.injEq] at hq
        obtain ⟨rfl, rfl, rfl⟩ := hq
        obtain ⟨_, _, u, C⟩ := Cellrow.mk_ (RepF.slice b o l.length l.length i.size l uu hn hcap hsz' hcc hr ho1) hsz
        refine ⟨u, fun i' j c y hc hy => ⟨C.sz_ i' c hc, C.rep i' j c y hc hy⟩, C.sz_, ?_⟩
        exact run_firstCells_some (P := P) w.drew i.size l.length ⟨b, o, none⟩ l.length l.length _ (by simp) (fun j v hv => by
         simp only [List.getElem?_map, Option.map_eq_some_iff] at hv
         obtain ⟨k, hk, rfl⟩ := hv
         have hj := (List.getElem?_eq_some_iff.1 hk).1
         simp at hj
         have : k = j := by simpa [List.getElem?_range hj] using hk.symm
         subst this
         rw [add_none]
         exact (C.at_ k hj).2)
     have run := run_append_grow_src (P := P) w t tx rt e i z ht hinf hz A l.length l.length _ hold vx new.length _ hsrc hcap lim63 hfit
     rw [run_v run]
     have hgc := grownCap_ge w (l.length + new.length) l.length e
     generalize grownCap w (l.length + new.length) l.length e = gcap at *
     have hzc : (Builtin.zeroCells z.cells (gcap - (l.length + new.length))).size = (gcap - (l.length + new.length)) * i.size := by simp [Builtin.zeroCells, hzs]
     have E0 := ext_rows hi 1
     have I0 := inv_rows hi 1
     have hlast : (h ++ List.replicate 1 Res.nilrow)[h.length]? = some .nilrow := by simp
     have hρl : (ρ ++ List.replicate 1 (RI.row (.slice none 0 0)))[h.length]? = some (.row (.slice none 0 0)) := I0.nilrow _ hlast
     obtain ⟨S', ρ', R, E, I⟩ := row_moved I0 (sz := i.size) (tk := h.length) (n0 := 0) (by rw [hlast]; rfl) (Nat.zero_le _) ⟨_, hρl⟩ hsz hn0 u v hu hu' hv hv' ((((List.range (l.length * i.size)).map u ++ (List.range (new.length * i.size)).map v)).toArray ++ Builtin.zeroCells z.cells (gcap - (l.length + new.length))) e het gcap hgc
      (by
       rw [Array.size_append, hzc]
       simp only [List.size_toArray, List.length_append, List.length_map, List.length_range]
       rw [← Nat.add_mul, ← Nat.add_mul]
       congr 1
       omega)
      (fun k hk => by
       have : k < ((List.range (l.length * i.size)).map u ++ (List.range (new.length * i.size)).map v).toArray.size := by simp; omega
       rw [Array.getD_eq_getD_getElem?, Array.getElem?_append_left this]
       simp [List.getElem?_append_left, hk])
      (fun k hk => by
       have : l.length * i.size + k < ((List.range (l.length * i.size)).map u ++ (List.range (new.length * i.size)).map v).toArray.size := by simp; omega
       rw [Array.getD_eq_getD_getElem?, Array.getElem?_append_left this]
       simp [List.getElem?_append_right, hk])
     have hset : (h ++ List.replicate 1 Res.nilrow).set h.length (.row i.size (l.length + new.length) et) = h ++ [.row i.size (l.length + new.length) et] := by simp
     rw [hset] at R E I
     exact ⟨_, _, S', ρ', .inl rfl, R, E0.trans E, I⟩
   ·cases hd
  ·cases hd
 ·cases hd
theorem sim_app (hi : Inv P G S ρ h w) (ha : RepA S ρ h w a.tmps ad) {t tx e e' rt t1 t2 : TypeId} {i : TypeInfo} {z : Value} {s x : Operand} {s' x' : Opd} (ht : P.underlying t = some (.slice e)) (hk : P.underlying tx = some (.slice e')) (hinf : P.info? e = some i) (hz : i.zero = some z) (hzs : z.cells.size = i.size)
  (h1 : trOpd P t1 s = some s') (h2 : trOpd P t2 x = some x') (hd : dop call (.app false (tagE P e) i.size i.bytes s' x') ad h = some out) :
  SimOut P G S ρ h w ((do pure (Next.value (← Builtin.append_ #[t, tx] rt #[a.eval s, a.eval x])) : Sem Next).run P w) out := by
 refine sim_appX hi ha ht hinf hz hzs h1 (tagE_ok e) (fun s2 new hs hs2 h0 => ?_) hd
 simp only [srcElems, Bool.false_eq_true, if_false] at hs
 exact src_row hk hs2 h0 (rep_elems (rep_opd ha h2) hs)
theorem sim_apps (hi : Inv P G S ρ h w) (ha : RepA S ρ h w a.tmps ad) {t tx e rt t1 t2 : TypeId} {i : TypeInfo} {z : Value} {s x : Operand} {s' x' : Opd} (ht : P.underlying t = some (.slice e)) (hk : P.underlying tx = some .string) (hinf : P.info? e = some i) (hz : i.zero = some z) (hzs : z.cells.size = i.size) (h1s : i.size = 1)
  (h1 : trOpd P t1 s = some s') (h2 : trOpd P t2 x = some x') (hd : dop call (.app true (tagE P e) i.size i.bytes s' x') ad h = some out) :
  SimOut P G S ρ h w ((do pure (Next.value (← Builtin.append_ #[t, tx] rt #[a.eval s, a.eval x])) : Sem Next).run P w) out := by
 refine sim_appX hi ha ht hinf hz hzs h1 (tagE_ok e) (fun s2 new hs hs2 h0 => ?_) hd
 simp only [srcElems, if_true] at hs
 split at hs
 ·rename_i str ex
  simp only [Option.some.injEq, Prod.mk.injEq] at hs
  obtain ⟨rfl, rfl⟩ := hs
  have g := rep_opd ha h2
  rw [ex] at g
  rw [repF_str (repD_d g), h1s]
  exact src_str hk str
 ·cases hs
end
end Go.Deepv
namespace Go.Deepv
open Go.RowKit
theorem seg_fold (off : Nat) : ∀ (vs : List Value) (s : Nat) (c : Array Value), off + s + vs.length ≤ c.size →
  ((vs.zipIdx s).foldl (fun cs (x : Value × Nat) => cs.setIfInBounds (off + x.2) x.1) c).size = c.size ∧
  ∀ x, ((vs.zipIdx s).foldl (fun cs (x : Value × Nat) => cs.setIfInBounds (off + x.2) x.1) c).getD x undef = if off + s ≤ x ∧ x < off + s + vs.length then vs.getD (x - (off + s)) undef else c.getD x undef
 | [], s, c, h => ⟨rfl, fun x => by rw [if_neg (by simp only [List.length_nil]; omega)]; rfl⟩
 | v :: vs, s, c, h => by
  simp only [List.length_cons] at h
  obtain ⟨g1, g2⟩ := seg_fold off vs (s + 1) (c.setIfInBounds (off + s) v) (by simp; omega)
  simp only [List.zipIdx_cons, List.foldl_cons]
  refine ⟨by simpa using g1, fun x => ?_⟩
  rw [g2]
  simp only [List.length_cons]
  by_cases hx : x = off + s
  ·subst hx
   rw [if_neg (by omega), if_pos (by omega)]
   simp [Array.getD_eq_getD_getElem?, show off + s < c.size by omega]
  ·by_cases hx2 : off + (s + 1) ≤ x ∧ x < off + (s + 1) + vs.length
   ·rw [if_pos hx2, if_pos (by omega), show x - (off + s) = (x - (off + (s + 1))) + 1 by omega]
    simp
   ·rw [if_neg hx2, if_neg (by omega)]
    simp only [Array.getD_eq_getD_getElem?]
    rw [Array.getElem?_setIfInBounds_ne (by omega)]
theorem fill_cons (place : Nat → Option (Nat × Nat)) (c : Array Value) (i : Nat) (v : Value) (rest : List (Nat × Value)) {off size : Nat} (hp : place i = some (off, size)) (hs : v.cells.size = size) (hl : off + size ≤ c.size) :
  ∃ c', Instr.fill place c ((i, v) :: rest) = Instr.fill place c' rest ∧ c'.size = c.size ∧ ∀ x, c'.getD x undef = if off ≤ x ∧ x < off + size then v.cells.getD (x - off) undef else c.getD x undef := by
 obtain ⟨g1, g2⟩ := seg_fold off v.cells.toList 0 c (by simp; omega)
 refine ⟨_, ?_, g1, fun x => ?_⟩
 ·simp only [Instr.fill, hp]
  rw [if_neg (by simp [hs]; omega)]
  congr 1
  rw [← Array.foldl_toList, Array.toList_zipIdx]
 ·rw [g2]
  simp only [Nat.add_zero, Array.length_toList, hs]
  congr 1
  simp [Array.getD_eq_getD_getElem?, List.getD_eq_getElem?_getD]
section
variable {P : Program} {G : Glob} {S : Settled} {ρ : List RI} {h : List Res} {w : World} {a : Act} {ad : List DV} {call : Cle → List DV → List Res → Option DOut} {out : DOut}
structure Elems (S : Settled) (w : World) (sz : Nat) (c : Array Value) (l : List (List FV)) : Prop where
 size : c.size = l.length * sz
 len : ∀ (i : Nat) (x : List FV), l[i]? = some x → x.length = sz
 rep : ∀ (i j : Nat) (x : List FV) (y : FV), l[i]? = some x → x[j]? = some y → RepF S w (c.getD (i * sz + j) undef) y ∧ y.one = true
theorem fill_elems {sz : Nat} : ∀ (vs : List (Nat × Value)) (ps : List (Nat × List FV)) (c : Array Value) (l l' : List (List FV)), Elems S w sz c l → vs.length = ps.length →
  (∀ (k : Nat) (p : Nat × List FV), ps[k]? = some p → ∃ v, vs[k]? = some (p.1, v) ∧ (p.2.all FV.one = true → v.cells.size = p.2.length ∧ ∀ (j : Nat) (y : FV), p.2[j]? = some y → RepF S w (v.cells.getD j undef) y)) →
  ps.foldlM (fun (l : List (List FV)) p => if p.1 < l.length ∧ p.2.length = sz ∧ p.2.all FV.one then some (l.set p.1 p.2) else none) l = some l' →
  ∃ c', Instr.fill (fun i => some (i * sz, sz)) c vs = some c' ∧ Elems S w sz c' l' ∧ l'.length = l.length
 | [], [], c, l, l', hE, _, _, hf => by
  simp at hf
  subst hf
  exact ⟨c, rfl, hE, rfl⟩
 | (i0, v0) :: vs, p :: ps, c, l, l', hE, hl, hr, hf => by
  simp only [List.foldlM_cons, Option.bind_eq_bind, Option.bind_eq_some_iff] at hf
  obtain ⟨l1, h1, hf⟩ := hf
  split at h1
  ·rename_i hc
   obtain ⟨hlt, hlen, hone⟩ := hc
   simp only [Option.some.injEq] at h1
   subst h1
   obtain ⟨v, hv, hrep⟩ := hr 0 p rfl
   simp only [List.getElem?_cons_zero, Option.some.injEq, Prod.mk.injEq] at hv
   obtain ⟨rfl, rfl⟩ := hv
   obtain ⟨k1, k2⟩ := hrep hone
   have hmul : (p.1 + 1) * sz ≤ l.length * sz := Nat.mul_le_mul_right _ hlt
   rw [Nat.succ_mul] at hmul
   obtain ⟨c', g1, g2, g3⟩ := fill_cons (fun i => some (i * sz, sz)) c p.1 v0 vs rfl (by omega) (by rw [hE.size]; omega)
   rw [g1]
   have hE' : Elems S w sz c' (l.set p.1 p.2) := by
    refine ⟨by rw [g2, hE.size]; simp, fun i x hx => ?_, fun i j x y hx hy => ?_⟩
    ·by_cases e : i = p.1
     ·subst e
      rw [List.getElem?_set_self hlt] at hx
      simp at hx
      subst hx
      exact hlen
     ·rw [List.getElem?_set_ne (Ne.symm e)] at hx
      exact hE.len i x hx
    ·rw [g3]
     by_cases e : i = p.1
     ·subst e
      rw [List.getElem?_set_self hlt] at hx
      simp at hx
      subst hx
      have hj := (List.getElem?_eq_some_iff.1 hy).1
      rw [if_pos (by omega), show p.1 * sz + j - p.1 * sz = j by omega]
      exact ⟨k2 j y hy, (List.all_eq_true.1 hone) _ (List.mem_of_getElem? hy)⟩
     ·rw [List.getElem?_set_ne (Ne.symm e)] at hx
      have hj : j < sz := by rw [← hE.len i x hx]; exact (List.getElem?_eq_some_iff.1 hy).1
      rw [if_neg (fun hh => by
       rcases Nat.lt_or_gt_of_ne e with h1 | h1
       ·have : (i + 1) * sz ≤ p.1 * sz := Nat.mul_le_mul_right _ h1
        rw [Nat.succ_mul] at this
        omega
       ·have : (p.1 + 1) * sz ≤ i * sz := Nat.mul_le_mul_right _ h1
        rw [Nat.succ_mul] at this
        omega)]
      exact hE.rep i j x y hx hy
   obtain ⟨c2, e1, e2, e3⟩ := fill_elems vs ps c' (l.set p.1 p.2) l' hE' (by simpa using hl) (fun k q hq => by simpa using hr (k + 1) q (by simpa using hq)) hf
   exact ⟨c2, e1, e2, by simpa using e3⟩
  ·cases h1
 | [], _ :: _, _, _, _, _, hl, _, _ => by simp at hl
 | _ :: _, [], _, _, _, _, hl, _, _ => by simp at hl
theorem sim_imm (hi : Inv P G S ρ h w) {r : Result Next} {sz n et : Nat} {l : List (List FV)} (imm : Bool) (hd : some (if imm = true then DOut.val (.d (.slice sz l)) h else .val (.row sz l h.length) (h ++ [.row sz n et])) = some out) (hs : SimOut P G S ρ h w r (.val (.row sz l h.length) (h ++ [.row sz n et]))) : SimOut P G S ρ h w r out := by
 simp only [Option.some.injEq] at hd
 subst hd
 cases imm with
 | false => exact hs
 | true =>
  obtain ⟨x, w', S', ρ', hr, hx, E, I⟩ := hs
  have E2 := E.take hi
  have I2 := I.take h.length
  rw [List.take_left] at E2 I2
  refine ⟨x, w', S', _, hr, ?_, E2, I2⟩
  cases hx with
  | row v sz elems t hx ht hr => exact .d _ _ hx
theorem lit_parts (ha : RepA S ρ h w a.tmps ad) {t e : TypeId} {len : Nat} {i : TypeInfo} {z : List Value × List FV} {parts : Array (Nat × Operand)} {ps : List (Nat × Opd)} (ht : P.underlying t = some (.slice e)) (hinf : P.info? e = some i) (hz : zeroCellsOf P e = some z)
  (hps : parts.toList.mapM (fun p => (trOpd P e p.2).map (Prod.mk p.1)) = some ps) (hsz : 0 < i.size) (hzlen : z.2.length = i.size) (hsmall : len * i.size ≤ 16777216) {qs : List (Nat × List FV)} {l : List (List FV)}
  (hqs : ps.mapM (fun p => (flatCells (ev ad p.2)).map fun cs => (p.1, cs)) = some qs)
  (hl : qs.foldlM (fun (l : List (List FV)) p => if p.1 < l.length ∧ p.2.length = i.size ∧ p.2.all FV.one then some (l.set p.1 p.2) else none) (List.replicate len z.2) = some l) (hz1 : z.2.all FV.one = true) :
  ∃ c', (Instr.buildSlice t len (parts.map fun (i, x) => (i, a.eval x))).run P w = .ok (.slice (some ⟨w.heap.size, 0, none⟩) len len) (w.alloc (.cells c' e)) ∧ Elems S w i.size c' l ∧ l.length = len := by
 obtain ⟨zv, hzv, hk, hzz⟩ : ∃ zv, i.zero = some zv ∧ constsOk zv.cells.toList z.2 = true ∧ z.1 = zv.cells.toList := by
  unfold zeroCellsOf at hz
  simp only [hinf] at hz
  split at hz
  ·rename_i zv hzv
   split at hz
   ·split at hz
    ·rename_i hk
     simp only [Option.some.injEq] at hz
     subst hz
     exact ⟨zv, hzv, hk, rfl⟩
    ·cases hz
   ·cases hz
  ·cases hz
 obtain ⟨zl, zr⟩ := rep_consts (S := S) (w := w) hk
 have zsize : zv.cells.size = i.size := by simp at zl; omega
 have hE : Elems S w i.size ((Array.range (len * i.size)).map (zv.cells[· % zv.cells.size]!)) (List.replicate len z.2) := by
  refine ⟨by simp, fun k x hx => ?_, fun k j x y hx hy => ?_⟩
  ·have := List.mem_of_getElem? hx
   simp at this
   rw [this.2, hzlen]
  ·have hm := List.mem_of_getElem? hx
   have hkl := (List.getElem?_eq_some_iff.1 hx).1
   simp at hm hkl
   rw [hm.2] at hy
   have hj : j < i.size := by rw [← hzlen]; exact (List.getElem?_eq_some_iff.1 hy).1
   have hb : k * i.size + j < len * i.size := by
    have : (k + 1) * i.size ≤ len * i.size := Nat.mul_le_mul_right _ hkl
    rw [Nat.succ_mul] at this
    omega
   have e2 : (k * i.size + j) % i.size = j := by rw [Nat.add_comm, Nat.add_mul_mod_self_right, Nat.mod_eq_of_lt hj]
   have : ((Array.range (len * i.size)).map (zv.cells[· % zv.cells.size]!)).getD (k * i.size + j) undef = zv.cells.toList.getD j undef := by
    simp [Array.getD_eq_getD_getElem?, hb, zsize, e2, List.getD_eq_getElem?_getD, hj]
   rw [this]
   exact ⟨zr j y hy, (List.all_eq_true.1 hz1) _ (List.mem_of_getElem? hy)⟩
 have hparts : ((parts.map fun (i, x) => (i, a.eval x)).toList).length = qs.length ∧ ∀ (k : Nat) (p : Nat × List FV), qs[k]? = some p → ∃ v, ((parts.map fun (i, x) => (i, a.eval x)).toList)[k]? = some (p.1, v) ∧
   (p.2.all FV.one = true → v.cells.size = p.2.length ∧ ∀ (j : Nat) (y : FV), p.2[j]? = some y → RepF S w (v.cells.getD j undef) y) := by
  obtain ⟨m1, m2⟩ := mapM_some hps
  obtain ⟨n1, n2⟩ := mapM_some hqs
  refine ⟨by simp at m1 ⊢; omega, fun k p hp => ?_⟩
  obtain ⟨q, hq, hfq⟩ := n2 k p hp
  simp only [Option.map_eq_some_iff] at hfq
  obtain ⟨cs, hcs, rfl⟩ := hfq
  obtain ⟨r, hr, hfr⟩ := m2 k q hq
  simp only [Option.map_eq_some_iff] at hfr
  obtain ⟨o, ho, rfl⟩ := hfr
  have hr' : parts[k]? = some r := by simpa using hr
  exact ⟨a.eval r.2, by simp [hr'], fun h1 => rep_flatCells (rep_opd ha ho) hcs h1⟩
 obtain ⟨c', f1, f2, f3⟩ := fill_elems _ qs _ _ l hE hparts.1 hparts.2 hl
 have hll : l.length = len := by simpa using f3
 have hne : ¬ (16777216 < len * i.size) := by omega
 have run : (Instr.buildSlice t len (parts.map fun (i, x) => (i, a.eval x))).run P w = .ok (.slice (some ⟨w.heap.size, 0, none⟩) len len) (w.alloc (.cells c' e)) := by
  by_cases h0 : len * i.size = 0
  ·have e0 : ((Array.range (len * i.size)).map (zv.cells[· % zv.cells.size]!)) = #[] := by rw [h0]; simp
   rw [e0] at f1
   simp only [Instr.buildSlice, underlying, Sem.run_bind, run_program, Result.andThen_ok, ht, Sem.run_pure, sizeOf, typeInfo, hinf]
   rw [if_neg (by omega), if_pos h0]
   simp only [Sem.run_pure, Result.andThen_ok, Sem.run_bind, h0]
   have e1 : ((Array.range 0).map ((#[] : Array Value)[· % (#[] : Array Value).size]!)) = #[] := by simp
   rw [e1, f1]
   simp [newRow, World.alloc_eq]
  ·simp only [Instr.buildSlice, underlying, Sem.run_bind, run_program, Result.andThen_ok, ht, Sem.run_pure, sizeOf, typeInfo, hinf]
   rw [if_neg (by omega), if_neg h0]
   simp only [Sem.run_pure, Result.andThen_ok, Sem.run_bind, zeroValue, typeInfo, run_program, hinf, hzv, f1]
   simp [newRow, World.alloc_eq]
 exact ⟨c', run, f2, hll⟩
theorem sim_lit (hi : Inv P G S ρ h w) (ha : RepA S ρ h w a.tmps ad) {t e : TypeId} {len : Nat} {i : TypeInfo} {z : List Value × List FV} {parts : Array (Nat × Operand)} {ps : List (Nat × Opd)} (ht : P.underlying t = some (.slice e)) (hinf : P.info? e = some i) (hz : zeroCellsOf P e = some z)
  (hps : parts.toList.mapM (fun p => (trOpd P e p.2).map (Prod.mk p.1)) = some ps) {imm : Bool} (hd : dop call (.lit imm (tagE P e) i.size len z.2 ps) ad h = some out) :
  SimOut P G S ρ h w ((do pure (Next.value (← Instr.buildSlice t len (parts.map fun (i, x) => (i, a.eval x)))) : Sem Next).run P w) out := by
 obtain ⟨zv, hzv, hk, hzz⟩ : ∃ zv, i.zero = some zv ∧ constsOk zv.cells.toList z.2 = true ∧ z.1 = zv.cells.toList := by
  unfold zeroCellsOf at hz
  simp only [hinf] at hz
  split at hz
  ·rename_i zv hzv
   split at hz
   ·split at hz
    ·rename_i hk
     simp only [Option.some.injEq] at hz
     subst hz
     exact ⟨zv, hzv, hk, rfl⟩
    ·cases hz
   ·cases hz
  ·cases hz
 obtain ⟨zl, zr⟩ := rep_consts (S := S) (w := w) hk
 simp only [dop] at hd
 split at hd
 ·cases hd
 ·rename_i hcond
  have hsz : 0 < i.size := by omega
  have hzlen : z.2.length = i.size := by omega
  have hsmall : len * i.size ≤ 16777216 := by omega
  split at hd
  ·rename_i qs hqs
   split at hd
   ·rename_i l hl
    split at hd
    ·rename_i hz1
     refine sim_imm hi imm hd ?_
     clear hd
     obtain ⟨c', run, f2, hll⟩ := lit_parts (w := w) ha ht hinf hz hps hsz hzlen hsmall hqs hl hz1
     rw [run_v run]
     have E := ext_alloc hi (.cells c' e) (fun x => x < len * i.size) [.row (.slice (some ⟨w.heap.size, 0, none⟩) len len)] [.row i.size len (tagE P e)] (fun r b hr hb => by simp at hr; subst hr; simpa [RI.block] using hb.symm)
     refine ⟨_, _, _, _, .inl rfl, ?_, E, ?_⟩
     ·have hc : ∀ k, k < len * i.size → (w.alloc (.cells c' e)).cell? ⟨w.heap.size, 0 + k, none⟩ = some (c'.getD k undef) := fun k hk => by
       have := f2.size
       rw [hll] at this
       simp only [World.cell?, heap_alloc_at, Nat.zero_add]
       simp [Array.getD_eq_getD_getElem?, show k < c'.size by omega]
      have C : Cellrow (fun b x => S b x ∨ (b = w.heap.size ∧ x < len * i.size)) (w.alloc (.cells c' e)) w.heap.size 0 i.size l (fun k => c'.getD k undef) :=
       ⟨f2.len, fun k hk => ⟨.inr ⟨rfl, by rw [hll] at hk; omega⟩, hc k (by rw [hll] at hk; exact hk)⟩, fun i' j x y hx hy => ⟨((f2.rep i' j x y hx hy).1).mono E.settled E.cells, (f2.rep i' j x y hx hy).2⟩⟩
      have R := C.repF (cap := len) (by omega)
      rw [hll] at R
      refine .row _ _ _ _ R (by simp) fun n hn => ?_
      simp [Res.tip] at hn
      subst hn
      exact ⟨by omega, fun _ => by rw [← hi.len]; simp⟩
     ·refine inv_alloc_old hi _ (fun x => x < len * i.size) _ _ (fun r b hr hb => by simp at hr; subst hr; simpa [RI.block] using hb.symm) rfl ?_ ?_ ?_ ?_ ?_
      ·intro i j b r r' hr hr' _ _
       have a1 := (List.getElem?_eq_some_iff.1 hr).1
       have a2 := (List.getElem?_eq_some_iff.1 hr').1
       simp at a1 a2
       omega
      ·intro i cells tag hc
       have a1 := (List.getElem?_eq_some_iff.1 hc).1
       have hi0 : i = 0 := by simp at a1; omega
       subst hi0
       simp at hc
      ·intro i hc
       have a1 := (List.getElem?_eq_some_iff.1 hc).1
       have hi0 : i = 0 := by simp at a1; omega
       subst hi0
       simp at hc
      ·intro i' sz n et hc
       have a1 := (List.getElem?_eq_some_iff.1 hc).1
       have hi0 : i' = 0 := by simp at a1; omega
       subst hi0
       simp at hc
       obtain ⟨rfl, rfl, rfl⟩ := hc
       refine ⟨w.heap.size, 0, len, c', e, rfl, heap_alloc_at _ _, ⟨hsz, (tagE_ok e).imp _root_.id fun h => ⟨h, rfl⟩⟩, Nat.le_refl _, by rw [f2.size, hll]; omega, fun x hx hs => ?_⟩
       rcases hs with hs | ⟨_, hs⟩
       ·have := hi.bound _ _ hs
        omega
       ·omega
      ·intro i s pos hc
       have a1 := (List.getElem?_eq_some_iff.1 hc).1
       have hi0 : i = 0 := by simp at a1; omega
       subst hi0
       simp at hc
    ·cases hd
   ·cases hd
  ·cases hd
theorem fill_flat {place : Nat → Option (Nat × Nat)} : ∀ (vs : List (Nat × Value)) (ps : List (Nat × List FV)) (c : Array Value) (fs fs' : List FV), c.size = fs.length → (∀ (j : Nat) (y : FV), fs[j]? = some y → RepF S w (c.getD j undef) y) → vs.length = ps.length →
  (∀ (k : Nat) (p : Nat × List FV), ps[k]? = some p → ∃ v i0, vs[k]? = some (i0, v) ∧ place i0 = some (p.1, p.2.length) ∧ v.cells.size = p.2.length ∧ ∀ (j : Nat) (y : FV), p.2[j]? = some y → RepF S w (v.cells.getD j undef) y) →
  fill fs ps = some fs' → ∃ c', Instr.fill place c vs = some c' ∧ c'.size = fs'.length ∧ ∀ (j : Nat) (y : FV), fs'[j]? = some y → RepF S w (c'.getD j undef) y
 | [], [], c, fs, fs', hl, hr, _, _, hf => by
  simp [fill] at hf
  subst hf
  exact ⟨c, rfl, hl, hr⟩
 | (i0, v0) :: vs, (off, new) :: ps, c, fs, fs', hl, hr, hlen, hp, hf => by
  simp only [fill] at hf
  split at hf
  ·rename_i hfit
   obtain ⟨v, i1, hv, hpl, hs, hrep⟩ := hp 0 (off, new) rfl
   simp only [List.getElem?_cons_zero, Option.some.injEq, Prod.mk.injEq] at hv
   obtain ⟨rfl, rfl⟩ := hv
   simp only at hpl hs hrep
   obtain ⟨c', g1, g2, g3⟩ := fill_cons place c i0 v0 vs hpl hs (by omega)
   rw [g1]
   refine fill_flat vs ps c' _ fs' (by rw [g2, hl]; simp; omega) (fun j y hy => ?_) (by simpa using hlen) (fun k q hq => by simpa using hp (k + 1) q (by simpa using hq)) hf
   rw [g3]
   have hl1 : (fs.take off).length = off := by simp; omega
   rcases Nat.lt_or_ge j off with hj | hj
   ·rw [List.append_assoc, List.getElem?_append_left (by omega), List.getElem?_take_of_lt hj] at hy
    rw [if_neg (by omega)]
    exact hr j y hy
   ·rcases Nat.lt_or_ge j (off + new.length) with hj2 | hj2
    ·rw [List.append_assoc, List.getElem?_append_right (by omega), hl1, List.getElem?_append_left (by omega)] at hy
     rw [if_pos ⟨hj, hj2⟩]
     exact hrep _ y hy
    ·rw [List.getElem?_append_right (by simp; omega), List.getElem?_drop] at hy
     have e3 : off + new.length + (j - (fs.take off ++ new).length) = j := by simp; omega
     rw [e3] at hy
     rw [if_neg (by omega)]
     exact hr j y hy
  ·cases hf
 | [], _ :: _, _, _, _, _, _, hl, _, _ => by simp at hl
 | _ :: _, [], _, _, _, _, _, hl, _, _ => by simp at hl
theorem fill_D {place : Nat → Option (Nat × Nat)} : ∀ (vs : List (Nat × Value)) (ps : List (Nat × List DV)) (c : Array Value) (fs fs' : List DV), c.size = fs.length → (∀ (j : Nat) (y : DV), fs[j]? = some y → RepD S ρ h w (c.getD j undef) y) → vs.length = ps.length →
  (∀ (k : Nat) (p : Nat × List DV), ps[k]? = some p → ∃ v i0, vs[k]? = some (i0, v) ∧ place i0 = some (p.1, p.2.length) ∧ v.cells.size = p.2.length ∧ ∀ (j : Nat) (y : DV), p.2[j]? = some y → RepD S ρ h w (v.cells.getD j undef) y) →
  fillD fs ps = some fs' → ∃ c', Instr.fill place c vs = some c' ∧ c'.size = fs'.length ∧ ∀ (j : Nat) (y : DV), fs'[j]? = some y → RepD S ρ h w (c'.getD j undef) y
 | [], [], c, fs, fs', hl, hr, _, _, hf => by
  simp [fillD] at hf
  subst hf
  exact ⟨c, rfl, hl, hr⟩
 | (i0, v0) :: vs, (off, new) :: ps, c, fs, fs', hl, hr, hlen, hp, hf => by
  simp only [fillD] at hf
  split at hf
  ·rename_i hfit
   obtain ⟨v, i1, hv, hpl, hs, hrep⟩ := hp 0 (off, new) rfl
   simp only [List.getElem?_cons_zero, Option.some.injEq, Prod.mk.injEq] at hv
   obtain ⟨rfl, rfl⟩ := hv
   simp only at hpl hs hrep
   obtain ⟨c', g1, g2, g3⟩ := fill_cons place c i0 v0 vs hpl hs (by omega)
   rw [g1]
   refine fill_D vs ps c' _ fs' (by rw [g2, hl]; simp; omega) (fun j y hy => ?_) (by simpa using hlen) (fun k q hq => by simpa using hp (k + 1) q (by simpa using hq)) hf
   rw [g3]
   have hl1 : (fs.take off).length = off := by simp; omega
   rcases Nat.lt_or_ge j off with hj | hj
   ·rw [List.append_assoc, List.getElem?_append_left (by omega), List.getElem?_take_of_lt hj] at hy
    rw [if_neg (by omega)]
    exact hr j y hy
   ·rcases Nat.lt_or_ge j (off + new.length) with hj2 | hj2
    ·rw [List.append_assoc, List.getElem?_append_right (by omega), hl1, List.getElem?_append_left (by omega)] at hy
     rw [if_pos ⟨hj, hj2⟩]
     exact hrep _ y hy
    ·rw [List.getElem?_append_right (by simp; omega), List.getElem?_drop] at hy
     have e3 : off + new.length + (j - (fs.take off ++ new).length) = j := by simp; omega
     rw [e3] at hy
     rw [if_neg (by omega)]
     exact hr j y hy
  ·cases hf
 | [], _ :: _, _, _, _, _, _, hl, _, _ => by simp at hl
 | _ :: _, [], _, _, _, _, _, hl, _, _ => by simp at hl
theorem build_D {place : Nat → Option (Nat × Nat)} {vs : List (Nat × Value)} {c : Array Value} {zero : List FV} {parts : List (Nat × Nat × DV)} {x : DV} (zl : c.size = zero.length) (zr : ∀ (j : Nat) (y : FV), zero[j]? = some y → RepF S w (c.getD j undef) y) (hlen : vs.length = parts.length)
  (hp : ∀ (k : Nat) (p : Nat × Nat × DV), parts[k]? = some p → ∃ v i0, vs[k]? = some (i0, v) ∧ place i0 = some (p.1, p.2.1) ∧ RepD S ρ h w v p.2.2) (hb : buildD zero parts = some x) :
  ∃ c', Instr.fill place c vs = some c' ∧ RepD S ρ h w (.agg c') x := by
 unfold buildD at hb
 split at hb
 ·rename_i ps hps
  simp only [Option.map_eq_some_iff] at hb
  obtain ⟨cs, hcs, rfl⟩ := hb
  obtain ⟨n1, n2⟩ := mapM_some hps
  obtain ⟨c', f1, f2, f3⟩ := fill_D (S := S) (ρ := ρ) (h := h) (w := w) (place := place) vs ps c (zero.map .d) cs (by simpa using zl) (fun j y hy => by
    simp only [List.getElem?_map, Option.map_eq_some_iff] at hy
    obtain ⟨z, hz, rfl⟩ := hy
    exact .d _ _ (zr j z hz)) (by omega) (fun k p hk => by
    obtain ⟨q, hq, hfq⟩ := n2 k p hk
    split at hfq
    ·rename_i hc
     simp only [Option.some.injEq] at hfq
     subst hfq
     obtain ⟨v, i0, h1, h2, h3⟩ := hp k q hq
     obtain ⟨c1, c2, _⟩ := rep_cells h3 hc.2
     exact ⟨v, i0, h1, by simpa [hc.1] using h2, c1, c2⟩
    ·cases hfq) hcs
  exact ⟨c', f1, .agg _ _ f2 f3⟩
 ·cases hb
theorem zero_of {t : TypeId} {z : List Value × List FV} (hz : zeroCellsOf P t = some z) : ∃ i zv, P.info? t = some i ∧ i.zero = some zv ∧ constsOk zv.cells.toList z.2 = true := by
 unfold zeroCellsOf at hz
 split at hz
 ·rename_i i hi
  split at hz
  ·rename_i zv hzv
   split at hz
   ·split at hz
    ·rename_i hk
     simp only [Option.some.injEq] at hz
     subst hz
     exact ⟨i, zv, hi, hzv, hk⟩
    ·cases hz
   ·cases hz
  ·cases hz
 ·cases hz
theorem nilz_ok : ∀ {vs : List Value} {fs : List FV}, constsOk vs fs = true → constsOk vs (nilz fs) = true
 | [], [], _ => rfl
 | v :: vs, f :: fs, hc => by
  simp only [constsOk, Bool.and_eq_true] at hc
  have ih := nilz_ok hc.2
  simp only [nilz, List.map_cons, constsOk, Bool.and_eq_true] at ih ⊢
  refine ⟨?_, ih⟩
  split
  ·have h1 := hc.1
   unfold constOk at h1 ⊢
   split at h1 <;> simp_all
  ·exact hc.1
 | [], _ :: _, hc => by simp [constsOk] at hc
 | _ :: _, [], hc => by simp [constsOk] at hc
theorem sim_build (hi : Inv P G S ρ h w) (ha : RepA S ρ h w a.tmps ad) {t : TypeId} {fields : Array Field} {places : List (Nat × Nat)} {z : List Value × List FV} {parts : Array (Nat × Operand)} {ps : List (Nat × Nat × Opd)} (ht : P.underlying t = some (.struct fields))
  (hpl : fields.toList.mapM (fun f => (P.info? f.type).map fun i => (f.offset, i.size)) = some places) (hz : zeroCellsOf P t = some z)
  (hps : parts.toList.mapM (fun p => match places[p.1]?, fields[p.1]? with
     | some pl, some fl => (trOpd P fl.type p.2).map fun x => (pl.1, pl.2, x)
     | _, _ => none) = some ps) {nz : Bool} (hd : dop call (.build (if nz then nilz z.2 else z.2) ps) ad h = some out) :
  SimOut P G S ρ h w ((do pure (Next.value (← Instr.build t (parts.map fun (i, x) => (i, a.eval x)))) : Sem Next).run P w) out := by
 obtain ⟨i, zv, hi', hzv, hk⟩ := zero_of hz
 have hk : constsOk zv.cells.toList (if nz then nilz z.2 else z.2) = true := by
  split
  ·exact nilz_ok hk
  ·exact hk
 generalize (if nz then nilz z.2 else z.2) = zz at *
 obtain ⟨zl, zr⟩ := rep_consts (S := S) (w := w) hk
 have alt : ∀ {x : DV}, buildD zz (ps.map fun p => (p.1, p.2.1, ev ad p.2.2)) = some x → SimOut P G S ρ h w ((do pure (Next.value (← Instr.build t (parts.map fun (i, x) => (i, a.eval x)))) : Sem Next).run P w) (.val x h) := by
  intro x hx
  obtain ⟨m1, m2⟩ := mapM_some hps
  obtain ⟨c', f1, f2⟩ := build_D (S := S) (ρ := ρ) (h := h) (w := w) (place := (places.toArray[·]?)) (vs := (parts.map fun (i, x) => (i, a.eval x)).toList) (c := zv.cells) (by simpa using zl) (fun j y hy => by
    have := zr j y hy
    simpa [Array.getD_eq_getD_getElem?, List.getD_eq_getElem?_getD] using this) (by simp at m1 ⊢; omega) (fun k p hp => by
    simp only [List.getElem?_map, Option.map_eq_some_iff] at hp
    obtain ⟨q, hq, rfl⟩ := hp
    obtain ⟨r, hr, hfr⟩ := m2 k q hq
    split at hfr
    ·rename_i pl fl e1 e2
     simp only [Option.map_eq_some_iff] at hfr
     obtain ⟨o, ho, rfl⟩ := hfr
     have hr' : parts[k]? = some r := by simpa using hr
     exact ⟨a.eval r.2, r.1, by simp [hr'], by simpa using e1, rep_opd ha ho⟩
    ·cases hfr) hx
  have hb : P.built t (parts.map fun (i, x) => (i, a.eval x)).toList = some c' := by
   simp only [Program.built, hi', ht, hzv, hpl]
   exact f1
  rw [run_v (run_build w t _ c' hb)]
  exact SimOut.plain hi f2
 simp only [dop] at hd
 split at hd
 ·simp only [Option.map_eq_some_iff] at hd
  obtain ⟨x, hx, rfl⟩ := hd
  exact alt hx
 split at hd
 ·rename_i qs hqs
  simp only [Option.map_eq_some_iff] at hd
  obtain ⟨cs, hcs, rfl⟩ := hd
  obtain ⟨m1, m2⟩ := mapM_some hps
  obtain ⟨n1, n2⟩ := mapM_some hqs
  obtain ⟨c', f1, f2, f3⟩ := fill_flat (S := S) (w := w) (place := (places.toArray[·]?)) (parts.map fun (i, x) => (i, a.eval x)).toList qs zv.cells zz cs (by simpa using zl) (fun j y hy => by
    have := zr j y hy
    simpa [Array.getD_eq_getD_getElem?, List.getD_eq_getElem?_getD] using this) (by simp at m1 ⊢; omega) (fun k p hp => by
    obtain ⟨q, hq, hfq⟩ := n2 k p hp
    split at hfq
    ·rename_i cs' hcs'
     split at hfq
     ·rename_i hc
      simp only [Option.some.injEq] at hfq
      subst hfq
      obtain ⟨r, hr, hfr⟩ := m2 k q hq
      split at hfr
      ·rename_i pl fl e1 e2
       simp only [Option.map_eq_some_iff] at hfr
       obtain ⟨o, ho, rfl⟩ := hfr
       obtain ⟨c1, c2⟩ := rep_flatCells (rep_opd ha ho) hcs' hc.2
       have hr' : parts[k]? = some r := by simpa using hr
       exact ⟨a.eval r.2, r.1, by simp [hr'], by simpa [hc.1] using e1, c1, c2⟩
      ·cases hfr
     ·cases hfq
    ·cases hfq) hcs
  have hb : P.built t (parts.map fun (i, x) => (i, a.eval x)).toList = some c' := by
   simp only [Program.built, hi', ht, hzv, hpl]
   exact f1
  rw [run_v (run_build w t _ c' hb)]
  exact SimOut.plain hi (.d _ _ (.agg _ _ f2 f3))
 ·simp only [Option.map_eq_some_iff] at hd
  obtain ⟨x, hx, rfl⟩ := hd
  exact alt hx
theorem sim_buildA (hi : Inv P G S ρ h w) (ha : RepA S ρ h w a.tmps ad) {t : TypeId} {e : TypeId} {n : Nat} {info : TypeInfo} {z : List Value × List FV} {parts : Array (Nat × Operand)} {ps : List (Nat × Nat × Opd)} (ht : P.underlying t = some (.array n e))
  (hinf : P.info? e = some info) (hz : zeroCellsOf P t = some z)
  (hps : parts.toList.mapM (fun p => (trOpd P e p.2).map fun x => (p.1 * info.size, info.size, x)) = some ps) (hd : dop call (.build z.2 ps) ad h = some out) :
  SimOut P G S ρ h w ((do pure (Next.value (← Instr.build t (parts.map fun (i, x) => (i, a.eval x)))) : Sem Next).run P w) out := by
 obtain ⟨i, zv, hi', hzv, hk⟩ := zero_of hz
 generalize z.2 = zz at *
 obtain ⟨zl, zr⟩ := rep_consts (S := S) (w := w) hk
 have alt : ∀ {x : DV}, buildD zz (ps.map fun p => (p.1, p.2.1, ev ad p.2.2)) = some x → SimOut P G S ρ h w ((do pure (Next.value (← Instr.build t (parts.map fun (i, x) => (i, a.eval x)))) : Sem Next).run P w) (.val x h) := by
  intro x hx
  obtain ⟨m1, m2⟩ := mapM_some hps
  obtain ⟨c', f1, f2⟩ := build_D (S := S) (ρ := ρ) (h := h) (w := w) (place := fun i => some (i * info.size, info.size)) (vs := (parts.map fun (i, x) => (i, a.eval x)).toList) (c := zv.cells) (by simpa using zl) (fun j y hy => by
    have := zr j y hy
    simpa [Array.getD_eq_getD_getElem?, List.getD_eq_getElem?_getD] using this) (by simp at m1 ⊢; omega) (fun k p hp => by
    simp only [List.getElem?_map, Option.map_eq_some_iff] at hp
    obtain ⟨q, hq, rfl⟩ := hp
    obtain ⟨r, hr, hfr⟩ := m2 k q hq
    simp only [Option.map_eq_some_iff] at hfr
    obtain ⟨o, ho, rfl⟩ := hfr
    have hr' : parts[k]? = some r := by simpa using hr
    exact ⟨a.eval r.2, r.1, by simp [hr'], rfl, rep_opd ha ho⟩) hx
  have hb : P.built t (parts.map fun (i, x) => (i, a.eval x)).toList = some c' := by
   simp only [Program.built, hi', ht, hzv, hinf]
   exact f1
  rw [run_v (run_build w t _ c' hb)]
  exact SimOut.plain hi f2
 simp only [dop] at hd
 split at hd
 ·simp only [Option.map_eq_some_iff] at hd
  obtain ⟨x, hx, rfl⟩ := hd
  exact alt hx
 split at hd
 ·rename_i qs hqs
  simp only [Option.map_eq_some_iff] at hd
  obtain ⟨cs, hcs, rfl⟩ := hd
  obtain ⟨m1, m2⟩ := mapM_some hps
  obtain ⟨n1, n2⟩ := mapM_some hqs
  obtain ⟨c', f1, f2, f3⟩ := fill_flat (S := S) (w := w) (place := fun i => some (i * info.size, info.size)) (parts.map fun (i, x) => (i, a.eval x)).toList qs zv.cells zz cs (by simpa using zl) (fun j y hy => by
    have := zr j y hy
    simpa [Array.getD_eq_getD_getElem?, List.getD_eq_getElem?_getD] using this) (by simp at m1 ⊢; omega) (fun k p hp => by
    obtain ⟨q, hq, hfq⟩ := n2 k p hp
    split at hfq
    ·rename_i cs' hcs'
     split at hfq
     ·rename_i hc
      simp only [Option.some.injEq] at hfq
      subst hfq
      obtain ⟨r, hr, hfr⟩ := m2 k q hq
      simp only [Option.map_eq_some_iff] at hfr
      obtain ⟨o, ho, rfl⟩ := hfr
      obtain ⟨c1, c2⟩ := rep_flatCells (rep_opd ha ho) hcs' hc.2
      have hr' : parts[k]? = some r := by simpa using hr
      exact ⟨a.eval r.2, r.1, by simp [hr'], by simp [hc.1], c1, c2⟩
     ·cases hfq
    ·cases hfq) hcs
  have hb : P.built t (parts.map fun (i, x) => (i, a.eval x)).toList = some c' := by
   simp only [Program.built, hi', ht, hzv, hinf]
   exact f1
  rw [run_v (run_build w t _ c' hb)]
  exact SimOut.plain hi (.d _ _ (.agg _ _ f2 f3))
 ·simp only [Option.map_eq_some_iff] at hd
  obtain ⟨x, hx, rfl⟩ := hd
  exact alt hx
end
end Go.Deepv
namespace Go.Deepv
open Go.RowKit
section
variable {P : Program} {G : Glob} {S : Settled} {ρ : List RI} {h : List Res} {w : World} {a : Act} {ad : List DV} {call : Cle → List DV → List Res → Option DOut} {out : DOut}
theorem sim_rstr (hi : Inv P G S ρ h w) (ha : RepA S ρ h w a.tmps ad) {src dst t : TypeId} {k : IntKind} {x : Operand} {x' : Opd} (hs : P.underlying src = some (.int k)) (hk : P.underlying dst = some .string) (h1 : trOpd P t x = some x') (hd : dop call (.rstr x') ad h = some out) :
  SimOut P G S ρ h w ((do pure (Next.value (← convert src dst (a.eval x))) : Sem Next).run P w) out := by
 have g1 := rep_opd ha h1
 simp only [dop] at hd
 split at hd
 ·rename_i k' n ef
  simp only [Option.some.injEq] at hd
  subst hd
  rw [ef] at g1
  rw [repF_int (repD_d g1)]
  have : (convert src dst (.int k' n)).run P w = .ok (.string (Utf8.encode n)) w := by
   simp [convert, underlying, hs, hk, Conv.intToString]
  rw [run_v this]
  exact SimOut.plain hi (.d _ _ (.str _))
 ·cases hd
theorem sim_sbytes (hi : Inv P G S ρ h w) (ha : RepA S ρ h w a.tmps ad) {src dst t e : TypeId} {x : Operand} {x' : Opd} (hs : P.underlying src = some .string) (hk : P.underlying dst = some (.slice e)) (he : P.underlying e = some (.int .u8)) (h1 : trOpd P t x = some x') (hd : dop call (.sbytes x') ad h = some out) :
  SimOut P G S ρ h w ((do pure (Next.value (← convert src dst (a.eval x))) : Sem Next).run P w) out := by
 have g1 := rep_opd ha h1
 simp only [dop] at hd
 split at hd
 ·rename_i s ef
  split at hd
  ·rename_i hlim
   simp only [Option.some.injEq] at hd
   subst hd
   rw [ef] at g1
   rw [repF_str (repD_d g1)]
   rw [run_v (run_bytes_of_string w src dst e s hs hk he)]
   have E0 : Ext S ρ h w S ρ h w.drew := ext_quiet rfl rfl rfl rfl
   have I0 : Inv P G S ρ h w.drew := inv_quiet hi rfl rfl rfl rfl
   generalize hcap : grownCap w s.size 0 e = cap
   have hge : s.size ≤ cap := by rw [← hcap]; exact grownCap_ge w s.size 0 e
   have hat : ∀ k b, s.data.toList[k]? = some b → (bytesRow s cap).getD k undef = .int .u8 b.toNat := fun k b hb => by
    have hk : k < s.data.size := by
     have := (List.getElem?_eq_some_iff.1 hb).1
     simpa using this
    simp only [bytesRow, Array.getD_eq_getD_getElem?]
    rw [Array.getElem?_append_left (by simpa using hk)]
    simp only [Array.getElem?_map]
    rw [← Array.getElem?_toList, hb]
    rfl
   have hsize : (bytesRow s cap).size = cap := by
    simp only [bytesRow, Array.size_append, Array.size_map, Array.size_replicate]
    have : s.data.size = s.size := rfl
    omega
   generalize bytesRow s cap = arr at *
   have E := ext_alloc I0 (.cells arr e (arr.size, arr.size + 1)) (fun x => x < s.size) [] [] (fun r b hr => by simp at hr)
   have I := inv_alloc_old I0 (.cells arr e (arr.size, arr.size + 1)) (fun x => x < s.size) [] [] (fun r b hr hb => by simp at hr) rfl (fun i j b r r' hr => by simp at hr) (fun i cells tag hc => by simp at hc) (fun i hc => by simp at hc) (fun i sz n et hc => by simp at hc) (fun i s pos hc => by simp at hc)
   simp only [List.append_nil] at E I
   refine ⟨_, _, _, ρ, .inl rfl, .d _ _ ?_, E0.trans E, I⟩
   have hws : (w.drew).heap.size = w.heap.size := rfl
   refine .slice w.heap.size 0 s.size cap 1 (strCells s) (fun i j => arr.getD (i + j) undef) (strCells_len s) hge (fun i c hc => ?_) (fun i j hi' hj => ⟨.inr ⟨rfl, by omega⟩, ?_⟩) (fun i j c y hc hy => ?_) (fun i j c y hc hy => ?_)
   ·rw [strCells_at] at hc
    simp only [Option.map_eq_some_iff] at hc
    obtain ⟨b, _, rfl⟩ := hc
    rfl
   ·have hn := heap_alloc_at w.drew (.cells arr e (arr.size, arr.size + 1))
    rw [hws] at hn
    simp only [World.cell?, hn]
    have : 0 + i * 1 + j = i + j := by omega
    rw [this]
    simp [Array.getD_eq_getD_getElem?, show i + j < arr.size by omega]
   ·rw [strCells_at] at hc
    simp only [Option.map_eq_some_iff] at hc
    obtain ⟨b, hb, rfl⟩ := hc
    rcases j with _ | j
    ·simp at hy
     subst hy
     simp only [Nat.add_zero]
     rw [hat i b hb]
     exact .int _ _
    ·simp at hy
   ·rw [strCells_at] at hc
    simp only [Option.map_eq_some_iff] at hc
    obtain ⟨b, hb, rfl⟩ := hc
    rcases j with _ | j
    ·simp at hy
     subst hy
     rfl
    ·simp at hy
  ·cases hd
 ·cases hd
theorem sim_tass (hi : Inv P G S ρ h w) (ha : RepA S ρ h w a.tmps ad) {xt t t1 : TypeId} {u : TypeDesc} {comma : Bool} {zf : FV} {x : Operand} {x' : Opd} (hu : P.underlying t = some u) (hni : ∀ m, u ≠ .interface m) (hz : ((P.info? t).bind fun i => i.zero.bind (trConst P t)) = some zf)
  (h1 : trOpd P t1 x = some x') (hd : dop call (.tass t comma zf x') ad h = some out) :
  SimOut P G S ρ h w ((do pure (Next.value (← Instr.typeAssert (a.eval x) xt t comma)) : Sem Next).run P w) out := by
 have g1 := rep_opd ha h1
 simp only [Option.bind_eq_some_iff] at hz
 obtain ⟨i, hinf, zv, hzv, hzc⟩ := hz
 have zrep : RepF S w zv zf := rep_trConst hzc
 have zrun : (zeroValue t).run P w = .ok zv w := by simp [zeroValue, typeInfo, hinf, hzv]
 have pair : ∀ (v : Value) (f : FV) (b : Bool), RepF S w v f → RepF S w (.tuple #[v, .bool b]) (.tup [f, .bool b]) := fun v f b hv => .tup _ _ rfl fun j y hy => by
  match j, hy with
  | 0, hy => simp at hy; subst hy; exact hv
  | 1, hy => simp at hy; subst hy; exact .bool b
  | j + 2, hy => simp at hy
 simp only [dop] at hd
 split at hd
 ·rename_i t' v e
  rw [e] at g1
  have g := repD_d g1
  generalize a.eval x = vx at *
  cases g with
  | iface _ v0 _ hv =>
   split at hd
   ·rename_i htt
    subst htt
    simp only [Option.some.injEq] at hd
    subst hd
    have : (Instr.typeAssert (.iface t' v0) xt t' comma).run P w = .ok (if comma then .tuple #[v0, .bool true] else v0) w := by
     cases u <;> simp_all [Instr.typeAssert, underlying]
    rw [run_v this]
    cases comma
    ·exact SimOut.plain hi (.d _ _ hv)
    ·exact SimOut.plain hi (.d _ _ (pair _ _ _ hv))
   ·rename_i htt
    split at hd
    ·rename_i hc
     simp only [Option.some.injEq] at hd
     subst hd
     subst hc
     have : (Instr.typeAssert (.iface t' v0) xt t true).run P w = .ok (.tuple #[zv, .bool false]) w := by
      cases u <;> simp_all [Instr.typeAssert, underlying]
     rw [run_v this]
     exact SimOut.plain hi (.d _ _ (pair _ _ _ zrep))
    ·cases hd
 ·rename_i e
  rw [e] at g1
  have g := repD_d g1
  generalize a.eval x = vx at *
  cases g with
  | nili =>
   split at hd
   ·rename_i hc
    simp only [Option.some.injEq] at hd
    subst hd
    subst hc
    have : (Instr.typeAssert .nilIface xt t true).run P w = .ok (.tuple #[zv, .bool false]) w := by
     cases u <;> simp_all [Instr.typeAssert, underlying]
    rw [run_v this]
    exact SimOut.plain hi (.d _ _ (pair _ _ _ zrep))
   ·cases hd
 ·cases hd
theorem sim_rng (hi : Inv P G S ρ h w) (ha : RepA S ρ h w a.tmps ad) {t t1 : TypeId} {x : Operand} {x' : Opd} (hu : P.underlying t = some .string) (h1 : trOpd P t1 x = some x') (hd : dop call (.rng x') ad h = some out) :
  SimOut P G S ρ h w ((do pure (Next.value (← Instr.range t (a.eval x))) : Sem Next).run P w) out := by
 have g1 := rep_opd ha h1
 simp only [dop] at hd
 split at hd
 ·rename_i s e
  simp only [Option.some.injEq] at hd
  subst hd
  rw [e] at g1
  rw [repF_str (repD_d g1)]
  have run : (Instr.range t (.string s)).run P w = .ok (.pointer (some ⟨w.heap.size, 0, none⟩)) (w.alloc (.stringIter s 0)) := by
   simp [Instr.range, underlying, hu, run_newObj_alloc]
  rw [run_v run]
  have E := ext_alloc hi (.stringIter s 0) (fun _ => False) [.box w.heap.size] [.iter s 0] (fun r b hr hb => by simp at hr; subst hr; simpa [RI.block] using hb.symm)
  refine ⟨_, _, _, _, .inl rfl, .ptr _ _ _ (by rw [← hi.len]; simp), E, inv_alloc_old hi _ (fun _ => False) _ _ (fun r b hr hb => by simp at hr; subst hr; simpa [RI.block] using hb.symm) rfl ?_ ?_ ?_ ?_ ?_⟩
  ·intro i j b r r' hr hr' _ _
   have a1 := (List.getElem?_eq_some_iff.1 hr).1
   have a2 := (List.getElem?_eq_some_iff.1 hr').1
   simp at a1 a2
   omega
  ·intro i cells tag hc; rcases i with _ | i <;> simp at hc
  ·intro i hc; rcases i with _ | i <;> simp at hc
  ·intro i sz n et hc; rcases i with _ | i <;> simp at hc
  ·intro i s' pos hc
   rcases i with _ | i
   ·simp at hc
    obtain ⟨rfl, rfl⟩ := hc
    exact ⟨w.heap.size, rfl, heap_alloc_at _ _⟩
   ·simp at hc
 ·cases hd
theorem run_getObj {b : Nat} {s : ByteArray} {pos : Nat} (hb : w.heap[b]? = some (.stringIter s pos)) : (getObj b).run P w = .ok (.stringIter s pos) w := by simp [getObj, Sem.run, hb]
theorem run_setObj {b : Nat} {s : ByteArray} {pos : Nat} (o' : Obj) (hb : w.heap[b]? = some (.stringIter s pos)) : (setObj b o').run P w = .ok () { w with heap := w.heap.setIfInBounds b o' } := by simp [setObj, Sem.run, hb]
theorem sim_next (hi : Inv P G S ρ h w) (ha : RepA S ρ h w a.tmps ad) {rt t1 : TypeId} {x : Operand} {x' : Opd} (h1 : trOpd P t1 x = some x') (hd : dop call (.next x') ad h = some out) :
  SimOut P G S ρ h w ((do pure (Next.value (← Instr.next (a.eval x) true rt)) : Sem Next).run P w) out := by
 have g1 := rep_opd ha h1
 simp only [dop] at hd
 split at hd
 ·rename_i id e
  split at hd
  ·rename_i s pos hh
   rw [e] at g1
   generalize a.eval x = vx at *
   cases g1 with
   | ptr _ _ b hb =>
    obtain ⟨b', q1, q2⟩ := hi.iter id s pos hh
    have : b' = b := by rw [q1] at hb; simpa using hb
    subst this
    have hid : id < h.length := (List.getElem?_eq_some_iff.1 hh).1
    have hbl : b' < w.heap.size := (Array.getElem?_eq_some_iff.1 q2).1
    split at hd
    ·rename_i hpos
     simp only [Option.some.injEq] at hd
     subst hd
     have run : (Instr.next (.pointer (some ⟨b', 0, none⟩)) true rt).run P w = .ok (.tuple #[.bool true, goInt pos, .int .i32 (Utf8.decode s pos).1]) { w with heap := w.heap.setIfInBounds b' (.stringIter s (pos + (Utf8.decode s pos).2)) } := by
      simp [Instr.next, run_getObj q2, hpos, run_setObj _ q2]
     rw [run_v run]
     generalize hw' : ({ w with heap := w.heap.setIfInBounds b' (.stringIter s (pos + (Utf8.decode s pos).2)) } : World) = w'
     have hset : ρ.set id (.box b') = ρ := set_self _ _ _ q1
     have hoth : ∀ k, k ≠ b' → w'.heap[k]? = w.heap[k]? := fun k hk => by rw [← hw']; simp [Array.getElem?_setIfInBounds_ne (Ne.symm hk)]
     have hat : w'.heap[b']? = some (.stringIter s (pos + (Utf8.decode s pos).2)) := by rw [← hw']; simp [hbl]
     have hsz : w'.heap.size = w.heap.size := by rw [← hw']; simp
     have hcell : ∀ k o, w'.cell? ⟨k, o, none⟩ = w.cell? ⟨k, o, none⟩ := fun k o => by
      by_cases hk : k = b'
      ·subst hk
       simp [World.cell?, hat, q2]
      ·exact cell?_heap (hoth k hk)
     have E : Ext S ρ h w S (ρ.set id (.box b')) (h.set id (.iter s (pos + (Utf8.decode s pos).2))) w' := by
      rw [hset]
      exact { Ext.refl S ρ h w with
       cells := fun k o _ => hcell k o
       len := by simp
       rows := fun t n' ht hn => by
        by_cases et : t = id
        ·subst et
         rw [List.getElem?_set_self ht] at hn
         simp [Res.tip] at hn
        ·rw [List.getElem?_set_ne (Ne.symm et)] at hn
         exact ⟨n', hn, Nat.le_refl _, fun _ => rfl⟩
       size := by omega
       os := by rw [← hw']
       tape := by rw [← hw']
       output := by rw [← hw']
       frame := fun k hk hn => hoth k (by rintro rfl; exact hn id _ q1 rfl) }
     have I : Inv P G S (ρ.set id (.box b')) (h.set id (.iter s (pos + (Utf8.decode s pos).2))) w' := by
      refine inv_upd hi hid E (fun i k r hne hr hk => ⟨hoth k (by rintro rfl; exact hne (hi.apart i id _ r _ hr q1 hk rfl)), fun o ho => ho⟩) (fun k o hs => by rw [hsz]; exact hi.bound k o hs) (fun k hk => ?_) (fun cells tag hh => by cases hh) (fun hh => by cases hh) (fun sz n et hh => by cases hh) (fun s' p' hh => ?_)
      ·simp [RI.block] at hk
       subst hk
       exact ⟨by omega, fun i r hne hr hk => hne (hi.apart i id _ r _ hr q1 hk rfl)⟩
      ·simp only [Res.iter.injEq] at hh
       obtain ⟨rfl, rfl⟩ := hh
       exact ⟨b', rfl, hat⟩
     rw [hset] at E I
     refine ⟨_, w', S, ρ, .inl rfl, .d _ _ (.tup _ _ rfl fun j y hy => ?_), E, I⟩
     match j, hy with
     | 0, hy => simp at hy; subst hy; exact .bool _
     | 1, hy => simp at hy; subst hy; exact .int _ _
     | 2, hy => simp at hy; subst hy; exact .int _ _
     | j + 3, hy => simp at hy
    ·rename_i hpos
     simp only [Option.some.injEq] at hd
     subst hd
     have run : (Instr.next (.pointer (some ⟨b', 0, none⟩)) true rt).run P w = .ok (.tuple #[.bool false]) w := by
      simp [Instr.next, run_getObj q2, hpos]
     rw [run_v run]
     exact SimOut.plain hi (.d _ _ (.tup _ _ rfl fun j y hy => by
      match j, hy with
      | 0, hy => simp at hy; subst hy; exact .bool _
      | j + 1, hy => simp at hy))
  ·cases hd
 ·cases hd
theorem sim_usd (hi : Inv P G S ρ h w) (ha : RepA S ρ h w a.tmps ad) {ts : Array TypeId} {ty t1 : TypeId} {x : Operand} {x' : Opd} (h1 : trOpd P t1 x = some x') (hd : dop call (.usd x') ad h = some out) :
  SimOut P G S ρ h w ((do pure (Next.value (← Builtin.unsafeSliceData_ ts ty #[a.eval x])) : Sem Next).run P w) out := by
 have g1 := rep_opd ha h1
 simp only [dop] at hd
 split at hd
 ·rename_i l t e
  rw [e] at g1
  generalize a.eval x = vx at *
  cases g1 with
  | row _ _ _ _ hl ht hr =>
   split at hd
   ·rename_i hnr
    split at hd
    ·rename_i hl0
     simp only [Option.some.injEq] at hd
     subst hd
     subst hl0
     obtain ⟨_, hρ⟩ := hr 0 (by simp [hnr, Res.tip])
     have hv : vx = .slice none 0 0 := by
      have := hi.nilrow t hnr
      rw [hρ rfl] at this
      simpa using this
     subst hv
     rw [run_v (Lib.run_unsafeSliceData_nil (P := P) (w := w) ts ty 0 0)]
     exact SimOut.plain hi (.rptr none none 0 0 [] t hl (fun _ => rfl) ht hr)
    ·cases hd
   ·rename_i n et hrow
    split at hd
    ·rename_i hn
     obtain ⟨rfl, hpos⟩ := hn
     simp only [Option.some.injEq] at hd
     subst hd
     obtain ⟨_, hρ⟩ := hr l.length (by simp [hrow, Res.tip])
     obtain ⟨b, o, cap, c, e3, b1, b2, b3, b4, b5, b6⟩ := hi.row t _ _ _ hrow
     have hv : vx = .slice (some ⟨b, o, none⟩) l.length cap := by rw [hρ rfl] at b1; simpa using b1
     subst hv
     rw [run_v (Lib.run_unsafeSliceData_row (P := P) (w := w) ts ty ⟨b, o, none⟩ l.length cap (by omega))]
     exact SimOut.plain hi (.rptr _ _ _ _ l t hl (fun _ => rfl) ht hr)
    ·cases hd
   ·cases hd
 ·cases hd
theorem bytes_at {A : Option Addr} {n cap : Nat} {l : List (List FV)} (hx : RepF S w (.slice A n cap) (.slice 1 l)) {j : Nat} {q : Int} (hj : l[j]? = some [.int .u8 q]) : ∃ b o, A = some ⟨b, o, none⟩ ∧ w.cell? ⟨b, o + j, none⟩ = some (.int .u8 q) := by
 cases hx with
 | slice0 A cap => simp at hj
 | slice b o n cap sz elems u hn hcap hsz hcc hrr ho1 =>
  have hlt : j < l.length := (List.getElem?_eq_some_iff.1 hj).1
  have hcell := (hcc j 0 (by omega) (by omega)).2
  have hrep := hrr j 0 _ (.int .u8 q) hj rfl
  simp only [Nat.mul_one, Nat.add_zero] at hcell
  exact ⟨b, o, rfl, by rw [hcell, repF_int hrep]⟩
theorem row_dies (hi : Inv P G S ρ h w) {t b o n cap sz et : Nat} {c : Array Value} {e : TypeId} (hrow : h[t]? = some (.row sz n et)) (hρ : ρ[t]? = some (.row (.slice (some ⟨b, o, none⟩) n cap))) (hb : w.heap[b]? = some (.cells c e (0, 0))) (k m : Nat) (hm : m ≠ 0) :
  Ext S ρ h w S (ρ.set t .none) (h.set t .dead) (w.freeze ⟨b, k, none⟩ m) ∧ Inv P G S (ρ.set t .none) (h.set t .dead) (w.freeze ⟨b, k, none⟩ m) := by
 generalize hw' : w.freeze ⟨b, k, none⟩ m = w'
 have ht : t < h.length := (List.getElem?_eq_some_iff.1 hrow).1
 have hoth : ∀ k, k ≠ b → w'.heap[k]? = w.heap[k]? := fun k hk => by
  rw [← hw', World.freeze, if_neg hm]
  show (w.heap.modify b _)[k]? = _
  rw [Array.getElem?_modify]
  rw [if_neg (Ne.symm hk)]
 have hat : ∃ fz, w'.heap[b]? = some (.cells c e fz) := by
  rw [← hw', World.freeze, if_neg hm]
  refine ⟨(k, k + m), ?_⟩
  show (w.heap.modify b _)[b]? = _
  rw [Array.getElem?_modify, if_pos rfl, hb]
  rfl
 have hsz : w'.heap.size = w.heap.size := by
  rw [← hw', World.freeze, if_neg hm]
  show (w.heap.modify b _).size = _
  simp
 obtain ⟨fz, hat⟩ := hat
 have hcells : ∀ k o, w'.cell? ⟨k, o, none⟩ = w.cell? ⟨k, o, none⟩ := fun k o => by
  by_cases hk : k = b
  ·subst hk
   simp [World.cell?, hat, hb]
  ·exact cell?_heap (hoth k hk)
 have hos : w'.os = w.os ∧ w'.tape = w.tape ∧ w'.output = w.output := by
  rw [← hw', World.freeze, if_neg hm]
  exact ⟨rfl, rfl, rfl⟩
 have E : Ext S ρ h w S (ρ.set t .none) (h.set t .dead) w' :=
  { Ext.refl S ρ h w with
   cells := fun k o _ => hcells k o
   len := by simp
   boxes := fun id k hk => by
    have : id ≠ t := by rintro rfl; rw [hρ] at hk; simp at hk
    rw [List.getElem?_set_ne (Ne.symm this)]
    exact hk
   rows := fun t' n' ht' hn => by
    by_cases et : t' = t
    ·subst et
     rw [List.getElem?_set_self ht'] at hn
     simp [Res.tip] at hn
    ·rw [List.getElem?_set_ne (Ne.symm et)] at hn
     exact ⟨n', hn, Nat.le_refl _, fun _ => List.getElem?_set_ne (Ne.symm et)⟩
   size := by omega
   os := hos.1
   tape := hos.2.1
   output := hos.2.2
   frame := fun k hk hn => hoth k (by rintro rfl; exact hn t _ hρ rfl)
   blocks := fun i k r hr hk => by
    by_cases et : i = t
    ·subst et
     have := (List.getElem?_eq_some_iff.1 hr).1
     simp at this
     rw [List.getElem?_set_self this] at hr
     simp at hr
     subst hr
     cases hk
    ·rw [List.getElem?_set_ne (Ne.symm et)] at hr
     exact .inr ⟨i, r, hr, hk, id⟩ }
 exact ⟨E, inv_upd hi ht E (fun i k r hne hr9 hk => ⟨hoth k (by rintro rfl; exact hne (hi.apart i t _ r _ hr9 hρ hk rfl)), fun o ho => ho⟩) (fun k o hs => by rw [hsz]; exact hi.bound k o hs) (fun k hk => by cases hk) (fun cells tag hh => by cases hh) (fun hh => by cases hh) (fun sz n et hh => by cases hh) (fun s' p' hh => by cases hh)⟩
theorem sim_mark (hi : Inv P G S ρ h w) (ha : RepA S ρ h w a.tmps ad) {t0 t1 e : TypeId} {x : Operand} {x' : Opd} (ht : P.underlying t0 = some (.slice e)) (he : P.underlying e = some (.int .u8)) (h1 : trOpd P t1 x = some x') (hd : dop call (.mark x') ad h = some out) :
  SimOut P G S ρ h w ((do pure (Next.value (← convert t0 t0 (a.eval x))) : Sem Next).run P w) out := by
 have g1 := rep_opd ha h1
 simp only [dop] at hd
 split at hd
 ·rename_i l t ex
  rw [ex] at g1
  generalize a.eval x = vx at *
  cases g1 with
  | row _ _ _ _ hl htl hr =>
   split at hd
   ·rename_i n et hrow
    split at hd
    ·rename_i hn
     subst hn
     simp only [Option.some.injEq] at hd
     subst hd
     obtain ⟨_, hρ⟩ := hr l.length (by simp [hrow, Res.tip])
     obtain ⟨b, o, cap, c, e3, b1, b2, b3, b4, b5, b6⟩ := hi.row t _ _ _ hrow
     have hv : vx = .slice (some ⟨b, o, none⟩) l.length cap := by rw [hρ rfl] at b1; simpa using b1
     subst hv
     have hsh : w.shape? b = some (e3, c.size) := by simp [World.shape?, b2]
     have run : (convert t0 t0 (.slice (some ⟨b, o, none⟩) l.length cap)).run P w = .ok (.slice (some ⟨b, o, none⟩) l.length cap) (w.freeze ⟨b, c.size, none⟩ 1) := by
      simp [convert, run_underlying ht, run_underlying he, markStringish, hsh]
     rw [run_v run]
     obtain ⟨E, I⟩ := row_dies hi hrow (hρ rfl) b2 c.size 1 (by omega)
     exact ⟨_, _, S, _, .inl rfl, .d _ _ (hl.mono E.settled E.cells), E, I⟩
    ·cases hd
   ·cases hd
 ·cases hd
theorem sim_ustr (hi : Inv P G S ρ h w) (ha : RepA S ρ h w a.tmps ad) {pt it ty e t1 t2 : TypeId} {x n : Operand} {x' n' : Opd} (hp : P.underlying pt = some (.pointer e)) (hc : P.cellsOf e = 1) (h1 : trOpd P t1 x = some x') (h2 : trOpd P t2 n = some n') (hd : dop call (.ustr e x' n') ad h = some out) :
  SimOut P G S ρ h w ((do pure (Next.value (← Builtin.unsafeString_ #[pt, it] ty #[a.eval x, a.eval n])) : Sem Next).run P w) out := by
 have g1 := rep_opd ha h1
 have g2 := rep_opd ha h2
 simp only [dop] at hd
 split at hd
 ·rename_i l t k e1 e2
  have hk : ∃ kd, ev ad n' = .d (.int kd k) := by
   cases hx : ev ad n' with
   | d f => cases f <;> simp [hx, DV.int] at e2; exact ⟨_, by rw [e2]⟩
   | _ => simp [hx, DV.int] at e2
  obtain ⟨kd, hk⟩ := hk
  rw [e1] at g1
  rw [hk] at g2
  rw [repF_int (repD_d g2)]
  split at hd
  ·rename_i hkl
   subst hkl
   split at hd
   ·rename_i ns hns
    obtain ⟨n1, n2⟩ := nums_at hns
    generalize a.eval x = vx at *
    cases g1 with
    | rptr A p m cap _ _ hl hpp ht hr =>
     split at hd
     ·rename_i hl0
      simp only [Option.some.injEq] at hd
      subst hd
      subst hl0
      have run := Lib.run_unsafeString_none (P := P) (w := w) pt it ty p
      have hz : (Builtin.unsafeString_ #[pt, it] ty #[.pointer p, .int kd ((([] : List (List FV)).length : Nat) : Int)]).run P w = .ok (.string .empty) w := by
       have : Builtin.unsafeString_ #[pt, it] ty #[.pointer p, .int kd ((([] : List (List FV)).length : Nat) : Int)] = Builtin.unsafeString_ #[pt, it] ty #[.pointer p, .int .i64 0] := rfl
       rw [this, run]
      rw [run_v hz]
      exact SimOut.plain hi (.d _ _ (.str _))
     ·rename_i hl0
      split at hd
      ·rename_i m' et' hrow
       split at hd
       ·rename_i hcond
        obtain ⟨rfl, h63, rfl, het, hall⟩ := hcond
        simp only [Option.some.injEq] at hd
        subst hd
        obtain ⟨_, hρ⟩ := hr l.length (by simp [hrow, Res.tip])
        have hρ' := hρ rfl
        obtain ⟨b, o, cap', c, e3, b1, b2, ⟨b3, bet⟩, b4, b5, b6⟩ := hi.row t _ _ _ hrow
        obtain ⟨rfl, rfl⟩ : e3 = et' ∧ o = 0 := by
         rcases bet with h | h
         ·exact absurd h het
         ·exact h
        have hA : A = some ⟨b, 0, none⟩ ∧ m = l.length ∧ cap = cap' := by rw [hρ'] at b1; simpa using b1
        obtain ⟨rfl, rfl, rfl⟩ := hA
        have hp' := hpp hl0
        subst hp'
        have hrange : ∀ (i : Nat) (q : Int), ns[i]? = some q → 0 ≤ q ∧ q < 256 := fun i q hq => by
         have := List.all_eq_true.1 hall q (List.mem_of_getElem? hq)
         simpa using this
        let bs : List UInt8 := ns.map fun q => UInt8.ofNat q.toNat
        have hbl : bs.length = l.length := by simp [bs, n1]
        have hcell : ∀ j y, bs[j]? = some y → w.cell? ((⟨b, 0, none⟩ : Addr).add j) = some (.int .u8 y.toNat) := fun j y hy => by
         simp only [bs, List.getElem?_map, Option.map_eq_some_iff] at hy
         obtain ⟨q, hq, rfl⟩ := hy
         have hj : j < l.length := by rw [← n1]; exact (List.getElem?_eq_some_iff.1 hq).1
         have hlj : l[j]? = some l[j] := List.getElem?_eq_getElem hj
         have hci := n2 j _ hlj
         have hqq : ns.getD j 0 = q := by simp [List.getD_eq_getElem?_getD, hq]
         rw [hqq] at hci
         obtain ⟨r1, r2⟩ := hrange j q hq
         rw [add_none, Nat.zero_add]
         obtain ⟨b2', o2, he, hcell⟩ := bytes_at (w := w) hl (j := j) (q := q) (by rw [hlj, hci])
         simp only [Option.some.injEq, Addr.mk.injEq] at he
         obtain ⟨rfl, rfl, _⟩ := he
         rw [Nat.zero_add] at hcell
         rw [hcell]
         have : (UInt8.ofNat q.toNat).toNat = q.toNat := by
          rw [UInt8.toNat_ofNat']
          omega
         rw [this]
         congr 2
         omega
        have hsh : w.shape? b = some (e3, c.size) := by simp [World.shape?, b2]
        have run := Lib.run_unsafeString_row (P := P) (w := w) pt it ty e3 hp hc b c.size hsh bs (by intro h; apply hl0; apply List.eq_nil_of_length_eq_zero; rw [← hbl, h]; rfl) (by omega) (by omega) hcell
        rw [hbl] at run
        have hkd : (Builtin.unsafeString_ #[pt, it] ty #[.pointer (some ⟨b, 0, none⟩), .int kd (l.length : Int)] : Sem Value) = Builtin.unsafeString_ #[pt, it] ty #[.pointer (some ⟨b, 0, none⟩), .int .i64 (l.length : Int)] := rfl
        rw [← hkd] at run
        rw [run_v run]
        generalize hw' : w.freeze ⟨b, 0, none⟩ l.length = w'
        have hpos : l.length ≠ 0 := by intro h; exact hl0 (List.eq_nil_of_length_eq_zero h)
        have hbw : b < w.heap.size := (Array.getElem?_eq_some_iff.1 b2).1
        have hoth : ∀ k, k ≠ b → w'.heap[k]? = w.heap[k]? := fun k hk => by
         rw [← hw', World.freeze, if_neg hpos]
         show (w.heap.modify b _)[k]? = _
         rw [Array.getElem?_modify]
         rw [if_neg (Ne.symm hk)]
        have hat : ∃ fz, w'.heap[b]? = some (.cells c e3 fz) := by
         rw [← hw', World.freeze, if_neg hpos]
         refine ⟨(0, 0 + l.length), ?_⟩
         show (w.heap.modify b _)[b]? = _
         rw [Array.getElem?_modify, if_pos rfl, b2]
         rfl
        have hsz : w'.heap.size = w.heap.size := by
         rw [← hw', World.freeze, if_neg hpos]
         show (w.heap.modify b _).size = _
         simp
        obtain ⟨fz, hat⟩ := hat
        have hcells : ∀ k o, w'.cell? ⟨k, o, none⟩ = w.cell? ⟨k, o, none⟩ := fun k o => by
         by_cases hk : k = b
         ·subst hk
          simp [World.cell?, hat, b2]
         ·exact cell?_heap (hoth k hk)
        have hos : w'.os = w.os ∧ w'.tape = w.tape ∧ w'.output = w.output := by
         rw [← hw', World.freeze, if_neg hpos]
         exact ⟨rfl, rfl, rfl⟩
        have E : Ext S ρ h w S (ρ.set t .none) (h.set t .dead) w' :=
         { Ext.refl S ρ h w with
          cells := fun k o _ => hcells k o
          len := by simp
          boxes := fun id k hk => by
           have : id ≠ t := by rintro rfl; rw [hρ'] at hk; simp at hk
           rw [List.getElem?_set_ne (Ne.symm this)]
           exact hk
          rows := fun t' n' ht' hn => by
           by_cases et : t' = t
           ·subst et
            rw [List.getElem?_set_self ht'] at hn
            simp [Res.tip] at hn
           ·rw [List.getElem?_set_ne (Ne.symm et)] at hn
            exact ⟨n', hn, Nat.le_refl _, fun _ => List.getElem?_set_ne (Ne.symm et)⟩
          size := by omega
          os := hos.1
          tape := hos.2.1
          output := hos.2.2
          frame := fun k hk hn => hoth k (by rintro rfl; exact hn t _ hρ' rfl)
          blocks := fun i k r hr hk => by
           by_cases et : i = t
           ·subst et
            have := (List.getElem?_eq_some_iff.1 hr).1
            simp at this
            rw [List.getElem?_set_self this] at hr
            simp at hr
            subst hr
            cases hk
           ·rw [List.getElem?_set_ne (Ne.symm et)] at hr
            exact .inr ⟨i, r, hr, hk, id⟩ }
        have I : Inv P G S (ρ.set t .none) (h.set t .dead) w' := by
         refine inv_upd hi ht E (fun i k r hne hr9 hk => ⟨hoth k (by rintro rfl; exact hne (hi.apart i t _ r _ hr9 hρ' hk rfl)), fun o ho => ho⟩) (fun k o hs => by rw [hsz]; exact hi.bound k o hs) (fun k hk => by cases hk) (fun cells tag hh => by cases hh) (fun hh => by cases hh) (fun sz n et hh => by cases hh) (fun s' p' hh => by cases hh)
        refine ⟨_, w', S, _, .inl rfl, .d _ _ ?_, E, I⟩
        have : strOfNums ns = ⟨bs.toArray⟩ := rfl
        rw [this]
        exact .str _
       ·cases hd
      ·cases hd
   ·cases hd
  ·cases hd
 ·cases hd
end
end Go.Deepv
namespace Go.Deepv
open Go.RowKit
section
variable {P : Program} {G : Glob} {S : Settled} {ρ : List RI} {h : List Res} {w : World} {a : Act} {ad : List DV} {call : Cle → List DV → List Res → Option DOut} {out : DOut}
theorem row_le {k n sz : Nat} (h : k < n) : k * sz + sz ≤ n * sz := by
 have : (k + 1) * sz ≤ n * sz := Nat.mul_le_mul_right _ h
 rwa [Nat.add_mul, Nat.one_mul] at this
theorem vec_new (hi : Inv P G S ρ h w) {c : Array Value} {e sz et C : Nat} {l : List (List FV)} (hs : 0 < sz) (het : et = 0 ∨ e = et) (hC : C * sz ≤ c.size) (hl : l.length ≤ C)
  (hel : ∀ (k : Nat) (c' : List FV), l[k]? = some c' → c'.length = sz ∧ ∀ (j : Nat) (x : FV), c'[j]? = some x → x.one = true ∧ RepF S w (c.getD (k * sz + j) undef) x) :
  ∃ S', Ext S ρ h w S' (ρ ++ [.vec w.heap.size C sz]) (h ++ [.vec sz l 0 et]) (w.alloc (.cells c e)) ∧ Inv P G S' (ρ ++ [.vec w.heap.size C sz]) (h ++ [.vec sz l 0 et]) (w.alloc (.cells c e)) := by
 have E := ext_alloc hi (.cells c e) (fun _ => False) [.vec w.heap.size C sz] [.vec sz l 0 et] (fun r b hr hb => by simp at hr; subst hr; simpa [RI.block] using hb.symm)
 refine ⟨_, E, inv_alloc_old hi _ (fun _ => False) _ _ (fun r b hr hb => by simp at hr; subst hr; simpa [RI.block] using hb.symm) rfl ?_ ?_ ?_ ?_ ?_ ?_ ?_⟩
 ·intro i j b r r' hr hr' _ _
  have a1 := (List.getElem?_eq_some_iff.1 hr).1
  have a2 := (List.getElem?_eq_some_iff.1 hr').1
  simp at a1 a2
  omega
 all_goals try (intro i; intros; rename_i hc; rcases i with _ | i <;> simp at hc; done)
 intro i r hc
 rcases i with _ | i
 ·simp at hc
  subst hc
  refine ⟨_, rfl, w.heap.size, C, c, e, rfl, heap_alloc_at _ _, hs, het, hC, hl, Nat.zero_le _, fun x _ hx => ?_, fun k c' hk => ⟨(hel k c' hk).1, fun j x hx => ⟨((hel k c' hk).2 j x hx).1, ((hel k c' hk).2 j x hx).2.mono E.settled E.cells⟩⟩⟩
  rcases hx with hx | hx
  ·have := hi.bound _ _ hx
   omega
  ·exact hx.2
 ·simp at hc
theorem vslc_new (hi : Inv P G S ρ h w) {S' : Settled} {sz et C n : Nat} {l : List (List FV)} {w' : World} (hn : n ≤ l.length) (hl : l.length ≤ C) :
  RepD S' (ρ ++ [.vec w.heap.size C sz]) (h ++ [.vec sz l 0 et]) w' (.slice (some ⟨w.heap.size, 0, none⟩) n C) (.vslc h.length l.length sz 0 n) := by
 refine .vslc _ _ _ _ _ _ _ _ (by omega) (by simp) fun m hm => ?_
 simp [Res.tip] at hm
 subst hm
 exact ⟨Nat.le_refl _, fun _ => ⟨C, by rw [← hi.len]; simp, by simp, rfl, by omega⟩⟩
theorem sim_vlit (hi : Inv P G S ρ h w) (ha : RepA S ρ h w a.tmps ad) {t e : TypeId} {len : Nat} {i : TypeInfo} {z : List Value × List FV} {parts : Array (Nat × Operand)} {ps : List (Nat × Opd)} (ht : P.underlying t = some (.slice e)) (hinf : P.info? e = some i) (hz : zeroCellsOf P e = some z)
  (hps : parts.toList.mapM (fun p => (trOpd P e p.2).map (Prod.mk p.1)) = some ps) (hd : dop call (.vlit (tagE P e) i.size len z.2 ps) ad h = some out) :
  SimOut P G S ρ h w ((do pure (Next.value (← Instr.buildSlice t len (parts.map fun (i, x) => (i, a.eval x)))) : Sem Next).run P w) out := by
 simp only [dop] at hd
 split at hd
 ·cases hd
 ·rename_i hcond
  split at hd
  ·rename_i qs hqs
   split at hd
   ·rename_i l hl
    split at hd
    ·rename_i hz1
     simp only [Option.some.injEq] at hd
     subst hd
     obtain ⟨c', run, f2, hll⟩ := lit_parts (S := S) (w := w) ha ht hinf hz hps (by omega) (by omega) (by omega) hqs hl hz1
     rw [run_v run]
     obtain ⟨S', E, I⟩ := vec_new hi (c := c') (e := e) (sz := i.size) (et := tagE P e) (C := len) (l := l) (by omega) (tagE_ok e) (by rw [f2.size, hll]; exact Nat.le_refl _) (by omega)
      (fun k x hx => ⟨f2.len k x hx, fun j y hy => ⟨(f2.rep k j x y hx hy).2, (f2.rep k j x y hx hy).1⟩⟩)
     have R := vslc_new (S' := S') (sz := i.size) (et := tagE P e) (w' := w.alloc (.cells c' e)) hi (n := len) (C := len) (l := l) (by omega) (by omega)
     rw [hll] at R
     exact ⟨_, _, _, _, .inl rfl, R, E, I⟩
    ·cases hd
   ·cases hd
  ·cases hd
theorem sim_vmake (hi : Inv P G S ρ h w) (ha : RepA S ρ h w a.tmps ad) {t e t1 t2 : TypeId} {i : TypeInfo} {z : List Value × List FV} {n c : Operand} {n' c' : Opd} {imm : Bool} (ht : P.underlying t = some (.slice e)) (hinf : P.info? e = some i) (hz : zeroCellsOf P e = some z)
  (h1 : trOpd P t1 n = some n') (h2 : trOpd P t2 c = some c') (hd : dop call (.vmake imm (tagE P e) i.size i.bytes z.2 n' c') ad h = some out) :
  SimOut P G S ρ h w ((do pure (Next.value (← Instr.makeSlice t (a.eval n) (a.eval c))) : Sem Next).run P w) out := by
 obtain ⟨zv, hzv, hk, hzz⟩ : ∃ zv, i.zero = some zv ∧ constsOk zv.cells.toList z.2 = true ∧ z.1 = zv.cells.toList := by
  unfold zeroCellsOf at hz
  simp only [hinf] at hz
  split at hz
  ·rename_i zv hzv
   split at hz
   ·split at hz
    ·rename_i hk
     simp only [Option.some.injEq] at hz
     subst hz
     exact ⟨zv, hzv, hk, rfl⟩
    ·cases hz
   ·cases hz
  ·cases hz
 obtain ⟨zl, zr⟩ := rep_consts (S := S) (w := w) hk
 have g1 := rep_opd ha h1
 have g2 := rep_opd ha h2
 simp only [dop] at hd
 split at hd
 ·rename_i nn cc en ec
  split at hd
  ·rename_i hc
   obtain ⟨c1, c2, c3, c4, c5, c6, c7, c8⟩ := hc
   simp only [Option.some.injEq] at hd
   obtain ⟨kn, hkn⟩ := rep_int g1 en
   obtain ⟨kc, hkc⟩ := rep_int g2 ec
   rw [hkn, hkc]
   have zsize : zv.cells.size = i.size := by simp at zl; omega
   have run := run_make (P := P) w t e i zv ht hinf hzv kn kc nn cc c1 c2 (by rw [Int.mul_comm]; omega) (by omega)
   rw [run_v run]
   have hE : ∀ (k : Nat) (x : List FV), (List.replicate nn.toNat z.2)[k]? = some x → x.length = i.size ∧ ∀ (j : Nat) (y : FV), x[j]? = some y → y.one = true ∧ RepF S w ((madeCells zv.cells (cc.toNat * i.size)).getD (k * i.size + j) undef) y := fun k x hx => by
    have hm := List.mem_of_getElem? hx
    have hkl := (List.getElem?_eq_some_iff.1 hx).1
    simp at hm hkl
    rw [hm.2]
    refine ⟨c7, fun j y hy => ⟨(List.all_eq_true.1 c8) _ (List.mem_of_getElem? hy), ?_⟩⟩
    have hj : j < i.size := by rw [← c7]; exact (List.getElem?_eq_some_iff.1 hy).1
    have hb : k * i.size + j < cc.toNat * i.size := by
     have := row_le (sz := i.size) (show k < cc.toNat by omega)
     omega
    have e2 : (k * i.size + j) % i.size = j := by rw [Nat.add_comm, Nat.add_mul_mod_self_right, Nat.mod_eq_of_lt hj]
    have : (madeCells zv.cells (cc.toNat * i.size)).getD (k * i.size + j) undef = zv.cells.toList.getD j undef := by
     simp [madeCells, Array.getD_eq_getD_getElem?, hb, zsize, e2, List.getD_eq_getElem?_getD, hj]
    rw [this]
    exact zr j y hy
   subst hd
   cases imm with
   | false =>
    simp only [Bool.false_eq_true, if_false]
    obtain ⟨S', E, I⟩ := vec_new hi (c := madeCells zv.cells (cc.toNat * i.size)) (e := e) (sz := i.size) (et := tagE P e) (C := cc.toNat) (l := List.replicate nn.toNat z.2) c6 (tagE_ok e) (by rw [size_madeCells]; exact Nat.le_refl _) (by simp; omega) hE
    have R := vslc_new (S' := S') (sz := i.size) (et := tagE P e) (w' := w.alloc (.cells (madeCells zv.cells (cc.toNat * i.size)) e)) hi (n := nn.toNat) (C := cc.toNat) (l := List.replicate nn.toNat z.2) (by simp) (by simp; omega)
    rw [List.length_replicate] at R
    exact ⟨_, _, _, _, .inl rfl, R, E, I⟩
   | true =>
    simp only [if_true]
    have E := ext_alloc hi (.cells (madeCells zv.cells (cc.toNat * i.size)) e) (fun x => x < cc.toNat * i.size) [] [] (fun r b hr hb => by simp at hr)
    have I := inv_alloc_old hi (.cells (madeCells zv.cells (cc.toNat * i.size)) e) (fun x => x < cc.toNat * i.size) [] [] (fun r b hr hb => by simp at hr) rfl (fun i j b r r' hr => by simp at hr) (fun i cells tag hc => by simp at hc) (fun i hc => by simp at hc) (fun i sz n et hc => by simp at hc) (fun i s pos hc => by simp at hc)
    simp only [List.append_nil] at E I
    refine ⟨_, _, _, _, .inl rfl, .d _ _ ?_, E, I⟩
    refine .slice w.heap.size 0 nn.toNat cc.toNat i.size _ (fun k j => (madeCells zv.cells (cc.toNat * i.size)).getD (k * i.size + j) undef) (by simp) (by omega) (fun k x hx => (hE k x hx).1) (fun k j hk hj => ?_) (fun k j x y hx hy => ((hE k x hx).2 j y hy).2.mono E.settled E.cells) (fun k j x y hx hy => ((hE k x hx).2 j y hy).1)
    have hb : k * i.size + j < cc.toNat * i.size := by
     have := row_le (sz := i.size) (show k < cc.toNat by omega)
     omega
    refine ⟨.inr ⟨rfl, by omega⟩, ?_⟩
    simp only [World.cell?, heap_alloc_at, Nat.zero_add]
    have : k * i.size + j < (madeCells zv.cells (cc.toNat * i.size)).size := by rw [size_madeCells]; exact hb
    simp [Array.getD_eq_getD_getElem?, this]
  ·cases hd
 ·cases hd
theorem sim_frz (hi : Inv P G S ρ h w) {v : Value} {x : Opd} (hx : RepD S ρ h w v (ev ad x)) (hd : dop call (.frz x) ad h = some out) : SimOut P G S ρ h w (.ok (.value v) w) out := by
 simp only [dop] at hd
 split at hd
 ·rename_i id g s off n ex
  split at hd
  ·rename_i sz l fz et hv
   split at hd
   ·rename_i hc
    obtain ⟨rfl, rfl⟩ := hc
    simp only [Option.some.injEq] at hd
    subst hd
    rw [ex] at hx
    obtain ⟨ri, r1, b, C, c, e, rfl, g2, g3, g4, g5, g6, g7, g8, g9⟩ := hi.own id _ hv
    have hidl : id < h.length := (List.getElem?_eq_some_iff.1 hv).1
    have hidl' : id < ρ.length := by rw [hi.len]; exact hidl
    have hbl : b < w.heap.size := (Array.getElem?_eq_some_iff.1 g2).1
    cases hx with
    | vslc b' o cap _ _ _ _ _ hc ht hr =>
     obtain ⟨C', q1, q2, q3, q4⟩ := (hr l.length (by rw [hv]; rfl)).2 rfl
     rw [r1] at q1
     simp only [Option.some.injEq, RI.vec.injEq, and_true] at q1
     obtain ⟨rfl, rfl⟩ := q1
     let S' : Settled := fun b' x => S b' x ∨ (b' = b ∧ x < (off + n) * s)
     have hset : ρ.set id (.vec b C s) = ρ := set_self _ _ _ r1
     have hcl : (off + n) * s ≤ c.size := Nat.le_trans (Nat.mul_le_mul_right _ (by omega : off + n ≤ C)) g5
     have E : Ext S ρ h w S' (ρ.set id (.vec b C s)) (h.set id (.vec s l (max fz (off + n)) et)) w := by
      rw [hset]
      exact { Ext.refl S ρ h w with
       settled := fun b o x => .inl x
       len := by simp
       rows := fun t' n' ht' hn => by
        by_cases e : t' = id
        ·subst e
         rw [List.getElem?_set_self ht'] at hn
         simp [Res.tip] at hn
         exact ⟨l.length, by rw [hv]; rfl, by omega, fun _ => rfl⟩
        ·rw [List.getElem?_set_ne (Ne.symm e)] at hn
         exact ⟨n', hn, Nat.le_refl _, fun _ => rfl⟩
       fresh := fun b' o' x => by
        rcases x with x | ⟨rfl, _⟩
        ·exact .inl x
        ·exact .inr (.inr ⟨id, _, r1, rfl, rfl⟩) }
     have I : Inv P G S' (ρ.set id (.vec b C s)) (h.set id (.vec s l (max fz (off + n)) et)) w := by
      refine inv_upd hi hidl E (fun i b' r hne hr9 hbk => ?_) (fun b' o' hs => ?_) (fun b' hbk => ?_) (fun cells' tag' hce => by cases hce) (fun hh => by cases hh) (fun _ _ _ hh => by cases hh) (fun _ _ hh => by cases hh) (fun _ _ _ _ _ hh => by cases hh) ?_
      ·have : b' ≠ b := by rintro rfl; exact hne (hi.apart i id _ r _ hr9 r1 hbk rfl)
       exact ⟨rfl, fun o ho => ho.elim _root_.id fun ho => absurd ho.1 this⟩
      ·rcases hs with hs | ⟨rfl, _⟩
       ·exact hi.bound b' o' hs
       ·exact hbl
      ·simp [RI.block] at hbk
       subst hbk
       exact ⟨hbl, fun i r hne hr9 hbk => hne (hi.apart i id _ r _ hr9 r1 hbk rfl)⟩
      ·refine ⟨b, C, c, e, rfl, g2, g3, g4, g5, g6, by omega, fun x hx hs => ?_, fun k c' hk => ⟨(g9 k c' hk).1, fun j x hx => ⟨((g9 k c' hk).2 j x hx).1, ((g9 k c' hk).2 j x hx).2.mono E.settled E.cells⟩⟩⟩
       have m1 : fz * s ≤ max fz (off + n) * s := Nat.mul_le_mul_right _ (Nat.le_max_left _ _)
       have m2 : (off + n) * s ≤ max fz (off + n) * s := Nat.mul_le_mul_right _ (Nat.le_max_right _ _)
       rcases hs with hs | ⟨_, hs⟩
       ·exact g8 x (by omega) hs
       ·omega
     rw [hset] at E I
     refine ⟨_, w, S', ρ, .inl rfl, .d _ _ ?_, E, I⟩
     subst q2
     have hlen : ((l.drop off).take n).length = n := by simp; omega
     have hat : ∀ (k : Nat) (c' : List FV), ((l.drop off).take n)[k]? = some c' → k < n ∧ l[off + k]? = some c' := fun k c' hk => by
      rw [List.getElem?_take] at hk
      split at hk
      ·rw [List.getElem?_drop] at hk
       exact ⟨by assumption, hk⟩
      ·cases hk
     refine .slice b (off * s) n cap s _ (fun k j => c.getD ((off + k) * s + j) undef) hlen hc (fun k c' hk => (g9 _ c' (hat k c' hk).2).1) (fun k j hk hj => ?_) (fun k j c' x hk hx => ((g9 _ c' (hat k c' hk).2).2 j x hx).2.mono E.settled E.cells) (fun k j c' x hk hx => ((g9 _ c' (hat k c' hk).2).2 j x hx).1)
     have e1 : off * s + k * s + j = (off + k) * s + j := by rw [Nat.add_mul]
     have := row_le (sz := s) (show off + k < off + n by omega)
     rw [e1]
     refine ⟨.inr ⟨rfl, by omega⟩, ?_⟩
     simp only [World.cell?, g2]
     have h3 : (off + k) * s + j < c.size := by omega
     simp [Array.getD_eq_getD_getElem?, h3]
   ·cases hd
  ·cases hd
 ·rename_i sz l t ex
  simp only [Option.some.injEq] at hd
  subst hd
  rw [ex] at hx
  cases hx with
  | row _ _ _ _ hl _ _ => exact SimOut.plain hi (.d _ _ hl)
 ·rename_i y ex
  simp only [Option.some.injEq] at hd
  subst hd
  rw [ex] at hx
  exact SimOut.plain hi hx
 ·cases hd
end
end Go.Deepv
namespace Go.Deepv
open Go.RowKit
section
variable {P : Program} {G : Glob} {S : Settled} {ρ : List RI} {h : List Res} {w : World} {a : Act} {ad : List DV} {call : Cle → List DV → List Res → Option DOut} {out : DOut}
theorem vec_moved (hi : Inv P G S ρ h w) {tk n0 sz et fz : Nat} {l new : List (List FV)} (htip : (h[tk]?).bind Res.tip = some n0) (hn0 : n0 < l.length + new.length) (hρ : ∃ r, ρ[tk]? = some r ∧ r.isRow = true) (h0 : 0 < sz) (hfz : fz ≤ l.length + new.length)
  (u v : Nat → Value) (hl : ∀ (i j : Nat) (c : List FV) (y : FV), l[i]? = some c → c[j]? = some y → RepF S w (u (i * sz + j)) y ∧ y.one = true) (hl' : ∀ (i : Nat) (c : List FV), l[i]? = some c → c.length = sz)
  (hnew : ∀ (i j : Nat) (c : List FV) (y : FV), new[i]? = some c → c[j]? = some y → RepF S w (v (i * sz + j)) y ∧ y.one = true) (hnew' : ∀ (i : Nat) (c : List FV), new[i]? = some c → c.length = sz)
  (arr : Array Value) (e : TypeId) (het : et = 0 ∨ e = et) (gcap : Nat) (hg : l.length + new.length ≤ gcap) (hsize : arr.size = gcap * sz)
  (ha1 : ∀ k, k < l.length * sz → arr.getD k undef = u k) (ha2 : ∀ k, k < new.length * sz → arr.getD (l.length * sz + k) undef = v k) :
  ∃ ρ', RepD S ρ' (h.set tk (.vec sz (l ++ new) fz et)) (w.drew.alloc (.cells arr e)) (.slice (some ⟨w.heap.size, 0, none⟩) (l.length + new.length) gcap) (.vslc tk (l.length + new.length) sz 0 (l.length + new.length)) ∧
   Ext S ρ h w S ρ' (h.set tk (.vec sz (l ++ new) fz et)) (w.drew.alloc (.cells arr e)) ∧ Inv P G S ρ' (h.set tk (.vec sz (l ++ new) fz et)) (w.drew.alloc (.cells arr e)) := by
 obtain ⟨r0, hρ, hrow0⟩ := hρ
 have htk : tk < h.length := by
  cases hh : h[tk]? with
  | none => simp [hh] at htip
  | some r => exact (List.getElem?_eq_some_iff.1 hh).1
 have htk' : tk < ρ.length := by rw [hi.len]; exact htk
 have hw : ∀ b, b < w.heap.size → (w.drew.alloc (.cells arr e)).heap[b]? = w.heap[b]? := fun b hb => heap_alloc_lt w.drew _ hb
 have hwn : (w.drew.alloc (.cells arr e)).heap[w.heap.size]? = some (.cells arr e (0, 0)) := heap_alloc_at w.drew _
 have hws : (w.drew.alloc (.cells arr e)).heap.size = w.heap.size + 1 := size_alloc w.drew _
 have E : Ext S ρ h w S (ρ.set tk (.vec w.heap.size gcap sz)) (h.set tk (.vec sz (l ++ new) fz et)) (w.drew.alloc (.cells arr e)) :=
  {settled := fun b o x => x
   cells := fun b x hx => cell?_heap (hw b (hi.bound b x hx))
   len := by simp
   boxes := fun id b hb => by
    have : id ≠ tk := by rintro rfl; rw [hρ] at hb; simp at hb; subst hb; simp [RI.isRow] at hrow0
    rw [List.getElem?_set_ne (Ne.symm this)]
    exact hb
   rows := fun t n' ht hn => by
    by_cases e : t = tk
    ·subst e
     rw [List.getElem?_set_self ht] at hn
     simp [Res.tip] at hn
     exact ⟨n0, htip, by omega, fun h => by omega⟩
    ·rw [List.getElem?_set_ne (Ne.symm e)] at hn
     exact ⟨n', hn, Nat.le_refl _, fun _ => List.getElem?_set_ne (Ne.symm e)⟩
   size := by omega
   os := rfl, tape := rfl, output := rfl
   frame := fun b hb _ => hw b hb
   blocks := fun i b r hr hb => by
    by_cases e : i = tk
    ·subst e
     rw [List.getElem?_set_self htk'] at hr
     simp at hr
     subst hr
     simp [RI.block] at hb
     exact .inl (by omega)
    ·rw [List.getElem?_set_ne (Ne.symm e)] at hr
     exact .inr ⟨i, r, hr, hb, id⟩
   fresh := fun b o x => .inl x }
 refine ⟨_, ?_, E, ?_⟩
 ·refine .vslc _ _ _ _ _ _ _ _ hg (by simpa using htk) fun m hm => ?_
  rw [List.getElem?_set_self htk] at hm
  simp [Res.tip] at hm
  exact ⟨by omega, fun _ => ⟨gcap, List.getElem?_set_self htk', by simp, rfl, by omega⟩⟩
 ·refine inv_upd hi htk E (fun i b r hne hr hb => ?_) (fun b o hs => ?_) (fun b hb => ?_) (fun cells tag hh => by cases hh) (fun hh => by cases hh) (fun sz' n et' hh => by cases hh) (fun s pos hh => by cases hh) (fun _ _ _ _ _ hh => by cases hh) ?_
  ·have := hi.low i b r hr hb
   exact ⟨hw b this, fun o ho => ho⟩
  ·have := hi.bound b o hs
   omega
  ·simp [RI.block] at hb
   subst hb
   refine ⟨by omega, fun i r hne hr hb => ?_⟩
   have := hi.low i _ r hr hb
   omega
  ·have hle : (l.length + new.length) * sz ≤ gcap * sz := Nat.mul_le_mul_right _ hg
   rw [Nat.add_mul] at hle
   refine ⟨w.heap.size, gcap, arr, e, rfl, hwn, h0, het, by omega, by simpa using hg, by simpa using hfz, fun x _ hs => by have := hi.bound _ _ hs; omega, fun k c' hk => ?_⟩
   rcases Nat.lt_or_ge k l.length with hkl | hkl
   ·rw [List.getElem?_append_left hkl] at hk
    refine ⟨hl' k c' hk, fun j x hx => ?_⟩
    have hj : j < sz := by rw [← hl' k c' hk]; exact (List.getElem?_eq_some_iff.1 hx).1
    have := row_le (sz := sz) hkl
    rw [ha1 _ (by omega)]
    exact ⟨(hl k j c' x hk hx).2, ((hl k j c' x hk hx).1).mono E.settled E.cells⟩
   ·rw [List.getElem?_append_right hkl] at hk
    have hkn := (List.getElem?_eq_some_iff.1 hk).1
    refine ⟨hnew' _ c' hk, fun j x hx => ?_⟩
    have hj : j < sz := by rw [← hnew' _ c' hk]; exact (List.getElem?_eq_some_iff.1 hx).1
    have := row_le (sz := sz) hkn
    have e1 : k * sz + j = l.length * sz + ((k - l.length) * sz + j) := by
     rw [← Nat.add_assoc, ← Nat.add_mul]
     congr 2
     omega
    rw [e1, ha2 _ (by omega)]
    exact ⟨(hnew _ j c' x hk hx).2, ((hnew _ j c' x hk hx).1).mono E.settled E.cells⟩
theorem vec_room (hi : Inv P G S ρ h w) {id sz et fz p b C e : Nat} {c : Array Value} {l new l' : List (List FV)} (hv : h[id]? = some (.vec sz l fz et)) (r1 : ρ[id]? = some (.vec b C sz)) (g2 : w.heap[b]? = some (.cells c e (0, 0)))
  (g3 : 0 < sz) (g4 : et = 0 ∨ e = et) (g5 : C * sz ≤ c.size) (g7 : fz ≤ l.length) (g8 : ∀ x, fz * sz ≤ x → ¬ S b x) (g9 : ∀ (k : Nat) (c' : List FV), l[k]? = some c' → c'.length = sz ∧ ∀ (j : Nat) (x : FV), c'[j]? = some x → x.one = true ∧ RepF S w (c.getD (k * sz + j) undef) x)
  (hp : fz ≤ p) (hpl : p ≤ l.length) (hpC : p + new.length ≤ C) (hl' : l' = l.take p ++ new ++ l.drop (p + new.length)) (v : Nat → Value)
  (hnew : ∀ (i j : Nat) (c : List FV) (y : FV), new[i]? = some c → c[j]? = some y → RepF S w (v (i * sz + j)) y ∧ y.one = true) (hnew' : ∀ (i : Nat) (c : List FV), new[i]? = some c → c.length = sz) (hlC : l.length ≤ C) :
  Ext S ρ h w S ρ (h.set id (.vec sz l' fz et)) (w.setCells b (p * sz) ((List.range (new.length * sz)).map v)) ∧ Inv P G S ρ (h.set id (.vec sz l' fz et)) (w.setCells b (p * sz) ((List.range (new.length * sz)).map v)) := by
 have hidl : id < h.length := (List.getElem?_eq_some_iff.1 hv).1
 have hpc : (p + new.length) * sz ≤ C * sz := Nat.mul_le_mul_right _ hpC
 rw [Nat.add_mul] at hpc
 have hpf : fz * sz ≤ p * sz := Nat.mul_le_mul_right _ hp
 have hlen' : l'.length = max l.length (p + new.length) := by rw [hl']; simp; omega
 obtain ⟨c', c1, c2, c3, c4, c5, c6, c7, c8⟩ := setCells_block b ((List.range (new.length * sz)).map v) (p * sz) w c e (0, 0) g2 (by simp; omega)
 have newsAt : ∀ k, k < new.length * sz → ((List.range (new.length * sz)).map v).getD k undef = v k := fun k hk => by
  simp [List.getD_eq_getElem?_getD, hk]
 generalize hw' : w.setCells b (p * sz) ((List.range (new.length * sz)).map v) = w' at *
 have hbl : b < w.heap.size := (Array.getElem?_eq_some_iff.1 g2).1
 have keep : ∀ x, (x < p * sz ∨ p * sz + new.length * sz ≤ x) → c'.getD x undef = c.getD x undef := fun x hx => by
  rw [c3 x, if_neg (by simp; omega)]
 have hset : ρ.set id (.vec b C sz) = ρ := set_self _ _ _ r1
 have E : Ext S ρ h w S (ρ.set id (.vec b C sz)) (h.set id (.vec sz l' fz et)) w' := by
  rw [hset]
  exact { Ext.refl S ρ h w with
   cells := fun b' x hs => by
    by_cases hbb : b' = b
    ·subst hbb
     have hx : x < fz * sz := by
      rcases Nat.lt_or_ge x (fz * sz) with h | h
      ·exact h
      ·exact absurd hs (g8 x h)
     have := keep x (by omega)
     simp only [World.cell?, c1, g2]
     simp only [Array.getD_eq_getD_getElem?] at this
     have l1 : x < c'.size := by omega
     have l2 : x < c.size := by omega
     simp [l1, l2] at this ⊢
     exact this
    ·exact cell?_heap (c4 b' hbb)
   len := by simp
   rows := fun t' n' ht' hn => by
    by_cases e : t' = id
    ·subst e
     rw [List.getElem?_set_self ht'] at hn
     simp [Res.tip] at hn
     exact ⟨l.length, by rw [hv]; rfl, by omega, fun _ => rfl⟩
    ·rw [List.getElem?_set_ne (Ne.symm e)] at hn
     exact ⟨n', hn, Nat.le_refl _, fun _ => rfl⟩
   size := by omega
   os := c6
   tape := c7
   output := c8
   frame := fun b' hb hn => c4 b' (by rintro rfl; exact hn id _ r1 rfl) }
 have I : Inv P G S (ρ.set id (.vec b C sz)) (h.set id (.vec sz l' fz et)) w' := by
  refine inv_upd hi hidl E (fun i b' r hne hr9 hbk => ?_) (fun b' o' hs => by rw [c5]; exact hi.bound b' o' hs) (fun b' hbk => ?_) (fun cells' tag' hce => by cases hce) (fun hh => by cases hh) (fun _ _ _ hh => by cases hh) (fun _ _ hh => by cases hh) (fun _ _ _ _ _ hh => by cases hh) ?_
  ·have : b' ≠ b := by rintro rfl; exact hne (hi.apart i id _ r _ hr9 r1 hbk rfl)
   exact ⟨c4 b' this, fun o ho => ho⟩
  ·simp [RI.block] at hbk
   subst hbk
   exact ⟨by rw [c5]; exact hbl, fun i r hne hr9 hbk => hne (hi.apart i id _ r _ hr9 r1 hbk rfl)⟩
  ·refine ⟨b, C, c', e, rfl, c1, g3, g4, by omega, by omega, by omega, g8, fun k c'' hk => ?_⟩
   have old : l[k]? = some c'' → (k < p ∨ p + new.length ≤ k) → c''.length = sz ∧ ∀ (j : Nat) (x : FV), c''[j]? = some x → x.one = true ∧ RepF S w' (c'.getD (k * sz + j) undef) x := fun hk hkk => by
    obtain ⟨z1, z2⟩ := g9 k c'' hk
    refine ⟨z1, fun j x hx => ?_⟩
    have hj : j < sz := by rw [← z1]; exact (List.getElem?_eq_some_iff.1 hx).1
    rw [keep (k * sz + j) (by
     rcases hkk with h | h
     ·have := row_le (sz := sz) h
      omega
     ·have : (p + new.length) * sz ≤ k * sz := Nat.mul_le_mul_right _ h
      rw [Nat.add_mul] at this
      omega)]
    exact ⟨(z2 j x hx).1, ((z2 j x hx).2).mono E.settled E.cells⟩
   have ltp : (l.take p).length = p := by simp; omega
   rw [hl'] at hk
   rcases Nat.lt_or_ge k p with h1 | h1
   ·rw [List.append_assoc, List.getElem?_append_left (by omega), List.getElem?_take_of_lt h1] at hk
    exact old hk (.inl h1)
   ·rcases Nat.lt_or_ge k (p + new.length) with h2 | h2
    ·rw [List.append_assoc, List.getElem?_append_right (by omega), ltp, List.getElem?_append_left (by omega)] at hk
     refine ⟨hnew' _ c'' hk, fun j x hx => ?_⟩
     have hj : j < sz := by rw [← hnew' _ c'' hk]; exact (List.getElem?_eq_some_iff.1 hx).1
     have := row_le (sz := sz) (show k - p < new.length by omega)
     have e1 : k * sz + j = p * sz + ((k - p) * sz + j) := by
      rw [← Nat.add_assoc, ← Nat.add_mul]
      congr 2
      omega
     rw [c3, e1, if_pos (by simp; omega), show p * sz + ((k - p) * sz + j) - p * sz = (k - p) * sz + j by omega, newsAt _ (by omega)]
     exact ⟨(hnew _ j c'' x hk hx).2, ((hnew _ j c'' x hk hx).1).mono E.settled E.cells⟩
    ·rw [List.getElem?_append_right (by simp; omega), List.getElem?_drop] at hk
     have e3 : p + new.length + (k - (l.take p ++ new).length) = k := by simp; omega
     rw [e3] at hk
     exact old hk (.inr h2)
 rw [hset] at E I
 exact ⟨E, I⟩
theorem sim_vapp (hi : Inv P G S ρ h w) (ha : RepA S ρ h w a.tmps ad) {t tx e e' rt t1 t2 : TypeId} {i : TypeInfo} {z : Value} {s x : Operand} {s' x' : Opd} (ht : P.underlying t = some (.slice e)) (hk : P.underlying tx = some (.slice e')) (hinf : P.info? e = some i) (hz : i.zero = some z) (hzs : z.cells.size = i.size)
  (h1 : trOpd P t1 s = some s') (h2 : trOpd P t2 x = some x') (hd : dop call (.vapp (tagE P e) i.size i.bytes s' x') ad h = some out) :
  SimOut P G S ρ h w ((do pure (Next.value (← Builtin.append_ #[t, tx] rt #[a.eval s, a.eval x])) : Sem Next).run P w) out := by
 have g1 := rep_opd ha h1
 have g2 := rep_opd ha h2
 simp only [dop] at hd
 generalize hxe : (ev ad x').elems = xe at hd
 unfold appVec at hd
 split at hd
 ·rename_i s1 l tk s2 new e1
  split at hd
  ·rename_i hc
   obtain ⟨hs2, hlim, hsz, hby, rfl⟩ := hc
   rw [e1] at g1
   obtain ⟨_, ⟨v, hsrc, hv⟩, hv'⟩ := src_row hk hs2 hsz (rep_elems g2 hxe)
   generalize a.eval x = vx at *
   generalize a.eval s = vs at *
   split at hd
   ·rename_i hnr
    cases g1 with
    | row _ _ _ _ hl htk hr =>
     obtain ⟨_, hρ⟩ := hr 0 (by simp [hnr, Res.tip])
     have hρ' := hρ rfl
     have hvs0 : vs = .slice none 0 0 := by
      have := hi.nilrow tk hnr
      rw [hρ'] at this
      simpa using this
     subst hvs0
     split at hd
     ·rename_i hn0
      subst hn0
      simp only [Option.some.injEq] at hd
      subst hd
      have run := run_append_nothing (P := P) w t tx rt e i ht hinf none 0 0 (Nat.le_refl _) vx (by simpa using hsrc)
      rw [run_v run]
      exact SimOut.plain hi (.row _ _ _ _ (.slice0 _ _ _) htk hr)
     ·rename_i hn0
      simp only [Option.some.injEq] at hd
      subst hd
      have hpos : 0 < new.length := List.length_pos_iff.2 hn0
      have lim63 : ((0 + new.length : Nat) : Int) ≤ 9223372036854775807 := by
       have : new.length * 1 ≤ new.length * i.bytes := Nat.mul_le_mul_left _ hby
       omega
      have hcap : 0 < 0 + new.length := by omega
      have hfit : Builtin.nextslicecap (0 + new.length) 0 * i.bytes ≤ 281474976710656 := by
       have := nextslicecap_le hcap
       have h3 : Builtin.nextslicecap (0 + new.length) 0 * i.bytes ≤ (2 * (0 + new.length)) * i.bytes := Nat.mul_le_mul_right _ this
       rw [Nat.mul_assoc, Nat.zero_add] at h3
       simp only [Nat.zero_add] at h3 ⊢
       omega
      have run := run_append_grow_src (P := P) w t tx rt e i z ht hinf hz none 0 0 [] (by simpa using run_firstCells_none (P := P) w.drew i.size 0 0 0) vx new.length _ hsrc hcap lim63 hfit
      rw [run_v run]
      have hgc := grownCap_ge w (0 + new.length) 0 e
      generalize grownCap w (0 + new.length) 0 e = gcap at *
      have hzc : (Builtin.zeroCells z.cells (gcap - (0 + new.length))).size = (gcap - (0 + new.length)) * i.size := by simp [Builtin.zeroCells, hzs]
      obtain ⟨ρ', R, E, I⟩ := vec_moved hi (sz := i.size) (et := tagE P e) (fz := 0) (l := []) (new := new) (tk := tk) (n0 := 0) (by simp [hnr, Res.tip]) (by simpa using hpos) ⟨_, hρ', rfl⟩ hsz (Nat.zero_le _) (fun _ => undef) v (fun _ _ _ _ hc => by simp at hc) (fun _ _ hc => by simp at hc) (fun i' j c y hc hy => (hv i' j c y hc hy).2) hv'
       (([] ++ (List.range (new.length * i.size)).map v).toArray ++ Builtin.zeroCells z.cells (gcap - (0 + new.length))) e (tagE_ok e) gcap (by simpa using hgc)
       (by
        rw [Array.size_append, hzc]
        simp only [List.nil_append, List.size_toArray, List.length_map, List.length_range]
        rw [← Nat.add_mul]
        congr 1
        omega)
       (fun k hk => by simp at hk)
       (fun k hk => by
        rw [List.length_nil, Nat.zero_mul, Nat.zero_add, Array.getD_eq_getD_getElem?, Array.getElem?_append_left (by simp; omega)]
        simp [hk])
      simp only [List.nil_append, List.length_nil, Nat.zero_add] at R E I ⊢
      exact ⟨_, _, S, ρ', .inl rfl, R, E, I⟩
   ·cases hd
  ·cases hd
 ·rename_i id g s1 off n s2 new e1
  split at hd
  ·rename_i s3 l fz et3 hvv
   split at hd
   ·rename_i hc
    obtain ⟨hs2, hlim, hby, rfl, rfl, rfl, rfl⟩ := hc
    rw [e1] at g1
    obtain ⟨ri, r1, b, C, c, e0, rfl, b2, b3, b4, b5, b6, b7, b8, b9⟩ := hi.own id _ hvv
    obtain ⟨_, ⟨v, hsrc, hv⟩, hv'⟩ := src_row hk hs2 b3 (rep_elems g2 hxe)
    generalize a.eval x = vx at *
    generalize a.eval s = vs at *
    have lim63 : ((n + new.length : Nat) : Int) ≤ 9223372036854775807 := by
     have : (n + new.length) * 1 ≤ (n + new.length) * i.bytes := Nat.mul_le_mul_left _ hby
     omega
    have frozen : ∀ j, w.frozen? ⟨b, j, none⟩ = false := fun j => by simp [World.frozen?, b2]
    cases g1 with
    | vslc b' o cap _ _ _ _ _ hnc htt hr =>
     obtain ⟨C', q1, q2, q3, q4⟩ := (hr l.length (by rw [hvv]; rfl)).2 rfl
     rw [r1] at q1
     simp only [Option.some.injEq, RI.vec.injEq, and_true] at q1
     obtain ⟨rfl, rfl⟩ := q1
     have room : off + n + new.length ≤ C → (Builtin.append_ #[t, tx] rt #[.slice (some ⟨b, o, none⟩) n cap, vx]).run P w = .ok (.slice (some ⟨b, o, none⟩) (n + new.length) cap) (w.setCells b ((off + n) * i.size) ((List.range (new.length * i.size)).map v)) := fun hC => by
      have hcz : (off + n + new.length) * i.size ≤ C * i.size := Nat.mul_le_mul_right _ hC
      rw [Nat.add_mul] at hcz
      have run := run_append_room_src (P := P) w t tx rt e i ht hinf b o n cap vx new.length _ hsrc (by omega)
       (fun j hj => by
        simp at hj
        simp only [World.cell?, b2]
        rw [q2, ← Nat.add_mul]
        simp [show (off + n) * i.size + j < c.size by omega])
       (fun j hj => frozen _)
      rw [run, q2, ← Nat.add_mul]
     split at hd
     ·rename_i htip
      split at hd
      ·rename_i hoff
       subst hoff
       simp only [Option.some.injEq] at hd
       subst hd
       by_cases hroom : 0 + n + new.length ≤ C
       ·rw [run_v (room hroom)]
        obtain ⟨E, I⟩ := vec_room hi (p := 0 + n) (l' := l ++ new) hvv r1 b2 b3 b4 b5 b7 b8 b9 (by omega) (by omega) hroom (by rw [htip, List.take_length, List.drop_of_length_le (by omega), List.append_nil]) v (fun i' j c y hc hy => (hv i' j c y hc hy).2) hv' b6
        refine ⟨_, _, S, ρ, .inl rfl, .vslc _ _ _ _ _ _ _ _ (by omega) (by simpa using htt) (fun m hm => ?_), E, I⟩
        rw [List.getElem?_set_self htt] at hm
        simp [Res.tip] at hm
        exact ⟨by omega, fun _ => ⟨C, r1, q2, q3, by omega⟩⟩
       ·have hcap : cap < n + new.length := by omega
        have hfit : Builtin.nextslicecap (n + new.length) cap * i.bytes ≤ 281474976710656 := by
         have := nextslicecap_le hcap
         have h3 : Builtin.nextslicecap (n + new.length) cap * i.bytes ≤ (2 * (n + new.length)) * i.bytes := Nat.mul_le_mul_right _ this
         rw [Nat.mul_assoc] at h3
         omega
        have hnl : n = l.length := by omega
        have hlc : l.length * i.size ≤ c.size := Nat.le_trans (Nat.mul_le_mul_right _ b6) b5
        have hold := run_firstCells_some (P := P) w.drew i.size n ⟨b, o, none⟩ n cap ((List.range (n * i.size)).map fun k => c.getD k undef) (by simp) (fun j v hv => by
         simp only [List.getElem?_map, Option.map_eq_some_iff] at hv
         obtain ⟨k, hk, rfl⟩ := hv
         have hj := (List.getElem?_eq_some_iff.1 hk).1
         simp at hj
         have : k = j := by simpa [List.getElem?_range hj] using hk.symm
         subst this
         rw [add_none, q2, Nat.zero_mul, Nat.zero_add]
         have hh : w.drew.heap[b]? = some (.cells c e0 (0, 0)) := b2
         simp only [World.cell?, hh]
         rw [hnl] at hj
         have : k < c.size := by omega
         simp [Array.getD_eq_getD_getElem?, this])
        have run := run_append_grow_src (P := P) w t tx rt e i z ht hinf hz (some ⟨b, o, none⟩) n cap _ hold vx new.length _ hsrc hcap lim63 hfit
        rw [run_v run]
        have hgc := grownCap_ge w (n + new.length) cap e
        generalize grownCap w (n + new.length) cap e = gcap at *
        have hzc : (Builtin.zeroCells z.cells (gcap - (n + new.length))).size = (gcap - (n + new.length)) * i.size := by simp [Builtin.zeroCells, hzs]
        subst hnl
        obtain ⟨ρ', R, E, I⟩ := vec_moved hi (sz := i.size) (et := tagE P e) (fz := fz) (l := l) (new := new) (tk := id) (n0 := l.length) (by rw [hvv]; rfl) (by omega) ⟨_, r1, rfl⟩ b3 (by omega) (fun k => c.getD k undef) v (fun i' j c y hc hy => ⟨((b9 i' c hc).2 j y hy).2, ((b9 i' c hc).2 j y hy).1⟩) (fun i' c hc => (b9 i' c hc).1) (fun i' j c y hc hy => (hv i' j c y hc hy).2) hv'
         (((List.range (l.length * i.size)).map (fun k => c.getD k undef) ++ (List.range (new.length * i.size)).map v).toArray ++ Builtin.zeroCells z.cells (gcap - (l.length + new.length))) e (tagE_ok e) gcap hgc
         (by
          rw [Array.size_append, hzc]
          simp only [List.size_toArray, List.length_append, List.length_map, List.length_range]
          rw [← Nat.add_mul, ← Nat.add_mul]
          congr 1
          omega)
         (fun k hk => by
          have : k < ((List.range (l.length * i.size)).map (fun k => c.getD k undef) ++ (List.range (new.length * i.size)).map v).toArray.size := by simp; omega
          rw [Array.getD_eq_getD_getElem?, Array.getElem?_append_left this]
          simp [List.getElem?_append_left, hk])
         (fun k hk => by
          have : l.length * i.size + k < ((List.range (l.length * i.size)).map (fun k => c.getD k undef) ++ (List.range (new.length * i.size)).map v).toArray.size := by simp; omega
          rw [Array.getD_eq_getD_getElem?, Array.getElem?_append_left this]
          simp [List.getElem?_append_right, hk])
        exact ⟨_, _, S, ρ', .inl rfl, R, E, I⟩
      ·cases hd
     ·rename_i htip
      split at hd
      ·rename_i hin
       simp only [Option.some.injEq] at hd
       subst hd
       rw [run_v (room (by omega))]
       obtain ⟨E, I⟩ := vec_room hi (p := off + n) hvv r1 b2 b3 b4 b5 b7 b8 b9 (by omega) (by omega) (by omega) rfl v (fun i' j c y hc hy => (hv i' j c y hc hy).2) hv' b6
       refine ⟨_, _, S, ρ, .inl rfl, .vslc _ _ _ _ _ _ _ _ (by omega) (by simpa using htt) (fun m hm => ?_), E, I⟩
       rw [List.getElem?_set_self htt] at hm
       simp [Res.tip] at hm
       exact ⟨by omega, fun _ => ⟨C, r1, q2, q3, by omega⟩⟩
      ·cases hd
   ·cases hd
  ·cases hd
 ·cases hd
theorem sim_vappn (hi : Inv P G S ρ h w) (ha : RepA S ρ h w a.tmps ad) {t tx e rt t1 t2 : TypeId} {kx : IntKind} {i : TypeInfo} {z : List Value × List FV} {s x : Operand} {s' x' : Opd} (ht : P.underlying t = some (.slice e)) (hk : P.underlying tx = some (.int kx)) (hinf : P.info? e = some i) (hz : zeroCellsOf P e = some z)
  (h1 : trOpd P t1 s = some s') (h2 : trOpd P t2 x = some x') (hd : dop call (.vappn (tagE P e) i.size i.bytes z.2 s' x') ad h = some out) :
  SimOut P G S ρ h w ((do pure (Next.value (← Builtin.append_ #[t, tx] rt #[a.eval s, a.eval x])) : Sem Next).run P w) out := by
 obtain ⟨zv, hzv, hkz, hzz⟩ : ∃ zv, i.zero = some zv ∧ constsOk zv.cells.toList z.2 = true ∧ z.1 = zv.cells.toList := by
  unfold zeroCellsOf at hz
  simp only [hinf] at hz
  split at hz
  ·rename_i zv hzv
   split at hz
   ·split at hz
    ·rename_i hk
     simp only [Option.some.injEq] at hz
     subst hz
     exact ⟨zv, hzv, hk, rfl⟩
    ·cases hz
   ·cases hz
  ·cases hz
 obtain ⟨zl, zr⟩ := rep_consts (S := S) (w := w) hkz
 have g1 := rep_opd ha h1
 have g2 := rep_opd ha h2
 simp only [dop] at hd
 split at hd
 ·rename_i s1 tk n e1 en
  split at hd
  ·rename_i hnr
   split at hd
   ·rename_i hc
    obtain ⟨hn0, hlim, hby, hsz, hzlen, hone⟩ := hc
    simp only [Option.some.injEq] at hd
    subst hd
    obtain ⟨kn, hkn⟩ := rep_int g2 en
    rw [hkn]
    obtain ⟨m, rfl⟩ : ∃ m : Nat, n = m := ⟨n.toNat, by omega⟩
    simp only [Int.toNat_natCast]
    rw [e1] at g1
    generalize a.eval s = vs at *
    cases g1 with
    | row _ _ _ _ hl htk hr =>
     obtain ⟨_, hρ⟩ := hr 0 (by simp [hnr, Res.tip])
     have hρ' := hρ rfl
     have hvs0 : vs = .slice none 0 0 := by
      have := hi.nilrow tk hnr
      rw [hρ'] at this
      simpa using this
     subst hvs0
     have zsize : zv.cells.size = i.size := by simp at zl; omega
     have hm : m * i.bytes ≤ 140737488355328 := by
      have : ((m * i.bytes : Nat) : Int) ≤ 140737488355328 := by rw [Int.natCast_mul]; exact hlim
      omega
     have lim63 : ((0 + m : Nat) : Int) ≤ 9223372036854775807 := by
      have : m * 1 ≤ m * i.bytes := Nat.mul_le_mul_left _ hby
      omega
     have hcap : 0 < 0 + m := by omega
     have hfit : Builtin.nextslicecap (0 + m) 0 * i.bytes ≤ 281474976710656 := by
      have := nextslicecap_le hcap
      have h3 : Builtin.nextslicecap (0 + m) 0 * i.bytes ≤ (2 * (0 + m)) * i.bytes := Nat.mul_le_mul_right _ this
      rw [Nat.mul_assoc, Nat.zero_add] at h3
      simp only [Nat.zero_add] at h3 ⊢
      omega
     have run := Lib.run_append_grow_zeros (P := P) w t tx rt e i zv kn kx ht hk hinf hzv none 0 0 [] (by simpa using run_firstCells_none (P := P) w.drew i.size 0 0 0) m (by omega) hsz hcap lim63 (by omega) hfit
     rw [run_v run]
     have hgc := grownCap_ge w (0 + m) 0 e
     generalize grownCap w (0 + m) 0 e = gcap at *
     have hza : (Builtin.zeroCells zv.cells m).size = m * i.size := by simp [Builtin.zeroCells, zsize]
     have hzc : (Builtin.zeroCells zv.cells (gcap - (0 + m))).size = (gcap - (0 + m)) * i.size := by simp [Builtin.zeroCells, zsize]
     have hel : ∀ (i' j : Nat) (c : List FV) (y : FV), (List.replicate m z.2)[i']? = some c → c[j]? = some y → RepF S w (zv.cells.toList.getD ((i' * i.size + j) % i.size) undef) y ∧ y.one = true := fun i' j c y hc hy => by
      have hmm := List.mem_of_getElem? hc
      simp at hmm
      rw [hmm.2] at hy
      have hj : j < i.size := by rw [← hzlen]; exact (List.getElem?_eq_some_iff.1 hy).1
      have e2 : (i' * i.size + j) % i.size = j := by rw [Nat.add_comm, Nat.add_mul_mod_self_right, Nat.mod_eq_of_lt hj]
      rw [e2]
      exact ⟨zr j y hy, (List.all_eq_true.1 hone) _ (List.mem_of_getElem? hy)⟩
     obtain ⟨ρ', R, E, I⟩ := vec_moved hi (sz := i.size) (et := tagE P e) (fz := 0) (l := []) (new := List.replicate m z.2) (tk := tk) (n0 := 0) (by simp [hnr, Res.tip]) (by simp; omega) ⟨_, hρ', rfl⟩ hsz (Nat.zero_le _) (fun _ => undef) (fun k => zv.cells.toList.getD (k % i.size) undef) (fun _ _ _ _ hc => by simp at hc) (fun _ _ hc => by simp at hc) hel
      (fun i' c hc => by
       have hmm := List.mem_of_getElem? hc
       simp at hmm
       rw [hmm.2]
       exact hzlen)
      (([] : List Value).toArray ++ Builtin.zeroCells zv.cells m ++ Builtin.zeroCells zv.cells (gcap - (0 + m))) e (tagE_ok e) gcap (by simpa using hgc)
      (by
       rw [Array.size_append, Array.size_append, hzc, hza]
       simp only [List.size_toArray, List.length_nil, Nat.zero_add]
       rw [← Nat.add_mul]
       congr 1
       omega)
      (fun k hk => by simp at hk)
      (fun k hk => by
       simp only [List.length_replicate] at hk
       rw [List.length_nil, Nat.zero_mul, Nat.zero_add, Array.getD_eq_getD_getElem?, Array.getElem?_append_left (by rw [Array.size_append, hza]; simp; omega), Array.getElem?_append_right (by simp)]
       have hmod : k % i.size < zv.cells.size := by rw [zsize]; exact Nat.mod_lt _ hsz
       simp [Builtin.zeroCells, zsize, hk, List.getD_eq_getElem?_getD]
       rw [getElem!_pos zv.cells (k % i.size) hmod, Array.getElem?_eq_getElem hmod]
       rfl)
     simp only [List.nil_append, List.length_nil, Nat.zero_add, List.length_replicate] at R E I ⊢
     exact ⟨_, _, S, ρ', .inl rfl, R, E, I⟩
   ·cases hd
  ·cases hd
 ·cases hd
end
end Go.Deepv
namespace Go.Deepv
open Go.RowKit Go.MapKept
section
variable {P : Program} {G : Glob} {S : Settled} {ρ : List RI} {h : List Res} {w : World} {a : Act} {ad : List DV} {call : Cle → List DV → List Res → Option DOut} {out : DOut}
theorem bytes_eq (a b : ByteArray) : (a == b) = (a.toList == b.toList) := by
 rw [Bool.eq_iff_iff]
 constructor
 ·intro h
  have : a = b := (bytes_beq a b).1 h
  subst this
  exact beq_self_eq_true _
 ·intro h
  have h := eq_of_beq h
  rw [ByteArray.toList_eq, ByteArray.toList_eq] at h
  exact (bytes_beq a b).2 (ByteArray.ext (Array.ext' h))
theorem key_is {kt : TypeId} {d : TypeDesc} {kz k : FV} {v : Value} (hd : P.underlying kt = some d) (hz : keyZero P kt = some kz) (hk : keyOk kz k = true) (hr : RepF S w v k) : IsKey d v := by
 unfold keyZero at hz
 rw [hd] at hz
 split at hz
 ·rename_i k0 he
  simp only [Option.some.injEq] at hz he
  subst hz
  subst he
  cases k <;> simp [keyOk] at hk
  rw [repF_int hr]
  exact hk.symm
 ·rename_i he
  simp only [Option.some.injEq] at hz he
  subst hz
  subst he
  cases k <;> simp [keyOk] at hk
  rw [repF_str hr]
  trivial
 ·rename_i he
  simp only [Option.some.injEq] at hz he
  subst hz
  subst he
  cases k <;> simp [keyOk] at hk
  rw [repF_bool hr]
  trivial
 ·cases hz
theorem key_same {d : TypeDesc} {k k' : FV} {v v' : Value} {b : Bool} (hv : IsKey d v) (hr : RepF S w v k) (hr' : RepF S w v' k') (he : keyEq k k' = some b) : Instr.sameNow d v v' = some b := by
 cases k <;> cases k' <;> simp only [keyEq, reduceCtorEq] at he
 ·split at he
  ·rename_i hk
   subst hk
   rw [repF_int hr] at hv ⊢
   rw [repF_int hr']
   cases d <;> simp only [IsKey] at hv
   simp only [Instr.sameNow, if_true]
   exact he
  ·cases he
 ·rw [repF_bool hr] at hv ⊢
  rw [repF_bool hr']
  cases d <;> simp only [IsKey] at hv
  exact he
 ·rw [repF_str hr] at hv ⊢
  rw [repF_str hr']
  cases d <;> simp only [IsKey] at hv
  simp only [Instr.sameNow, bytes_eq]
  exact he
theorem find_sim {d : TypeDesc} {k : FV} {v : Value} (hv : IsKey d v) (hr : RepF S w v k) : ∀ (l : List (FV × FV)) (es : List MapEntry) (i : Nat) (r : Option (Nat × FV)), es.length = l.length →
  (∀ (j : Nat) (k v : FV), l[j]? = some (k, v) → ∃ e, es[j]? = some e ∧ RepF S w e.key k ∧ RepF S w e.val v) → findE k l i = some r →
  (r = none ∧ Instr.findNow d v es i = some none) ∨ ∃ j x e, r = some (i + j, x) ∧ j < l.length ∧ es[j]? = some e ∧ e.key = v ∧ RepF S w e.val x ∧ Instr.findNow d v es i = some (some (i + j, e.val))
 | [], es, i, r, hl, _, hf => by
  have : es = [] := List.eq_nil_of_length_eq_zero hl
  subst this
  simp only [findE, Option.some.injEq] at hf
  exact .inl ⟨hf.symm, rfl⟩
 | (k', x) :: l, es, i, r, hl, hm, hf => by
  cases es with
  | nil => simp at hl
  | cons e es =>
   obtain ⟨e', he', hk, hx⟩ := hm 0 k' x rfl
   simp only [List.getElem?_cons_zero, Option.some.injEq] at he'
   subst he'
   simp only [findE] at hf
   split at hf
   ·rename_i hb
    have hs := key_same hv hr hk hb
    simp only [Option.some.injEq] at hf
    subst hf
    refine .inr ⟨0, x, e, rfl, by simp, rfl, ?_, hx, by simp [Instr.findNow, hs]⟩
    cases k <;> cases k' <;> simp only [keyEq, reduceCtorEq] at hb
    ·split at hb
     ·rename_i hkk
      subst hkk
      simp only [Option.some.injEq, beq_iff_eq] at hb
      subst hb
      rw [repF_int hk, repF_int hr]
     ·cases hb
    ·simp only [Option.some.injEq, beq_iff_eq] at hb
     subst hb
     rw [repF_bool hk, repF_bool hr]
    ·simp only [Option.some.injEq, beq_iff_eq] at hb
     rw [repF_str hk, repF_str hr]
     congr 1
     rw [ByteArray.toList_eq, ByteArray.toList_eq] at hb
     exact (ByteArray.ext (Array.ext' hb)).symm
   ·rename_i hb
    have hs := key_same hv hr hk hb
    rcases find_sim hv hr l es (i + 1) r (by simpa using hl) (fun j k v hj => by simpa using hm (j + 1) k v (by simpa using hj)) hf with ⟨h1, h2⟩ | ⟨j, y, e', h1, h2, h3, h4, h5, h6⟩
    ·exact .inl ⟨h1, by simp [Instr.findNow, hs, h2]⟩
    ·exact .inr ⟨j + 1, y, e', by rw [h1]; congr 2; omega, by simp; omega, by simpa using h3, h4, h5, by simp [Instr.findNow, hs, h6]; omega⟩
   ·cases hf
theorem sim_mkmap (hi : Inv P G S ρ h w) {t : TypeId} (hd : dop call .mkmap ad h = some out) : SimOut P G S ρ h w ((do pure (Next.value (← Instr.makeMap t none)) : Sem Next).run P w) out := by
 simp only [dop, Option.some.injEq] at hd
 subst hd
 rw [run_v (run_makeMap t w)]
 have E := ext_alloc hi (.map #[] 0) (fun _ => False) [.box w.heap.size] [.map []] (fun r b hr hb => by simp at hr; subst hr; simpa [RI.block] using hb.symm)
 refine ⟨_, _, _, _, .inl rfl, .mref _ _ (by rw [← hi.len]; simp), E, inv_alloc_old hi _ (fun _ => False) _ _ (fun r b hr hb => by simp at hr; subst hr; simpa [RI.block] using hb.symm) rfl ?_ ?_ ?_ ?_ ?_ ?_ ?_⟩
 ·intro i j b r r' hr hr' _ _
  have a1 := (List.getElem?_eq_some_iff.1 hr).1
  have a2 := (List.getElem?_eq_some_iff.1 hr').1
  simp at a1 a2
  omega
 all_goals try (intro i; intros; rename_i hc; rcases i with _ | i <;> simp at hc; done)
 intro i r hc
 rcases i with _ | i
 ·simp at hc
  subst hc
  refine ⟨_, rfl, w.heap.size, #[], 0, rfl, heap_alloc_at _ _, rfl, fun o ho => ?_, fun j k v hj => by simp at hj⟩
  rcases ho with ho | ho
  ·have := hi.bound _ _ ho
   omega
  ·exact ho.2
 ·simp at hc
theorem map_at (hi : Inv P G S ρ h w) {v : Value} {id : Nat} {l : List (FV × FV)} (hx : RepD S ρ h w v (.mref id)) (hm : h[id]? = some (.map l)) :
  ∃ b es ck, v = .map (some b) ∧ ρ[id]? = some (.box b) ∧ w.heap[b]? = some (.map es ck) ∧ es.size = l.length ∧ (∀ o, ¬ S b o) ∧ ∀ (j : Nat) (k v : FV), l[j]? = some (k, v) → ∃ e, es.toList[j]? = some e ∧ RepF S w e.key k ∧ RepF S w e.val v := by
 obtain ⟨ri, r1, b, es, ck, rfl, g2, g3, g4, g5⟩ := hi.own id _ hm
 cases hx with
 | mref _ b' hb =>
  rw [r1] at hb
  simp only [Option.some.injEq, RI.box.injEq] at hb
  subst hb
  exact ⟨b, es, ck, rfl, r1, g2, g3, g4, fun j k v hj => by simpa using g5 j k v hj⟩
theorem sim_mlook (hi : Inv P G S ρ h w) (ha : RepA S ρ h w a.tmps ad) {t kt et : TypeId} {info : TypeInfo} {zv : Value} {x i : Operand} {x' i' : Opd} {kz zf : FV} {comma : Bool} (ht : P.underlying t = some (.map kt et)) (hinf : P.info? et = some info) (hz : info.zero = some zv) (hzf : trConst P et zv = some zf) (hkz : keyZero P kt = some kz)
  {t1 t2 : TypeId} (h1 : trOpd P t1 x = some x') (h2 : trOpd P t2 i = some i') (hd : dop call (.mlook comma kz zf x' i') ad h = some out) :
  SimOut P G S ρ h w ((do pure (Next.value (← Instr.lookup t (a.eval x) (a.eval i) comma)) : Sem Next).run P w) out := by
 have g1 := rep_opd ha h1
 have g2 := rep_opd ha h2
 have gz : RepF S w zv zf := rep_trConst hzf
 simp only [dop] at hd
 split at hd
 ·rename_i id k e1 e2
  split at hd
  ·rename_i hko
   split at hd
   ·rename_i l hm
    rw [e1] at g1
    rw [e2] at g2
    obtain ⟨b, es, ck, hv, r1, b2, b3, b4, b5⟩ := map_at hi g1 hm
    have gk := repD_d g2
    obtain ⟨d, hkd⟩ : ∃ d, P.underlying kt = some d := by
     unfold keyZero at hkz
     cases hh : P.underlying kt with
     | none => rw [hh] at hkz; simp at hkz
     | some d => exact ⟨d, rfl⟩
    have hik := key_is hkd hkz hko gk
    rw [hv]
    generalize a.eval i = vi at *
    have fs := fun r hf => find_sim hik gk l es.toList 0 r (by simpa using b3) b5 hf
    have two : ∀ (u : Value) (y : FV) (c : Bool), RepF S w u y → RepF S w (.tuple #[u, .bool c]) (.tup [y, .bool c]) := fun u y c hu => .tup _ _ rfl fun j z hz => by
     match j, hz with
     | 0, hz => simp at hz; subst hz; exact hu
     | 1, hz => simp at hz; subst hz; exact .bool _
     | j + 2, hz => simp at hz
    split at hd
    ·rename_i j0 v0 hf
     simp only [Option.some.injEq] at hd
     subst hd
     rcases fs _ hf with ⟨h, _⟩ | ⟨j, y, e, h1, h2, h3, h4, h5, h6⟩
     ·cases h
     ·simp only [Option.some.injEq, Prod.mk.injEq] at h1
      obtain ⟨rfl, rfl⟩ := h1
      have run : (Instr.lookup t (.map (some b)) vi comma).run P w = .ok (if comma then .tuple #[e.val, .bool true] else e.val) w := by
       simp [Instr.lookup, run_underlying ht, Go.MapKept.run_getObj_map b2, Go.MapKept.run_checkKey hkd hik, Go.MapKept.run_findKey hkd h6, Result.andThen]
      rw [run_v run]
      cases comma with
      | true => exact SimOut.plain hi (.d _ _ (two _ _ _ h5))
      | false => exact SimOut.plain hi (.d _ _ h5)
    ·rename_i hf
     simp only [Option.some.injEq] at hd
     subst hd
     rcases fs _ hf with ⟨_, h6⟩ | ⟨j, y, e, h1, _⟩
     ·have run : (Instr.lookup t (.map (some b)) vi comma).run P w = .ok (if comma then .tuple #[zv, .bool false] else zv) w := by
       simp [Instr.lookup, run_underlying ht, Go.MapKept.run_getObj_map b2, Go.MapKept.run_checkKey hkd hik, Go.MapKept.run_findKey hkd h6, Result.andThen, zeroValue, typeInfo, hinf, hz]
      rw [run_v run]
      cases comma with
      | true => exact SimOut.plain hi (.d _ _ (two _ _ _ gz))
      | false => exact SimOut.plain hi (.d _ _ gz)
     ·cases h1
    ·cases hd
   ·cases hd
  ·cases hd
 ·cases hd
theorem map_set (hi : Inv P G S ρ h w) {id b ck ck' : Nat} {es es' : Array MapEntry} {l l' : List (FV × FV)} (hm : h[id]? = some (.map l)) (r1 : ρ[id]? = some (.box b)) (b2 : w.heap[b]? = some (.map es ck)) (b4 : ∀ o, ¬ S b o)
  (hs : es'.size = l'.length) (hr : ∀ (j : Nat) (k v : FV), l'[j]? = some (k, v) → ∃ e, es'[j]? = some e ∧ RepF S w e.key k ∧ RepF S w e.val v) :
  Ext S ρ h w S ρ (h.set id (.map l')) { w with heap := w.heap.setIfInBounds b (.map es' ck') } ∧ Inv P G S ρ (h.set id (.map l')) { w with heap := w.heap.setIfInBounds b (.map es' ck') } := by
 have hidl : id < h.length := (List.getElem?_eq_some_iff.1 hm).1
 obtain ⟨s1, s2⟩ := Go.MapKept.heap_set (w := w) (o' := .map es' ck') b2
 have hset : ρ.set id (.box b) = ρ := set_self _ _ _ r1
 have hbl : b < w.heap.size := (Array.getElem?_eq_some_iff.1 b2).1
 generalize hw' : ({ w with heap := w.heap.setIfInBounds b (.map es' ck') } : World) = w'
 have hh : w'.heap = w.heap.setIfInBounds b (.map es' ck') := by rw [← hw']
 have E : Ext S ρ h w S (ρ.set id (.box b)) (h.set id (.map l')) w' := by
  rw [hset]
  exact { Ext.refl S ρ h w with
   cells := fun b' x hs => by
    have : b' ≠ b := by rintro rfl; exact b4 x hs
    exact cell?_heap (by rw [hh]; exact s2 b' this)
   len := by simp
   rows := fun t' n' ht' hn => by
    by_cases e : t' = id
    ·subst e
     rw [List.getElem?_set_self ht'] at hn
     simp [Res.tip] at hn
    ·rw [List.getElem?_set_ne (Ne.symm e)] at hn
     exact ⟨n', hn, Nat.le_refl _, fun _ => rfl⟩
   size := by rw [hh]; simp
   os := by rw [← hw']
   tape := by rw [← hw']
   output := by rw [← hw']
   frame := fun b' hb hn => by rw [hh]; exact s2 b' (by rintro rfl; exact hn id _ r1 rfl) }
 have I : Inv P G S (ρ.set id (.box b)) (h.set id (.map l')) w' := by
  refine inv_upd hi hidl E (fun i b' r hne hr9 hbk => ?_) (fun b' o' hs => by rw [hh]; simpa using hi.bound b' o' hs) (fun b' hbk => ?_) (fun cells' tag' hce => by cases hce) (fun hh => by cases hh) (fun _ _ _ hh => by cases hh) (fun _ _ hh => by cases hh) (fun _ _ _ _ _ hh => by cases hh) ?_
  ·have : b' ≠ b := by rintro rfl; exact hne (hi.apart i id _ r _ hr9 r1 hbk rfl)
   exact ⟨by rw [hh]; exact s2 b' this, fun o ho => ho⟩
  ·simp [RI.block] at hbk
   subst hbk
   exact ⟨by rw [hh]; simpa using hbl, fun i r hne hr9 hbk => hne (hi.apart i id _ r _ hr9 r1 hbk rfl)⟩
  ·refine ⟨b, es', ck', rfl, by rw [hh]; exact s1, hs, b4, fun j k v hj => ?_⟩
   obtain ⟨e, e1, e2, e3⟩ := hr j k v hj
   exact ⟨e, e1, e2.mono E.settled E.cells, e3.mono E.settled E.cells⟩
 rw [hset] at E I
 exact ⟨E, I⟩
theorem sim_mupd (hi : Inv P G S ρ h w) (ha : RepA S ρ h w a.tmps ad) {t kt et : TypeId} {m k v : Operand} {m' k' v' : Opd} {kz : FV} (ht : P.underlying t = some (.map kt et)) (hkz : keyZero P kt = some kz)
  {t1 t2 t3 : TypeId} (h1 : trOpd P t1 m = some m') (h2 : trOpd P t2 k = some k') (h3 : trOpd P t3 v = some v') (hd : dop call (.mupd kz m' k' v') ad h = some out) :
  SimOut P G S ρ h w ((do Instr.mapUpdate t (a.eval m) (a.eval k) (a.eval v); pure Next.skip : Sem Next).run P w) out := by
 have g1 := rep_opd ha h1
 have g2 := rep_opd ha h2
 have g3 := rep_opd ha h3
 simp only [dop] at hd
 split at hd
 ·rename_i id kk vv e1 e2 e3
  split at hd
  ·rename_i hko
   split at hd
   ·rename_i l hm
    rw [e1] at g1
    rw [e2] at g2
    have gv := rep_unnil (rep_flat g3 e3)
    obtain ⟨b, es, ck, hv, r1, b2, b3, b4, b5⟩ := map_at hi g1 hm
    have gk := repD_d g2
    obtain ⟨d, hkd⟩ : ∃ d, P.underlying kt = some d := by
     unfold keyZero at hkz
     cases hh : P.underlying kt with
     | none => rw [hh] at hkz; simp at hkz
     | some d => exact ⟨d, rfl⟩
    have hik := key_is hkd hkz hko gk
    rw [hv]
    generalize a.eval k = vk at *
    generalize a.eval v = vu at *
    have fs := fun r hf => find_sim hik gk l es.toList 0 r (by simpa using b3) b5 hf
    split at hd
    ·rename_i j0 v0 hf
     simp only [Option.some.injEq] at hd
     subst hd
     rcases fs _ hf with ⟨h, _⟩ | ⟨j, y, e, q1, q2, q3, q4, q5, q6⟩
     ·cases h
     ·simp only [Option.some.injEq, Prod.mk.injEq, Nat.zero_add] at q1
      obtain ⟨rfl, rfl⟩ := q1
      have hj : es[j0]? = some e := by simpa using q3
      have run : (do Instr.mapUpdate t (.map (some b)) vk vu; pure Next.skip : Sem Next).run P w = .ok .skip { w with heap := w.heap.setIfInBounds b (.map (es.modify j0 fun e => { e with key := vk, val := vu }) ck) } := by
       simp [Instr.mapUpdate, run_underlying ht, Go.MapKept.run_getObj_map b2, Go.MapKept.run_checkKey hkd hik, Go.MapKept.run_findKey hkd q6, hj, q4, Go.MapKept.run_keyThatStays hik, Go.MapKept.run_setObj_map _ b2, Result.andThen]
      rw [run]
      obtain ⟨E, I⟩ := map_set (ck' := ck) (es' := es.modify j0 fun e => { e with key := vk, val := vu }) (l' := l.set j0 (kk, unnil vv)) hi hm r1 b2 b4 (by simp [b3]) (fun j k v hj' => by
       by_cases hjj : j = j0
       ·subst hjj
        rw [List.getElem?_set_self q2] at hj'
        simp only [Option.some.injEq, Prod.mk.injEq] at hj'
        obtain ⟨rfl, rfl⟩ := hj'
        exact ⟨{ e with key := vk, val := vu }, by simp [Array.getElem?_modify, hj], gk, gv⟩
       ·rw [List.getElem?_set_ne (Ne.symm hjj)] at hj'
        obtain ⟨e', h1, h2, h3⟩ := b5 j k v hj'
        exact ⟨e', by rw [Array.getElem?_modify, if_neg (Ne.symm hjj)]; simpa using h1, h2, h3⟩)
      exact ⟨undef, _, S, ρ, .inr ⟨rfl, rfl⟩, .d _ _ (.tup #[] [] rfl (fun j y hy => by simp at hy)), E, I⟩
    ·rename_i hf
     simp only [Option.some.injEq] at hd
     subst hd
     rcases fs _ hf with ⟨_, q6⟩ | ⟨j, y, e, q1, _⟩
     ·have run : (do Instr.mapUpdate t (.map (some b)) vk vu; pure Next.skip : Sem Next).run P w = .ok .skip { w with heap := w.heap.setIfInBounds b (.map (es.push { key := vk, val := vu, born := ck }) (ck + 1)) } := by
       simp [Instr.mapUpdate, run_underlying ht, Go.MapKept.run_getObj_map b2, Go.MapKept.run_checkKey hkd hik, Go.MapKept.run_findKey hkd q6, Go.MapKept.run_setObj_map _ b2, Result.andThen]
      rw [run]
      obtain ⟨E, I⟩ := map_set (ck' := ck + 1) (es' := es.push { key := vk, val := vu, born := ck }) (l' := l ++ [(kk, unnil vv)]) hi hm r1 b2 b4 (by simp [b3]) (fun j k v hj' => by
       rcases Nat.lt_or_ge j l.length with hjl | hjl
       ·rw [List.getElem?_append_left hjl] at hj'
        obtain ⟨e', h1, h2, h3⟩ := b5 j k v hj'
        exact ⟨e', by rw [Array.getElem?_push, if_neg (by omega)]; simpa using h1, h2, h3⟩
       ·rw [List.getElem?_append_right hjl] at hj'
        have := (List.getElem?_eq_some_iff.1 hj').1
        simp at this
        have hj0 : j = l.length := by omega
        subst hj0
        simp at hj'
        obtain ⟨rfl, rfl⟩ := hj'
        exact ⟨_, by rw [← b3, Array.getElem?_push_size], gk, gv⟩)
      exact ⟨undef, _, S, ρ, .inr ⟨rfl, rfl⟩, .d _ _ (.tup #[] [] rfl (fun j y hy => by simp at hy)), E, I⟩
     ·cases q1
    ·cases hd
   ·cases hd
  ·cases hd
 ·cases hd
end
end Go.Deepv
namespace Go.Deepv
open Go.RowKit
section
variable {P : Program} {G : Glob} {S S' : Settled} {ρ : List RI} {h : List Res} {w w' : World} {a : Act} {ad : List DV} {call : Cle → List DV → List Res → Option DOut} {out : DOut}
theorem RepD.lift {v : Value} {x : DV} (hx : RepD S [] [] w v x) : RepD S ρ h w v x := by
 generalize he : ([] : List RI) = ρ0 at hx
 generalize he2 : ([] : List Res) = h0 at hx
 induction hx with
 | d v x hx => exact .d _ _ hx
 | ptr id off b hb => subst he; simp at hb
 | row v sz elems t hx ht hr => subst he2; simp at ht
 | agg cs fs hl hh ih => exact .agg _ _ hl ih
 | clo fn p q fp fq hp hq h1 h2 ih1 ih2 => exact .clo _ _ _ _ _ hp hq ih1 ih2
 | tup cs fs hl hh ih => exact .tup _ _ hl ih
 | iface t v x hh ih => exact .iface _ _ _ ih
 | yld id b hb => subst he; simp at hb
 | bslc id off n cap b hc hb => subst he; simp at hb
 | rptr A p n cap elems t hx hp ht hr => subst he2; simp at ht
 | vslc b o cap id g sz off n hc ht hr => subst he2; simp at ht
 | eptr b o' id g k o ht hr => subst he2; simp at ht
 | mref id b hb => subst he; simp at hb
theorem inv_none (hi : Inv P G S ρ h w) : Inv P G S [] [] w where
 len := rfl
 bound := hi.bound
 glob := hi.glob
 low := fun i b r hr => by simp at hr
 apart := fun i j b r r' hr => by simp at hr
 box := fun i cells tag hc => by simp at hc
 nilrow := fun i hc => by simp at hc
 row := fun i sz n et hc => by simp at hc
 iter := fun i s pos hc => by simp at hc
 loop := fun i ps as_ bd snap st hc => by simp at hc
 own := fun i r hc => by simp at hc
theorem ext_lift {ρ1 : List RI} {h1 : List Res} (hi : Inv P G S ρ h w) (E : Ext S [] [] w S' ρ1 h1 w') (I : Inv P G S' ρ1 h1 w') : Ext S ρ h w S' ρ h w' ∧ Inv P G S' ρ h w' := by
 have old : ∀ b, b < w.heap.size → w'.heap[b]? = w.heap[b]? := fun b hb => E.frame b hb fun i r hr => by simp at hr
 have fr : ∀ b o, S' b o → S b o ∨ w.heap.size ≤ b := fun b o ho => by
  rcases E.fresh b o ho with h1 | h1 | ⟨i, r, hr, _⟩
  ·exact .inl h1
  ·exact .inr h1
  ·simp at hr
 have E' : Ext S ρ h w S' ρ h w' :=
  {settled := E.settled
   cells := E.cells
   len := Nat.le_refl _
   boxes := fun _ _ x => x
   rows := fun t n' _ hn => ⟨n', hn, Nat.le_refl _, fun _ => rfl⟩
   size := E.size, os := E.os, tape := E.tape, output := E.output
   frame := fun b hb _ => old b hb
   blocks := fun i b r hr hb => .inr ⟨i, r, hr, hb, id⟩
   fresh := fun b o ho => (fr b o ho).elim .inl fun x => .inr (.inl x) }
 refine ⟨E', hi.len, I.bound, I.glob, fun i b r hr hb => Nat.lt_of_lt_of_le (hi.low i b r hr hb) E.size, hi.apart, fun i cells tag hc => ?_, hi.nilrow, fun i sz n et hc => ?_, fun i s pos hc => ?_, fun i ps as_ bd snap st hc => ?_, fun i r hc => ?_⟩
 ·obtain ⟨b, c, e, g1, g2, g3, g4, g5⟩ := hi.box i cells _ hc
  have hb := hi.low i b _ g1 rfl
  refine ⟨b, c, e, g1, by rw [old b hb]; exact g2, g3, fun j x hx => ⟨(g4 j x hx).1, (g4 j x hx).2.1, (g4 j x hx).2.2.mono E'⟩, fun o ho => ?_⟩
  rcases fr b o ho with h1 | h1
  ·exact g5 o h1
  ·omega
 ·obtain ⟨b, o, cap, c, e, g1, g2, g3, g4, g5, g7⟩ := hi.row i sz n et hc
  have hb := hi.low i b _ g1 rfl
  refine ⟨b, o, cap, c, e, g1, by rw [old b hb]; exact g2, g3, g4, g5, fun x hx hs => ?_⟩
  rcases fr b x hs with h1 | h1
  ·exact g7 x hx h1
  ·omega
 ·obtain ⟨b, g1, g2⟩ := hi.iter i s pos hc
  exact ⟨b, g1, by rw [old b (hi.low i b _ g1 rfl)]; exact g2⟩
 ·obtain ⟨b, r, g1, g2, g3, g4, g5⟩ := hi.loop i ps as_ bd snap st hc
  exact ⟨b, r, g1, by rw [old b (hi.low i b _ g1 rfl)]; exact g2, g3, g4, fun j x hx => ⟨(g5 j x hx).1, (g5 j x hx).2.mono E'⟩⟩
 ·obtain ⟨ri, g1, g2⟩ := hi.own i r hc
  refine ⟨ri, g1, g2.mono E.settled E.cells fun b hb => ?_⟩
  have hb' := hi.low i b _ g1 hb
  refine ⟨old b hb', fun o ho => ?_⟩
  rcases fr b o ho with h1 | h1
  ·exact h1
  ·omega
def CallsOk (P : Program) (call : Cle → List DV → List Res → Option DOut) : Prop :=
 ∀ g args h out, call (.fn g) args h = some out → ∃ fn, P.funcs[g]? = some fn ∧ (fn.name == "runtime.NumGoroutine") = false ∧ fn.body.isNone = false
def OpOk (P : Program) (G : Glob) (call : Cle → List DV → List Res → Option DOut) (S : Settled) (ρ : List RI) (h : List Res) (w : World) (r : Result Next) (out : DOut) : Prop :=
 SimOut P G S ρ h w r out ∨ (∃ ρ1 h1, Ext S ρ h w S ρ1 h1 w ∧ Inv P G S ρ1 h1 w ∧ ∃ g args dargs, r = .ok (.enter g args) w ∧ args.size = dargs.length ∧ (∀ (j : Nat) (x : DV), dargs[j]? = some x → RepD S ρ1 h1 w (args.getD j undef) x) ∧ call (.fn g) dargs h1 = some out) ∨
  (∃ id l args dargs, r = (Instr.yield l args).run P w ∧ ρ[id]? = some (.box l) ∧ args.size = dargs.length ∧ (∀ (j : Nat) (x : DV), dargs[j]? = some x → RepD S ρ h w (args.getD j undef) x) ∧ call (.yld id) dargs h = some out) ∨
  ∃ g args dargs v, r = .ok (.enter g args) w ∧ args.size = dargs.length ∧ (∀ (j : Nat) (x : DV), dargs[j]? = some x → RepD S [] [] w (args.getD j undef) x) ∧ call (.fn g) dargs [] = some (.val (.d v) []) ∧ out = .val (.d v) h
theorem run_callFunc {g : FuncId} {fn : Func} {args : Array Value} (h1 : P.funcs[g]? = some fn) (h2 : (fn.name == "runtime.NumGoroutine") = false) (h3 : fn.body.isNone = false) : (callFunc g args).run P w = .ok (.enter g args) w := by
 have h2' : fn.name ≠ "runtime.NumGoroutine" := by simpa using h2
 have h3' : fn.body ≠ none := by intro h; simp [h] at h3
 simp [callFunc, h1, h2', h3']
theorem getD_append {α : Type} (xs ys : Array α) (d : α) (j : Nat) : (xs ++ ys).getD j d = if j < xs.size then xs.getD j d else ys.getD (j - xs.size) d := by
 simp only [Array.getD_eq_getD_getElem?]
 split
 ·rename_i h
  rw [Array.getElem?_append_left h]
 ·rename_i h
  rw [Array.getElem?_append_right (by omega)]
theorem rep_append {xs ys : Array Value} {ds es : List DV} (h1 : xs.size = ds.length) (h2 : ys.size = es.length) (r1 : ∀ (j : Nat) (x : DV), ds[j]? = some x → RepD S ρ h w (xs.getD j undef) x) (r2 : ∀ (j : Nat) (x : DV), es[j]? = some x → RepD S ρ h w (ys.getD j undef) x) :
  (xs ++ ys).size = (ds ++ es).length ∧ ∀ (j : Nat) (x : DV), (ds ++ es)[j]? = some x → RepD S ρ h w ((xs ++ ys).getD j undef) x := by
 refine ⟨by simp [h1, h2], fun j x hx => ?_⟩
 rw [getD_append]
 rcases Nat.lt_or_ge j ds.length with hj | hj
 ·rw [List.getElem?_append_left hj] at hx
  rw [if_pos (by omega)]
  exact r1 j x hx
 ·rw [List.getElem?_append_right hj] at hx
  rw [if_neg (by omega), h1]
  exact r2 _ x hx
theorem rep_args (ha : RepA S ρ h w a.tmps ad) {c : Call} {args : List Opd} (hl : c.args.size = c.argTypes.size) (ht : (c.args.toList.zip c.argTypes.toList).mapM (fun p => trOpd P p.2 p.1) = some args) :
  (c.args.map a.eval).size = (args.map (ev ad)).length ∧ ∀ (j : Nat) (x : DV), (args.map (ev ad))[j]? = some x → RepD S ρ h w ((c.args.map a.eval).getD j undef) x := by
 obtain ⟨m1, m2⟩ := mapM_some ht
 have hz : (c.args.toList.zip c.argTypes.toList).length = c.args.size := by simp [hl]
 refine ⟨by simp at m1 ⊢; omega, fun j x hx => ?_⟩
 simp only [List.getElem?_map, Option.map_eq_some_iff] at hx
 obtain ⟨y, hy, rfl⟩ := hx
 obtain ⟨p, hp, hfp⟩ := m2 j y hy
 have hpj : c.args[j]? = some p.1 := by
  have := List.getElem?_zip_eq_some.1 hp
  simpa using this.1
 have := rep_opd ha hfp
 simpa [Array.getD_eq_getD_getElem?, hpj] using this
theorem sim_call (hi : Inv P G S ρ h w) (ha : RepA S ρ h w a.tmps ad) (hc : CallsOk P call) {c : Call} {rt : TypeId} {d : DOp} (ht : trCall P c = some d) (hd : dop call d ad h = some out) :
  OpOk P G call S ρ h w ((do let d ← resolve a.eval c rt; invoke d.target d.args : Sem Next).run P w) out := by
 unfold trCall at ht
 split at ht
 ·rename_i f hcal
  split at ht
  ·rename_i f' args hf hargs
   split at ht
   ·rename_i hl
    simp only [Option.some.injEq] at ht
    subst ht
    obtain ⟨l1, r1⟩ := rep_args ha hl hargs
    have g1 := rep_opd ha hf
    simp only [dop, dcallV] at hd
    split at hd
    ·rename_i g p q e
     obtain ⟨fn, f1, f2, f3⟩ := hc _ _ _ _ hd
     rw [e] at g1
     have gg := repD_d g1
     generalize hv : a.eval f = vf at *
     cases gg with
     | func _ p' q' fp fq hp hq h1 h2 =>
      refine .inr (.inl ⟨ρ, h, Ext.refl S ρ h w, hi, g, p' ++ c.args.map a.eval ++ q', _, ?_, ?_, ?_, hd⟩)
      ·simp only [resolve, hcal, Deferred.ofValue, hv, Sem.run_bind, Sem.run_pure, Result.andThen_ok, invoke]
       exact run_callFunc f1 f2 f3
      ·simp at l1 ⊢; omega
      ·have s1 := rep_append (S := S) (ρ := ρ) (h := h) (w := w) (ds := p.map .d) (by simpa using hp) l1 (fun j x hx => by
        simp only [List.getElem?_map, Option.map_eq_some_iff] at hx
        obtain ⟨y, hy, rfl⟩ := hx
        exact .d _ _ (h1 j y hy)) r1
       exact (rep_append (es := q.map .d) s1.1 (by simpa using hq) s1.2 (fun j x hx => by
        simp only [List.getElem?_map, Option.map_eq_some_iff] at hx
        obtain ⟨y, hy, rfl⟩ := hx
        exact .d _ _ (h2 j y hy))).2
    ·rename_i g p q e
     obtain ⟨fn, f1, f2, f3⟩ := hc _ _ _ _ hd
     rw [e] at g1
     generalize hv : a.eval f = vf at *
     cases g1 with
     | clo _ p' q' fp fq hp hq h1 h2 =>
      refine .inr (.inl ⟨ρ, h, Ext.refl S ρ h w, hi, g, p' ++ c.args.map a.eval ++ q', _, ?_, ?_, ?_, hd⟩)
      ·simp only [resolve, hcal, Deferred.ofValue, hv, Sem.run_bind, Sem.run_pure, Result.andThen_ok, invoke]
       exact run_callFunc f1 f2 f3
      ·simp at l1 ⊢; omega
      ·have s1 := rep_append (S := S) (ρ := ρ) (h := h) (w := w) (ds := p) hp l1 h1 r1
       exact (rep_append (es := q) s1.1 hq s1.2 h2).2
    ·rename_i id e
     rw [e] at g1
     generalize hv : a.eval f = vf at *
     cases g1 with
     | yld id l hb =>
      refine .inr (.inr (.inl ⟨id, l, c.args.map a.eval, _, ?_, hb, l1, r1, hd⟩))
      simp [resolve, hcal, Deferred.ofValue, hv, Sem.run_bind, Sem.run_pure, Result.andThen_ok, invoke]
    ·cases hd
   ·cases ht
  ·cases ht
 ·rename_i b hcal
  split at ht
  ·rename_i args hargs
   split at ht
   ·cases ht
   ·rename_i hl
    have hl : c.args.size = c.argTypes.size := by simpa using hl
    obtain ⟨m1, m2⟩ := mapM_some hargs
    obtain ⟨l1, r1⟩ := rep_args ha hl hargs
    have one : ∀ x, args = [x] → ∃ o t, c.args = #[o] ∧ c.argTypes = #[t] ∧ trOpd P t o = some x := by
     rintro x rfl
     have hz : c.args.size = 1 := by simp at m1; omega
     have hz2 : c.argTypes.size = 1 := by omega
     obtain ⟨o, ho⟩ := Array.size_eq_one_iff.1 hz
     obtain ⟨t, htt⟩ := Array.size_eq_one_iff.1 hz2
     refine ⟨o, t, ho, htt, ?_⟩
     obtain ⟨p, hp, hfp⟩ := m2 0 x rfl
     rw [ho, htt] at hp
     simp at hp
     subst hp
     exact hfp
    have two : ∀ s x, args = [s, x] → ∃ o1 o2 t1 t2, c.args = #[o1, o2] ∧ c.argTypes = #[t1, t2] ∧ trOpd P t1 o1 = some s ∧ trOpd P t2 o2 = some x := by
     rintro s x rfl
     have hz : c.args.size = 2 := by simp at m1; omega
     have hz2 : c.argTypes.size = 2 := by omega
     obtain ⟨o1, o2, ho⟩ : ∃ o1 o2, c.args = #[o1, o2] := ⟨c.args[0], c.args[1], by apply Array.ext <;> simp [hz]; intro i hi; rcases i with _ | _ | i <;> simp; omega⟩
     obtain ⟨t1, t2, htt⟩ : ∃ o1 o2, c.argTypes = #[o1, o2] := ⟨c.argTypes[0], c.argTypes[1], by apply Array.ext <;> simp [hz2]; intro i hi; rcases i with _ | _ | i <;> simp; omega⟩
     refine ⟨o1, o2, t1, t2, ho, htt, ?_, ?_⟩
     ·obtain ⟨p, hp, hfp⟩ := m2 0 s rfl
      rw [ho, htt] at hp
      simp at hp
      subst hp
      exact hfp
     ·obtain ⟨p, hp, hfp⟩ := m2 1 x rfl
      rw [ho, htt] at hp
      simp at hp
      subst hp
      exact hfp
    split at ht
    ·rename_i x
     obtain ⟨o, t, e1, e2, ho⟩ := one x rfl
     rw [e2] at ht
     have hrun : (do let d ← resolve a.eval c rt; invoke d.target d.args : Sem Next).run P w = ((do pure (Next.value (← Builtin.len_ #[t] rt #[a.eval o])) : Sem Next).run P w) := by
      simp [resolve, hcal, invoke, builtin, e1, e2]
     rw [hrun]
     split at ht
     ·rename_i hu
      simp only [Option.some.injEq] at ht
      subst ht
      exact .inl (sim_lenStr hi ha ho rfl (by simpa using hu) hd)
     ·rename_i e hu
      simp only [Option.some.injEq] at ht
      subst ht
      exact .inl (sim_lenSlc hi ha ho rfl (by simpa using hu) hd)
     ·rename_i k e hu
      simp only [Option.some.injEq] at ht
      subst ht
      exact .inl (sim_lenm hi ha ho rfl (by simpa using hu) hd)
     ·cases ht
    ·rename_i x
     obtain ⟨o, t, e1, e2, ho⟩ := one x rfl
     rw [e2] at ht
     have hrun : (do let d ← resolve a.eval c rt; invoke d.target d.args : Sem Next).run P w = ((do pure (Next.value (← Builtin.cap_ #[t] rt #[a.eval o])) : Sem Next).run P w) := by
      simp [resolve, hcal, invoke, builtin, e1, e2]
     rw [hrun]
     split at ht
     ·rename_i e hu
      simp only [Option.some.injEq] at ht
      subst ht
      exact .inl (sim_capn hi ha ho rfl (by simpa using hu) hd)
     ·cases ht
    ·rename_i x
     obtain ⟨o, t, e1, e2, ho⟩ := one x rfl
     simp only [Option.some.injEq] at ht
     subst ht
     have hrun : (do let d ← resolve a.eval c rt; invoke d.target d.args : Sem Next).run P w = ((do pure (Next.value (← Builtin.unsafeSliceData_ #[t] rt #[a.eval o])) : Sem Next).run P w) := by
      simp [resolve, hcal, invoke, builtin, e1, e2]
     rw [hrun]
     exact .inl (sim_usd hi ha ho hd)
    ·rename_i x n
     obtain ⟨o1, o2, t1, t2, e1, e2, ho1, ho2⟩ := two x n rfl
     rw [e2] at ht
     split at ht
     ·rename_i e hu
      split at ht
      ·rename_i i hinf hue
       split at ht
       ·rename_i hc
        simp only [Option.some.injEq] at ht
        subst ht
        have hrun : (do let d ← resolve a.eval c rt; invoke d.target d.args : Sem Next).run P w = ((do pure (Next.value (← Builtin.unsafeString_ #[t1, t2] rt #[a.eval o1, a.eval o2])) : Sem Next).run P w) := by
         simp [resolve, hcal, invoke, builtin, e1, e2]
        rw [hrun]
        exact .inl (sim_ustr hi ha (by simpa using hu) hc.2 ho1 ho2 hd)
       ·cases ht
      ·cases ht
     ·cases ht
    ·rename_i x xs
     simp only [Option.some.injEq] at ht
     subst ht
     have hrun : (do let d ← resolve a.eval c rt; invoke d.target d.args : Sem Next).run P w = ((do pure (Next.value (← (if false then Builtin.max_ c.argTypes rt (c.args.map a.eval).toList.toArray else Builtin.min_ c.argTypes rt (c.args.map a.eval).toList.toArray))) : Sem Next).run P w) := by
      have em : (c.args.map a.eval).toList.toArray = c.args.map a.eval := by cases (c.args.map a.eval); rfl
      rw [em]
      simp [resolve, hcal, invoke, builtin]
     rw [hrun]
     exact .inl (sim_mnmx hi ha (by simpa using l1) (fun j y hy => by simpa [Array.getD_eq_getD_getElem?, List.getD_eq_getElem?_getD] using r1 j y hy) hd)
    ·rename_i x xs
     simp only [Option.some.injEq] at ht
     subst ht
     have hrun : (do let d ← resolve a.eval c rt; invoke d.target d.args : Sem Next).run P w = ((do pure (Next.value (← (if true then Builtin.max_ c.argTypes rt (c.args.map a.eval).toList.toArray else Builtin.min_ c.argTypes rt (c.args.map a.eval).toList.toArray))) : Sem Next).run P w) := by
      have em : (c.args.map a.eval).toList.toArray = c.args.map a.eval := by cases (c.args.map a.eval); rfl
      rw [em]
      simp [resolve, hcal, invoke, builtin]
     rw [hrun]
     exact .inl (sim_mnmx hi ha (by simpa using l1) (fun j y hy => by simpa [Array.getD_eq_getD_getElem?, List.getD_eq_getElem?_getD] using r1 j y hy) hd)
    ·rename_i s x
     obtain ⟨o1, o2, t1, t2, e1, e2, ho1, ho2⟩ := two s x rfl
     rw [e2] at ht
     split at ht
     ·rename_i e e' hu1 hu2
      split at ht
      ·rename_i i hinf
       split at ht
       ·rename_i z hz
        split at ht
        ·rename_i hzs
         simp only [Option.some.injEq] at ht
         subst ht
         have hrun : (do let d ← resolve a.eval c rt; invoke d.target d.args : Sem Next).run P w = ((do pure (Next.value (← Builtin.append_ #[t1, t2] rt #[a.eval o1, a.eval o2])) : Sem Next).run P w) := by
          simp [resolve, hcal, invoke, builtin, e1, e2]
         rw [hrun]
         exact .inl (sim_app hi ha (by simpa using hu1) (by simpa using hu2) hinf hz hzs ho1 ho2 hd)
        ·cases ht
       ·cases ht
      ·cases ht
     ·rename_i e kx hu1 hu2
      split at ht
      ·rename_i i z hinf hz
       simp only [Option.some.injEq] at ht
       subst ht
       have hrun : (do let d ← resolve a.eval c rt; invoke d.target d.args : Sem Next).run P w = ((do pure (Next.value (← Builtin.append_ #[t1, t2] rt #[a.eval o1, a.eval o2])) : Sem Next).run P w) := by
        simp [resolve, hcal, invoke, builtin, e1, e2]
       rw [hrun]
       exact .inl (sim_vappn hi ha (by simpa using hu1) (by simpa using hu2) hinf hz ho1 ho2 hd)
      ·cases ht
     ·rename_i e hu1 hu2
      split at ht
      ·rename_i i hinf
       split at ht
       ·rename_i z hz
        split at ht
        ·rename_i hzs
         simp only [Option.some.injEq] at ht
         subst ht
         have hrun : (do let d ← resolve a.eval c rt; invoke d.target d.args : Sem Next).run P w = ((do pure (Next.value (← Builtin.append_ #[t1, t2] rt #[a.eval o1, a.eval o2])) : Sem Next).run P w) := by
          simp [resolve, hcal, invoke, builtin, e1, e2]
         rw [hrun]
         exact .inl (sim_apps hi ha (by simpa using hu1) (by simpa using hu2) hinf hz hzs.1 hzs.2 ho1 ho2 hd)
        ·cases ht
       ·cases ht
      ·cases ht
     ·cases ht
    ·cases ht
  ·cases ht
 ·cases ht
theorem idx_find {fn : Func} (h : fn.name = "internal/bytealg.IndexByteString") : Extern.find fn = some Extern.BytealgIndexByte.indexByte := by
 unfold Extern.find
 rw [h]
 rfl
theorem idx_next {fn : Func} (h : fn.name = "internal/bytealg.IndexByteString") (h2 : fn.origin = "") : Extern.findNext fn = none := by
 unfold Extern.findNext
 rw [h, h2]
 rfl
theorem sim_idxB (hi : Inv P G S ρ h w) (ha : RepA S ρ h w a.tmps ad) {c : Call} {rt : TypeId} {d : DOp} (hib : isIdxB P c = true) (ht : (match trCall P c with | some (.call _ [x, y]) => some (DOp.idxB x y) | _ => none) = some d) (hd : dop call d ad h = some out) :
  SimOut P G S ρ h w ((do let d ← resolve a.eval c rt; invoke d.target d.args : Sem Next).run P w) out := by
 split at ht
 ·rename_i f x y hcl
  simp only [Option.some.injEq] at ht
  subst ht
  unfold isIdxB at hib
  split at hib
  ·rename_i g hcal
   split at hib
   ·rename_i fn hfn
    simp only [Bool.and_eq_true, beq_iff_eq] at hib
    obtain ⟨⟨n1, n2⟩, n3⟩ := hib
    unfold trCall at hcl
    rw [hcal] at hcl
    simp only at hcl
    split at hcl
    ·rename_i f2 args hf hargs
     split at hcl
     ·rename_i hl
      simp only [Option.some.injEq, DOp.call.injEq] at hcl
      obtain ⟨rfl, rfl⟩ := hcl
      obtain ⟨l1, r1⟩ := rep_args ha hl hargs
      simp only [dop] at hd
      split at hd
      ·rename_i s n es en
       simp only [Option.some.injEq] at hd
       subst hd
       have a0 := r1 0 (ev ad x) rfl
       have a1 := r1 1 (ev ad y) rfl
       rw [es] at a0
       rw [en] at a1
       have b0 := repF_str (repD_d a0)
       have b1 := repF_int (repD_d a1)
       have hsz : (c.args.map a.eval) = #[.string s, .int .u8 n] := by
        generalize c.args.map a.eval = xs at *
        rcases xs with ⟨l⟩
        match l, l1 with
        | [p, q], _ =>
         simp at b0 b1
         rw [b0, b1]
       have hrun : ((do let d ← resolve a.eval c rt; invoke d.target d.args : Sem Next).run P w) = .ok (.value (.int .i64 (Lib.indexByte s.data.toList n.toNat.toUInt8))) w := by
        have hev : a.eval (.func g) = .func (.func g) #[] #[] := rfl
        simp only [resolve, hcal, Deferred.ofValue, hev, Sem.run_bind, Sem.run_pure, Result.andThen_ok, invoke]
        have := run_callFunc_extern hfn (by rw [n1]; decide) n3 (idx_next n1 n2) (idx_find n1) #[.string s, .int .u8 n] w
        rw [Lib.run_indexByteString] at this
        simpa [hsz, Result.andThen] using this
       rw [hrun]
       exact ⟨_, _, S, ρ, .inl rfl, .d _ _ (.int _ _), Ext.refl S ρ h w, hi⟩
      ·cases hd
     ·cases hcl
    ·cases hcl
   ·cases hib
  ·cases hib
 ·cases ht
theorem sim_calln (hi : Inv P G S ρ h w) (ha : RepA S ρ h w a.tmps ad) (hc : CallsOk P call) {c : Call} {rt : TypeId} {d : DOp} (ht : trCallN P c = some d) (hd : dop call d ad h = some out) :
  OpOk P G call S ρ h w ((do let d ← resolve a.eval c rt; invoke d.target d.args : Sem Next).run P w) out := by
 unfold trCallN at ht
 split at ht
 ·rename_i hib
  exact .inl (sim_idxB hi ha hib ht hd)
 split at ht
 ·rename_i sz f x' rest hn hcl
  simp only [Option.some.injEq] at ht
  subst ht
  unfold nilFirst at hn
  split at hn
  ·rename_i g0 x xs e hcal hx he
   split at hn
   ·rename_i hnil
    simp only [Option.some.injEq] at hn
    subst hn
    unfold trCall at hcl
    rw [hcal] at hcl
    simp only at hcl
    split at hcl
    ·rename_i f2 args hf hargs
     split at hcl
     ·rename_i hl
      simp only [Option.some.injEq, DOp.call.injEq] at hcl
      obtain ⟨rfl, rfl⟩ := hcl
      obtain ⟨l1, r1⟩ := rep_args ha hl hargs
      have g1 := rep_opd ha hf
      simp only [dop] at hd
      split at hd
      ·rename_i g ef
       obtain ⟨fn, f1, f2, f3⟩ := hc _ _ _ _ hd
       rw [ef] at g1
       have gg := repD_d g1
       generalize hv : a.eval (.func g0) = vf at *
       cases gg with
       | func _ p' q' fp fq hp hq h1 h2 =>
        have hp0 : p' = #[] := Array.eq_empty_of_size_eq_zero (by simpa using hp)
        have hq0 : q' = #[] := Array.eq_empty_of_size_eq_zero (by simpa using hq)
        subst hp0 hq0
        have E := ext_rows hi 1
        have I := inv_rows hi 1
        refine .inr (.inl ⟨_, _, E, I, g, #[] ++ c.args.map a.eval ++ #[], _, ?_, ?_, ?_, hd⟩)
        ·simp only [resolve, hcal, Deferred.ofValue, hv, Sem.run_bind, Sem.run_pure, Result.andThen_ok, invoke]
         exact run_callFunc f1 f2 f3
        ·simp at l1 ⊢; omega
        ·intro j y hy
         have hx0 : a.eval x = .slice none 0 0 := by
          unfold isNilSlice at hnil
          split at hnil
          ·rfl
          ·cases hnil
         cases j with
         | zero =>
          simp at hy
          subst hy
          have h0 : (#[] ++ c.args.map a.eval ++ #[]).getD 0 undef = .slice none 0 0 := by
           have : c.args[0]? = some x := by
            rw [← Array.getElem?_toList, hx]
            rfl
           simp [Array.getD_eq_getD_getElem?, this, hx0]
          rw [h0]
          refine .row _ _ [] h.length (.slice0 none 0 _) (by simp) fun n hn => ?_
          simp [Res.tip] at hn
          subst hn
          refine ⟨Nat.le_refl _, fun _ => ?_⟩
          rw [← hi.len]
          simp
         | succ j =>
          have := r1 (j + 1) y (by simpa using hy)
          simp only [Array.empty_append, Array.append_empty]
          exact this.mono E
      ·cases hd
     ·cases hcl
    ·cases hcl
   ·cases hn
  ·cases hn
 ·exact sim_call hi ha hc ht hd
theorem trCall_value {c : Call} {f' : Opd} {args : List Opd} (ht : trCall P c = some (.call f' args)) : ∃ f, c.callee = .value f ∧ trOpd P 0 f = some f' ∧ (c.args.toList.zip c.argTypes.toList).mapM (fun p => trOpd P p.2 p.1) = some args ∧ c.args.size = c.argTypes.size := by
 unfold trCall at ht
 split at ht
 ·rename_i f hcal
  split at ht
  ·rename_i f' args hf hargs
   split at ht
   ·rename_i hl
    simp only [Option.some.injEq, DOp.call.injEq] at ht
    obtain ⟨rfl, rfl⟩ := ht
    exact ⟨f, hcal, hf, hargs, hl⟩
   ·cases ht
  ·cases ht
 ·exfalso
  repeat' split at ht
  all_goals first
   | (cases ht; done)
   | (simp at ht; done)
 ·cases ht
theorem sim_calld (hi : Inv P G S ρ h w) (ha : RepA S ρ h w a.tmps ad) (hc : CallsOk P call) {c : Call} {rt : TypeId} {f' : Opd} {args : List Opd} (ht : trCallN P c = some (.call f' args)) (hd : dop call (.calld f' args) ad h = some out) :
  OpOk P G call S ρ h w ((do let d ← resolve a.eval c rt; invoke d.target d.args : Sem Next).run P w) out := by
 have ht : trCall P c = some (.call f' args) := by
  unfold trCallN at ht
  split at ht
  ·split at ht <;> simp at ht
  ·split at ht
   ·simp at ht
   ·exact ht
 obtain ⟨f, hcal, hf, hargs, hl⟩ := trCall_value ht
 obtain ⟨l1, r1⟩ := rep_args ha hl hargs
 have g1 := rep_opd ha hf
 simp only [dop] at hd
 split at hd
 ·rename_i g e
  split at hd
  ·rename_i hall
   split at hd
   ·rename_i v hcl
    simp only [Option.some.injEq] at hd
    subst hd
    obtain ⟨fn, f1, f2, f3⟩ := hc _ _ _ _ hcl
    rw [e] at g1
    have gg := repD_d g1
    generalize hv : a.eval f = vf at *
    cases gg with
    | func _ p' q' fp fq hp hq h1 h2 =>
     have ep : p' = #[] := by simpa using hp
     have eq : q' = #[] := by simpa using hq
     subst ep
     subst eq
     refine .inr (.inr (.inr ⟨g, c.args.map a.eval, args.map (ev ad), v, ?_, l1, fun j x hx => ?_, hcl, rfl⟩))
     ·simp only [resolve, hcal, Deferred.ofValue, hv, Sem.run_bind, Sem.run_pure, Result.andThen_ok, invoke, Array.empty_append, Array.append_empty]
      exact run_callFunc f1 f2 f3
     ·have hx' := r1 j x hx
      have hd1 := List.all_eq_true.1 hall x (List.mem_of_getElem? hx)
      cases x <;> simp [DV.isD] at hd1
      exact .d _ _ (repD_d hx')
   ·cases hd
  ·cases hd
 ·cases hd
theorem trCall_app {c : Call} {et sz bytes : Nat} {s x : Opd} (ht : trCallN P c = some (.app false et sz bytes s x)) : ∃ o1 o2 t1 t2 e e' i z, c.callee = .builtin .append ∧ c.args = #[o1, o2] ∧ c.argTypes = #[t1, t2] ∧ trOpd P t1 o1 = some s ∧ trOpd P t2 o2 = some x ∧
  P.underlying t1 = some (.slice e) ∧ P.underlying t2 = some (.slice e') ∧ P.info? e = some i ∧ i.zero = some z ∧ z.cells.size = i.size ∧ et = tagE P e ∧ sz = i.size ∧ bytes = i.bytes := by
 have ht : trCall P c = some (.app false et sz bytes s x) := by
  unfold trCallN at ht
  split at ht
  ·split at ht <;> simp at ht
  ·split at ht
   ·simp at ht
   ·exact ht
 unfold trCall at ht
 split at ht
 ·split at ht
  ·split at ht <;> simp at ht
  ·cases ht
 ·rename_i b hcal
  split at ht
  ·rename_i args hargs
   split at ht
   ·cases ht
   ·rename_i hl
    have hl : c.args.size = c.argTypes.size := by simpa using hl
    obtain ⟨m1, m2⟩ := mapM_some hargs
    have two : ∀ s x, args = [s, x] → ∃ o1 o2 t1 t2, c.args = #[o1, o2] ∧ c.argTypes = #[t1, t2] ∧ trOpd P t1 o1 = some s ∧ trOpd P t2 o2 = some x := by
     rintro s x rfl
     have hz : c.args.size = 2 := by simp at m1; omega
     have hz2 : c.argTypes.size = 2 := by omega
     obtain ⟨o1, o2, ho⟩ : ∃ o1 o2, c.args = #[o1, o2] := ⟨c.args[0], c.args[1], by apply Array.ext <;> simp [hz]; intro i hi; rcases i with _ | _ | i <;> simp; omega⟩
     obtain ⟨t1, t2, htt⟩ : ∃ o1 o2, c.argTypes = #[o1, o2] := ⟨c.argTypes[0], c.argTypes[1], by apply Array.ext <;> simp [hz2]; intro i hi; rcases i with _ | _ | i <;> simp; omega⟩
     refine ⟨o1, o2, t1, t2, ho, htt, ?_, ?_⟩
     ·obtain ⟨p, hp, hfp⟩ := m2 0 s rfl
      rw [ho, htt] at hp
      simp at hp
      subst hp
      exact hfp
     ·obtain ⟨p, hp, hfp⟩ := m2 1 x rfl
      rw [ho, htt] at hp
      simp at hp
      subst hp
      exact hfp
    split at ht
    ·split at ht <;> simp at ht
    ·split at ht <;> simp at ht
    ·simp at ht
    ·split at ht
     ·split at ht
      ·split at ht <;> simp at ht
      ·cases ht
     ·cases ht
    ·simp at ht
    ·simp at ht
    ·rename_i s' x'
     obtain ⟨o1, o2, t1, t2, e1, e2, ho1, ho2⟩ := two s' x' rfl
     rw [e2] at ht
     split at ht
     ·rename_i e e' hu1 hu2
      split at ht
      ·rename_i i hinf
       split at ht
       ·rename_i z hz
        split at ht
        ·rename_i hzs
         simp only [Option.some.injEq, DOp.app.injEq] at ht
         obtain ⟨_, rfl, rfl, rfl, rfl, rfl⟩ := ht
         exact ⟨o1, o2, t1, t2, e, e', i, z, hcal, e1, e2, ho1, ho2, by simpa using hu1, by simpa using hu2, hinf, hz, hzs, rfl, rfl, rfl⟩
        ·cases ht
       ·cases ht
      ·cases ht
     ·split at ht <;> simp at ht
     ·split at ht
      ·split at ht
       ·split at ht <;> simp at ht
       ·cases ht
      ·cases ht
     ·cases ht
    ·cases ht
  ·cases ht
 ·cases ht
theorem sim_vecCall (hi : Inv P G S ρ h w) (ha : RepA S ρ h w a.tmps ad) (hc : CallsOk P call) {c : Call} {rt : TypeId} {b : Bool} {d : DOp} (ht : vecCall b (trCallN P c) = some d) (hd : dop call d ad h = some out) :
  OpOk P G call S ρ h w ((do let d ← resolve a.eval c rt; invoke d.target d.args : Sem Next).run P w) out := by
 unfold vecCall at ht
 split at ht
 ·split at ht
  ·rename_i et sz bytes s x hcn
   simp only [Option.some.injEq] at ht
   subst ht
   obtain ⟨o1, o2, t1, t2, e, e', i, z, hcal, e1, e2, ho1, ho2, hu1, hu2, hinf, hz, hzs, rfl, rfl, rfl⟩ := trCall_app hcn
   have hrun : (do let d ← resolve a.eval c rt; invoke d.target d.args : Sem Next).run P w = ((do pure (Next.value (← Builtin.append_ #[t1, t2] rt #[a.eval o1, a.eval o2])) : Sem Next).run P w) := by
    simp [resolve, hcal, invoke, builtin, e1, e2]
   rw [hrun]
   exact .inl (sim_vapp hi ha hu1 hu2 hinf hz hzs ho1 ho2 hd)
  ·exact sim_calln hi ha hc ht hd
 ·exact sim_calln hi ha hc ht hd
theorem sim_op (hi : Inv P G S ρ h w) (ha : RepA S ρ h w a.tmps ad) (hc : CallsOk P call) {o : Oper} {imm : Nat → Bool} {d : DOp} (ht : trOp P imm o = some d) (hd : dop call d ad h = some out) : OpOk P G call S ρ h w ((execOp a.eval o).run P w) out := by
 obtain ⟨dst, op, type, pos, after, guard⟩ := o
 have mvc : ∀ x, trMove P imm ⟨dst, op, type, pos, after, guard⟩ x = some d → SimOut P G S ρ h w (.ok (.value (a.eval x)) w) out := fun x hx => by
  unfold trMove at hx
  split at hx
  ·rename_i hn
   have this : a.eval x = .slice none 0 0 := by
    unfold isNilSlice at hn
    split at hn
    ·rfl
    ·cases hn
   split at hx
   ·split at hx
    ·simp only [Option.some.injEq] at hx
     subst hx
     rw [this]
     refine sim_mv hi ?_ hd
     exact .d _ _ (.slice0 none 0 _)
    ·simp only [Option.some.injEq] at hx
     subst hx
     rw [this]
     exact sim_nilrow hi hd
   ·cases hx
  ·simp only [Option.map_eq_some_iff] at hx
   obtain ⟨y, hy, rfl⟩ := hx
   exact sim_mv hi (rep_opd ha hy) hd
 cases op <;> simp only [trOp] at ht <;> first | (cases ht; done) | skip
 case move x =>
  split at ht
  ·simp only [Option.map_eq_some_iff] at ht
   obtain ⟨y, hy, rfl⟩ := ht
   exact .inl (sim_frz hi (rep_opd ha hy) hd)
  ·exact .inl (mvc x ht)
 case assign x =>
  split at ht
  ·simp only [Option.map_eq_some_iff] at ht
   obtain ⟨y, hy, rfl⟩ := ht
   exact .inl (sim_frz hi (rep_opd ha hy) hd)
  ·exact .inl (mvc x ht)
 case makeSlice t n c =>
  split at ht
  ·rename_i e hu
   split at ht
   ·rename_i i z n' c' h1 h2 h3 h4
    simp only [Option.some.injEq] at ht
    subst ht
    exact .inl (sim_vmake hi ha hu h1 h2 h3 h4 hd)
   ·cases ht
  ·cases ht
 case makeMap t hint =>
  cases hint with
  | some _ => cases ht
  | none =>
   simp only at ht
   split at ht
   ·simp only [Option.some.injEq] at ht
    subst ht
    exact .inl (sim_mkmap hi hd)
   ·cases ht
 case lookup t x i comma =>
  split at ht
  ·rename_i k e hu
   split at ht
   ·rename_i zf x' i' kz h1 h2 h3 h4
    simp only [Option.some.injEq] at ht
    subst ht
    simp only [Option.bind_eq_some_iff] at h1
    obtain ⟨info, hinf, zv, hz, hzf⟩ := h1
    exact .inl (sim_mlook hi ha hu hinf hz hzf h4 h2 h3 hd)
   ·cases ht
  ·cases ht
 case mapUpdate t m k v =>
  split at ht
  ·rename_i kt e hu
   split at ht
   ·rename_i m' k' v' kz h1 h2 h3 h4
    simp only [Option.some.injEq] at ht
    subst ht
    exact .inl (sim_mupd hi ha hu h4 h1 h2 h3 hd)
   ·cases ht
  ·cases ht
 case pick c x y =>
  split at ht
  ·rename_i c' x' y' h1 h2 h3
   simp only [Option.some.injEq] at ht
   subst ht
   exact .inl (sim_pick hi ha h1 h2 h3 hd)
  ·cases ht
 case alloc t =>
  simp only [Option.map_eq_some_iff] at ht
  obtain ⟨z, hz, rfl⟩ := ht
  exact .inl (sim_alloc hi hz hd)
 case box t x =>
  split at ht
  ·simp only [Option.map_eq_some_iff] at ht
   obtain ⟨y, hy, rfl⟩ := ht
   exact .inl (sim_boxn hi ha hy hd)
  ·simp only [Option.map_eq_some_iff] at ht
   obtain ⟨y, hy, rfl⟩ := ht
   exact .inl (sim_box hi ha hy hd)
 case load t x =>
  split at ht
  ·rename_i n y hn hy
   simp only [Option.some.injEq] at ht
   subst ht
   have key : ∀ b : Bool, dop call (if b = true then .loadk n y else .load n y) ad h = some out → SimOut P G S ρ h w ((do pure (Next.value (← Instr.loadAt t (a.eval x))) : Sem Next).run P w) out := fun b hb => by
    cases b with
    | true => exact sim_loadk hi ha hn hy hb
    | false => exact sim_load hi ha hn hy hb
   exact .inl (key _ hd)
  ·cases ht
 case store t x v =>
  split at ht
  ·rename_i i x' v' h1 h2 h3
   simp only [Option.some.injEq] at ht
   subst ht
   split at hd
   ·exact .inl (sim_storen hi ha h1 h2 h3 hd)
   ·exact .inl (sim_store hi ha h1 h2 h3 hd)
  ·cases ht
 case binOp op xt x y yt => exact .inl (sim_bin hi ha ht hd)
 case unOp op t x =>
  simp only [Option.map_eq_some_iff] at ht
  obtain ⟨y, hy, rfl⟩ := ht
  exact .inl (sim_un hi ha hy hd)
 case convert src dst x =>
  split at ht
  ·rename_i u k y h1 h2 h3
   simp only [Option.some.injEq] at ht
   subst ht
   exact .inl (sim_cvt hi ha h1 h2 h3 hd)
  ·rename_i e y h1 h2 h3
   split at ht
   ·rename_i he
    simp only [Option.some.injEq] at ht
    subst ht
    exact .inl (sim_bstr hi ha h1 h2 he h3 hd)
   ·cases ht
  ·rename_i k y h1 h2 h3
   simp only [Option.some.injEq] at ht
   subst ht
   exact .inl (sim_rstr hi ha h1 h2 h3 hd)
  ·rename_i e0 e y h1 h2 h3
   split at ht
   ·rename_i hsd
    subst hsd
    split at ht
    ·rename_i he
     simp only [Option.some.injEq] at ht
     subst ht
     exact .inl (sim_mark hi ha h2 he h3 hd)
    ·cases ht
   ·cases ht
  ·rename_i e y h1 h2 h3
   split at ht
   ·rename_i i he hinf
    split at ht
    ·simp only [Option.some.injEq] at ht
     subst ht
     exact .inl (sim_sbytes hi ha h1 h2 he h3 hd)
    ·cases ht
   ·cases ht
  ·cases ht
 case range t x =>
  split at ht
  ·rename_i y h1 h2
   simp only [Option.some.injEq] at ht
   subst ht
   exact .inl (sim_rng hi ha h1 h2 hd)
  ·cases ht
 case next x b =>
  cases b with
  | false => cases ht
  | true =>
   simp only [Option.map_eq_some_iff] at ht
   obtain ⟨y, hy, rfl⟩ := ht
   exact .inl (sim_next hi ha hy hd)
 case typeAssert x t1 t comma =>
  split at ht
  ·cases ht
  ·rename_i u zf y hni hu hz hy
   simp only [Option.some.injEq] at ht
   subst ht
   exact .inl (sim_tass hi ha hu (fun m hm => hni m (by rw [hm])) hz hy hd)
  ·cases ht
 case fieldAddr s x f =>
  split at ht
  ·rename_i fields hu
   split at ht
   ·rename_i fl hf
    split at ht
    ·rename_i i y h1 h2
     split at ht
     ·cases ht
     ·rename_i h0
      simp only [Option.some.injEq] at ht
      subst ht
      exact .inl (sim_addOff hi ha hu hf h1 h0 h2 hd)
    ·cases ht
   ·cases ht
  ·cases ht
 case field s x f =>
  split at ht
  ·rename_i fields hu
   split at ht
   ·rename_i fl hf
    split at ht
    ·rename_i n y h1 h2
     simp only [Option.some.injEq] at ht
     subst ht
     exact .inl (sim_fld hi ha hu hf h1 h2 hd)
    ·cases ht
   ·cases ht
  ·cases ht
 case indexAddr t x i =>
  unfold trIdxAddr at ht
  split at ht
  ·rename_i e hu
   split at ht
   ·rename_i info x' i' h1 h2 h3
    simp only [Option.some.injEq] at ht
    subst ht
    exact .inl (sim_idxAddr hi ha hu h1 h2 h3 hd)
   ·cases ht
  ·rename_i n e hu
   split at ht
   ·rename_i info x' i' h1 h2 h3
    simp only [Option.some.injEq] at ht
    subst ht
    exact .inl (sim_idxArr hi ha hu h1 h2 h3 hd)
   ·cases ht
  ·cases ht
 case index t x i =>
  split at ht
  ·rename_i x' i' h1 h2 h3
   simp only [Option.some.injEq] at ht
   subst ht
   exact .inl (sim_idxStr hi ha h1 h2 h3 hd)
  ·rename_i n e x' i' h1 h2 h3
   split at ht
   ·rename_i info m h4 h5
    simp only [Option.some.injEq] at ht
    subst ht
    exact .inl (sim_idxVal hi ha h1 h4 h5 h2 h3 hd)
   ·cases ht
  ·cases ht
 case slice t x lo hi' mx =>
  unfold trSlice at ht
  split at ht
  ·split at ht
   ·split at ht
    ·rename_i x' lo' hx' mx' h1 h2 h3 h4
     split at ht
     ·rename_i e hu
      split at ht
      ·rename_i i hinf
       simp only [Option.some.injEq] at ht
       subst ht
       exact .inl (sim_slc3 hi ha hu hinf h1 h2 h3 h4 hd)
      ·cases ht
     ·cases ht
    ·cases ht
   ·cases ht
  ·split at ht
   ·rename_i x' lo' hi'' h1 h2 h3
    split at ht
    ·rename_i hu
     simp only [Option.some.injEq] at ht
     subst ht
     exact .inl (sim_slcStr hi ha hu h1 h2 h3 hd)
    ·rename_i e hu
     split at ht
     ·rename_i i hinf
      simp only [Option.some.injEq] at ht
      subst ht
      have key : ∀ b : Bool, dop call (if b = true then .slcn i.size x' lo' hi'' else .slc i.size x' lo' hi'') ad h = some out → SimOut P G S ρ h w ((do pure (Next.value (← Instr.sliceAt t (a.eval x) (lo.map a.eval) (hi'.map a.eval) none)) : Sem Next).run P w) out := fun b hb => by
       cases b with
       | true => exact sim_slcn hi ha hu hinf h1 h2 h3 hb
       | false => exact sim_slc hi ha hu hinf h1 h2 h3 hb
      exact .inl (key _ hd)
     ·cases ht
    ·rename_i n e hu
     split at ht
     ·rename_i i hinf
      simp only [Option.some.injEq] at ht
      subst ht
      exact .inl (sim_slcA hi ha hu hinf h1 h2 h3 hd)
     ·cases ht
    ·cases ht
   ·cases ht
 case extract x i =>
  simp only [Option.map_eq_some_iff] at ht
  obtain ⟨y, hy, rfl⟩ := ht
  exact .inl (sim_ext hi ha hy hd)
 case buildSlice t len parts =>
  split at ht
  ·rename_i e hu
   split at ht
   ·rename_i i z ps h1 h2 h3
    simp only [Option.some.injEq] at ht
    subst ht
    split at hd
    ·exact .inl (sim_vlit hi ha hu h1 h2 h3 hd)
    ·exact .inl (sim_lit hi ha hu h1 h2 h3 hd)
   ·cases ht
  ·cases ht
 case build t parts =>
  split at ht
  ·rename_i fields hu
   split at ht
   ·rename_i places hpl
    split at ht
    ·rename_i z ps h1 h2
     simp only [Option.some.injEq] at ht
     subst ht
     exact .inl (sim_build hi ha hu hpl h1 h2 hd)
    ·cases ht
   ·cases ht
  ·rename_i n e hu
   split at ht
   ·rename_i info hinf
    split at ht
    ·rename_i z ps h1 h2
     simp only [Option.some.injEq] at ht
     subst ht
     exact .inl (sim_buildA hi ha hu hinf h1 h2 hd)
    ·cases ht
   ·cases ht
  ·cases ht
 case call c =>
  have sp : ∀ {b : Bool}, (if b = true then dataCall (trCallN P c) else vecCall (vecM imm ⟨dst, .call c, type, pos, after, guard⟩) (trCallN P c)) = some d → OpOk P G call S ρ h w ((execOp a.eval ⟨dst, .call c, type, pos, after, guard⟩).run P w) out := fun {b} ht => by
   cases b with
   | false => exact sim_vecCall hi ha hc ht hd
   | true =>
    simp only [if_true] at ht
    unfold dataCall at ht
    split at ht
    ·rename_i f args hcn
     simp only [Option.some.injEq] at ht
     subst ht
     exact sim_calld hi ha hc hcn hd
    ·exact sim_calln hi ha hc ht hd
  exact sp ht
 case makeFunc fn p q =>
  split at ht
  ·rename_i p' q' h1 h2
   simp only [Option.some.injEq] at ht
   subst ht
   exact .inl (sim_mkf hi ha h1 h2 hd)
  ·cases ht
 case nilCheck x =>
  simp only [Option.map_eq_some_iff] at ht
  obtain ⟨y, hy, rfl⟩ := ht
  exact .inl (sim_nilchk hi ha rfl hy hd)
 case makeInterface t x =>
  split at ht
  ·cases ht
  ·rename_i u y hni hu hy
   simp only [Option.some.injEq] at ht
   subst ht
   exact .inl (sim_mki hi ha hu (fun m hm => hni m (by rw [hm])) hy hd)
  ·cases ht
 case panic x =>
  simp only [Option.map_eq_some_iff] at ht
  obtain ⟨y, hy, rfl⟩ := ht
  exact .inl (sim_panic hi ha hy hd)
end
end Go.Deepv
namespace Go.Deepv
open Go.RowKit
section
variable {P : Program} {G : Glob} {S S' : Settled} {ρ ρ' : List RI} {h h' : List Res} {w w' : World} {a : Act} {ad : List DV} {call : Cle → List DV → List Res → Option DOut} {out : DOut}
theorem RepA.take {n : Nat} {a : Array Value} (ha : RepA S ρ h w a ad) (hl : DV.lows n ad = true) : RepA S (ρ.take n) (h.take n) w a ad :=
 ⟨ha.len, fun j x hx => (ha.at_ j x hx).take (DV.lows_at hl hx)⟩
theorem mask_spec : ∀ (m : List Bool) (ad : List DV), (mask m ad).length = ad.length ∧ ∀ (j : Nat) (x : DV), (mask m ad)[j]? = some x → x = .d .undef ∨ ad[j]? = some x
 | _, [] => by
  cases ‹List Bool› with
  | nil => exact ⟨rfl, fun j x h => by simp [mask] at h⟩
  | cons b m => cases b <;> exact ⟨rfl, fun j x h => by simp [mask] at h⟩
 | [], y :: ys => by
  obtain ⟨h1, h2⟩ := mask_spec [] ys
  simp only [mask]
  refine ⟨by simp [h1], fun j x hx => ?_⟩
  cases j with
  | zero => simp at hx; exact .inl hx.symm
  | succ j => simpa using h2 j x (by simpa using hx)
 | true :: m, y :: ys => by
  obtain ⟨h1, h2⟩ := mask_spec m ys
  simp only [mask]
  refine ⟨by simp [h1], fun j x hx => ?_⟩
  cases j with
  | zero => simp at hx; exact .inr (by simp [hx])
  | succ j => simpa using h2 j x (by simpa using hx)
 | false :: m, y :: ys => by
  obtain ⟨h1, h2⟩ := mask_spec m ys
  simp only [mask]
  refine ⟨by simp [h1], fun j x hx => ?_⟩
  cases j with
  | zero => simp at hx; exact .inl hx.symm
  | succ j => simpa using h2 j x (by simpa using hx)
theorem RepA.mask {a : Array Value} (ha : RepA S ρ h w a ad) (m : List Bool) : RepA S ρ h w a (mask m ad) := by
 obtain ⟨h1, h2⟩ := mask_spec m ad
 refine ⟨by rw [ha.len, h1], fun j x hx => ?_⟩
 rcases h2 j x hx with rfl | hx'
 ·exact .d _ _ (.undef _)
 ·exact ha.at_ j x hx'
theorem RepA.put (ha : RepA S ρ h w a.tmps ad) {v : Value} {x : DV} (hx : RepD S ρ h w v x) (dst : Option Nat) : RepA S ρ h w (a.put dst v).tmps (put ad dst x) := by
 cases dst with
 | none => exact ha
 | some d =>
  refine ⟨by simp [Act.put, Deepv.put, ha.len], fun j y hy => ?_⟩
  simp only [Deepv.put] at hy
  simp only [Act.put]
  by_cases e : j = d
  ·subst e
   have hl : j < ad.length := by have := (List.getElem?_eq_some_iff.1 hy).1; simpa using this
   rw [List.getElem?_set_self hl] at hy
   simp at hy
   subst hy
   have hl' : j < a.tmps.size := by rw [ha.len]; exact hl
   simpa [Array.getD_eq_getD_getElem?, hl'] using hx
  ·rw [List.getElem?_set_ne (Ne.symm e)] at hy
   have := ha.at_ j y hy
   simp only [Array.getD_eq_getD_getElem?] at this ⊢
   rw [Array.getElem?_setIfInBounds_ne (Ne.symm e)]
   exact this
theorem put_defers (a : Act) (dst : Option Nat) (v : Value) : (a.put dst v).defers = a.defers := by cases dst <;> rfl
def mark (D : Nat) : Deferred := { target := .collected D, args := #[] }
abbrev Base := Nat × List Deferred × Bool
def Marked (N0 : Base) (ρ : List RI) (w : World) (ds : List Deferred) : Prop :=
 N0.1 ≤ w.heap.size ∧ ∃ l : List Nat, ds = l.map mark ++ N0.2.1 ∧ (N0.2.2 = true → l = []) ∧ l.Nodup ∧ ∀ D ∈ l, N0.1 ≤ D ∧ w.heap[D]? = some (.deferred (some [])) ∧ ∀ (i : Nat) (r : RI), ρ[i]? = some r → r.block ≠ some D
theorem Marked.nil {N0 : Base} (h : N0.1 ≤ w.heap.size) : Marked N0 ρ w N0.2.1 := ⟨h, [], rfl, fun _ => rfl, List.nodup_nil, fun D hD => by cases hD⟩
theorem Marked.mono {N0 : Base} {ds : List Deferred} (E : Ext S ρ h w S' ρ' h' w') (m : Marked N0 ρ w ds) : Marked N0 ρ' w' ds := by
 obtain ⟨h0, l, e, hst, hn, hl⟩ := m
 refine ⟨Nat.le_trans h0 E.size, l, e, hst, hn, fun D hD => ?_⟩
 obtain ⟨h1, h2, h3⟩ := hl D hD
 have hlt : D < w.heap.size := (Array.getElem?_eq_some_iff.1 h2).1
 refine ⟨h1, by rw [E.frame D hlt h3]; exact h2, fun i r hr hb => ?_⟩
 rcases E.blocks i D r hr hb with h4 | ⟨j, r0, hj, hb0, _⟩
 ·omega
 ·exact h3 j r0 hj hb0
theorem Marked.take {N0 : Base} {ds : List Deferred} (m : Marked N0 ρ w ds) (n : Nat) : Marked N0 (ρ.take n) w ds := by
 obtain ⟨h0, l, e, hst, hn, hl⟩ := m
 exact ⟨h0, l, e, hst, hn, fun D hD => ⟨(hl D hD).1, (hl D hD).2.1, fun i r hr => (hl D hD).2.2 i r (take_some hr).2⟩⟩
def ExitOk (S : Settled) (ρ : List RI) (h : List Res) (w : World) : DExit → Exit → Prop
 | .normal, .normal => True
 | .exit i, .exit j => i = j ∧ i < 1000000
 | .exit i, .goto l => i = gid l ∧ l < 1000000
 | .ret, .ret => True
 | .pan v, .panic ch => ∃ x, ch = [{ v := x, recovered := false }] ∧ RepD S ρ h w x v
 | _, _ => False
def Post (P : Program) (G : Glob) (N0 : Base) (S : Settled) (ρ : List RI) (h : List Res) (w : World) (e : DExit) (ad' : List DV) (h' : List Res) (e' : Exit) (a' : Act) (w' : World) : Prop :=
 ∃ S' ρ', RepA S' ρ' h' w' a'.tmps ad' ∧ Ext S ρ h w S' ρ' h' w' ∧ Inv P G S' ρ' h' w' ∧ Marked N0 ρ' w' a'.defers ∧ ExitOk S' ρ' h' w' e e'
def CallPost (P : Program) (G : Glob) (S : Settled) (ρ : List RI) (h : List Res) (w : World) : DOut → Ending → World → Prop
 | .val v h', e, w' => ∃ x S' ρ', e = .returned x ∧ RepD S' ρ' h' w' x v ∧ Ext S ρ h w S' ρ' h' w' ∧ Inv P G S' ρ' h' w'
 | .pan v h', e, w' => ∃ x S' ρ', e = .panicked [{ v := x, recovered := false }] ∧ RepD S' ρ' h' w' x v ∧ Ext S ρ h w S' ρ' h' w' ∧ Inv P G S' ρ' h' w'
structure Wide (F : Fence) : Prop where
 fn : ∀ f, F.fn f
 calls : ∀ {n : Nat} {P : Program} {f : FuncId} {args : Array Value} {w : World} {R : Ending → World → Prop}, Calls P f args w R → CallsIn F n P f args w R
 depth : F.depth = none
theorem Wide.inRound {F : Fence} (h : Wide F) (l : Nat) : Wide (F.inRound l) := ⟨fun f => h.fn f, fun {n P f args w R} hc => h.calls hc, h.depth⟩
theorem wide_wide : Wide Fence.wide := ⟨fun _ => trivial, fun h => callsIn_wide.2 h, rfl⟩
structure CallS (P : Program) (G : Glob) (call : Cle → List DV → List Res → Option DOut) : Prop where
 fn : ∀ (g : FuncId) (args : Array Value) (dargs : List DV) (S : Settled) (ρ : List RI) (h : List Res) (w : World) (out : DOut), Inv P G S ρ h w → args.size = dargs.length → (∀ (j : Nat) (x : DV), dargs[j]? = some x → RepD S ρ h w (args.getD j undef) x) →
  call (.fn g) dargs h = some out → Calls P g args w (CallPost P G S ρ h w out)
 yld : ∀ (id l : Nat) (args : Array Value) (dargs : List DV) (S : Settled) (ρ : List RI) (h : List Res) (w : World) (out : DOut), Inv P G S ρ h w → ρ[id]? = some (.box l) → args.size = dargs.length → (∀ (j : Nat) (x : DV), dargs[j]? = some x → RepD S ρ h w (args.getD j undef) x) →
  call (.yld id) dargs h = some out → ∃ f tmps as_ bd, (Instr.yield l args).run P w = .ok (.round l f tmps as_ bd) w ∧ ∀ F : Fence, Wide F → RoundIn F 0 P l f tmps as_ bd w (CallPost P G S ρ h w out)
theorem wants_ok (ha : RepA S ρ h w a.tmps ad) {ops : Array Oper} {o : Oper} {g : Option (Nat × Bool)} (ht : trGuard ops o.guard = some g) {b : Bool} (hw : wants ad g = some b) : Region.wanted o (yielded ops a.tmps) = b := by
 unfold trGuard at ht
 split at ht
 ·rename_i hg
  simp only [Option.some.injEq] at ht
  subst ht
  simp only [wants, Option.some.injEq] at hw
  subst hw
  simp [Region.wanted, hg]
 ·rename_i j want hg
  split at ht
  ·rename_i t hd
   simp only [Option.some.injEq] at ht
   subst ht
   have look : ∀ x, ad[t]? = some x → a.tmps[t]? = some (a.tmps.getD t undef) ∧ RepD S ρ h w (a.tmps.getD t undef) x := fun x hx => by
    have hl : t < a.tmps.size := by rw [ha.len]; exact (List.getElem?_eq_some_iff.1 hx).1
    exact ⟨by simp [Array.getD_eq_getD_getElem?, hl], ha.at_ t x hx⟩
   simp only [wants] at hw
   split at hw
   ·rename_i c hx
    obtain ⟨l1, l2⟩ := look _ hx
    rw [repF_bool (repD_d l2)] at l1
    simp only [Option.some.injEq] at hw
    subst hw
    simp [Region.wanted, hg, yielded, hd, l1]
   ·rename_i hx
    obtain ⟨l1, l2⟩ := look _ hx
    have := repD_d l2
    simp only [Option.some.injEq] at hw
    subst hw
    generalize a.tmps.getD t undef = q at *
    cases this with
    | tup cs fs hl hh => simp [Region.wanted, hg, yielded, hd, l1]
   ·cases hw
  ·cases ht
theorem ops_sim {F : Fence} (hF : Wide F) (hc : CallsOk P call) (hS : CallS P G call) {imm : Nat → Bool} {ops : Array Oper} : ∀ (l : List Oper) (dl : List DOper), l.mapM (trOper P imm ops) = some dl →
  ∀ (a : Act) (ad : List DV) (S : Settled) (ρ : List RI) (h : List Res) (w : World) (e : DExit) (ad' : List DV) (h' : List Res) (N0 : Base) (Q : Exit → Act → World → Prop), Inv P G S ρ h w → RepA S ρ h w a.tmps ad → Marked N0 ρ w a.defers →
   dops call dl ad h = some (e, ad', h') → (∀ e' a' w', Post P G N0 S ρ h w e ad' h' e' a' w' → Q e' a' w') → wpListIn F 0 P ops Q l a w
 | [], dl, ht, a, ad, S, ρ, h, w, e, ad', h', N0, Q, hi, ha, hd, hr, hQ => by
  simp at ht
  subst ht
  simp only [dops, Option.some.injEq, Prod.mk.injEq] at hr
  obtain ⟨rfl, rfl, rfl⟩ := hr
  exact hQ _ _ _ ⟨S, ρ, ha, Ext.refl _ _ _ _, hi, hd, trivial⟩
 | o :: l, dl, ht, a, ad, S, ρ, h, w, e, ad', h', N0, Q, hi, ha, hd, hr, hQ => by
  simp only [List.mapM_cons, Option.pure_def, Option.bind_eq_bind, Option.bind_eq_some_iff, Option.some.injEq] at ht
  obtain ⟨d, hd1, dl', hdl, rfl⟩ := ht
  rcases trOper_cases P hd1 with ⟨op, g, rfl, hg, hop'⟩
  ·simp only [dops] at hr
   have ih := ops_sim hF hc hS (imm := imm) (ops := ops) l dl' hdl
   split at hr
   ·rename_i hwant
    have hw := wants_ok ha hg hwant
    have cont : ∀ (x : Value) (v : DV) (h1 : List Res) (w1 : World) (S1 : Settled) (ρ1 : List RI), RepD S1 ρ1 h1 w1 x v → Ext S ρ h w S1 ρ1 h1 w1 → Inv P G S1 ρ1 h1 w1 → dops call dl' (put ad o.dst v) h1 = some (e, ad', h') → wpListIn F 0 P ops Q l (a.put o.dst x) w1 := by
     intro x v h1 w1 S1 ρ1 hx E I hrest
     refine ih (a.put o.dst x) (put ad o.dst v) S1 ρ1 h1 w1 e ad' h' N0 Q I ((ha.mono E).put hx o.dst) (by rw [put_defers]; exact hd.mono E) hrest fun e' a' w' hp => ?_
     obtain ⟨S2, ρ2, p1, p2, p3, p4, p5⟩ := hp
     exact hQ e' a' w' ⟨S2, ρ2, p1, E.trans p2, p3, p4, p5⟩
    simp only [wpListIn, hw, if_true]
    refine ⟨fun f _ => hF.fn f, ?_⟩
    have hop : trOp P imm o = some op := by
     rcases hop' with hop' | rfl
     ·exact hop'
     ·simp [dop] at hr
    rw [Oper.semAt_plain F _ _ (fun c he => by simp [trOp, he] at hop)]
    split at hr
    ·rename_i v h1 hdop
     rcases sim_op hi ha hc hop hdop with ⟨x, w1, S1, ρ1, hrun, hx, E, I⟩ | ⟨ρ0, h0, E0, I0, g', args, dargs, hrun, hl, hrep, hcall⟩ | ⟨id, l', args, dargs, hrun, hρ, hl, hrep, hcall⟩ | ⟨g', args, dargs, vd, hrun, hl, hrep, hcall, hout⟩
     ·rcases hrun with hrun | ⟨hrun, rfl⟩
      ·rw [hrun, Oper.uponIn_value]
       exact cont x v h1 w1 S1 ρ1 hx E I hr
      ·rw [hrun, Oper.uponIn_skip]
       exact cont undef v h1 w1 S1 ρ1 hx E I hr
     ·rw [hrun, Oper.uponIn_enter]
      refine ⟨(fun hh => by rw [hF.depth] at hh; cases hh), ?_⟩
      refine hF.calls ?_
      refine (hS.fn g' args dargs S ρ0 h0 w _ I0 hl hrep hcall).mono fun e1 w1 hp => ?_
      obtain ⟨x, S1, ρ1, rfl, hx, E, I⟩ := hp
      have E := E0.trans E
      exact cont x v h1 w1 S1 ρ1 hx E I hr
     ·obtain ⟨f, tmps, as_, bd, hy, hround⟩ := hS.yld id l' args dargs S ρ h w _ hi hρ hl hrep hcall
      rw [hrun, hy, Oper.uponIn_round]
      refine ⟨(fun hh => by rw [hF.depth] at hh; cases hh), ?_⟩
      refine (hround F hF).mono fun e1 w1 hp => ?_
      obtain ⟨x, S1, ρ1, rfl, hx, E, I⟩ := hp
      exact cont x v h1 w1 S1 ρ1 hx E I hr
     ·simp only [DOut.val.injEq] at hout
      obtain ⟨rfl, rfl⟩ := hout
      rw [hrun, Oper.uponIn_enter]
      refine ⟨(fun hh => by rw [hF.depth] at hh; cases hh), ?_⟩
      refine hF.calls ?_
      refine (hS.fn g' args dargs S [] [] w _ (inv_none hi) hl hrep hcall).mono fun e1 w1 hp => ?_
      obtain ⟨x, S1, ρ1, rfl, hx, E, I⟩ := hp
      obtain ⟨E', I'⟩ := ext_lift hi E I
      exact cont x _ _ w1 S1 _ (.d _ _ (repD_d hx)) E' I' hr
    ·rename_i v h1 hdop
     simp only [Option.some.injEq, Prod.mk.injEq] at hr
     obtain ⟨rfl, rfl, rfl⟩ := hr
     rcases sim_op hi ha hc hop hdop with ⟨x, w1, S1, ρ1, hrun, hx, E, I⟩ | ⟨ρ0, h0, E0, I0, g', args, dargs, hrun, hl, hrep, hcall⟩ | ⟨id, l', args, dargs, hrun, hρ, hl, hrep, hcall⟩ | ⟨g', args, dargs, vd, hrun, hl, hrep, hcall, hout⟩
     ·rw [hrun, Oper.uponIn_panic]
      exact hQ _ _ _ ⟨S1, ρ1, ha.mono E, E, I, hd.mono E, x, rfl, hx⟩
     ·rw [hrun, Oper.uponIn_enter]
      refine ⟨(fun hh => by rw [hF.depth] at hh; cases hh), ?_⟩
      refine hF.calls ?_
      refine (hS.fn g' args dargs S ρ0 h0 w _ I0 hl hrep hcall).mono fun e1 w1 hp => ?_
      obtain ⟨x, S1, ρ1, rfl, hx, E, I⟩ := hp
      have E := E0.trans E
      exact hQ _ _ _ ⟨S1, ρ1, ha.mono E, E, I, hd.mono E, x, rfl, hx⟩
     ·obtain ⟨f, tmps, as_, bd, hy, hround⟩ := hS.yld id l' args dargs S ρ h w _ hi hρ hl hrep hcall
      rw [hrun, hy, Oper.uponIn_round]
      refine ⟨(fun hh => by rw [hF.depth] at hh; cases hh), ?_⟩
      refine (hround F hF).mono fun e1 w1 hp => ?_
      obtain ⟨x, S1, ρ1, rfl, hx, E, I⟩ := hp
      exact hQ _ _ _ ⟨S1, ρ1, ha.mono E, E, I, hd.mono E, x, rfl, hx⟩
     ·cases hout
    ·cases hr
   ·rename_i hwant
    have hw := wants_ok ha hg hwant
    simp only [wpListIn, hw, Bool.false_eq_true, if_false]
    refine ⟨fun f _ => hF.fn f, ih (a.put o.dst undef) (put ad o.dst (.d (.tup []))) S ρ h w e ad' h' N0 Q hi (ha.put (.d _ _ (.tup #[] [] rfl fun j y hy => by simp at hy)) o.dst) (by rw [put_defers]; exact hd) hr hQ⟩
   ·cases hr
end
end Go.Deepv
namespace Go.Deepv
section
variable {call : Cle → List DV → List Res → Option DOut} {a a' : List DV} {h h' : List Res}
theorem mapM_congr' {α β : Type} {f g : α → Option β} : ∀ {l : List α}, (∀ x ∈ l, f x = g x) → l.mapM f = l.mapM g
 | [], _ => rfl
 | x :: l, hl => by
  simp only [List.mapM_cons]
  rw [hl x (by simp), mapM_congr' (l := l) fun y hy => hl y (by simp [hy])]
theorem bound_congr {x : Option Opd} {u v : Nat} (hx : ∀ o ∈ x.toList, ev a o = ev a' o) : bound x a u v = bound x a' u v := by
 cases x with
 | none => rfl
 | some x => simp only [bound]; rw [hx x (by simp)]
theorem dop_congr {o : DOp} (hx : ∀ x ∈ o.opds, ev a x = ev a' x) : dop call o a h = dop call o a' h := by
 cases o <;> simp only [DOp.opds, List.mem_cons, List.not_mem_nil, or_false, forall_eq_or_imp, forall_eq] at hx
 case lit sz len zero ps =>
  simp only [dop]
  rw [mapM_congr' (g := fun p => (flatCells (ev a' p.2)).map fun cs => (p.1, cs)) fun p hp => by rw [hx p.2 (List.mem_map.2 ⟨p, hp, rfl⟩)]]
 case build zero ps =>
  simp only [dop]
  have e1 : (ps.map fun p => (p.1, p.2.1, ev a p.2.2)) = ps.map fun p => (p.1, p.2.1, ev a' p.2.2) := List.map_congr_left fun p hp => by rw [hx p.2.2 (List.mem_map.2 ⟨p, hp, rfl⟩)]
  have e3 : ∀ b : List DV, (ps.any fun p => (ev b p.2.2).isRow) = (ps.map fun p => (p.1, p.2.1, ev b p.2.2)).any fun p => p.2.2.isRow := fun b => by rw [List.any_map]; rfl
  rw [e3 a, e3 a', e1]
  rw [mapM_congr' (g := fun p => match flatCells (ev a' p.2.2) with | some cs => if cs.length = p.2.1 ∧ cs.all FV.one then some (p.1, cs) else none | none => none) fun p hp => by rw [hx p.2.2 (List.mem_map.2 ⟨p, hp, rfl⟩)]; rfl]
  rfl
 case mnmx mx xs =>
  simp only [dop]
  rw [List.map_congr_left hx]
 case call f xs =>
  simp only [dop]
  rw [hx.1, List.map_congr_left hx.2]
 case calln sz f xs =>
  simp only [dop]
  rw [hx.1, List.map_congr_left hx.2]
 case mkf fn p q =>
  simp only [dop]
  rw [List.map_congr_left (l := p) fun x hp => hx x (by simp [hp]), List.map_congr_left (l := q) fun x hp => hx x (by simp [hp])]
 case slcStr x lo hi =>
  simp only [dop]
  rw [hx.1]
  split <;> try rfl
  rw [bound_congr (x := hi) fun o ho => hx.2 o (by simp [ho])]
  split <;> try rfl
  rw [bound_congr (x := lo) fun o ho => hx.2 o (by simp [ho])]
 case slc sz x lo hi =>
  have bh : ∀ u v, bound hi a u v = bound hi a' u v := fun u v => bound_congr fun o ho => hx.2 o (by simp [ho])
  have bl : ∀ u v, bound lo a u v = bound lo a' u v := fun u v => bound_congr fun o ho => hx.2 o (by simp [ho])
  simp only [dop, hx.1, bh, bl]
 case slc3 sz x lo hi mx =>
  have bl : ∀ u v, bound lo a u v = bound lo a' u v := fun u v => bound_congr fun o ho => hx.2.2.2 o ho
  simp only [dop, hx.1, hx.2.1, hx.2.2.1, bl]
 case slcn sz x lo hi =>
  have bh : ∀ u v, bound hi a u v = bound hi a' u v := fun u v => bound_congr fun o ho => hx.2 o (by simp [ho])
  have bl : ∀ u v, bound lo a u v = bound lo a' u v := fun u v => bound_congr fun o ho => hx.2 o (by simp [ho])
  simp only [dop, hx.1, bh, bl]
 case vlit et sz len zero ps =>
  simp only [dop]
  rw [mapM_congr' (g := fun p => (flatCells (ev a' p.2)).map fun cs => (p.1, cs)) fun p hp => by rw [hx p.2 (List.mem_map.2 ⟨p, hp, rfl⟩)]]
 case slcA len sz x lo hi =>
  simp only [dop]
  rw [hx.1]
  split <;> try rfl
  rw [bound_congr (x := hi) fun o ho => hx.2 o (by simp [ho])]
  split <;> try rfl
  rw [bound_congr (x := lo) fun o ho => hx.2 o (by simp [ho])]
 case calld f xs =>
  simp only [dop]
  rw [hx.1, List.map_congr_left hx.2]
 case len s x => cases s <;> simp only [dop] <;> rw [hx]
 all_goals (try simp only [dop]) <;> (try simp only [hx])
theorem dop_quiet {o : DOp} (hp : o.quiet = true) {out : DOut} (hd : dop call o a h = some out) : ∃ v, out = .val v h := by
 cases o <;> simp only [DOp.quiet, DOp.pure, Bool.false_eq_true] at hp
 case len s x => cases s <;> simp only [dop] at hd <;> (repeat' split at hd) <;> simp only [Option.some.injEq, reduceCtorEq] at hd <;> exact ⟨_, hd.symm⟩
 all_goals simp only [dop] at hd
 all_goals (repeat' split at hd)
 all_goals first
  | (simp only [reduceCtorEq] at hd; done)
  | exact ⟨_, (Option.some.inj hd).symm⟩
  | (simp only [Option.map_eq_some_iff] at hd; obtain ⟨v, _, rfl⟩ := hd; exact ⟨_, rfl⟩)
  | skip
theorem dop_pure {o : DOp} (hp : o.pure = true) {v : DV} (hd : dop call o a h = some (.val v h)) (h' : List Res) : dop call o a h' = some (.val v h') := by
 cases o <;> simp only [DOp.pure, Bool.false_eq_true] at hp
 case len s x => cases s <;> simp only [dop] at hd ⊢ <;> (repeat' split at hd) <;> simp_all
 all_goals simp only [dop] at hd ⊢
 all_goals first
  | (simp_all; done)
  | ((repeat' split at hd) <;> simp_all; done)
  | ((repeat' split at hd) <;> simp_all <;> (intros; subst_vars; grind))
def dstep (call : Cle → List DV → List Res → Option DOut) (o : DOper) (a : List DV) (h : List Res) : Option (DV × List Res) :=
 match wants a o.guard with
 | some true => match dop call o.op a h with
  | some (.val v h') => some (v, h')
  | _ => none
 | some false => some (.d (.tup []), h)
 | none => none
theorem dops_cons {o : DOper} {l : List DOper} {r : List DV × List Res} : dops call (o :: l) a h = some (.normal, r) ↔ ∃ v h', dstep call o a h = some (v, h') ∧ dops call l (put a o.dst v) h' = some (.normal, r) := by
 simp only [dops, dstep]
 cases wants a o.guard with
 | none => simp
 | some b =>
  cases b with
  | false => exact ⟨fun hr => ⟨_, _, rfl, hr⟩, fun ⟨v, h', he, hr⟩ => by cases he; exact hr⟩
  | true =>
   simp only
   cases hd : dop call o.op a h with
   | none => simp
   | some out =>
    cases out with
    | val v h' => exact ⟨fun hr => ⟨_, _, rfl, hr⟩, fun ⟨v, h', he, hr⟩ => by cases he; exact hr⟩
    | pan v h' => simp
theorem ev_put {x : Opd} {d : Option Nat} {v : DV} (hx : ∀ t ∈ x.slots, d ≠ some t) : ev (put a d v) x = ev a x := by
 cases d with
 | none => rfl
 | some d =>
  cases x with
  | tmp t =>
   have : d ≠ t := fun e => hx t (by simp [Opd.slots]) (by rw [e])
   simp only [ev, put, List.getD_eq_getElem?_getD, List.getElem?_set_ne this]
  | _ => rfl
theorem wants_put {g : Option (Nat × Bool)} {d : Option Nat} {v : DV} (hx : ∀ t b, g = some (t, b) → d ≠ some t) : wants (put a d v) g = wants a g := by
 cases g with
 | none => rfl
 | some p =>
  obtain ⟨t, b⟩ := p
  cases d with
  | none => rfl
  | some d =>
   have : d ≠ t := fun e => hx t b rfl (by rw [e])
   simp only [wants, put, List.getElem?_set_ne this]
theorem dstep_put {o : DOper} {d : Option Nat} {v : DV} (hx : ∀ t ∈ o.looks, d ≠ some t) : dstep call o (put a d v) h = dstep call o a h := by
 have h1 : wants (put a d v) o.guard = wants a o.guard := wants_put fun t b hg => hx t (by simp [DOper.looks, hg])
 have h2 : dop call o.op (put a d v) h = dop call o.op a h := dop_congr fun x hxo => ev_put fun t ht => hx t (by
  simp only [DOper.looks, List.mem_append, List.mem_flatMap]
  exact .inl ⟨x, hxo, ht⟩)
 simp only [dstep, h1, h2]
theorem dstep_quiet {o : DOper} (hp : o.op.quiet = true) {v : DV} (hd : dstep call o a h = some (v, h')) : h' = h := by
 unfold dstep at hd
 split at hd
 ·split at hd
  ·rename_i v1 h1 hdop
   obtain ⟨v2, e⟩ := dop_quiet hp hdop
   cases e
   simp at hd
   exact hd.2.symm
  ·cases hd
 ·simp at hd; exact hd.2.symm
 ·cases hd
theorem DOp.quiet_of_pure {o : DOp} (hp : o.pure = true) : o.quiet = true := by cases o <;> simp_all [DOp.quiet, DOp.pure]
theorem dstep_pure {o : DOper} (hp : o.op.pure = true) {v : DV} {h1 : List Res} (hd : dstep call o a h = some (v, h1)) (h' : List Res) : dstep call o a h' = some (v, h') := by
 obtain rfl := dstep_quiet (DOp.quiet_of_pure hp) hd
 unfold dstep at hd ⊢
 split at hd
 ·rename_i hw
  split at hd
  ·rename_i v1 h2 hdop
   simp at hd
   obtain ⟨rfl, rfl⟩ := hd
   rw [dop_pure hp hdop h']
  ·cases hd
 ·rename_i hw
  simp at hd
  rw [← hd]
 ·cases hd
theorem put_comm {d e : Option Nat} {u v : DV} (hne : ∀ i j, d = some i → e = some j → i ≠ j) : put (put a d u) e v = put (put a e v) d u := by
 cases d with
 | none => rfl
 | some i =>
  cases e with
  | none => rfl
  | some j => simp only [put]; exact List.set_comm _ _ (hne i j rfl rfl)
theorem DOper.comm_symm {x y : DOper} (h : x.comm y = true) : y.comm x = true := by
 unfold DOper.comm at *
 simp only [Bool.and_eq_true, Bool.or_eq_true] at *
 refine ⟨⟨⟨h.1.1.2, h.1.1.1⟩, ?_⟩, ?_⟩
 ·have := h.1.2
  revert this
  cases x.dst <;> cases y.dst <;> simp
  exact fun e h => e h.symm
 ·rcases h.2 with (h | h) | h
  ·exact .inl (.inr h)
  ·exact .inl (.inl h)
  ·exact .inr ⟨h.2, h.1⟩
theorem dops_swap {x y : DOper} (hc : x.comm y = true) {l : List DOper} {r : List DV × List Res} (hr : dops call (x :: y :: l) a h = some (.normal, r)) : dops call (y :: x :: l) a h = some (.normal, r) := by
 unfold DOper.comm at hc
 simp only [Bool.and_eq_true, Bool.or_eq_true] at hc
 obtain ⟨⟨⟨c1, c2⟩, c3⟩, c4⟩ := hc
 have a1 : ∀ t ∈ y.looks, x.dst ≠ some t := fun t ht e => by simp [e] at c1; exact c1 ht
 have a2 : ∀ t ∈ x.looks, y.dst ≠ some t := fun t ht e => by simp [e] at c2; exact c2 ht
 obtain ⟨u, h1, s1, hr1⟩ := dops_cons.1 hr
 clear hr
 obtain ⟨v, h2, s2, hr⟩ := dops_cons.1 hr1
 clear hr1
 rw [dstep_put a1] at s2
 have hput : put (put a x.dst u) y.dst v = put (put a y.dst v) x.dst u := put_comm fun i j hi hj => by
  rw [hi, hj] at c3
  simpa using c3
 rw [hput] at hr
 rcases c4 with (hp | hp) | ⟨q1, q2⟩
 ·obtain rfl := dstep_quiet (DOp.quiet_of_pure hp) s1
  exact dops_cons.2 ⟨v, h2, s2, dops_cons.2 ⟨u, h2, by rw [dstep_put a2]; exact dstep_pure hp s1 _, hr⟩⟩
 ·obtain rfl := dstep_quiet (DOp.quiet_of_pure hp) s2
  exact dops_cons.2 ⟨v, h, dstep_pure hp s2 _, dops_cons.2 ⟨u, h2, by rw [dstep_put a2]; exact s1, hr⟩⟩
 ·obtain rfl := dstep_quiet q1 s1
  obtain rfl := dstep_quiet q2 s2
  exact dops_cons.2 ⟨v, h2, s2, dops_cons.2 ⟨u, h2, by rw [dstep_put a2]; exact s1, hr⟩⟩
theorem dops_front {x : DOper} {l2 : List DOper} {r : List DV × List Res} : ∀ {l1 : List DOper} {a : List DV} {h : List Res}, (∀ y ∈ l1, y.comm x = true) → dops call (l1 ++ x :: l2) a h = some (.normal, r) → dops call (x :: (l1 ++ l2)) a h = some (.normal, r)
 | [], _, _, _, hr => hr
 | y :: l1, a, h, hc, hr => by
  obtain ⟨u, h1, s1, hr⟩ := dops_cons.1 hr
  exact dops_swap (hc y (by simp)) (dops_cons.2 ⟨u, h1, s1, dops_front (fun z hz => hc z (by simp [hz])) hr⟩)
theorem idxOf_lt_iff {l2 : List Nat} {x y z : Nat} (hy : y ≠ x) (hz : z ≠ x) : ∀ {l1 : List Nat}, ((l1 ++ x :: l2).idxOf y < (l1 ++ x :: l2).idxOf z ↔ (l1 ++ l2).idxOf y < (l1 ++ l2).idxOf z)
 | [] => by
  have e1 : (x == y) = false := by simpa using Ne.symm hy
  have e2 : (x == z) = false := by simpa using Ne.symm hz
  simp [List.idxOf_cons, e1, e2]
 | w :: l1 => by
  have ih := idxOf_lt_iff (l1 := l1) (l2 := l2) hy hz
  simp only [List.cons_append, List.idxOf_cons]
  cases h1 : w == y <;> cases h2 : w == z <;> simp [ih]
theorem dops_orders {dl : List DOper} {r : List DV × List Res} : ∀ {σ τ : List Nat} {a : List DV} {h : List Res}, σ.Nodup → τ.Nodup → (∀ i, i ∈ σ ↔ i ∈ τ) →
  (∀ x ∈ σ, ∀ y ∈ σ, x ≠ y → (dl.getD x default).comm (dl.getD y default) = false → (σ.idxOf x < σ.idxOf y ↔ τ.idxOf x < τ.idxOf y)) →
  dops call (ordered dl τ) a h = some (.normal, r) → dops call (ordered dl σ) a h = some (.normal, r)
 | [], τ, a, h, _, _, hm, _, hr => by
  cases τ with
  | nil => exact hr
  | cons x τ => have := (hm x).2 (by simp); simp at this
 | x :: σ, τ, a, h, hn, hnt, hm, ho, hr => by
  obtain ⟨hx, hn⟩ := List.nodup_cons.1 hn
  obtain ⟨l1, l2, rfl⟩ := List.append_of_mem ((hm x).1 (by simp))
  have hx1 : x ∉ l1 ∧ x ∉ l2 := by
   have := List.nodup_append.1 hnt
   refine ⟨fun h1 => this.2.2 x h1 x (by simp) rfl, (List.nodup_cons.1 this.2.1).1⟩
  have hc : ∀ y ∈ l1.map (fun i => dl.getD i default), y.comm (dl.getD x default) = true := by
   intro y hy
   obtain ⟨i, hi, rfl⟩ := List.mem_map.1 hy
   have hix : i ≠ x := fun e => hx1.1 (e ▸ hi)
   cases hcm : (dl.getD i default).comm (dl.getD x default) with
   | true => rfl
   | false =>
    have hms : i ∈ x :: σ := (hm i).2 (by simp [hi])
    have := (ho i hms x (by simp) hix hcm).2 (by
     rw [List.idxOf_append, if_pos hi, List.idxOf_append, if_neg hx1.1]
     have := List.idxOf_lt_length_of_mem hi
     simp
     omega)
    simp at this
  simp only [ordered, List.map_append, List.map_cons] at hr ⊢
  obtain ⟨v, h', s, hr⟩ := dops_cons.1 (dops_front hc hr)
  refine dops_cons.2 ⟨v, h', s, ?_⟩
  have hn' : (l1 ++ l2).Nodup := by
   have := List.nodup_append.1 hnt
   exact List.nodup_append.2 ⟨this.1, (List.nodup_cons.1 this.2.1).2, fun p hp q hq => this.2.2 p hp q (by simp [hq])⟩
  refine dops_orders (τ := l1 ++ l2) hn hn' (fun i => ?_) (fun i hi j hj hij hcm => ?_) (by simpa only [ordered, List.map_append] using hr)
  ·have := hm i
   by_cases e : i = x
   ·subst e
    simp [hx, hx1.1, hx1.2]
   ·simp [e] at this
    simp [this]
  ·have hi' : i ≠ x := fun e => hx (e ▸ hi)
   have hj' : j ≠ x := fun e => hx (e ▸ hj)
   have := ho i (by simp [hi]) j (by simp [hj]) hij hcm
   rw [idxOf_lt_iff (l1 := l1) hi' hj'] at this
   rw [← this]
   have e1 : (x == i) = false := by simpa using Ne.symm hi'
   have e2 : (x == j) = false := by simpa using Ne.symm hj'
   simp [List.idxOf_cons, e1, e2]
end
end Go.Deepv
namespace Go.Deepv
section
variable {call : Cle → List DV → List Res → Option DOut} {a a' : List DV} {h h' : List Res} {ops : Array Oper}
def unl (ops : Array Oper) (listed : Array Bool) : List Nat := (List.range ops.size).filter fun i => !listed.getD i true
theorem mem_unl {listed : Array Bool} {i : Nat} : i ∈ unl ops listed ↔ i < ops.size ∧ listed.getD i true = false := by
 unfold unl
 rw [List.mem_filter, List.mem_range, Bool.not_eq_true']
theorem unl_set {listed : Array Bool} {i : Nat} (hi : i ∈ unl ops listed) : (unl ops (listed.setIfInBounds i true)).length < (unl ops listed).length := by
 have e : unl ops (listed.setIfInBounds i true) = (unl ops listed).filter (fun j => j != i) := by
  unfold unl
  rw [List.filter_filter]
  refine List.filter_congr fun j hj => ?_
  by_cases hji : i = j
  ·subst hji
   have : (listed.setIfInBounds i true).getD i true = true := by
    rcases Nat.lt_or_ge i listed.size with h | h
    ·simp [h]
    ·simp [Array.getElem?_eq_none h]
   simp [this]
  ·have e2 : (j != i) = true := by simpa using Ne.symm hji
   rw [getD_set_ne true hji, e2]
   simp
 rw [e, List.length_filter_lt_length_iff_exists]
 exact ⟨i, hi, by simp⟩
structure Lin (ops : Array Oper) (listed : Array Bool) (σ : List Nat) : Prop where
 nodup : σ.Nodup
 mem : ∀ i ∈ σ, i < ops.size ∧ listed.getD i true = false
 deps : ∀ i ∈ σ, ∀ j ∈ (depsOf ops).getD i [], listed.getD j false = true ∨ (j ∈ σ ∧ σ.idxOf j < σ.idxOf i)
 all : ∀ i, i < ops.size → listed.getD i true = false → i ∈ σ
theorem deps_at {i : Nat} {o : Oper} (ho : ops[i]? = some o) : (depsOf ops).getD i [] = edgesOf o := by
 simp only [depsOf, List.getD_eq_getElem?_getD, List.getElem?_map, Array.getElem?_toList, ho]
 rfl
theorem mem_edges {o : Oper} {j : Nat} : j ∈ edgesOf o ↔ ∃ e ∈ o.after, Region.binds .any e = true ∧ e.on = j := by
 simp [edgesOf, and_assoc]
theorem forward_spec : ∀ {l : List (List Nat)} {k : Nat}, forwardB l k = true → ∀ (i : Nat), ∀ j ∈ l.getD i [], j < k + i
 | [], _, _, i, j, hj => by simp at hj
 | d :: r, k, hf, i, j, hj => by
  simp only [forwardB, Bool.and_eq_true, List.all_eq_true, decide_eq_true_eq] at hf
  cases i with
  | zero => exact hf.1 j (by simpa using hj)
  | succ i =>
   have := forward_spec hf.2 i j (by simpa using hj)
   omega
theorem go_spec (hf : forwardB (depsOf ops) 0 = true) : ∀ (fuel t : Nat) (listed : Array Bool), listed.size = ops.size → (unl ops listed).length ≤ fuel → Lin ops listed (Region.linearise.go .any ops fuel t listed []) := by
 intro fuel
 induction fuel with
 | zero =>
  intro t listed hs hc
  have : unl ops listed = [] := by simpa using hc
  refine ⟨by simp [Region.linearise.go], fun i hi => by simp [Region.linearise.go] at hi, fun i hi => by simp [Region.linearise.go] at hi, fun i hi hl => ?_⟩
  have hm : i ∈ unl ops listed := mem_unl.2 ⟨hi, hl⟩
  rw [this] at hm
  cases hm
 | succ fuel ih =>
  intro t listed hs hc
  have eg : Region.linearise.go .any ops (fuel + 1) t listed [] = (match (Region.ready .any ops listed)[t % (Region.ready .any ops listed).length]? with
   | some i => Region.linearise.go .any ops fuel (t / (Region.ready .any ops listed).length) (listed.setIfInBounds i true) [i]
   | none => [].reverse) := rfl
  rw [eg]
  cases hi : (Region.ready .any ops listed)[t % (Region.ready .any ops listed).length]? with
  | none =>
   have hnil : Region.ready .any ops listed = [] := by
    cases hr : Region.ready .any ops listed with
    | nil => rfl
    | cons x xs =>
     rw [hr] at hi
     have hlt : t % (x :: xs).length < (x :: xs).length := Nat.mod_lt _ (by simp)
     simp at hi
     simp at hlt
     omega
   have hall : ∀ i, i < ops.size → listed.getD i true = true := by
    intro i
    induction i using Nat.strongRecOn with
    | ind i ihi =>
     intro hlt
     cases hl : listed.getD i true with
     | true => rfl
     | false =>
      have : i ∈ Region.ready .any ops listed := by
       refine mem_ready.2 ⟨hl, ops[i], by simp [hlt], fun e he hb => ?_⟩
       have hd : e.on ∈ (depsOf ops).getD i [] := by
        rw [deps_at (o := ops[i]) (by simp [hlt])]
        exact mem_edges.2 ⟨e, he, hb, rfl⟩
       have hlt2 := forward_spec hf i _ hd
       have := ihi e.on (by omega) (by omega)
       have hsz : e.on < listed.size := by omega
       simp [hsz] at this ⊢
       exact this
      rw [hnil] at this
      cases this
   simp only [List.reverse_nil]
   exact ⟨by simp, by simp, by simp, fun i hi hl => by rw [hall i hi] at hl; cases hl⟩
  | some i =>
   simp only []
   rw [linearise_go_acc, List.reverse_singleton, List.singleton_append]
   have hr := List.mem_of_getElem? hi
   obtain ⟨hun, o, ho, hdep⟩ := mem_ready.1 hr
   have hlt : i < ops.size := (Array.getElem?_eq_some_iff.1 ho).1
   have hmem : i ∈ unl ops listed := mem_unl.2 ⟨hlt, hun⟩
   have L := ih (t / (Region.ready .any ops listed).length) (listed.setIfInBounds i true) (by simp [hs]) (by have := unl_set hmem; omega)
   generalize Region.linearise.go .any ops fuel (t / (Region.ready .any ops listed).length) (listed.setIfInBounds i true) [] = σ at L
   have hni : i ∉ σ := fun hm => by
    have := (L.mem i hm).2
    have hsz : i < listed.size := by omega
    simp [hsz] at this
   refine ⟨List.nodup_cons.2 ⟨hni, L.nodup⟩, fun k hk => ?_, fun k hk j hj => ?_, fun k hk hl => ?_⟩
   ·rcases List.mem_cons.1 hk with rfl | hk
    ·exact ⟨hlt, hun⟩
    ·have hki : i ≠ k := fun e => hni (e ▸ hk)
     have := L.mem k hk
     rw [getD_set_ne true hki] at this
     exact this
   ·rcases List.mem_cons.1 hk with rfl | hk
    ·rw [deps_at ho] at hj
     obtain ⟨e, he, hb, rfl⟩ := mem_edges.1 hj
     exact .inl (hdep e he hb)
    ·have hki : (i == k) = false := by
      simp only [beq_eq_false_iff_ne]
      exact fun e => hni (e ▸ hk)
     rcases L.deps k hk j hj with hl | ⟨hm, hlt2⟩
     ·by_cases hij : i = j
      ·subst hij
       exact .inr ⟨by simp, by simp [List.idxOf_cons, hki]⟩
      ·rw [getD_set_ne false hij] at hl
       exact .inl hl
     ·have hji : (i == j) = false := by
       simp only [beq_eq_false_iff_ne]
       exact fun e => hni (e ▸ hm)
      exact .inr ⟨by simp [hm], by simp [List.idxOf_cons, hki, hji, hlt2]⟩
   ·by_cases hik : i = k
    ·subst hik; simp
    ·have := L.all k hk (by rw [getD_set_ne true hik]; exact hl)
     simp [this]
theorem lin_spec (hf : forwardB (depsOf ops) 0 = true) (t : Nat) : (Region.linearise .any ops t).Nodup ∧ (∀ i, i ∈ Region.linearise .any ops t ↔ i < ops.size) ∧
  ∀ i ∈ Region.linearise .any ops t, ∀ j ∈ (depsOf ops).getD i [], (Region.linearise .any ops t).idxOf j < (Region.linearise .any ops t).idxOf i := by
 have L := go_spec hf ops.size t (Array.replicate ops.size false) (by simp) (by
  have := List.length_filter_le (fun i => !(Array.replicate ops.size false).getD i true) (List.range ops.size)
  simpa [unl] using this)
 refine ⟨L.nodup, fun i => ⟨fun hi => (L.mem i hi).1, fun hi => L.all i hi (by simp [hi])⟩, fun i hi j hj => ?_⟩
 rcases L.deps i hi j hj with h | h
 ·have : (Array.replicate ops.size false).getD j false = false := by
   rcases Nat.lt_or_ge j ops.size with hj | hj <;> simp [hj]
  rw [this] at h
  cases h
 ·exact h.2
theorem bitsOf_spec {acc : List Nat} {j : Nat} : ∀ {d : List Nat}, (bitsOf acc d).testBit j = true → ∃ i ∈ d, i = j ∨ (acc.getD i 0).testBit j = true
 | [], hb => by simp [bitsOf] at hb
 | k :: r, hb => by
  simp only [bitsOf, Nat.testBit_or, Bool.or_eq_true] at hb
  rcases hb with (hb | hb) | hb
  ·obtain ⟨i, hi, hh⟩ := bitsOf_spec hb
   exact ⟨i, by simp [hi], hh⟩
  ·rw [Nat.shiftLeft_eq, Nat.one_mul, Nat.testBit_two_pow] at hb
   exact ⟨k, by simp, .inl (by simpa using hb)⟩
  ·exact ⟨k, by simp, .inr hb⟩
theorem closure_spec {R : Nat → Nat → Prop} (hR : ∀ i j k, R i j → R j k → R i k) : ∀ (rest : List (List Nat)) (acc : List Nat), (∀ k j, (acc.getD k 0).testBit j = true → R j k) →
  (∀ k, ∀ j ∈ rest.getD k [], R j (acc.length + k)) → ∀ k j, ((closureOf rest acc).getD k 0).testBit j = true → R j k
 | [], acc, h1, _ => h1
 | d :: r, acc, h1, h2 => by
  refine closure_spec hR r (acc ++ [bitsOf acc d]) (fun k j hb => ?_) fun k j hj => ?_
  ·rw [List.getD_eq_getElem?_getD, List.getElem?_append] at hb
   split at hb
   ·exact h1 k j (by rw [List.getD_eq_getElem?_getD]; exact hb)
   ·by_cases hk : k = acc.length
    ·subst hk
     simp at hb
     obtain ⟨i, hi, hh⟩ := bitsOf_spec hb
     have hi' := h2 0 i (by simpa using hi)
     rcases hh with rfl | hh
     ·exact hi'
     ·exact hR _ _ _ (h1 i j hh) hi'
    ·have : ([bitsOf acc d] : List Nat)[k - acc.length]? = none := List.getElem?_eq_none (by simp; omega)
     rw [this] at hb
     simp at hb
  ·have := h2 (k + 1) j (by simpa using hj)
   simp only [List.length_append, List.length_cons, List.length_nil]
   rwa [show acc.length + (0 + 1) + k = acc.length + (k + 1) from by omega]
theorem orients_mem (f : Nat × Nat → Bool) : ∀ K : List (Nat × Nat), (K.map fun p => if f p then p else (p.2, p.1)) ∈ orients K
 | [] => by simp [orients]
 | (j, i) :: r => by
  simp only [orients, List.map_cons, List.mem_flatMap]
  refine ⟨_, orients_mem f r, ?_⟩
  cases f (j, i) <;> simp
theorem idxOf_ne {σ : List Nat} {x y : Nat} (hx : x ∈ σ) (hy : y ∈ σ) (hne : x ≠ y) : σ.idxOf x ≠ σ.idxOf y := fun e => hne (by
 have h1 := List.getElem_idxOf (List.idxOf_lt_length_of_mem hx)
 have h2 := List.getElem_idxOf (List.idxOf_lt_length_of_mem hy)
 rw [← h1, ← h2]
 simp only [e])
theorem nodup_spec : ∀ {l : List Nat}, nodupB l = true → l.Nodup
 | [], _ => List.nodup_nil
 | x :: r, hb => by
  simp only [nodupB, Bool.and_eq_true, Bool.not_eq_true'] at hb
  exact List.nodup_cons.2 ⟨by simpa using hb.1, nodup_spec hb.2⟩
theorem draw_all {dl : List DOper} {alts : List (List Nat)} (hok : drawOk ops dl alts = true) (t : Nat) {r : List DV × List Res} (hr : ∀ τ ∈ List.range ops.size :: alts, dops call (ordered dl τ) a h = some (.normal, r)) :
  dops call (ordered dl (Region.linearise .any ops t)) a h = some (.normal, r) := by
 simp only [drawOk, Bool.and_eq_true, List.all_eq_true] at hok
 obtain ⟨⟨hf, hg⟩, hcov⟩ := hok
 obtain ⟨hn, hm, hd⟩ := lin_spec hf t
 generalize Region.linearise .any ops t = σ at hn hm hd
 have hnd : ∀ k, ∀ j ∈ (depsOf ops).getD k [], k < ops.size := fun k j hj => by
  rcases Nat.lt_or_ge k ops.size with h1 | h1
  ·exact h1
  ·have : (depsOf ops).getD k [] = [] := by simp [depsOf, List.getD_eq_getElem?_getD, Array.getElem?_eq_none h1]
   rw [this] at hj
   cases hj
 have clo : ∀ (τ : List Nat), (∀ i, i < ops.size → ∀ j ∈ (depsOf ops).getD i [], τ.idxOf j < τ.idxOf i) → ∀ k j, ((closureOf (depsOf ops) []).getD k 0).testBit j = true → τ.idxOf j < τ.idxOf k := fun τ hτ k j hb =>
  closure_spec (R := fun j i => τ.idxOf j < τ.idxOf i) (fun i j k h1 h2 => Nat.lt_trans h1 h2) (depsOf ops) [] (fun k j hb => by simp at hb) (fun k j hj => by
   simp only [List.length_nil, Nat.zero_add]
   exact hτ k (hnd k j hj) j hj) k j hb
 have cσ := clo σ fun i hi j hj => hd i ((hm i).2 hi) j hj
 let K := conflicts ops.size (closureOf (depsOf ops) []) dl
 let f : Nat × Nat → Bool := fun p => decide (σ.idxOf p.1 < σ.idxOf p.2)
 have hK : ∀ p ∈ K, p.1 < p.2 ∧ p.2 < ops.size := by
  intro p hp
  simp only [K, conflicts, List.mem_flatMap, List.mem_map, List.mem_filter, List.mem_range] at hp
  obtain ⟨i, hi, j, ⟨hj, _⟩, rfl⟩ := hp
  exact ⟨hj, hi⟩
 have hε : ∀ q ∈ K.map fun p => if f p then p else (p.2, p.1), σ.idxOf q.1 < σ.idxOf q.2 := by
  intro q hq
  obtain ⟨p, hp, rfl⟩ := List.mem_map.1 hq
  split
  ·rename_i hfp
   simpa [f] using hfp
  ·rename_i hfp
   have h1 := hK p hp
   have h2 : ¬ σ.idxOf p.1 < σ.idxOf p.2 := by simpa [f] using hfp
   have h3 := idxOf_ne ((hm p.1).2 (by omega)) ((hm p.2).2 h1.2) (by omega)
   show σ.idxOf p.2 < σ.idxOf p.1
   omega
 have hc := hcov _ (orients_mem f K)
 simp only [Bool.or_eq_true, List.any_eq_true] at hc
 rcases hc with hinc | ⟨τ, hτ, hag⟩
 ·exfalso
  have hl : ∀ p q : Nat × Nat, lnk (closureOf (depsOf ops) []) p q = true → σ.idxOf p.2 ≤ σ.idxOf q.1 := by
   intro p q h1
   simp only [lnk, Bool.or_eq_true, beq_iff_eq] at h1
   rcases h1 with h1 | h1
   ·rw [h1]; exact Nat.le_refl _
   ·exact Nat.le_of_lt (cσ _ _ h1)
  simp only [incons, List.any_eq_true, Bool.and_eq_true, Bool.or_eq_true] at hinc
  obtain ⟨p, hp, q, hq, h1, h2⟩ := hinc
  have e1 := hε p hp
  have e2 := hε q hq
  have e3 := hl p q h1
  rcases h2 with h2 | ⟨r, hr, h3, h4⟩
  ·have e4 := hl q p h2
   omega
  ·have e4 := hε r hr
   have e5 := hl q r h3
   have e6 := hl r p h4
   omega
 ·have hgo := hg τ hτ
  simp only [goodOrder, Bool.and_eq_true, List.all_eq_true, decide_eq_true_eq, List.mem_range, List.contains_eq_mem] at hgo
  obtain ⟨⟨⟨g1, g2⟩, g3⟩, g4⟩ := hgo
  have cτ := clo τ g4
  have hmτ : ∀ i, i ∈ τ ↔ i < ops.size := fun i => ⟨g2 i, g3 i⟩
  simp only [agrees, List.all_eq_true, decide_eq_true_eq] at hag
  have half : ∀ x y, x < y → y < ops.size → (dl.getD x default).comm (dl.getD y default) = false → (σ.idxOf x < σ.idxOf y ↔ τ.idxOf x < τ.idxOf y) := by
   intro x y hxy hy hcm
   cases hb : ((closureOf (depsOf ops) []).getD y 0).testBit x with
   | true => exact ⟨fun _ => cτ _ _ hb, fun _ => cσ _ _ hb⟩
   | false =>
    have hmem : (x, y) ∈ K := by
     simp only [K, conflicts, List.mem_flatMap, List.mem_map, List.mem_filter, List.mem_range]
     exact ⟨y, hy, x, ⟨hxy, by simp only [hb, hcm]; rfl⟩, rfl⟩
    have := hag _ (List.mem_map.2 ⟨(x, y), hmem, rfl⟩)
    have h4 := hε _ (List.mem_map.2 ⟨(x, y), hmem, rfl⟩)
    by_cases hfp : f (x, y) = true
    ·rw [if_pos hfp] at this h4
     exact ⟨fun _ => this, fun _ => h4⟩
    ·rw [if_neg hfp] at this h4
     simp only at this h4
     omega
  refine dops_orders (dl := dl) hn (nodup_spec g1) (fun i => by rw [hm, hmτ]) (fun x hx y hy hne hcm => ?_) (hr τ hτ)
  have hx' := (hm x).1 hx
  have hy' := (hm y).1 hy
  rcases Nat.lt_or_gt_of_ne hne with h1 | h1
  ·exact half x y h1 hy' hcm
  ·have hcm' : (dl.getD y default).comm (dl.getD x default) = false := by
    cases e : (dl.getD y default).comm (dl.getD x default) with
    | false => rfl
    | true => rw [DOper.comm_symm e] at hcm; cases hcm
   have hh := half y x h1 hx' hcm'
   have n1 := idxOf_ne hx hy hne
   have n2 := idxOf_ne ((hmτ x).2 hx') ((hmτ y).2 hy') hne
   omega
end
end Go.Deepv
