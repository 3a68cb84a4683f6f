/-
  Appends to a row of the call's own.
  Conditions: none.
-/
import Derived.Test.YtpemlmhggiaflaaGreatDoorDI
import Derived.Deep.Upon
set_option linter.unusedVariables false
set_option linter.unusedSimpArgs false
namespace Go.Deepv
open Go.RowKit

theorem setCells_block (b : Nat) : ∀ (vs : List Value) (o : Nat) (w : World) (c : Array Value) (e : TypeId) (fr : Nat × Nat), w.heap[b]? = some (.cells c e fr) → o + vs.length ≤ c.size →
    ∃ c', (w.setCells b o vs).heap[b]? = some (.cells c' e fr) ∧ c'.size = c.size ∧ (∀ x, c'.getD x undef = if o ≤ x ∧ x < o + vs.length then vs.getD (x - o) undef else c.getD x undef) ∧
      (∀ k, k ≠ b → (w.setCells b o vs).heap[k]? = w.heap[k]?) ∧ (w.setCells b o vs).heap.size = w.heap.size ∧ (w.setCells b o vs).os = w.os ∧ (w.setCells b o vs).tape = w.tape ∧ (w.setCells b o vs).output = w.output
  | [], o, w, c, e, fr, hb, hl => ⟨c, hb, rfl, fun x => by rw [if_neg (by simp only [List.length_nil]; omega)], fun _ _ => rfl, rfl, rfl, rfl, rfl⟩
  | v :: vs, o, w, c, e, fr, hb, hl => by
    simp only [List.length_cons] at hl
    have h1 : (w.setCell ⟨b, o, none⟩ v).heap[b]? = some (.cells (c.setIfInBounds o v) e fr) := by
      simp only [World.setCell, Array.getElem?_modify, hb]
      simp
    obtain ⟨c', g1, g2, g3, g4, g5, g6, g7, g8⟩ := setCells_block b vs (o + 1) (w.setCell ⟨b, o, none⟩ v) _ e fr h1 (by simp; omega)
    refine ⟨c', g1, by simpa using g2, fun x => ?_, fun k hk => ?_, ?_, g6, g7, g8⟩
    · rw [g3]
      simp only [List.length_cons]
      by_cases hx : x = o
      · subst hx
        rw [if_neg (by omega), if_pos (by omega)]
        simp [Array.getD_eq_getD_getElem?, show x < c.size by omega]
      · by_cases hx2 : o + 1 ≤ x ∧ x < o + 1 + vs.length
        · rw [if_pos hx2, if_pos (by omega)]
          rw [show x - o = (x - (o + 1)) + 1 by omega]
          simp
        · rw [if_neg hx2, if_neg (by omega)]
          simp only [Array.getD_eq_getD_getElem?]
          rw [Array.getElem?_setIfInBounds_ne (by omega)]
    · rw [World.setCells, g4 k hk]
      simp only [World.setCell, Array.getElem?_modify]
      rw [if_neg (by simpa using Ne.symm hk)]
    · rw [World.setCells, g5]
      simp [World.setCell]

section
variable {P : Program} {G : Glob} {S S' : Settled} {ρ : List RI} {h : List Res} {w w' : World} {a : Act} {ad : List DV} {call : Cle → List DV → List Res → Option DOut} {out : DOut}

/-- The cells of a slice that is read, in a row. -/
def flatFV (l : List (List FV)) : List FV := l.flatten

theorem flatten_at {α : Type} {sz : Nat} : ∀ {l : List (List α)}, (∀ (i : Nat) (c : List α), l[i]? = some c → c.length = sz) → l.flatten.length = l.length * sz ∧ ∀ (i j : Nat) (c : List α), l[i]? = some c → j < sz → l.flatten[i * sz + j]? = c[j]?
  | [], _ => ⟨by simp, fun i j c h => by simp at h⟩
  | d :: l, hl => by
    have hd := hl 0 d rfl
    obtain ⟨g1, g2⟩ := flatten_at (l := l) (fun i c hc => hl (i + 1) c (by simpa using hc))
    refine ⟨by simp [g1, hd, Nat.add_mul, Nat.add_comm], fun i j c hc hj => ?_⟩
    cases i with
    | zero =>
      simp at hc
      subst hc
      rw [List.flatten_cons, Nat.zero_mul, Nat.zero_add, List.getElem?_append_left (by omega)]
    | succ i =>
      rw [List.flatten_cons, List.getElem?_append_right (by rw [hd, Nat.succ_mul]; omega), hd]
      rw [show (i + 1) * sz + j - sz = i * sz + j by rw [Nat.succ_mul]; omega]
      exact g2 i j c (by simpa using hc) hj

/-- A slice that is read, as cells from an address. -/
structure Cellrow (S : Settled) (w : World) (b o sz : Nat) (l : List (List FV)) (u : Nat → Value) : Prop where
  sz_ : ∀ (i : Nat) (c : List FV), l[i]? = some c → c.length = sz
  at_ : ∀ k, k < l.length * sz → S b (o + k) ∧ w.cell? ⟨b, o + k, none⟩ = some (u k)
  rep : ∀ (i j : Nat) (c : List FV) (x : FV), l[i]? = some c → c[j]? = some x → RepF S w (u (i * sz + j)) x ∧ x.one = true

theorem Cellrow.mk_ {b o n cap sz : Nat} {l : List (List FV)} (hx : RepF S w (.slice (some ⟨b, o, none⟩) n cap) (.slice sz l)) (h0 : 0 < sz) : n = l.length ∧ (l ≠ [] → l.length ≤ cap) ∧ ∃ u, Cellrow S w b o sz l u := by
  cases hx with
  | slice0 A cap => exact ⟨rfl, fun h => absurd rfl h, fun _ => undef, fun i c h => by simp at h, fun k hk => by simp at hk, fun i j c x h => by simp at h⟩
  | slice b o n cap sz elems u hn hcap hsz hcc hr ho1 =>
    refine ⟨hn.symm, fun _ => by omega, fun k => u (k / sz) (k % sz), hsz, fun k hk => ?_, fun i j c x hc hx => ?_⟩
    · have := hcc (k / sz) (k % sz) (by rw [← hn]; exact Nat.div_lt_of_lt_mul (by rw [Nat.mul_comm]; exact hk)) (Nat.mod_lt _ h0)
      rwa [Nat.add_assoc, Nat.mul_comm (k / sz), Nat.div_add_mod] at this
    · have hj : j < sz := by rw [← hsz i c hc]; exact (List.getElem?_eq_some_iff.1 hx).1
      have e1 : (i * sz + j) / sz = i := by rw [Nat.add_comm, Nat.add_mul_div_right _ _ h0, Nat.div_eq_of_lt hj, Nat.zero_add]
      have e2 : (i * sz + j) % sz = j := by rw [Nat.add_comm, Nat.add_mul_mod_self_right, Nat.mod_eq_of_lt hj]
      simp only [e1, e2]
      exact ⟨hr i j c x hc hx, ho1 i j c x hc hx⟩

theorem Cellrow.repF {b o cap sz : Nat} {l : List (List FV)} {u : Nat → Value} (h : Cellrow S w b o sz l u) (hcap : l.length ≤ cap) : RepF S w (.slice (some ⟨b, o, none⟩) l.length cap) (.slice sz l) := by
  refine .slice b o l.length cap sz l (fun i j => u (i * sz + j)) rfl hcap h.sz_ (fun i j hi hj => ?_) (fun i j c x hc hx => (h.rep i j c x hc hx).1) (fun i j c x hc hx => (h.rep i j c x hc hx).2)
  have := h.at_ (i * sz + j) (by
    have : (i + 1) * sz ≤ l.length * sz := Nat.mul_le_mul_right _ hi
    rw [Nat.succ_mul] at this
    omega)
  rwa [← Nat.add_assoc] at this

theorem Cellrow.one {b o sz : Nat} {l : List (List FV)} {u : Nat → Value} (h : Cellrow S w b o sz l u) (h0 : 0 < sz) {k : Nat} (hk : k < l.length * sz) : (u k).oneCell' = true := by
  have hi : k / sz < l.length := Nat.div_lt_of_lt_mul (by rw [Nat.mul_comm]; exact hk)
  have hc := List.getElem?_eq_getElem hi
  have hj : k % sz < l[k / sz].length := by rw [h.sz_ _ _ hc]; exact Nat.mod_lt _ h0
  obtain ⟨r, o1⟩ := h.rep (k / sz) (k % sz) _ _ hc (List.getElem?_eq_getElem hj)
  rw [Nat.mul_comm, Nat.div_add_mod] at r
  exact r.one o1

/-- What the second argument of an append yields. -/
theorem src_of {tx e' : TypeId} (hk : P.underlying tx = some (.slice e')) {x : Value} {sz : Nat} {l : List (List FV)} (hx : RepF S w x (.slice sz l)) (h0 : 0 < sz) :
    ∃ u : Nat → Value, Src P sz tx x l.length ((List.range (l.length * sz)).map u) w ∧ ∀ (i j : Nat) (c : List FV) (y : FV), l[i]? = some c → c[j]? = some y → c.length = sz ∧ RepF S w (u (i * sz + j)) y ∧ y.one = true := by
  have hx' := hx
  cases hx with
  | slice0 A cap =>
    refine ⟨fun _ => undef, ?_, fun i j c y h => by simp at h⟩
    cases A with
    | none => simpa using Src.ofNil (P := P) (size := sz) w hk cap
    | some A => simpa using Src.ofSlice (P := P) (size := sz) w hk A 0 cap [] (by simp) (fun j u h => by simp at h) (fun u h => by cases h)
  | slice b o n cap sz elems u hn hcap hsz hcc hr ho1 =>
    obtain ⟨g1, g2, u, g3⟩ := Cellrow.mk_ hx' h0
    refine ⟨u, ?_, fun i j c y hc hy => ⟨g3.sz_ i c hc, g3.rep i j c y hc hy⟩⟩
    rw [g1]
    refine Src.ofSlice (P := P) w hk ⟨b, o, none⟩ l.length cap _ (by simp) (fun j v hv => ?_) (fun v hv => ?_)
    · simp only [List.getElem?_map, Option.map_eq_some_iff] at hv
      obtain ⟨k, hk, rfl⟩ := hv
      have hj := (List.getElem?_eq_some_iff.1 hk).1
      simp at hj
      have : k = j := by simpa [List.getElem?_range hj] using hk.symm
      subst this
      rw [add_none]
      exact (g3.at_ k hj).2
    · simp only [List.mem_map, List.mem_range] at hv
      obtain ⟨k, hk, rfl⟩ := hv
      exact g3.one h0 hk

theorem app_rep {S' : Settled} {w' : World} {b o sz : Nat} {l new : List (List FV)} {u v : Nat → Value} (hl : Cellrow S' w' b o sz l u) (hsz : ∀ (i : Nat) (c : List FV), new[i]? = some c → c.length = sz) (hat : ∀ k, k < new.length * sz → S' b (o + l.length * sz + k) ∧ w'.cell? ⟨b, o + l.length * sz + k, none⟩ = some (v k))
    (hrep : ∀ (i j : Nat) (c : List FV) (x : FV), new[i]? = some c → c[j]? = some x → RepF S' w' (v (i * sz + j)) x ∧ x.one = true) :
    Cellrow S' w' b o sz (l ++ new) (fun k => if k < l.length * sz then u k else v (k - l.length * sz)) := by
  refine ⟨fun i c hc => ?_, fun k hk => ?_, fun i j c x hc hx => ?_⟩
  · rcases Nat.lt_or_ge i l.length with hi | hi
    · rw [List.getElem?_append_left hi] at hc
      exact hl.sz_ i c hc
    · rw [List.getElem?_append_right hi] at hc
      exact hsz _ c hc
  · by_cases h1 : k < l.length * sz
    · simp only [if_pos h1]
      exact hl.at_ k h1
    · simp only [if_neg h1]
      have := hat (k - l.length * sz) (by rw [List.length_append, Nat.add_mul] at hk; omega)
      rwa [show o + l.length * sz + (k - l.length * sz) = o + k by omega] at this
  · rcases Nat.lt_or_ge i l.length with hi | hi
    · rw [List.getElem?_append_left hi] at hc
      have hj : j < sz := by rw [← hl.sz_ i c hc]; exact (List.getElem?_eq_some_iff.1 hx).1
      have h1 : i * sz + j < l.length * sz := by
        have : (i + 1) * sz ≤ l.length * sz := Nat.mul_le_mul_right _ hi
        rw [Nat.succ_mul] at this
        omega
      simp only [if_pos h1]
      exact hl.rep i j c x hc hx
    · rw [List.getElem?_append_right hi] at hc
      have h1 : ¬ i * sz + j < l.length * sz := by
        have : l.length * sz ≤ i * sz := Nat.mul_le_mul_right _ hi
        omega
      have h2 := hrep _ j c x hc hx
      have e : i * sz + j - l.length * sz = (i - l.length) * sz + j := by
        rw [Nat.sub_mul]
        have : l.length * sz ≤ i * sz := Nat.mul_le_mul_right _ hi
        omega
      simp only [if_neg h1, e]
      exact h2

theorem repF_empty {v : Value} {s s' : Nat} (hx : RepF S w v (.slice s [])) : RepF S w v (.slice s' []) := by
  cases hx with
  | slice0 A cap => exact .slice0 _ _ _
  | slice b o n cap sz elems u hn hcap hsz hcc hr ho1 =>
    have : n = 0 := by simpa using hn.symm
    subst this
    exact .slice0 _ _ _

/-- The row has moved to a new block. -/
theorem row_moved (hi : Inv P G S ρ h w) {tk n0 sz et : Nat} {l new : List (List FV)} (htip : (h[tk]?).bind Res.tip = some n0) (hn0 : n0 = l.length) (hρ : ∃ v0, ρ[tk]? = some (.row v0)) (h0 : 0 < sz) (hm : new ≠ [])
    (u v : Nat → Value) (hl : ∀ (i j : Nat) (c : List FV) (y : FV), l[i]? = some c → c[j]? = some y → c.length = sz ∧ RepF S w (u (i * sz + j)) y ∧ y.one = true) (hl' : ∀ (i : Nat) (c : List FV), l[i]? = some c → c.length = sz)
    (hnew : ∀ (i j : Nat) (c : List FV) (y : FV), new[i]? = some c → c[j]? = some y → c.length = sz ∧ RepF S w (v (i * sz + j)) y ∧ y.one = true) (hnew' : ∀ (i : Nat) (c : List FV), new[i]? = some c → c.length = sz)
    (arr : Array Value) (e : TypeId) (het : et = 0 ∨ e = et) (gcap : Nat) (hg : l.length + new.length ≤ gcap) (hsize : arr.size = gcap * sz)
    (ha1 : ∀ k, k < l.length * sz → arr.getD k undef = u k) (ha2 : ∀ k, k < new.length * sz → arr.getD (l.length * sz + k) undef = v k) :
    ∃ S' ρ', RepD S' ρ' (h.set tk (.row sz (l.length + new.length) et)) (w.drew.alloc (.cells arr e)) (.slice (some ⟨w.heap.size, 0, none⟩) (l.length + new.length) gcap) (.row sz (l ++ new) tk) ∧
      Ext S ρ h w S' ρ' (h.set tk (.row sz (l.length + new.length) et)) (w.drew.alloc (.cells arr e)) ∧ Inv P G S' ρ' (h.set tk (.row sz (l.length + new.length) et)) (w.drew.alloc (.cells arr e)) := by
  obtain ⟨v0, hρ⟩ := hρ
  have hmpos : 0 < new.length := List.length_pos_iff.2 hm
  have htk : tk < h.length := by
    cases hh : h[tk]? with
    | none => simp [hh] at htip
    | some r => exact (List.getElem?_eq_some_iff.1 hh).1
  have htk' : tk < ρ.length := by rw [hi.len]; exact htk
  generalize hv' : (Value.slice (some ⟨w.heap.size, 0, none⟩) (l.length + new.length) gcap) = v'
  have hblk : (RI.row v').block = some w.heap.size := by rw [← hv']; rfl
  have hw : ∀ b, b < w.heap.size → (w.drew.alloc (.cells arr e)).heap[b]? = w.heap[b]? := fun b hb => heap_alloc_lt w.drew _ hb
  have hwn : (w.drew.alloc (.cells arr e)).heap[w.heap.size]? = some (.cells arr e (0, 0)) := heap_alloc_at w.drew _
  have hws : (w.drew.alloc (.cells arr e)).heap.size = w.heap.size + 1 := size_alloc w.drew _
  let S' : Settled := fun b x => S b x ∨ (b = w.heap.size ∧ x < (l.length + new.length) * sz)
  have E : Ext S ρ h w S' (ρ.set tk (.row v')) (h.set tk (.row sz (l.length + new.length) et)) (w.drew.alloc (.cells arr e)) :=
    { settled := fun b o x => .inl x
      cells := fun b x hx => cell?_heap (hw b (hi.bound b x hx))
      len := by simp
      boxes := fun id b hb => by
        have : id ≠ tk := by rintro rfl; rw [hρ] at hb; simp at hb
        rw [List.getElem?_set_ne (Ne.symm this)]
        exact hb
      rows := fun t n' ht hn => by
        by_cases e : t = tk
        · subst e
          rw [List.getElem?_set_self ht] at hn
          simp [Res.tip] at hn
          exact ⟨n0, htip, by omega, fun h => by omega⟩
        · rw [List.getElem?_set_ne (Ne.symm e)] at hn
          exact ⟨n', hn, Nat.le_refl _, fun _ => List.getElem?_set_ne (Ne.symm e)⟩
      size := by omega
      os := rfl, tape := rfl, output := rfl
      frame := fun b hb _ => hw b hb
      blocks := fun i b r hr hb => by
        by_cases e : i = tk
        · subst e
          rw [List.getElem?_set_self htk'] at hr
          simp at hr
          subst hr
          rw [hblk] at hb
          simp at hb
          exact .inl (by omega)
        · rw [List.getElem?_set_ne (Ne.symm e)] at hr
          exact .inr ⟨i, r, hr, hb, id⟩
      fresh := fun b o x => by
        rcases x with x | ⟨rfl, _⟩
        · exact .inl x
        · exact .inr (.inl (Nat.le_refl _)) }
  have hcell : ∀ k, k < gcap * sz → (w.drew.alloc (.cells arr e)).cell? ⟨w.heap.size, 0 + k, none⟩ = some (arr.getD k undef) := fun k hk => by
    simp only [World.cell?, hwn, Nat.zero_add]
    simp [Array.getD_eq_getD_getElem?, show k < arr.size by omega]
  have hle : (l.length + new.length) * sz ≤ gcap * sz := Nat.mul_le_mul_right _ hg
  have hsum : (l.length + new.length) * sz = l.length * sz + new.length * sz := Nat.add_mul _ _ _
  have C1 : Cellrow S' (w.drew.alloc (.cells arr e)) w.heap.size 0 sz l u :=
    ⟨hl', fun k hk => ⟨.inr ⟨rfl, by omega⟩, by rw [hcell k (by omega), ha1 k hk]⟩, fun i j c x hc hx => ⟨((hl i j c x hc hx).2.1).mono E.settled E.cells, (hl i j c x hc hx).2.2⟩⟩
  have C2 := app_rep (new := new) (v := v) C1 hnew' (fun k hk => ⟨.inr ⟨rfl, by omega⟩, by rw [Nat.zero_add, ← Nat.zero_add (l.length * sz + k), hcell _ (by omega), ha2 k hk]⟩)
    (fun i j c x hc hx => ⟨((hnew i j c x hc hx).2.1).mono E.settled E.cells, (hnew i j c x hc hx).2.2⟩)
  have R := C2.repF (cap := gcap) (by simpa using hg)
  rw [List.length_append, hv'] at R
  refine ⟨S', _, ?_, E, ?_⟩
  · refine .row _ _ _ _ R (by simpa using htk) fun n hn => ?_
    rw [List.getElem?_set_self htk] at hn
    simp [Res.tip] at hn
    subst hn
    exact ⟨by simp, fun _ => List.getElem?_set_self htk'⟩
  · refine inv_upd hi htk E (fun i b r hne hr hb => ?_) (fun b o hs => ?_) (fun b hb => ?_) (fun cells tag hh => by cases hh) (fun hh => by cases hh) (fun sz' n et' hh => ?_) (fun s pos hh => by cases hh)
    · have := hi.low i b r hr hb
      exact ⟨hw b this, fun o ho => ho.elim id fun ho => by omega⟩
    · rcases hs with hs | ⟨rfl, _⟩
      · have := hi.bound b o hs
        omega
      · omega
    · rw [hblk] at hb
      simp at hb
      subst hb
      refine ⟨by omega, fun i r hne hr hb => ?_⟩
      have := hi.low i _ r hr hb
      omega
    · simp only [Res.row.injEq] at hh
      obtain ⟨rfl, rfl, rfl⟩ := hh
      refine ⟨w.heap.size, 0, gcap, arr, e, by rw [hv'], hwn, ⟨h0, het.imp _root_.id fun h => ⟨h, rfl⟩⟩, hg, by omega, fun x hx hs => ?_⟩
      rcases hs with hs | ⟨_, hs⟩
      · have := hi.bound _ _ hs
        omega
      · omega

/-- What is appended. -/
structure SrcOk (P : Program) (S : Settled) (w : World) (sz : Nat) (tx : TypeId) (x : Value) (s2 : Nat) (new : List (List FV)) : Prop where
  same : s2 = sz ∨ new = []
  src : ∃ v : Nat → Value, Src P sz tx x new.length ((List.range (new.length * sz)).map v) w ∧ ∀ (i j : Nat) (c : List FV) (y : FV), new[i]? = some c → c[j]? = some y → c.length = sz ∧ RepF S w (v (i * sz + j)) y ∧ y.one = true
  len : ∀ (i : Nat) (c : List FV), new[i]? = some c → c.length = sz
theorem strCells_at (s : ByteArray) (i : Nat) : (strCells s)[i]? = (s.data.toList[i]?).map fun b => [.int .u8 b.toNat] := by simp [strCells]
theorem strCells_len (s : ByteArray) : (strCells s).length = s.size := by
  unfold strCells
  rw [List.length_map, Array.length_toList]
  rfl
theorem src_str {tx : TypeId} (hk : P.underlying tx = some .string) (s : ByteArray) : SrcOk P S w 1 tx (.string s) 1 (strCells s) := by
  refine ⟨.inl rfl, ⟨fun k => (byteCells s).getD k undef, ?_, fun i j c y hc hy => ?_⟩, fun i c hc => ?_⟩
  · have := Src.ofString (P := P) w hk s
    rw [strCells_len]
    have hl := byteCells_length s
    have e : (List.range (s.size * 1)).map (fun k => (byteCells s).getD k undef) = byteCells s := ?_
    · rw [e]; exact this
    apply List.ext_getElem?
    intro k
    simp only [Nat.mul_one, List.getElem?_map]
    rcases Nat.lt_or_ge k s.size with h | h
    · rw [List.getElem?_range h]
      simp only [Option.map_some, List.getD_eq_getElem?_getD]
      rw [List.getElem?_eq_getElem (by omega)]
      rfl
    · rw [List.getElem?_eq_none (by simpa using h), List.getElem?_eq_none (by omega)]
      rfl
  · rw [strCells_at] at hc
    simp only [Option.map_eq_some_iff] at hc
    obtain ⟨b, hb, rfl⟩ := hc
    cases j with
    | zero =>
      simp at hy
      subst hy
      refine ⟨rfl, ?_, rfl⟩
      have : (byteCells s).getD (i * 1 + 0) undef = .int .u8 b.toNat := by
        simp [byteCells, List.getD_eq_getElem?_getD, hb]
      simp only [this]
      exact .int _ _
    | succ j => simp at hy
  · rw [strCells_at] at hc
    simp only [Option.map_eq_some_iff] at hc
    obtain ⟨b, hb, rfl⟩ := hc
    rfl
theorem src_row {tx e' : TypeId} (hk : P.underlying tx = some (.slice e')) {x : Value} {sz s2 : Nat} {new : List (List FV)} (hs2 : s2 = sz ∨ new = []) (h0 : 0 < sz) (hx : RepF S w x (.slice s2 new)) : SrcOk P S w sz tx x s2 new := by
  have gx : RepF S w x (.slice sz new) := by
    rcases hs2 with rfl | rfl
    · exact hx
    · exact repF_empty hx
  refine ⟨hs2, src_of hk gx h0, fun i' c hc => ?_⟩
  cases gx with
  | slice0 A cap => simp at hc
  | slice b o n cap sz elems u hn hcap hsz' hcc hr ho1 => exact hsz' i' c hc

theorem sim_appX (hi : Inv P G S ρ h w) (ha : RepA S ρ h w a.tmps ad) {t tx e rt t1 : TypeId} {i : TypeInfo} {z : Value} {s x : Operand} {s' : Opd} (ht : P.underlying t = some (.slice e)) (hinf : P.info? e = some i) (hz : i.zero = some z) (hzs : z.cells.size = i.size)
    (h1 : trOpd P t1 s = some s') {et : Nat} (het : et = 0 ∨ e = et) {src : Option (Nat × List (List FV))} (hsrcOk : ∀ s2 new, src = some (s2, new) → (s2 = i.size ∨ new = []) → 0 < i.size → SrcOk P S w i.size tx (a.eval x) s2 new) (hd : appRow i.size i.bytes (ev ad s') src h et = some out) :
    SimOut P G S ρ h w ((do pure (Next.value (← Builtin.append_ #[t, tx] rt #[a.eval s, a.eval x])) : Sem Next).run P w) out := by
  have g1 := rep_opd ha h1
  simp only [appRow] at hd
  split at hd
  · rename_i s1 l tk s2 new e1
    split at hd
    · rename_i hc
      obtain ⟨hs2, hlim, hsz, hby⟩ := hc
      rw [e1] at g1
      obtain ⟨_, ⟨v, hsrc, hv⟩, hv'⟩ := hsrcOk s2 new rfl hs2 hsz
      clear hsrcOk
      generalize hvx : a.eval x = vx at *
      generalize hvs : a.eval s = vs at *
      have lim63 : ((l.length + new.length : Nat) : Int) ≤ 9223372036854775807 := by
        have : (l.length + new.length) * 1 ≤ (l.length + new.length) * i.bytes := Nat.mul_le_mul_left _ hby
        omega
      have newsAt : ∀ k, k < new.length * i.size → ((List.range (new.length * i.size)).map v).getD k undef = v k := fun k hk => by
        simp [List.getD_eq_getElem?_getD, hk]
      cases g1 with
      | row _ _ _ _ hl htk hr =>
        have grow : ∀ (base : Option Addr) (cap n0 : Nat) (u : Nat → Value), vs = .slice base l.length cap → (h[tk]?).bind Res.tip = some n0 → n0 = l.length → (∃ v0, ρ[tk]? = some (.row v0)) → cap < l.length + new.length → l.length ≤ cap →
            (∀ (i' j : Nat) (c : List FV) (y : FV), l[i']? = some c → c[j]? = some y → c.length = i.size ∧ RepF S w (u (i' * i.size + j)) y ∧ y.one = true) → (∀ (i' : Nat) (c : List FV), l[i']? = some c → c.length = i.size) →
            (Builtin.firstCells i.size l.length vs).run P w.drew = .ok ((List.range (l.length * i.size)).map u).toArray w.drew → out = .val (.row i.size (l ++ new) tk) (h.set tk (.row i.size (l.length + new.length) et)) →
            SimOut P G S ρ h w ((do pure (Next.value (← Builtin.append_ #[t, tx] rt #[vs, vx])) : Sem Next).run P w) out := by
          rintro base cap n0 u rfl htip hn0 hρ hcap hlc hu hu' hold rfl
          have hfit : Builtin.nextslicecap (l.length + new.length) cap * i.bytes ≤ 281474976710656 := by
            have := nextslicecap_le hcap
            have h3 : Builtin.nextslicecap (l.length + new.length) cap * i.bytes ≤ (2 * (l.length + new.length)) * i.bytes := Nat.mul_le_mul_right _ this
            rw [Nat.mul_assoc] at h3
            omega
          have run := run_append_grow_src (P := P) w t tx rt e i z ht hinf hz base l.length cap _ hold vx new.length _ hsrc hcap lim63 hfit
          rw [run_v run]
          have hgc := grownCap_ge w (l.length + new.length) cap e
          generalize grownCap w (l.length + new.length) cap e = gcap at *
          have hzc : (Builtin.zeroCells z.cells (gcap - (l.length + new.length))).size = (gcap - (l.length + new.length)) * i.size := by simp [Builtin.zeroCells, hzs]
          have hmne : new ≠ [] := by rintro rfl; simp at hcap; omega
          obtain ⟨S', ρ', R, E, I⟩ := row_moved hi (sz := i.size) htip hn0 hρ hsz hmne u v hu hu' hv hv' ((((List.range (l.length * i.size)).map u ++ (List.range (new.length * i.size)).map v)).toArray ++ Builtin.zeroCells z.cells (gcap - (l.length + new.length))) e het gcap hgc
            (by
              rw [Array.size_append, hzc]
              simp only [List.size_toArray, List.length_append, List.length_map, List.length_range]
              rw [← Nat.add_mul, ← Nat.add_mul]
              congr 1
              omega)
            (fun k hk => by
              have : k < ((List.range (l.length * i.size)).map u ++ (List.range (new.length * i.size)).map v).toArray.size := by simp; omega
              rw [Array.getD_eq_getD_getElem?, Array.getElem?_append_left this]
              simp [List.getElem?_append_left, hk])
            (fun k hk => by
              have : l.length * i.size + k < ((List.range (l.length * i.size)).map u ++ (List.range (new.length * i.size)).map v).toArray.size := by simp; omega
              rw [Array.getD_eq_getD_getElem?, Array.getElem?_append_left this]
              simp [List.getElem?_append_right, hk])
          exact ⟨_, _, S', ρ', .inl rfl, R, E, I⟩
        split at hd
        · rename_i hnr
          split at hd
          · rename_i hl0
            subst hl0
            obtain ⟨_, hρ⟩ := hr 0 (by simp [hnr, Res.tip])
            have hρ' := hρ rfl
            have hvs0 : vs = .slice none 0 0 := by
              have := hi.nilrow tk hnr
              rw [hρ'] at this
              simpa using this
            subst hvs0
            split at hd
            · rename_i hn0
              subst hn0
              simp only [Option.some.injEq] at hd
              subst hd
              have run := run_append_nothing (P := P) w t tx rt e i ht hinf none 0 0 (Nat.le_refl _) vx (by simpa using hsrc)
              rw [run_v run]
              refine SimOut.plain hi (.row _ _ _ _ (.slice0 _ _ _) htk fun n hn => ?_)
              exact hr n hn
            · rename_i hn0
              simp only [Option.some.injEq] at hd
              exact grow none 0 0 (fun _ => undef) rfl (by simp [hnr, Res.tip]) rfl ⟨_, hρ'⟩ (by simpa using List.length_pos_iff.2 hn0) (Nat.le_refl _) (fun i' j c y hc => by simp at hc) (fun i' c hc => by simp at hc)
                (by simpa using run_firstCells_none (P := P) w.drew i.size 0 0 0) (by simpa using hd.symm)
          · cases hd
        · rename_i s3 n et3 hrow
          split at hd
          · rename_i hcc
            obtain ⟨rfl, rfl, rfl, rfl⟩ := hcc
            simp only [Option.some.injEq] at hd
            have htip : (h[tk]?).bind Res.tip = some l.length := by simp [hrow, Res.tip]
            obtain ⟨_, hρ⟩ := hr _ htip
            have hρ' := hρ rfl
            obtain ⟨b, o, cap, c, e3, b1, b2, ⟨b3, bet⟩, b4, b5, b6⟩ := hi.row tk _ _ _ hrow
            have hvs0 : vs = .slice (some ⟨b, o, none⟩) l.length cap := by rw [hρ'] at b1; simpa using b1
            subst hvs0
            obtain ⟨_, _, u, C⟩ := Cellrow.mk_ hl hsz
            by_cases hroom : l.length + new.length ≤ cap
            · subst hd
              have hmulle : (l.length + new.length) * i.size ≤ cap * i.size := Nat.mul_le_mul_right _ hroom
              have hsum : (l.length + new.length) * i.size = l.length * i.size + new.length * i.size := Nat.add_mul _ _ _
              have run := run_append_room_src (P := P) w t tx rt e i ht hinf b o l.length cap vx new.length _ hsrc hroom
                (fun j hj => by simp at hj; simp only [World.cell?, b2]; simp [show o + l.length * i.size + j < c.size by omega])
                (fun j hj => by simp [World.frozen?, b2])
              rw [run_v run]
              obtain ⟨c', c1, c2, c3, c4, c5, c6, c7, c8⟩ := setCells_block b ((List.range (new.length * i.size)).map v) (o + l.length * i.size) w c e3 (0, 0) b2 (by simp; omega)
              generalize hw' : w.setCells b (o + l.length * i.size) ((List.range (new.length * i.size)).map v) = w' at *
              have hbl : b < w.heap.size := (Array.getElem?_eq_some_iff.1 b2).1
              have htk' : tk < ρ.length := by rw [hi.len]; exact htk
              let S' : Settled := fun b' x => S b' x ∨ (b' = b ∧ o + l.length * i.size ≤ x ∧ x < o + (l.length + new.length) * i.size)
              have keepc : ∀ x, x < o + l.length * i.size → w'.cell? ⟨b, x, none⟩ = w.cell? ⟨b, x, none⟩ := fun x hx => by
                have := c3 x
                rw [if_neg (by omega)] at this
                simp only [World.cell?, c1, b2]
                simp only [Array.getD_eq_getD_getElem?] at this
                have l1 : x < c'.size := by omega
                have l2 : x < c.size := by omega
                simp [l1, l2] at this ⊢
                exact this
              have E : Ext S ρ h w S' (ρ.set tk (.row (.slice (some ⟨b, o, none⟩) (l.length + new.length) cap))) (h.set tk (.row i.size (l.length + new.length) et3)) w' :=
                { settled := fun b o x => .inl x
                  cells := fun b' x hx => by
                    by_cases hb : b' = b
                    · subst hb
                      refine keepc x ?_
                      rcases Nat.lt_or_ge x (o + l.length * i.size) with h1 | h1
                      · exact h1
                      · exact absurd hx (b6 x h1)
                    · exact cell?_heap (c4 b' hb)
                  len := by simp
                  boxes := fun id b' hb => by
                    have : id ≠ tk := by rintro rfl; rw [b1] at hb; simp at hb
                    rw [List.getElem?_set_ne (Ne.symm this)]
                    exact hb
                  rows := fun t n' ht hn => by
                    by_cases e : t = tk
                    · subst e
                      rw [List.getElem?_set_self ht] at hn
                      simp [Res.tip] at hn
                      refine ⟨l.length, htip, by omega, fun h => ?_⟩
                      rw [List.getElem?_set_self htk', b1]
                      have : new.length = 0 := by omega
                      rw [this, Nat.add_zero]
                    · rw [List.getElem?_set_ne (Ne.symm e)] at hn
                      exact ⟨n', hn, Nat.le_refl _, fun _ => List.getElem?_set_ne (Ne.symm e)⟩
                  size := by omega
                  os := c6, tape := c7, output := c8
                  frame := fun b' hb hn => c4 b' (by rintro rfl; exact hn tk _ b1 rfl)
                  blocks := fun i' b' r hr hb => by
                    by_cases e : i' = tk
                    · subst e
                      rw [List.getElem?_set_self htk'] at hr
                      simp at hr
                      subst hr
                      simp [RI.block] at hb
                      subst hb
                      exact .inr ⟨i', _, b1, rfl, fun _ => rfl⟩
                    · rw [List.getElem?_set_ne (Ne.symm e)] at hr
                      exact .inr ⟨i', r, hr, hb, id⟩
                  fresh := fun b' o' x => by
                    rcases x with x | ⟨rfl, _⟩
                    · exact .inl x
                    · exact .inr (.inr ⟨tk, _, b1, rfl, rfl⟩) }
              have C1 : Cellrow S' w' b o i.size l u := ⟨C.sz_, fun k hk => ⟨.inl (C.at_ k hk).1, by rw [keepc _ (by omega)]; exact (C.at_ k hk).2⟩, fun i' j c x hc hx => ⟨((C.rep i' j c x hc hx).1).mono E.settled E.cells, (C.rep i' j c x hc hx).2⟩⟩
              have C2 := app_rep (new := new) (v := v) C1 hv' (fun k hk => ⟨.inr ⟨rfl, by omega, by omega⟩, by
                  have := c3 (o + l.length * i.size + k)
                  rw [if_pos (by simp; omega), show o + l.length * i.size + k - (o + l.length * i.size) = k by omega, newsAt k hk] at this
                  simp only [World.cell?, c1]
                  simp only [Array.getD_eq_getD_getElem?] at this
                  have l1 : o + l.length * i.size + k < c'.size := by omega
                  simp [l1] at this ⊢
                  exact this⟩)
                (fun i' j c x hc hx => ⟨((hv i' j c x hc hx).2.1).mono E.settled E.cells, (hv i' j c x hc hx).2.2⟩)
              have R := C2.repF (cap := cap) (by simpa using hroom)
              rw [List.length_append] at R
              refine ⟨_, w', S', _, .inl rfl, .row _ _ _ _ R (by simpa using htk) (fun n hn => ?_), E, ?_⟩
              · rw [List.getElem?_set_self htk] at hn
                simp [Res.tip] at hn
                subst hn
                exact ⟨by simp, fun _ => List.getElem?_set_self htk'⟩
              · refine inv_upd hi htk E (fun i' b' r hne hr9 hb => ?_) (fun b' o' hs => ?_) (fun b' hb => ?_) (fun cells tag hh => by cases hh) (fun hh => by cases hh) (fun sz' n et' hh => ?_) (fun s pos hh => by cases hh)
                · have : b' ≠ b := by rintro rfl; exact hne (hi.apart i' tk _ r _ hr9 b1 hb rfl)
                  exact ⟨c4 b' this, fun o ho => ho.elim id fun ho => absurd ho.1 this⟩
                · rw [c5]
                  rcases hs with hs | ⟨rfl, _⟩
                  · exact hi.bound b' o' hs
                  · exact hbl
                · simp [RI.block] at hb
                  subst hb
                  exact ⟨by rw [c5]; exact hbl, fun i' r hne hr9 hb9 => hne (hi.apart i' tk _ r _ hr9 b1 hb9 rfl)⟩
                · simp only [Res.row.injEq] at hh
                  obtain ⟨rfl, rfl, rfl⟩ := hh
                  refine ⟨b, o, cap, c', e3, rfl, c1, ⟨hsz, bet⟩, hroom, by omega, fun x hx hs => ?_⟩
                  rcases hs with hs | ⟨_, _, hs⟩
                  · exact b6 x (by omega) hs
                  · omega
            · exact grow (some ⟨b, o, none⟩) cap l.length u rfl htip rfl ⟨_, hρ'⟩ (by omega) b4 (fun i' j c y hc hy => ⟨C.sz_ i' c hc, C.rep i' j c y hc hy⟩) C.sz_
                (run_firstCells_some (P := P) w.drew i.size l.length ⟨b, o, none⟩ l.length cap _ (by simp) (fun j v hv => by
                  simp only [List.getElem?_map, Option.map_eq_some_iff] at hv
                  obtain ⟨k, hk, rfl⟩ := hv
                  have hj := (List.getElem?_eq_some_iff.1 hk).1
                  simp at hj
                  have : k = j := by simpa [List.getElem?_range hj] using hk.symm
                  subst this
                  rw [add_none]
                  exact (C.at_ k hj).2)) hd.symm
          · cases hd
        · cases hd
    · cases hd
  · cases hd

theorem sim_app (hi : Inv P G S ρ h w) (ha : RepA S ρ h w a.tmps ad) {t tx e e' rt t1 t2 : TypeId} {i : TypeInfo} {z : Value} {s x : Operand} {s' x' : Opd} (ht : P.underlying t = some (.slice e)) (hk : P.underlying tx = some (.slice e')) (hinf : P.info? e = some i) (hz : i.zero = some z) (hzs : z.cells.size = i.size)
    (h1 : trOpd P t1 s = some s') (h2 : trOpd P t2 x = some x') (hd : dop call (.app false (tagE P e) i.size i.bytes s' x') ad h = some out) :
    SimOut P G S ρ h w ((do pure (Next.value (← Builtin.append_ #[t, tx] rt #[a.eval s, a.eval x])) : Sem Next).run P w) out := by
  refine sim_appX hi ha ht hinf hz hzs h1 (tagE_ok e) (fun s2 new hs hs2 h0 => ?_) hd
  simp only [srcElems, Bool.false_eq_true, if_false] at hs
  exact src_row hk hs2 h0 (rep_elems (rep_opd ha h2) hs)
theorem sim_apps (hi : Inv P G S ρ h w) (ha : RepA S ρ h w a.tmps ad) {t tx e rt t1 t2 : TypeId} {i : TypeInfo} {z : Value} {s x : Operand} {s' x' : Opd} (ht : P.underlying t = some (.slice e)) (hk : P.underlying tx = some .string) (hinf : P.info? e = some i) (hz : i.zero = some z) (hzs : z.cells.size = i.size) (h1s : i.size = 1)
    (h1 : trOpd P t1 s = some s') (h2 : trOpd P t2 x = some x') (hd : dop call (.app true (tagE P e) i.size i.bytes s' x') ad h = some out) :
    SimOut P G S ρ h w ((do pure (Next.value (← Builtin.append_ #[t, tx] rt #[a.eval s, a.eval x])) : Sem Next).run P w) out := by
  refine sim_appX hi ha ht hinf hz hzs h1 (tagE_ok e) (fun s2 new hs hs2 h0 => ?_) hd
  simp only [srcElems, if_true] at hs
  split at hs
  · rename_i str ex
    simp only [Option.some.injEq, Prod.mk.injEq] at hs
    obtain ⟨rfl, rfl⟩ := hs
    have g := rep_opd ha h2
    rw [ex] at g
    rw [repF_str (repD_d g), h1s]
    exact src_str hk str
  · cases hs

end
end Go.Deepv
