/-
  From what a law's arguments read as to deep values, and back behind the call; Contracts of the library's functions as calls of the deep machine: a result of data and fresh memory; strconv.Itoa, strings.Join, (*strings.Builder).copyCheck; slices.Clone as a call of the deep machine: data goes in, the same data comes out, be it nil or not; From what a type's deep values are to a Lean structure, type by type; a struct as an argument; The equations by which the deep machine is stepped, in one; Contracts of library functions: strings.Split at one byte, strconv.Atoi; The deep machine stepped so that what is undecided becomes an if; everything behind it is pushed into its branches; From a given statement's frame to the deep machine: what the world's cells are, kept for the library's contracts; a wrap that keeps what is laid and the world's shape; The deep machine, reckoned: the same machine with a test for 'the other orders come to the same' that the kernel can run; what it comes to is what the machine comes to; Plain laws of numbers as texts, and of texts cut at a byte; The words by which the machine is stepped, in one theorem for each style; What a law's arguments read as is represented, and as large as the form's own reach lets it be
  Conditions: none.
-/
import Derived.Test.YtnklhhmfmopdnaaGreatDoorME
import Derived.ReadAgain
import Derived.ChangeStays
import Derived.ChangeOld
import Derived.ChangeShapes
import Derived.Lib.Strings
import Derived.Shelf.Strconv.Itoa4
import Derived.Lib.ValidU
import Derived.Shelf.Strings.OnBuilder
import Derived.WideShapes
import Derived.WalkKit
import Derived.Lib.ParseIntB
import Derived.Lib.SplitLaws
import Derived.Lib.AtoiAll
import Derived.HandedShaped
import Derived.Handed
import Derived.Lib.LaidTab
import Derived.Lib.ItoaMem
import Derived.SizedLaws
set_option linter.unusedVariables false
set_option linter.unusedSimpArgs false
namespace Go.Deepv
open Go.RowKit
abbrev Start (w : World) : Settled := fun b _ => b < w.heap.size
def RepFs (w : World) (cs : List Value) (fs : List FV) : Prop := cs.length = fs.length ∧ ∀ (j : Nat) (x : FV), fs[j]? = some x → RepF (Start w) w (cs.getD j undef) x ∧ x.one = true
theorem RepFs.append {w : World} {c1 c2 : List Value} {f1 f2 : List FV} (h1 : RepFs w c1 f1) (h2 : RepFs w c2 f2) : RepFs w (c1 ++ c2) (f1 ++ f2) := by
 refine ⟨by simp [h1.1, h2.1], fun j x hx => ?_⟩
 rcases Nat.lt_or_ge j f1.length with hj | hj
 ·rw [List.getElem?_append_left hj] at hx
  have := h1.2 j x hx
  rw [List.getD_eq_getElem?_getD, List.getElem?_append_left (by rw [h1.1]; exact hj), ← List.getD_eq_getElem?_getD]
  exact this
 ·rw [List.getElem?_append_right hj] at hx
  have := h2.2 _ x hx
  rw [List.getD_eq_getElem?_getD, List.getElem?_append_right (by rw [h1.1]; exact hj), ← List.getD_eq_getElem?_getD, h1.1]
  exact this
theorem RepFs.nil {w : World} : RepFs w [] [] := ⟨rfl, fun j x hx => by simp at hx⟩
theorem RepFs.single {w : World} {v : Value} {x : FV} (h : RepF (Start w) w v x) (h1 : x.one = true) : RepFs w [v] [x] := by
 refine ⟨rfl, fun j y hy => ?_⟩
 cases j with
 | zero => simp at hy; subst hy; exact ⟨h, h1⟩
 | succ j => simp at hy
def Fits (P : Program) : Nat → TypeId → List FV → Prop
 | 0, _, _ => False
 | k + 1, t, fs => match P.underlying t with
  | some .bool => ∃ b, fs = [.bool b]
  | some (.int kd) => ∃ n, fs = [.int kd n] ∧ (Lit.int kd n).wf = true
  | some .string => ∃ s, fs = [.str s] ∧ s.size ≤ maxLen
  | some (.slice e) => ∃ elems, fs = [.slice (P.cellsOf e) elems] ∧ elems.length ≤ maxLen ∧ ∀ c ∈ elems, c.length = P.cellsOf e ∧ Fits P k e c
  | some (.pointer e) => fs = [.nilp] ∨ ∃ c, fs = [.ref c 0] ∧ c.length = P.cellsOf e ∧ Fits P k e c
  | some (.struct fl) => fs.length = P.cellsOf t ∧ ∀ f ∈ fl.toList, Fits P k f.type ((fs.drop f.offset).take (P.cellsOf f.type))
  | some (.interface _) => fs = [.nili]
  | _ => True
theorem mapM_mem {α β : Type} {f : α → Option β} : ∀ {l : List α} {r : List β}, l.mapM f = some r → ∀ x ∈ l, ∃ y, f x = some y
 | [], r, h, x, hx => by cases hx
 | a :: l, r, h, x, hx => by
  simp only [List.mapM_cons, Option.pure_def, Option.bind_eq_bind, Option.bind_eq_some_iff, Option.some.injEq] at h
  obtain ⟨b, hb, bs, hbs, rfl⟩ := h
  rcases List.mem_cons.1 hx with hx | hx
  ·exact ⟨b, by rw [hx]; exact hb⟩
  ·exact mapM_mem hbs x hx
theorem struct_cells {w : World} {P : Program} {k : Nat} (sz : TypeId → Nat) : ∀ (fl : List Field) (off : Nat) (cs : List Value), (∀ (j : Nat) f, fl[j]? = some f → f.offset = off + ((fl.take j).map fun f => sz f.type).sum) → cs.length = off + (fl.map fun f => sz f.type).sum →
  (∀ f ∈ fl, ∃ fs, RepFs w ((cs.drop f.offset).take (sz f.type)) fs ∧ Fits P k f.type fs) →
  ∃ fs, RepFs w (cs.drop off) fs ∧ ∀ f ∈ fl, Fits P k f.type ((fs.drop (f.offset - off)).take (sz f.type))
 | [], off, cs, h1, h2, h3 => ⟨[], by
   have : cs.drop off = [] := List.drop_of_length_le (by simp at h2; omega)
   rw [this]; exact RepFs.nil, fun f hf => by cases hf⟩
 | g :: fl, off, cs, h1, h2, h3 => by
  have hg : g.offset = off := by simpa using h1 0 g rfl
  obtain ⟨fs1, r1, t1⟩ := h3 g (by simp)
  rw [hg] at r1
  have l1 : fs1.length = sz g.type := by
   rw [← r1.1, List.length_take, List.length_drop]
   simp only [List.map_cons, List.sum_cons] at h2
   omega
  obtain ⟨fs2, r2, t2⟩ := struct_cells (P := P) (k := k) (w := w) sz fl (off + sz g.type) cs (fun j f hf => by
   have := h1 (j + 1) f (by simpa using hf)
   simp only [List.take_succ_cons, List.map_cons, List.sum_cons] at this
   omega) (by simp at h2; omega) (fun f hf => h3 f (by simp [hf]))
  refine ⟨fs1 ++ fs2, ?_, fun f hf => ?_⟩
  ·have : cs.drop off = (cs.drop off).take (sz g.type) ++ cs.drop (off + sz g.type) := by
    rw [← List.drop_drop]; exact (List.take_append_drop _ _).symm
   rw [this]
   exact r1.append r2
  ·rcases List.mem_cons.1 hf with hf | hf
   ·rw [hf, hg, Nat.sub_self, List.drop_zero, List.take_append_of_le_length (by omega), List.take_of_length_le (by omega)]
    exact t1
   ·have ht := t2 f hf
    obtain ⟨j, hj⟩ := List.getElem?_of_mem hf
    have := h1 (j + 1) f (by simpa using hj)
    simp only [List.take_succ_cons, List.map_cons, List.sum_cons] at this
    rw [List.drop_append, List.drop_of_length_le (by omega), List.nil_append, l1]
    rwa [show f.offset - off - sz g.type = f.offset - (off + sz g.type) from by omega]
section
variable {H : Type} {enc : TypeId × Value → H} {P : Program} {w : World}
def Plain (P : Program) (T : TypeId → Prop) : Prop := ∀ t, T t → match P.underlying t with
 | some .bool | some (.int _) | some .string => True
 | some (.slice e) => 0 < P.cellsOf e
 | some (.struct _) => True
 | _ => False
theorem cells_at {a : Addr} {n : Nat} {cs : List Value} (h : w.cells? 0 a n = some cs) : cs.length = n ∧ ∀ j, j < n → w.cell? (a.add j) = some (cs.getD j undef) := by
 obtain ⟨_, hl, hc⟩ := World.cells?_some h
 refine ⟨hl, fun j hj => ?_⟩
 rw [hc j hj, List.getD_eq_getElem?_getD, List.getElem?_eq_getElem (by omega)]
 rfl
theorem pick_list {α : Type} {p : Nat → α → Prop} : ∀ n : Nat, (∀ i, i < n → ∃ y, p i y) → ∃ l : List α, l.length = n ∧ ∀ (i : Nat) (y : α), l[i]? = some y → p i y
 | 0, _ => ⟨[], rfl, fun i y hy => by simp at hy⟩
 | n + 1, h => by
  obtain ⟨l, h1, h2⟩ := pick_list n fun i hi => h i (by omega)
  obtain ⟨y, hy⟩ := h n (by omega)
  refine ⟨l ++ [y], by simp [h1], fun i z hz => ?_⟩
  rcases Nat.lt_or_ge i l.length with hi | hi
  ·rw [List.getElem?_append_left hi] at hz; exact h2 i z hz
  ·rw [List.getElem?_append_right hi] at hz
   have : i - l.length = 0 := by
    have := (List.getElem?_eq_some_iff.1 hz).1
    simp at this
    omega
   rw [this] at hz
   simp at hz
   subst hz
   rwa [show i = n from by omega]
theorem rep_of_trod {T : TypeId → Prop} (K : Kids P T) (hp : Plain P T) : ∀ (n : Nat) (t : TypeId) (cs : List Value) (x : DataW H × List MemPlace), T t → DataW.trod enc P w 0 (fun _ => true) true n t cs = some x → ∃ fs, RepFs w cs fs ∧ Fits P n t fs := by
 intro n
 induction n with
 | zero => intro t cs x ht h; simp [DataW.trod] at h
 | succ n ih =>
  intro t cs x ht h
  have hpt := hp t ht
  rw [DataW.trod.eq_def] at h
  simp only at h
  split at h <;> first
   | (cases h; done)
   | skip
  ·rename_i b hu
   exact ⟨[.bool b], RepFs.single (.bool b) rfl, by simp [Fits, hu]⟩
  ·rename_i k k' m hu
   split at h
   ·rename_i hk
    obtain ⟨rfl, hw⟩ := hk
    exact ⟨[.int k' m], RepFs.single (.int k' m) rfl, by simp [Fits, hu, hw]⟩
   ·cases h
  ·rename_i hu; rw [hu] at hpt; exact hpt.elim
  ·rename_i s hu
   split at h
   ·rename_i hk
    exact ⟨[.str s], RepFs.single (.str s) rfl, by simp [Fits, hu, hk]⟩
   ·cases h
  all_goals rename_i hu
  all_goals first
   | (rw [hu] at hpt; exact hpt.elim)
   | skip
  ·rename_i e
   exact ⟨[.slice (P.cellsOf e) []], RepFs.single (.slice0 none 0 _) rfl, by simp [Fits, hu]⟩
  ·rename_i e a len cap
   rw [hu] at hpt
   simp only at hpt
   split at h
   ·rename_i hk
    obtain ⟨_, hk1, hk2⟩ := hk
    simp only [Option.bind_eq_some_iff, Option.map_eq_some_iff] at h
    obtain ⟨elems, hel, rest, hrest, rfl⟩ := h
    have each : ∀ i, i < len → ∃ c fs, w.cells? 0 (a.add (i * P.cellsOf e)) (P.cellsOf e) = some c ∧ RepFs w c fs ∧ Fits P n e fs := by
     intro i hi
     obtain ⟨y, hy⟩ := mapM_mem hel i (List.mem_range.2 hi)
     simp only [Option.bind_eq_some_iff] at hy
     obtain ⟨c, hc, hy⟩ := hy
     obtain ⟨fs, h1, h2⟩ := ih e c y (K.slice ht hu) hy
     exact ⟨c, fs, hc, h1, h2⟩
    obtain ⟨l, hl, hlp⟩ := pick_list (p := fun i fs => ∃ c, w.cells? 0 (a.add (i * P.cellsOf e)) (P.cellsOf e) = some c ∧ RepFs w c fs ∧ Fits P n e fs) len fun i hi => by
     obtain ⟨c, fs, h1, h2, h3⟩ := each i hi
     exact ⟨fs, c, h1, h2, h3⟩
    have lens : ∀ (i : Nat) (c : List FV), l[i]? = some c → c.length = P.cellsOf e := fun i c hc => by
     obtain ⟨cc, h1, h2, h3⟩ := hlp i c hc
     rw [← h2.1, (cells_at h1).1]
    refine ⟨[.slice (P.cellsOf e) l], RepFs.single ?_ rfl, ?_⟩
    ·rcases Nat.eq_zero_or_pos len with h0 | h0
     ·subst h0
      have : l = [] := List.eq_nil_of_length_eq_zero hl
      subst this
      exact .slice0 (some a) cap _
     ·obtain ⟨b, o, sp⟩ := a
      have hsp : sp = none := by
       obtain ⟨c, fs, h1, _⟩ := each 0 h0
       have := (cells_at h1).2 0 hpt
       simp only [Nat.zero_mul, Addr.add, if_true] at this
       unfold World.cell? at this
       split at this
       ·cases sp with
        | none => rfl
        | some q => simp at this
       ·cases this
      subst hsp
      have padd : ∀ i j, ((⟨b, o, none⟩ : Addr).add i).add j = ⟨b, o + i + j, none⟩ := fun i j => by
       unfold Addr.add
       split <;> split <;> simp_all
      have cell : ∀ i j, i < len → j < P.cellsOf e → ∃ v, w.cell? ⟨b, o + i * P.cellsOf e + j, none⟩ = some v := fun i j hi hj => by
       obtain ⟨c, fs, h1, _⟩ := each i hi
       have := (cells_at h1).2 j hj
       rw [padd] at this
       exact ⟨_, this⟩
      have rep : ∀ (i j : Nat) (c : List FV) (x : FV), l[i]? = some c → c[j]? = some x → RepF (Start w) w ((w.cell? ⟨b, o + i * P.cellsOf e + j, none⟩).getD undef) x ∧ x.one = true := fun i j c x hc hx => by
       obtain ⟨cc, h1, h2, h3⟩ := hlp i c hc
       have hj : j < P.cellsOf e := by rw [← lens i c hc]; exact (List.getElem?_eq_some_iff.1 hx).1
       have := (cells_at h1).2 j hj
       rw [padd] at this
       rw [this]
       exact h2.2 j x hx
      refine .slice b o len cap _ l (fun i j => (w.cell? ⟨b, o + i * P.cellsOf e + j, none⟩).getD undef) hl hk1 lens (fun i j hi hj => ?_) (fun i j c x hc hx => (rep i j c x hc hx).1) (fun i j c x hc hx => (rep i j c x hc hx).2)
      obtain ⟨v, hv⟩ := cell i j hi hj
      exact ⟨World.block_lt_of_cell? w _ hv, by rw [hv]; rfl⟩
    ·simp only [Fits, hu]
     refine ⟨l, rfl, by omega, fun c hc => ?_⟩
     obtain ⟨i, hi⟩ := List.getElem?_of_mem hc
     obtain ⟨cc, h1, h2, h3⟩ := hlp i c hi
     exact ⟨lens i c hi, h3⟩
   ·cases h
  ·rename_i cs' _ _ fl
   split at h
   ·rename_i hlen
    simp only [Option.map_eq_some_iff] at h
    obtain ⟨xs, hxs, rfl⟩ := h
    obtain ⟨k1, k2, k3⟩ := K.struct ht hu
    obtain ⟨fs, r1, r2⟩ := struct_cells (P := P) (k := n) (w := w) P.cellsOf fl.toList 0 cs' (fun j f hf => by rw [k3 j f hf]; simp) (by rw [hlen, k2]; simp) (fun f hf => by
     obtain ⟨y, hy⟩ := mapM_mem hxs f hf
     exact ih f.type _ y (k1 f hf) hy)
    rw [List.drop_zero] at r1
    refine ⟨fs, r1, ?_⟩
    simp only [Fits, hu]
    exact ⟨by rw [← r1.1, hlen], fun f hf => by simpa using r2 f hf⟩
   ·cases h
theorem carryAll {w' : World} {sp : Nat → Bool} (bel : Below w.heap.size w w') : ∀ {ts : List TypeId} {vs : List Value} {ds : List (DataW H)} {ps : List MemPlace}, (∀ p ∈ ps, p.block < w.heap.size) → DataW.TrodAll enc P w 0 sp true ts vs ds ps → DataW.TrodAll enc P w' 0 sp true ts vs ds ps
 | [], [], [], _, _, h => h
 | t :: ts, v :: vs, d :: ds, ps, hps, ⟨p, q, ⟨n, h1⟩, h2, e⟩ => ⟨p, q, ⟨n, DataW.trod_carry n t _ (d, p) h1 fun x hx => bel.same (hps x (by rw [e]; exact List.mem_append_left _ hx))⟩, carryAll bel (fun x hx => hps x (by rw [e]; exact List.mem_append_right _ hx)) h2, e⟩
theorem args_back {T : TypeId → Prop} (K : Kids P T) (hz : ∀ t e, T t → P.underlying t = some (.slice e) → 0 < P.cellsOf e) {w' : World} (bel : Below w.heap.size w w') {ts : List TypeId} {vs : List Value} {ds : List (DataW H)} {ps : List MemPlace} (hT : ∀ t ∈ ts, T t) (h : DataW.TrodAll enc P w 0 (fun _ => true) true ts vs ds ps) :
  DataW.TrodAll enc P w' 0 (fun b => decide (b < w.heap.size)) true ts vs ds ps :=
 carryAll bel h.lt (h.respare K hz hT fun p hp => by simpa using h.lt p hp)
def kidsB (P : Program) (l : List TypeId) : Bool := l.all fun t => decide (t < P.types.size) && match P.underlying t with
 | some .bool | some (.int _) | some .string => true
 | some (.slice e) => l.contains e && decide (0 < P.cellsOf e)
 | some (.struct fl) => fl.toList.all fun f => l.contains f.type
 | _ => false
theorem kidsB_plain {P : Program} {l : List TypeId} (h : kidsB P l = true) : Plain P (· ∈ l) := by
 intro t ht
 have := List.all_eq_true.1 h t ht
 simp only [Bool.and_eq_true] at this
 have h2 := this.2
 split at h2 <;> simp_all
theorem kidsB_kids {P : Program} {l : List TypeId} (hl : laidOutB P = true) (hm : mapsRowed P = true) (h : kidsB P l = true) : Kids P (· ∈ l) := by
 have K := kids_rows hl hm
 have at_ : ∀ t ∈ l, t < P.types.size ∧ (match P.underlying t with
   | some .bool | some (.int _) | some .string => true
   | some (.slice e) => l.contains e && decide (0 < P.cellsOf e)
   | some (.struct fl) => fl.toList.all fun f => l.contains f.type
   | _ => false) = true := fun t ht => by
  have := List.all_eq_true.1 h t ht
  simp only [Bool.and_eq_true, decide_eq_true_eq] at this
  exact this
 refine ⟨fun {t e} ht hu => ?_, fun {t e} ht hu => ?_, fun {t e n} ht hu => ?_, fun {t fs} ht hu => ?_, fun {t k e} ht hu => ?_⟩
 ·have := (at_ t ht).2; rw [hu] at this; cases this
 ·have := (at_ t ht).2
  rw [hu] at this
  simp only [Bool.and_eq_true, List.contains_eq_mem, decide_eq_true_eq] at this
  exact this.1
 ·have := (at_ t ht).2; rw [hu] at this; cases this
 ·have := (at_ t ht).2
  rw [hu] at this
  simp only [List.all_eq_true, List.contains_eq_mem, decide_eq_true_eq] at this
  exact ⟨this, (K.struct (at_ t ht).1 hu).2⟩
 ·have := (at_ t ht).2; rw [hu] at this; cases this
theorem kidsB_full {P : Program} {l : List TypeId} (h : kidsB P l = true) : ∀ t e, t ∈ l → P.underlying t = some (.slice e) → 0 < P.cellsOf e := by
 intro t e ht hu
 have := List.all_eq_true.1 h t ht
 rw [hu] at this
 simp only [Bool.and_eq_true, decide_eq_true_eq] at this
 exact this.2.2
theorem arg_one {T : TypeId → Prop} (K : Kids P T) (hp : Plain P T) {t : TypeId} {v : Value} {d : DataW H} {ps : List MemPlace} (ht : T t) (h : DataW.Trod enc P w 0 (fun _ => true) true t v d ps) (hv : v.cells.toList = [v]) : ∃ n x, RepF (Start w) w v x ∧ Fits P n t [x] := by
 obtain ⟨n, hn⟩ := h
 obtain ⟨fs, h1, h2⟩ := rep_of_trod K hp n t _ _ ht hn
 rw [hv] at h1
 match fs, h1, h2 with
 | [], h1, _ => exact absurd h1.1 (by simp)
 | [x], h1, h2 => exact ⟨n, x, (h1.2 0 x rfl).1, h2⟩
 | _ :: _ :: _, h1, _ => exact absurd h1.1 (by simp)
end
end Go.Deepv
namespace Go.Deepv
open Go.RowKit
section
variable {P : Program} {G : Glob} {S : Settled} {ρ : List RI} {h : List Res} {w w' : World}
theorem callPost_below (hi : Inv P G S ρ h w) (hb : Below w.heap.size w w') {v : Value} {x : FV} (hx : RepF S w' v x) : CallPost P G S ρ h w (.val (.d x) h) (.returned v) w' := by
 have cells : ∀ b o, S b o → w'.cell? ⟨b, o, none⟩ = w.cell? ⟨b, o, none⟩ := fun b o hs => hb.cell (p := ⟨b, o, none⟩) (hi.bound b o hs)
 have E0 : Ext S [] [] w S [] [] w' :=
  {settled := fun _ _ hs => hs
   cells := cells
   len := Nat.le_refl _
   boxes := fun id b hh => hh
   rows := fun t n' ht => by simp at ht
   size := hb.size
   os := hb.os
   tape := hb.tape
   output := hb.output
   frame := fun b hbl _ => hb.block b hbl
   blocks := fun i b r hr => by simp at hr
   fresh := fun b o hs => .inl hs }
 have I0 : Inv P G S [] [] w' :=
  {len := rfl
   bound := fun b o hs => Nat.lt_of_lt_of_le (hi.bound b o hs) hb.size
   glob := fun b o v g => ⟨(hi.glob b o v g).1, (cells b o (hi.glob b o v g).1).trans (hi.glob b o v g).2⟩
   low := fun i b r hr => by simp at hr
   apart := fun i j b r r' hr => by simp at hr
   box := fun i c t hr => by simp at hr
   nilrow := fun i hr => by simp at hr
   row := fun i a b c hr => by simp at hr
   iter := fun i a b hr => by simp at hr
   loop := fun i a b c d e hr => by simp at hr
   own := fun i r hr => by simp at hr }
 obtain ⟨E, I⟩ := ext_lift hi E0 I0
 exact ⟨v, S, ρ, rfl, .d _ _ hx, E, I⟩
def ExtOk (P : Program) (G : Glob) (X : FuncId → Option (List DV → List Res → Option DOut)) : Prop :=
 ∀ g F, X g = some F → (∃ fn, P.funcs[g]? = some fn ∧ (fn.name == "runtime.NumGoroutine") = false ∧ fn.body.isNone = false) ∧
  ∀ (args : Array Value) (dargs : List DV) (S : Settled) (ρ : List RI) (h : List Res) (w : World) (out : DOut), Inv P G S ρ h w → args.size = dargs.length → (∀ (j : Nat) (x : DV), dargs[j]? = some x → RepD S ρ h w (args.getD j undef) x) →
   F dargs h = some out → Calls P g args w (CallPost P G S ρ h w out)
def xItoa (args : List DV) (h : List Res) : Option DOut :=
 match args with
 | [.d (.int .i64 n)] => if -9223372036854775808 ≤ n ∧ n ≤ 9223372036854775807 then some (.val (.d (.str ⟨(Lib.itoa n).toArray⟩)) h) else none
 | _ => none
theorem itoa_ext {g : FuncId} (hc : ∀ (n : Int), -9223372036854775808 ≤ n → n ≤ 9223372036854775807 → ∀ w : World, (∀ b o v, G b o v → w.cell? ⟨b, o, none⟩ = v) → Calls P g #[.int .i64 n] w fun e w' => e = .returned (.string ⟨(Lib.itoa n).toArray⟩) ∧ Below w.heap.size w w')
  (args : Array Value) (dargs : List DV) (hi : Inv P G S ρ h w) (hl : args.size = dargs.length) (hr : ∀ (j : Nat) (x : DV), dargs[j]? = some x → RepD S ρ h w (args.getD j undef) x) {out : DOut}
  (hd : xItoa dargs h = some out) : Calls P g args w (CallPost P G S ρ h w out) := by
 unfold xItoa at hd
 split at hd
 ·rename_i n
  split at hd
  ·rename_i hn
   simp only [Option.some.injEq] at hd
   subst hd
   have h0 := hr 0 _ rfl
   have hv := repF_int (repD_d h0)
   have ha : args = #[.int .i64 n] := by
    have h1 : args.size = 1 := by simpa using hl
    obtain ⟨x, rfl⟩ := Array.size_eq_one_iff.1 h1
    simp at hv
    rw [hv]
   rw [ha]
   exact (hc n hn.1 hn.2 w (fun b o v g => (hi.glob b o v g).2)).mono fun e w' ⟨he, hb⟩ => by
    subst he
    exact callPost_below hi hb (.str _)
  ·cases hd
 ·cases hd
def xFormat (args : List DV) (h : List Res) : Option DOut :=
 match args with
 | [.d (.int .i64 n), .d (.int .i64 b)] => if b = 10 ∧ -9223372036854775808 ≤ n ∧ n ≤ 9223372036854775807 then some (.val (.d (.str ⟨(Lib.itoa n).toArray⟩)) h) else none
 | _ => none
theorem format_ext {g : FuncId} (hc : ∀ (n : Int), -9223372036854775808 ≤ n → n ≤ 9223372036854775807 → ∀ w : World, (∀ b o v, G b o v → w.cell? ⟨b, o, none⟩ = v) → Calls P g #[.int .i64 n, .int .i64 10] w fun e w' => e = .returned (.string ⟨(Lib.itoa n).toArray⟩) ∧ Below w.heap.size w w')
  (args : Array Value) (dargs : List DV) (hi : Inv P G S ρ h w) (hl : args.size = dargs.length) (hr : ∀ (j : Nat) (x : DV), dargs[j]? = some x → RepD S ρ h w (args.getD j undef) x) {out : DOut}
  (hd : xFormat dargs h = some out) : Calls P g args w (CallPost P G S ρ h w out) := by
 unfold xFormat at hd
 split at hd
 ·rename_i n b
  split at hd
  ·rename_i hn
   obtain ⟨rfl, hn⟩ := hn
   simp only [Option.some.injEq] at hd
   subst hd
   have hv0 := repF_int (repD_d (hr 0 _ rfl))
   have hv1 := repF_int (repD_d (hr 1 _ rfl))
   have ha : args = #[.int .i64 n, .int .i64 10] := by
    have h1 : args.size = 2 := by simpa using hl
    obtain ⟨x, y, rfl⟩ : ∃ x y, args = #[x, y] := by
     match args, h1 with
     | ⟨[x, y]⟩, _ => exact ⟨x, y, rfl⟩
    simp at hv0 hv1
    rw [hv0, hv1]
   rw [ha]
   exact (hc n hn.1 hn.2 w (fun b o v g => (hi.glob b o v g).2)).mono fun e w' ⟨he, hb⟩ => by
    subst he
    exact callPost_below hi hb (.str _)
  ·cases hd
 ·cases hd
def xValid (args : List DV) (h : List Res) : Option DOut :=
 match args with
 | [.d (.str s)] => if s.size ≤ 9223372036854775807 then some (.val (.d (.bool (Lib.validD s.data.toList))) h) else none
 | _ => none
theorem valid_ext {g : FuncId} (hc : ∀ (s : ByteArray), s.size ≤ 9223372036854775807 → ∀ w : World, (∀ b o v, G b o v → w.cell? ⟨b, o, none⟩ = v) → Calls P g #[.string s] w fun e w' => e = .returned (.bool (Lib.validD s.data.toList)) ∧ Below w.heap.size w w')
  (args : Array Value) (dargs : List DV) (hi : Inv P G S ρ h w) (hl : args.size = dargs.length) (hr : ∀ (j : Nat) (x : DV), dargs[j]? = some x → RepD S ρ h w (args.getD j undef) x) {out : DOut}
  (hd : xValid dargs h = some out) : Calls P g args w (CallPost P G S ρ h w out) := by
 unfold xValid at hd
 split at hd
 ·rename_i s
  split at hd
  ·rename_i hn
   simp only [Option.some.injEq] at hd
   subst hd
   have hv := repF_str (repD_d (hr 0 _ rfl))
   have ha : args = #[.string s] := by
    have h1 : args.size = 1 := by simpa using hl
    obtain ⟨x, rfl⟩ := Array.size_eq_one_iff.1 h1
    simp at hv
    rw [hv]
   rw [ha]
   exact (hc s hn w (fun b o v g => (hi.glob b o v g).2)).mono fun e w' ⟨he, hb⟩ => by
    subst he
    exact callPost_below hi hb (.bool _)
  ·cases hd
 ·cases hd
def strs : List (List FV) → Option (List ByteArray)
 | [] => some []
 | [.str s] :: l => (strs l).map (s :: ·)
 | _ => none
def joined (xs : List ByteArray) (sep : ByteArray) : ByteArray := ⟨(Lib.join (xs.map (·.data.toList)) sep.data.toList).toArray⟩
def xJoin (args : List DV) (h : List Res) : Option DOut :=
 match args.map DV.coe with
 | [.d (.slice 1 es), .d (.str sep)] => match strs es with
  | some xs => if (Lib.join (xs.map (·.data.toList)) sep.data.toList).length ≤ 140737488355328 ∧ xs.length ≤ 140737488355328 then some (.val (.d (.str (joined xs sep))) h) else none
  | none => none
 | _ => none
theorem strs_at : ∀ {es : List (List FV)} {xs : List ByteArray}, strs es = some xs → es.length = xs.length ∧ ∀ (j : Nat) (x : ByteArray), xs[j]? = some x → es[j]? = some [.str x]
 | [], xs, h => by simp [strs] at h; subst h; exact ⟨rfl, fun j x hx => by simp at hx⟩
 | e :: l, xs, h => by
  unfold strs at h
  split at h
  ·rename_i hh; cases hh
  ·rename_i s l' hh
   simp only [List.cons.injEq] at hh
   obtain ⟨rfl, rfl⟩ := hh
   simp only [Option.map_eq_some_iff] at h
   obtain ⟨ys, hy, rfl⟩ := h
   obtain ⟨h1, h2⟩ := strs_at hy
   refine ⟨by simp [h1], fun j x hx => ?_⟩
   cases j with
   | zero => simpa using hx
   | succ j => exact h2 j x (by simpa using hx)
  ·cases h
theorem join_ext {g : FuncId} (hn : ∀ (a : Option Addr) (c : Nat) (sep : ByteArray) (w : World), Calls P g #[.slice a 0 c, .string sep] w fun e w' => e = .returned (.string ⟨#[]⟩) ∧ w' = w)
  (hc : ∀ (bk o c : Nat) (xs : List ByteArray) (sep : ByteArray) (w : World), (∀ (j : Nat) x, xs[j]? = some x → w.cell? ⟨bk, o + j, none⟩ = some (.string x)) → bk < w.heap.size → xs.length ≤ 140737488355328 → xs.length ≤ c →
   (Lib.join (xs.map (·.data.toList)) sep.data.toList).length ≤ 140737488355328 →
   Calls P g #[.slice (some ⟨bk, o, none⟩) xs.length c, .string sep] w fun e w' => e = .returned (.string ⟨(Lib.join (xs.map (·.data.toList)) sep.data.toList).toArray⟩) ∧ Below w.heap.size w w')
  (args : Array Value) (dargs : List DV) (hi : Inv P G S ρ h w) (hl : args.size = dargs.length) (hr : ∀ (j : Nat) (x : DV), dargs[j]? = some x → RepD S ρ h w (args.getD j undef) x) {out : DOut}
  (hd : xJoin dargs h = some out) : Calls P g args w (CallPost P G S ρ h w out) := by
 unfold xJoin at hd
 split at hd
 ·rename_i es sep hm
  split at hd
  ·rename_i xs hx
   split at hd
   ·rename_i hb
    simp only [Option.some.injEq] at hd
    subst hd
    have hr' : ∀ (j : Nat) (x : DV), (dargs.map DV.coe)[j]? = some x → RepD S ρ h w (args.getD j undef) x := fun j x hx => by
     simp only [List.getElem?_map, Option.map_eq_some_iff] at hx
     obtain ⟨y, hy, rfl⟩ := hx
     exact rep_coe (hr j y hy)
    have hl' : args.size = 2 := by
     have := congrArg List.length hm
     simp at this
     omega
    rw [hm] at hr'
    have h0 := repD_d (hr' 0 _ rfl)
    have h1 := repF_str (repD_d (hr' 1 _ rfl))
    obtain ⟨a0, a1, rfl⟩ : ∃ a0 a1, args = #[a0, a1] := by
     rcases args with ⟨l⟩
     match l, hl' with
     | [a0, a1], _ => exact ⟨a0, a1, rfl⟩
    simp at h0 h1
    subst h1
    obtain ⟨s1, s2⟩ := strs_at hx
    have empty : es = [] → ∀ (A : Option Addr) (c : Nat), Calls P g #[.slice A 0 c, .string sep] w (CallPost P G S ρ h w (.val (.d (.str (joined xs sep))) h)) := fun he A c => by
     subst he
     simp [strs] at hx
     subst hx
     refine (hn A c sep w).mono fun e w' ⟨he, hw⟩ => ?_
     subst he; subst hw
     exact callPost_below hi (Below.refl _ _) (by simpa [joined, Lib.join] using RepF.str _)
    cases h0 with
    | slice0 A cap => exact empty rfl A cap
    | slice b o n cap _ _ u hn' hcap hsz hcc hrr h1' =>
     by_cases he : es = []
     ·subst he
      simp at hn'
      subst hn'
      exact empty rfl _ _
     ·have hpos : 0 < es.length := List.length_pos_iff.2 he
      rw [← hn', s1]
      refine (hc b o cap xs sep w (fun j x hj => ?_) (hi.bound b _ (hcc 0 0 (by omega) (by omega)).1) hb.2 (by omega) hb.1).mono fun e w' ⟨he, hw⟩ => ?_
      ·have hj' : j < xs.length := (List.getElem?_eq_some_iff.1 hj).1
       have q := (hcc j 0 (by omega) (by omega)).2
       have q2 := repF_str (hrr j 0 _ (.str x) (s2 j x hj) rfl)
       rw [q2] at q
       simpa using q
      ·subst he
       exact callPost_below hi hw (.str _)
   ·cases hd
  ·cases hd
 ·cases hd
def xCopy (tag : Nat) (args : List DV) (h : List Res) : Option DOut :=
 match args with
 | [.ptr id 0] => match h[id]? with
  | some (.box [x, y] t) => if t = tag ∧ tag ≠ 0 then (match x with
   | .d .nilp => some (.val (.d (.tup [])) (h.set id (.box [.ptr id 0, y] t)))
   | .ptr k 0 => if k = id then some (.val (.d (.tup [])) h) else none
   | _ => none) else none
  | _ => none
 | _ => none
theorem heap_setCell0 {b : Nat} {c : Array Value} {e : TypeId} {fr : Nat × Nat} {u : Value} (hb : w.heap[b]? = some (.cells c e fr)) : (w.setCell ⟨b, 0, none⟩ u).heap[b]? = some (.cells (c.setIfInBounds 0 u) e fr) := by
 simp [World.setCell, Array.getElem?_modify, hb]
theorem copy_ext {g : FuncId} {tag : Nat} (hu : ∀ (b : Nat) (w : World), w.cell? ⟨b, 0, none⟩ = some (.pointer (some ⟨b, 0, none⟩)) → Calls P g #[.pointer (some ⟨b, 0, none⟩)] w fun e w' => e = .returned (.tuple #[]) ∧ w' = w)
  (hf : ∀ (b : Nat) (w : World), w.cell? ⟨b, 0, none⟩ = some (.pointer none) → w.shape? b = some (tag, 2) → w.frozen? ⟨b, 0, none⟩ = false → Calls P g #[.pointer (some ⟨b, 0, none⟩)] w fun e w' => e = .returned (.tuple #[]) ∧ w' = w.setCell ⟨b, 0, none⟩ (.pointer (some ⟨b, 0, none⟩)))
  (args : Array Value) (dargs : List DV) (hi : Inv P G S ρ h w) (hl : args.size = dargs.length) (hr : ∀ (j : Nat) (x : DV), dargs[j]? = some x → RepD S ρ h w (args.getD j undef) x) {out : DOut}
  (hd : xCopy tag dargs h = some out) : Calls P g args w (CallPost P G S ρ h w out) := by
 unfold xCopy at hd
 split at hd
 ·rename_i id
  split at hd
  ·rename_i x y t hbx
   split at hd
   ·rename_i ht
    obtain ⟨rfl, ht0⟩ := ht
    obtain ⟨b, c, e, b1, b2, ⟨b3, btag⟩, b4, b5⟩ := hi.box id _ _ hbx
    have he : e = t := by rcases btag with h0 | h0; exact absurd h0 ht0; exact h0
    subst he
    have h0 := hr 0 _ rfl
    have ha : args = #[.pointer (some ⟨b, 0, none⟩)] := by
     have h1 : args.size = 1 := by simpa using hl
     obtain ⟨v, rfl⟩ := Array.size_eq_one_iff.1 h1
     simp at h0
     cases h0 with
     | ptr _ _ b' hb' =>
      rw [b1] at hb'
      simp at hb'
      rw [hb']
    rw [ha]
    have hsz : c.size = 2 := by simpa using b3
    have hcell : w.cell? ⟨b, 0, none⟩ = some (c.getD 0 undef) := by
     simp [World.cell?, b2, Array.getD_eq_getD_getElem?]
     rw [Array.getElem?_eq_getElem (by omega)]
     simp
    have hx0 := (b4 0 x rfl).2.2
    have hidl : id < h.length := (List.getElem?_eq_some_iff.1 hbx).1
    split at hd
    ·simp only [Option.some.injEq] at hd
     subst hd
     have hnil : c.getD 0 undef = .pointer none := by
      generalize c.getD 0 undef = v0 at hx0
      cases repD_d hx0; rfl
     rw [hnil] at hcell
     refine (hf b w hcell (by simp [World.shape?, b2, hsz]) (by simp [World.frozen?, b2])).mono fun e' w' ⟨he, hw⟩ => ?_
     subst he; subst hw
     have hset : ρ.set id (.box b) = ρ := set_self _ _ _ b1
     have hbl : b < w.heap.size := (Array.getElem?_eq_some_iff.1 b2).1
     have E : Ext S ρ h w S (ρ.set id (.box b)) (h.set id (.box [.ptr id 0, y] e)) (w.setCell ⟨b, 0, none⟩ (.pointer (some ⟨b, 0, none⟩))) := by
      rw [hset]
      exact { Ext.refl S ρ h w with
       cells := fun b' o hs => World.cell?_setCell_other _ _ _ _ (by intro hh; simp at hh; exact b5 o (by rw [hh.1]; exact hs))
       len := by simp
       rows := fun t n' ht hn => by
        by_cases e : t = id
        ·subst e
         rw [List.getElem?_set_self ht] at hn
         simp [Res.tip] at hn
        ·rw [List.getElem?_set_ne (Ne.symm e)] at hn
         exact ⟨n', hn, Nat.le_refl _, fun _ => rfl⟩
       size := by simp [World.setCell]
       os := rfl
       tape := rfl
       output := rfl
       frame := fun b' hb hn => Below.heap_setCell _ _ _ _ (by rintro rfl; exact hn id _ b1 rfl) }
     have I : Inv P G S (ρ.set id (.box b)) (h.set id (.box [.ptr id 0, y] e)) (w.setCell ⟨b, 0, none⟩ (.pointer (some ⟨b, 0, none⟩))) := by
      refine inv_upd hi hidl E (fun i b' r hne hr hbk => ?_) (fun b o hs => by simpa [World.setCell] using hi.bound b o hs) (fun b' hbk => ?_) (fun cells' tag' hce => ?_) (fun hh => by cases hh) (fun _ _ _ hh => by cases hh) (fun _ _ hh => by cases hh)
      ·have : b' ≠ b := by rintro rfl; exact hne (hi.apart i id _ r _ hr b1 hbk rfl)
       exact ⟨Below.heap_setCell _ _ _ _ this, fun o ho => ho⟩
      ·simp [RI.block] at hbk
       subst hbk
       refine ⟨by simpa [World.setCell] using hbl, fun i r hne hr hbk => hne (hi.apart i id _ r _ hr b1 hbk rfl)⟩
      ·simp only [Res.box.injEq] at hce
       obtain ⟨rfl, rfl⟩ := hce
       refine ⟨b, _, e, rfl, heap_setCell0 b2, ⟨by simpa using hsz, .inr rfl⟩, fun j z hz => ?_, b5⟩
       match j, hz with
       | 0, hz =>
        simp at hz
        subst hz
        refine ⟨rfl, by simp [DV.low], ?_⟩
        have : (c.setIfInBounds 0 (.pointer (some ⟨b, 0, none⟩))).getD 0 undef = .pointer (some ⟨b, 0, none⟩) := by
         simp [Array.getD_eq_getD_getElem?, Array.getElem?_setIfInBounds, hsz]
        rw [this]
        exact .ptr id 0 b (by rw [hset]; exact b1)
       | 1, hz =>
        have g := b4 1 z (by simpa using hz)
        have : (c.setIfInBounds 0 (.pointer (some ⟨b, 0, none⟩))).getD 1 undef = c.getD 1 undef := by
         simp [Array.getD_eq_getD_getElem?, Array.getElem?_setIfInBounds]
        rw [this]
        exact ⟨g.1, g.2.1, g.2.2.mono E⟩
       | j + 2, hz => simp at hz
     rw [hset] at E I
     exact ⟨_, S, ρ, rfl, .d _ _ (.tup #[] [] rfl (fun j y hy => by simp at hy)), E, I⟩
    ·split at hd
     ·rename_i k hk
      simp only [Option.some.injEq] at hd
      subst hd
      subst hk
      have hown : c.getD 0 undef = .pointer (some ⟨b, 0, none⟩) := by
       generalize c.getD 0 undef = v0 at hx0
       cases hx0 with
       | ptr _ _ b' hb' =>
        rw [b1] at hb'
        simp at hb'
        rw [hb']
      rw [hown] at hcell
      refine (hu b w hcell).mono fun e' w' ⟨he, hw⟩ => ?_
      subst he; subst hw
      exact ⟨_, S, ρ, rfl, .d _ _ (.tup #[] [] rfl (fun j y hy => by simp at hy)), Ext.refl S ρ h _, hi⟩
     ·cases hd
    ·cases hd
   ·cases hd
  ·cases hd
 ·cases hd
end
end Go.Deepv
namespace Go.Deepv
section
variable {P : Program} {G : Glob} {S : Settled} {ρ : List RI} {h : List Res} {w w' : World}
def xClone (sz bytes : Nat) (args : List DV) (h : List Res) : Option DOut :=
 match args.map DV.coe with
 | [x] => match x.elems with
  | some (s, l) => if s = sz ∧ l.length * bytes ≤ 140737488355328 then some (.val (.d (.slice sz l)) h) else none
  | none => none
 | _ => none
structure CloneOk (E : Env) (g : FuncId) (sz bytes : Nat) : Prop where
 nil : D E g [.d (.nilx sz)] [] = some (.val (.d (.slice sz [])) [])
 non : D E g [.d (.nonn sz)] [] = some (.val (.d (.slice sz [])) [])
 row : ∀ (c : List FV) (l : List (List FV)), (l.length + 1) * bytes ≤ 140737488355328 → D E g [.d (.slice sz (c :: l))] [] = some (.val (.d (.slice sz (c :: l))) [])
theorem clone_ext {E : Env} (EO : EnvOk P G E) {g : FuncId} {sz bytes : Nat} (hC : CloneOk E g sz bytes) (args : Array Value) (dargs : List DV) (hi : Inv P G S ρ h w) (hl : args.size = dargs.length) (hr : ∀ (j : Nat) (x : DV), dargs[j]? = some x → RepD S ρ h w (args.getD j undef) x) {out : DOut}
  (hd : xClone sz bytes dargs h = some out) : Calls P g args w (CallPost P G S ρ h w out) := by
 unfold xClone at hd
 split at hd
 ·rename_i x hm
  split at hd
  ·rename_i s l he
   split at hd
   ·rename_i hb
    obtain ⟨rfl, hb⟩ := hb
    simp only [Option.some.injEq] at hd
    subst hd
    have hr' : ∀ (j : Nat) (x : DV), (dargs.map DV.coe)[j]? = some x → RepD S ρ h w (args.getD j undef) x := fun j x hx => by
     simp only [List.getElem?_map, Option.map_eq_some_iff] at hx
     obtain ⟨y, hy, rfl⟩ := hx
     exact rep_coe (hr j y hy)
    rw [hm] at hr'
    have h0 := rep_elems (hr' 0 x rfl) he
    have hl' : args.size = 1 := by
     have := congrArg List.length hm
     simp at this
     omega
    obtain ⟨a0, rfl⟩ := Array.size_eq_one_iff.1 hl'
    simp at h0
    have key : ∀ (v : FV) (r : List (List FV)), RepF S w a0 v → D E g [.d v] [] = some (.val (.d (.slice s r)) []) → Calls P g #[a0] w (CallPost P G S ρ h w (.val (.d (.slice s r)) h)) := fun v r hv hD => by
     have I0 : Inv P G S [] [] w := by
      have := hi.take 0
      simpa using this
     refine ((D_sound EO).fn g #[a0] [.d v] S [] [] w _ I0 rfl (fun j x hx => ?_) hD).mono fun e w' hp => ?_
     ·rcases j with _ | j
      ·simp at hx; subst hx; exact .d _ _ hv
      ·simp at hx
     ·obtain ⟨y, S', ρ', rfl, hy, E', I'⟩ := hp
      have e0 : ρ' = [] := List.eq_nil_of_length_eq_zero (by rw [I'.len]; rfl)
      subst e0
      obtain ⟨E2, I2⟩ := ext_lift hi E' I'
      exact ⟨y, S', ρ, rfl, .d _ _ (repD_d hy), E2, I2⟩
    cases l with
    | nil =>
     cases h0 with
     | slice0 A cap =>
      cases A with
      | none => exact key (.nilx s) [] (.nilx _ _) hC.nil
      | some A => exact key (.nonn s) [] (.nonn _ _ _) hC.non
     | slice b o n cap _ _ u hn =>
      simp at hn
      subst hn
      exact key (.nonn s) [] (.nonn _ _ _) hC.non
    | cons c l => exact key _ _ h0 (hC.row c l (by simpa using hb))
   ·cases hd
  ·cases hd
 ·cases hd
end
end Go.Deepv
namespace Go.Deepv
open Go.RowKit Go.WideShapes
section
variable {P : Program}
def Sort0 (P : Program) (t : TypeId) (c : List FV) : Prop := ∃ n, Fits P n t c
def in64 (n : Int) : Prop := -9223372036854775808 ≤ n ∧ n ≤ 9223372036854775807
def inU8 (n : Int) : Prop := 0 ≤ n ∧ n ≤ 255
theorem int_fits {n : Nat} {t : TypeId} {c : List FV} (hu : P.underlying t = some (.int .i64)) (h : Fits P n t c) : ∃ m, c = [.int .i64 m] ∧ in64 m := by
 cases n with
 | zero => exact h.elim
 | succ n =>
  simp only [Fits, hu] at h
  obtain ⟨m, rfl, hw⟩ := h
  exact ⟨m, rfl, by simpa [in64, Lit.wf, IntKind.min, IntKind.max, IntKind.signed, IntKind.bits] using hw⟩
theorem u8_fits {n : Nat} {t : TypeId} {c : List FV} (hu : P.underlying t = some (.int .u8)) (h : Fits P n t c) : ∃ m, c = [.int .u8 m] ∧ inU8 m := by
 cases n with
 | zero => exact h.elim
 | succ n =>
  simp only [Fits, hu] at h
  obtain ⟨m, rfl, hw⟩ := h
  exact ⟨m, rfl, by simpa [inU8, Lit.wf, IntKind.min, IntKind.max, IntKind.signed, IntKind.bits] using hw⟩
theorem str_fits {n : Nat} {t : TypeId} {c : List FV} (hu : P.underlying t = some .string) (h : Fits P n t c) : ∃ s, c = [.str s] ∧ s.size ≤ 9223372036854775807 := by
 cases n with
 | zero => exact h.elim
 | succ n =>
  simp only [Fits, hu] at h
  obtain ⟨m, rfl, hw⟩ := h
  exact ⟨m, rfl, hw⟩
theorem bool_fits {n : Nat} {t : TypeId} {c : List FV} (hu : P.underlying t = some .bool) (h : Fits P n t c) : ∃ b, c = [.bool b] := by
 cases n with
 | zero => exact h.elim
 | succ n =>
  simp only [Fits, hu] at h
  exact h
theorem all_of {α : Type} {f : α → List FV} {p : α → Prop} : ∀ {l : List (List FV)}, (∀ c ∈ l, ∃ a, c = f a ∧ p a) → ∃ as_ : List α, l = as_.map f ∧ ∀ a ∈ as_, p a
 | [], _ => ⟨[], rfl, fun a ha => by simp at ha⟩
 | c :: l, h => by
  obtain ⟨as_, e, hp⟩ := all_of (l := l) fun c hc => h c (by simp [hc])
  obtain ⟨a, e1, hp1⟩ := h c (by simp)
  exact ⟨a :: as_, by simp [e, e1], fun b hb => by rcases List.mem_cons.1 hb with rfl | hb; exact hp1; exact hp b hb⟩
theorem slice_fits {α : Type} {n : Nat} {t e : TypeId} {c : List FV} (hu : P.underlying t = some (.slice e)) (f : α → List FV) (p : α → Prop) (mk : ∀ m c, m < n → c.length = P.cellsOf e → Fits P m e c → ∃ a, c = f a ∧ p a) (h : Fits P n t c) :
  ∃ l : List α, c = [.slice (P.cellsOf e) (l.map f)] ∧ l.length ≤ 9223372036854775807 ∧ ∀ a ∈ l, p a := by
 cases n with
 | zero => exact h.elim
 | succ n =>
  simp only [Fits, hu] at h
  obtain ⟨l, rfl, hm, hl⟩ := h
  obtain ⟨as_, rfl, hp⟩ := all_of fun c hc => mk n c (Nat.lt_succ_self n) (hl c hc).1 (hl c hc).2
  exact ⟨as_, rfl, by have h2 : maxLen = 9223372036854775807 := rfl; simp only [List.length_map] at hm; omega, hp⟩
theorem struct_fits {n : Nat} {t : TypeId} {fl : Array Field} {c : List FV} (hu : P.underlying t = some (.struct fl)) (h : Fits P n t c) : ∃ m, n = m + 1 ∧ c.length = P.cellsOf t ∧ ∀ f ∈ fl.toList, Fits P m f.type ((c.drop f.offset).take (P.cellsOf f.type)) := by
 cases n with
 | zero => exact h.elim
 | succ n =>
  simp only [Fits, hu] at h
  exact ⟨n, rfl, h.1, h.2⟩
theorem arg_struct {H : Type} {enc : TypeId × Value → H} {w : World} {T : TypeId → Prop} (K : Kids P T) (hp : Plain P T) {t : TypeId} {v : Value} {d : DataW H} {ps : List MemPlace} {r : Reach} {base : Nat} {fl : Array Field} (ht : T t) (hu : P.underlying t = some (.struct fl)) (hv : Value.okWide P w r base t v)
  (h : DataW.Trod enc P w 0 (fun _ => true) true t v d ps) : ∃ n fs, RepF (Start w) w v (.agg fs) ∧ Fits P n t fs := by
 obtain ⟨cs, rfl, _⟩ := okWide_struct hu hv
 obtain ⟨n, hn⟩ := h
 obtain ⟨fs, h1, h2⟩ := rep_of_trod K hp n t _ _ ht hn
 refine ⟨n, fs, .agg cs fs ?_ fun j x hx => ?_, h2⟩
 ·simpa [Value.cells] using h1.1
 ·have := (h1.2 j x hx).1
  simpa [Value.cells, List.getD, Array.getD_eq_getD_getElem?] using this
theorem arg_str {H : Type} {enc : TypeId × Value → H} {w : World} {v : Value} {t : TypeId} {r : Reach} {base : Nat} (hu : P.underlying t = some .string) (hv : Value.okWide P w r base t v) : ∃ s, v = .string s ∧ RepF (Start w) w v (.str s) := by
 obtain ⟨s, rfl⟩ := okWide_string hu hv
 exact ⟨s, rfl, .str s⟩
end
end Go.Deepv
namespace Go.Deepv
theorem stp :
  type_of% @dops_end ∧
  type_of% @dops_step ∧
  type_of% @List.length_cons.{0} ∧
  type_of% @List.length_cons.{1} ∧
  type_of% @List.length_nil.{0} ∧
  type_of% @List.length_nil.{1} ∧
  type_of% @List.cons_append.{0} ∧
  type_of% @List.cons_append.{1} ∧
  type_of% @List.nil_append.{0} ∧
  type_of% @List.nil_append.{1} ∧
  type_of% @List.append_nil.{0} ∧
  type_of% @List.append_nil.{1} ∧
  type_of% @List.set_cons_zero.{0} ∧
  type_of% @List.set_cons_zero.{1} ∧
  type_of% @List.set_cons_succ.{0} ∧
  type_of% @List.set_cons_succ.{1} ∧
  type_of% @List.set_nil.{0} ∧
  type_of% @List.set_nil.{1} ∧
  type_of% @List.getD_cons_zero.{0} ∧
  type_of% @List.getD_cons_zero.{1} ∧
  type_of% @List.getD_cons_succ.{0} ∧
  type_of% @List.getD_cons_succ.{1} ∧
  type_of% @List.getD_nil.{0} ∧
  type_of% @List.getD_nil.{1} ∧
  type_of% @List.map_cons.{0, 0} ∧
  type_of% @List.map_cons.{1, 1} ∧
  type_of% @List.map_nil.{0, 0} ∧
  type_of% @List.map_nil.{1, 1} ∧
  type_of% @List.all_cons.{0} ∧
  type_of% @List.all_cons.{1} ∧
  type_of% @List.all_nil.{0} ∧
  type_of% @List.all_nil.{1} ∧
  type_of% @one_d1 ∧
  type_of% @one_ptr ∧
  type_of% @one_row ∧
  type_of% @one_clo ∧
  type_of% @one_if ∧
  type_of% @one_int ∧
  type_of% @one_bool ∧
  type_of% @one_str ∧
  type_of% @one_slice ∧
  type_of% @one_ref ∧
  type_of% @one_nilp ∧
  type_of% @one_iface ∧
  type_of% @one_nili ∧
  type_of% @one_func ∧
  type_of% @one_nilf ∧
  type_of% @Bool.and_self ∧
  type_of% @Bool.and_true ∧
  type_of% @Bool.true_and ∧
  type_of% @Bool.and_false ∧
  type_of% @Bool.false_and ∧
  type_of% @Bool.or_true ∧
  type_of% @Bool.or_false ∧
  type_of% @Bool.true_or ∧
  type_of% @Bool.false_or ∧
  type_of% @if_true.{0} ∧
  type_of% @if_true.{1} ∧
  type_of% @flat_comp ∧
  type_of% @flat_map ∧
  type_of% @List.mapM_cons.{0, 0, 0} ∧
  type_of% @List.mapM_cons.{1, 1, 1} ∧
  type_of% @List.mapM_nil.{0, 0, 0} ∧
  type_of% @List.mapM_nil.{1, 1, 1} ∧
  type_of% @Option.pure_def.{0} ∧
  type_of% @Option.pure_def.{1} ∧
  type_of% @Option.bind_eq_bind.{0} ∧
  type_of% @Option.bind_eq_bind.{1} ∧
  type_of% @Option.bind_some.{0, 0} ∧
  type_of% @Option.bind_some.{1, 1} ∧
  type_of% @Option.bind_none.{0, 0} ∧
  type_of% @Option.bind_none.{1, 1} ∧
  type_of% @Option.map_some.{0, 0} ∧
  type_of% @Option.map_some.{1, 1} ∧
  type_of% @Option.map_none.{0, 0} ∧
  type_of% @Option.map_none.{1, 1} ∧
  type_of% @List.getElem?_cons_zero.{0} ∧
  type_of% @List.getElem?_cons_zero.{1} ∧
  type_of% @List.getElem?_cons_succ.{0} ∧
  type_of% @List.getElem?_cons_succ.{1} ∧
  type_of% @List.getElem?_nil.{0} ∧
  type_of% @List.getElem?_nil.{1} ∧
  type_of% @Nat.zero_add ∧
  type_of% @Nat.add_zero ∧
  type_of% @bne_self_eq_false.{0} ∧
  type_of% @bne_self_eq_false.{1} ∧
  type_of% @beq_self_eq_true.{0} ∧
  type_of% @beq_self_eq_true.{1} ∧
  type_of% @Bool.false_eq_true ∧
  type_of% @if_false.{0} ∧
  type_of% @if_false.{1} ∧
  type_of% @ne_eq.{0} ∧
  type_of% @ne_eq.{1} ∧
  type_of% @not_true_eq_false ∧
  type_of% @not_false_eq_true ∧
  type_of% @Bool.not_true ∧
  type_of% @Bool.not_false ∧
  type_of% @beq_iff_eq.{0} ∧
  type_of% @beq_iff_eq.{1} ∧
  type_of% @bne_iff_ne.{0} ∧
  type_of% @bne_iff_ne.{1} ∧
  type_of% @List.take_zero.{0} ∧
  type_of% @List.take_zero.{1} ∧
  type_of% @List.take_nil.{0} ∧
  type_of% @List.take_nil.{1} ∧
  type_of% @dcallV_fn ∧
  type_of% @dcallV_fnc ∧
  type_of% @dcallV_clo ∧
  type_of% @dcallV_yld ∧
  type_of% @List.drop_zero.{0} ∧
  type_of% @List.drop_zero.{1} ∧
  type_of% @List.drop_succ_cons.{0} ∧
  type_of% @List.drop_succ_cons.{1} ∧
  type_of% @List.take_succ_cons.{0} ∧
  type_of% @List.take_succ_cons.{1} ∧
  type_of% @List.not_mem_nil.{0} ∧
  type_of% @List.not_mem_nil.{1} ∧
  type_of% @false_implies ∧
  type_of% @implies_true.{0} ∧
  type_of% @implies_true.{1} ∧
  type_of% @decide_true ∧
  type_of% @decide_false ∧
  type_of% @decide_eq_true_eq ∧
  type_of% @Int.toNat_natCast ∧
  type_of% @Int.natCast_nonneg ∧
  type_of% @and_self ∧
  type_of% @and_true ∧
  type_of% @true_and ∧
  type_of% @List.foldlM_cons.{0, 0, 0} ∧
  type_of% @List.foldlM_cons.{1, 1, 1} ∧
  type_of% @List.foldlM_nil.{0, 0, 0} ∧
  type_of% @List.foldlM_nil.{1, 1, 1} ∧
  type_of% @List.length_append.{0} ∧
  type_of% @List.length_append.{1} ∧
  type_of% @List.length_map.{0, 0} ∧
  type_of% @List.length_map.{1, 1} ∧
  type_of% @Nat.le_refl ∧
  type_of% @List.all_map.{0, 0} ∧
  type_of% @List.all_map.{1, 1} ∧
  type_of% @Function.comp_def.{0, 0, 0} ∧
  type_of% @Function.comp_def.{1, 1, 1} ∧
  type_of% @Bool.false_beq ∧
  type_of% @Bool.true_beq ∧
  type_of% @gt_iff_lt.{0} ∧
  type_of% @gt_iff_lt.{1} ∧
  type_of% @ge_iff_le.{0} ∧
  type_of% @ge_iff_le.{1} ∧
  type_of% @cast_lit ∧
  type_of% @Bool.not_eq_true ∧
  type_of% @Int.toNat_zero ∧
  type_of% @Nat.zero_mul ∧
  type_of% @and_false ∧
  type_of% @false_and ∧
  type_of% @or_false ∧
  type_of% @or_true ∧
  type_of% @true_or ∧
  type_of% @false_or ∧
  type_of% @Int.le_refl ∧
  type_of% @Int.lt_irrefl ∧
  type_of% @List.mem_cons.{0} ∧
  type_of% @List.mem_cons.{1} ∧
  type_of% @forall_eq_or_imp.{0} ∧
  type_of% @forall_eq_or_imp.{1} ∧
  type_of% @forall_eq.{0} ∧
  type_of% @forall_eq.{1} ∧
  type_of% @List.append_assoc.{0} ∧
  type_of% @List.append_assoc.{1} ∧
  type_of% @List.length_set.{0} ∧
  type_of% @List.length_set.{1} ∧
  type_of% @List.set_set.{0} ∧
  type_of% @List.set_set.{1} ∧
  type_of% @DOut.val.injEq ∧
  type_of% @one_bslc ∧
  type_of% @dc_fn :=
 ⟨@dops_end, @dops_step, @List.length_cons.{0}, @List.length_cons.{1}, @List.length_nil.{0}, @List.length_nil.{1}, @List.cons_append.{0}, @List.cons_append.{1}, @List.nil_append.{0}, @List.nil_append.{1}, @List.append_nil.{0}, @List.append_nil.{1}, @List.set_cons_zero.{0}, @List.set_cons_zero.{1}, @List.set_cons_succ.{0}, @List.set_cons_succ.{1}, @List.set_nil.{0}, @List.set_nil.{1}, @List.getD_cons_zero.{0}, @List.getD_cons_zero.{1}, @List.getD_cons_succ.{0}, @List.getD_cons_succ.{1}, @List.getD_nil.{0}, @List.getD_nil.{1}, @List.map_cons.{0, 0}, @List.map_cons.{1, 1}, @List.map_nil.{0, 0}, @List.map_nil.{1, 1}, @List.all_cons.{0}, @List.all_cons.{1}, @List.all_nil.{0}, @List.all_nil.{1}, @one_d1, @one_ptr, @one_row, @one_clo, @one_if, @one_int, @one_bool, @one_str, @one_slice, @one_ref, @one_nilp, @one_iface, @one_nili, @one_func, @one_nilf, @Bool.and_self, @Bool.and_true, @Bool.true_and, @Bool.and_false, @Bool.false_and, @Bool.or_true, @Bool.or_false, @Bool.true_or, @Bool.false_or, @if_true.{0}, @if_true.{1}, @flat_comp, @flat_map, @List.mapM_cons.{0, 0, 0}, @List.mapM_cons.{1, 1, 1}, @List.mapM_nil.{0, 0, 0}, @List.mapM_nil.{1, 1, 1}, @Option.pure_def.{0}, @Option.pure_def.{1}, @Option.bind_eq_bind.{0}, @Option.bind_eq_bind.{1}, @Option.bind_some.{0, 0}, @Option.bind_some.{1, 1}, @Option.bind_none.{0, 0}, @Option.bind_none.{1, 1}, @Option.map_some.{0, 0}, @Option.map_some.{1, 1}, @Option.map_none.{0, 0}, @Option.map_none.{1, 1}, @List.getElem?_cons_zero.{0}, @List.getElem?_cons_zero.{1}, @List.getElem?_cons_succ.{0}, @List.getElem?_cons_succ.{1}, @List.getElem?_nil.{0}, @List.getElem?_nil.{1}, @Nat.zero_add, @Nat.add_zero, @bne_self_eq_false.{0}, @bne_self_eq_false.{1}, @beq_self_eq_true.{0}, @beq_self_eq_true.{1}, @Bool.false_eq_true, @if_false.{0}, @if_false.{1}, @ne_eq.{0}, @ne_eq.{1}, @not_true_eq_false, @not_false_eq_true, @Bool.not_true, @Bool.not_false, @beq_iff_eq.{0}, @beq_iff_eq.{1}, @bne_iff_ne.{0}, @bne_iff_ne.{1}, @List.take_zero.{0}, @List.take_zero.{1}, @List.take_nil.{0}, @List.take_nil.{1}, @dcallV_fn, @dcallV_fnc, @dcallV_clo, @dcallV_yld, @List.drop_zero.{0}, @List.drop_zero.{1}, @List.drop_succ_cons.{0}, @List.drop_succ_cons.{1}, @List.take_succ_cons.{0}, @List.take_succ_cons.{1}, @List.not_mem_nil.{0}, @List.not_mem_nil.{1}, @false_implies, @implies_true.{0}, @implies_true.{1}, @decide_true, @decide_false, @decide_eq_true_eq, @Int.toNat_natCast, @Int.natCast_nonneg, @and_self, @and_true, @true_and, @List.foldlM_cons.{0, 0, 0}, @List.foldlM_cons.{1, 1, 1}, @List.foldlM_nil.{0, 0, 0}, @List.foldlM_nil.{1, 1, 1}, @List.length_append.{0}, @List.length_append.{1}, @List.length_map.{0, 0}, @List.length_map.{1, 1}, @Nat.le_refl, @List.all_map.{0, 0}, @List.all_map.{1, 1}, @Function.comp_def.{0, 0, 0}, @Function.comp_def.{1, 1, 1}, @Bool.false_beq, @Bool.true_beq, @gt_iff_lt.{0}, @gt_iff_lt.{1}, @ge_iff_le.{0}, @ge_iff_le.{1}, @cast_lit, @Bool.not_eq_true, @Int.toNat_zero, @Nat.zero_mul, @and_false, @false_and, @or_false, @or_true, @true_or, @false_or, @Int.le_refl, @Int.lt_irrefl, @List.mem_cons.{0}, @List.mem_cons.{1}, @forall_eq_or_imp.{0}, @forall_eq_or_imp.{1}, @forall_eq.{0}, @forall_eq.{1}, @List.append_assoc.{0}, @List.append_assoc.{1}, @List.length_set.{0}, @List.length_set.{1}, @List.set_set.{0}, @List.set_set.{1}, @DOut.val.injEq, @one_bslc, @dc_fn⟩
end Go.Deepv
namespace Go.Deepv
open Go.RowKit
section
variable {P : Program} {G : Glob} {S : Settled} {ρ : List RI} {h : List Res} {w w' : World}
theorem callPost_new (hi : Inv P G S ρ h w) (hb : Below w.heap.size w w') {v : Value} {x : FV} (hx : RepF (fun b o => S b o ∨ (w.heap.size ≤ b ∧ b < w'.heap.size)) w' v x) : CallPost P G S ρ h w (.val (.d x) h) (.returned v) w' := by
 have cells : ∀ b o, S b o → w'.cell? ⟨b, o, none⟩ = w.cell? ⟨b, o, none⟩ := fun b o hs => hb.cell (p := ⟨b, o, none⟩) (hi.bound b o hs)
 have E0 : Ext S [] [] w (fun b o => S b o ∨ (w.heap.size ≤ b ∧ b < w'.heap.size)) [] [] w' :=
  {settled := fun _ _ hs => .inl hs
   cells := cells
   len := Nat.le_refl _
   boxes := fun id b hh => hh
   rows := fun t n' ht => by simp at ht
   size := hb.size
   os := hb.os
   tape := hb.tape
   output := hb.output
   frame := fun b hbl _ => hb.block b hbl
   blocks := fun i b r hr => by simp at hr
   fresh := fun b o hs => hs.elim .inl fun x => .inr (.inl x.1) }
 have I0 : Inv P G (fun b o => S b o ∨ (w.heap.size ≤ b ∧ b < w'.heap.size)) [] [] w' :=
  {len := rfl
   bound := fun b o hs => hs.elim (fun hs => Nat.lt_of_lt_of_le (hi.bound b o hs) hb.size) fun x => x.2
   glob := fun b o v g => ⟨.inl (hi.glob b o v g).1, (cells b o (hi.glob b o v g).1).trans (hi.glob b o v g).2⟩
   low := fun i b r hr => by simp at hr
   apart := fun i j b r r' hr => by simp at hr
   box := fun i c t hr => by simp at hr
   nilrow := fun i hr => by simp at hr
   row := fun i a b c hr => by simp at hr
   iter := fun i a b hr => by simp at hr
   loop := fun i a b c d e hr => by simp at hr
   own := fun i r hr => by simp at hr }
 obtain ⟨E, I⟩ := ext_lift hi E0 I0
 exact ⟨v, _, ρ, rfl, .d _ _ hx, E, I⟩
def xSplit (args : List DV) (h : List Res) : Option DOut :=
 match args with
 | [.d (.str s), .d (.str sep)] => if s.size < 4294967281 ∧ sep.size = 1 then some (.val (.d (.slice 1 ((Lib.splitB sep 0 (Lib.countB s sep) s).map fun x => [.str x]))) h) else none
 | _ => none
theorem split_ext {g : FuncId} {t : TypeId} (hc : ∀ (s sep : ByteArray), s.size < 4294967281 → sep.size = 1 → ∀ w : World, (∀ b o v, G b o v → w.cell? ⟨b, o, none⟩ = v) → Calls P g #[.string s, .string sep] w fun e w' =>
   e = .returned (.slice (some ⟨w.heap.size, 0, none⟩) (Lib.countB s sep + 1) (Lib.countB s sep + 1)) ∧ w' = w.alloc (.cells ((Lib.splitB sep 0 (Lib.countB s sep) s).map Value.string).toArray t))
  (args : Array Value) (dargs : List DV) (hi : Inv P G S ρ h w) (hl : args.size = dargs.length) (hr : ∀ (j : Nat) (x : DV), dargs[j]? = some x → RepD S ρ h w (args.getD j undef) x) {out : DOut}
  (hd : xSplit dargs h = some out) : Calls P g args w (CallPost P G S ρ h w out) := by
 unfold xSplit at hd
 split at hd
 ·rename_i s sep
  split at hd
  ·rename_i hs
   simp only [Option.some.injEq] at hd
   subst hd
   have h0 := repF_str (repD_d (hr 0 _ rfl))
   have h1 := repF_str (repD_d (hr 1 _ rfl))
   have hl' : args.size = 2 := hl
   obtain ⟨a0, a1, rfl⟩ : ∃ a0 a1, args = #[a0, a1] := by
    rcases args with ⟨l⟩
    match l, hl' with
    | [a0, a1], _ => exact ⟨a0, a1, rfl⟩
   simp at h0 h1
   subst h0
   subst h1
   refine (hc s sep hs.1 hs.2 w (fun b o v g => (hi.glob b o v g).2)).mono fun e w' ⟨he, hw⟩ => ?_
   subst he
   have hlen := Lib.splitB_all sep (by omega) 0 (Lib.countB s sep) s rfl
   generalize Lib.splitB sep 0 (Lib.countB s sep) s = L at *
   have hb : Below w.heap.size w w' := by
    rw [hw]
    exact (Below.refl _ _).alloc (Nat.le_refl _) _
   have hsz : w'.heap.size = w.heap.size + 1 := by
    rw [hw]
    simp
   refine callPost_new hi hb ?_
   refine .slice w.heap.size 0 _ _ 1 _ (fun i _ => .string (L.getD i ⟨#[]⟩)) (by simp [hlen]) (Nat.le_refl _) (fun i c hc => ?_) (fun i j hi1 hj => ?_) (fun i j c y hc hy => ?_) (fun i j c y hc hy => ?_)
   ·simp only [List.getElem?_map, Option.map_eq_some_iff] at hc
    obtain ⟨z, _, rfl⟩ := hc
    rfl
   ·refine ⟨.inr ⟨Nat.le_refl _, by omega⟩, ?_⟩
    have hj0 : j = 0 := by omega
    subst hj0
    have hi2 : i < L.length := by omega
    have hg : w'.heap[w.heap.size]? = some (.cells (L.map Value.string).toArray t) := by
     rw [hw]
     show (w.heap.push _)[w.heap.size]? = _
     simp
    simp only [Nat.zero_add, Nat.mul_one, Nat.add_zero, World.cell?, hg]
    simp [hi2, List.getD_eq_getElem?_getD]
   ·simp only [List.getElem?_map, Option.map_eq_some_iff] at hc
    obtain ⟨z, hz, rfl⟩ := hc
    cases j with
    | zero =>
     simp at hy
     subst hy
     simp only [List.getD_eq_getElem?_getD, hz, Option.getD_some]
     exact .str _
    | succ j => simp at hy
   ·simp only [List.getElem?_map, Option.map_eq_some_iff] at hc
    obtain ⟨z, hz, rfl⟩ := hc
    cases j with
    | zero =>
     simp at hy
     subst hy
     rfl
    | succ j => simp at hy
  ·cases hd
 ·cases hd
def xAtoi (T : Nat) (args : List DV) (h : List Res) : Option DOut :=
 match args with
 | [.d (.str s)] => if s.size ≤ 281474976710656 then (match Lib.atoiAll s.data.toList with
  | .ok v => some (.val (.d (.tup [.int .i64 v, .nili])) h)
  | .range => some (.val (.d (.tup [.int .i64 (Lib.atoiSat s.data.toList), .iface T .undef])) h)
  | _ => some (.val (.d (.tup [.int .i64 0, .iface T .undef])) h)) else none
 | _ => none
theorem atoi_ext {g : FuncId} {T : Nat} (hc : ∀ (s : ByteArray), s.size ≤ 281474976710656 → ∀ w : World, (∀ b o v, G b o v → w.cell? ⟨b, o, none⟩ = v) → Calls P g #[.string s] w fun e w' => Below w.heap.size w w' ∧
   (match Lib.atoiAll s.data.toList with
   | .ok v => e = .returned (.tuple #[.int .i64 v, .nilIface])
   | .range => ∃ p, e = .returned (.tuple #[.int .i64 (Lib.atoiSat s.data.toList), .iface T p])
   | _ => ∃ p, e = .returned (.tuple #[.int .i64 0, .iface T p])))
  (args : Array Value) (dargs : List DV) (hi : Inv P G S ρ h w) (hl : args.size = dargs.length) (hr : ∀ (j : Nat) (x : DV), dargs[j]? = some x → RepD S ρ h w (args.getD j undef) x) {out : DOut}
  (hd : xAtoi T dargs h = some out) : Calls P g args w (CallPost P G S ρ h w out) := by
 unfold xAtoi at hd
 split at hd
 ·rename_i s
  split at hd
  ·rename_i hs
   have h0 := repF_str (repD_d (hr 0 _ rfl))
   have hl' : args.size = 1 := hl
   obtain ⟨a0, rfl⟩ : ∃ a0, args = #[a0] := by
    rcases args with ⟨l⟩
    match l, hl' with
    | [a0], _ => exact ⟨a0, rfl⟩
   simp at h0
   subst h0
   have two : ∀ {w' : World} {a b : Value} {x y : FV}, RepF S w' a x → RepF S w' b y → RepF S w' (.tuple #[a, b]) (.tup [x, y]) := fun ha hb => .tup _ _ rfl fun j z hz => by
    match j, hz with
    | 0, hz => simp at hz; subst hz; exact ha
    | 1, hz => simp at hz; subst hz; exact hb
    | j + 2, hz => simp at hz
   refine (hc s hs w (fun b o v g => (hi.glob b o v g).2)).mono fun e w' ⟨hb, he⟩ => ?_
   generalize Lib.atoiAll s.data.toList = r at *
   cases r with
   | ok v =>
    simp only at he
    simp only [Option.some.injEq] at hd
    subst hd
    subst he
    exact callPost_below hi hb (two (.int _ _) .nili)
   | range =>
    simp only at he
    simp only [Option.some.injEq] at hd
    subst hd
    obtain ⟨p, rfl⟩ := he
    exact callPost_below hi hb (two (.int _ _) (.iface _ _ _ (.undef _)))
   | _ =>
    simp only at he
    simp only [Option.some.injEq] at hd
    subst hd
    obtain ⟨p, rfl⟩ := he
    exact callPost_below hi hb (two (.int _ _) (.iface _ _ _ (.undef _)))
  ·cases hd
 ·cases hd
def xParse (T : Nat) (args : List DV) (h : List Res) : Option DOut :=
 match args with
 | [.d (.str s), .d (.int .i64 b), .d (.int .i64 z)] => if b = 10 ∧ z = 64 then ( if s.size ≤ 281474976710656 then (match Lib.parseIntB 64 s.data.toList with
  | .ok v => some (.val (.d (.tup [.int .i64 v, .nili])) h)
  | .range => some (.val (.d (.tup [.int .i64 (Lib.intSat 64 s.data.toList), .iface T .undef])) h)
  | _ => some (.val (.d (.tup [.int .i64 0, .iface T .undef])) h)) else none) else none
 | _ => none
theorem parse_ext {g : FuncId} {T : Nat} (hc : ∀ (s : ByteArray), s.size ≤ 281474976710656 → ∀ w : World, (∀ b o v, G b o v → w.cell? ⟨b, o, none⟩ = v) → Calls P g #[.string s, .int .i64 10, .int .i64 64] w fun e w' => Below w.heap.size w w' ∧
   (match Lib.parseIntB 64 s.data.toList with
   | .ok v => e = .returned (.tuple #[.int .i64 v, .nilIface])
   | .range => ∃ p, e = .returned (.tuple #[.int .i64 (Lib.intSat 64 s.data.toList), .iface T p])
   | _ => ∃ p, e = .returned (.tuple #[.int .i64 0, .iface T p])))
  (args : Array Value) (dargs : List DV) (hi : Inv P G S ρ h w) (hl : args.size = dargs.length) (hr : ∀ (j : Nat) (x : DV), dargs[j]? = some x → RepD S ρ h w (args.getD j undef) x) {out : DOut}
  (hd : xParse T dargs h = some out) : Calls P g args w (CallPost P G S ρ h w out) := by
 unfold xParse at hd
 split at hd
 ·rename_i s b z
  split at hd
  rotate_left
  ·cases hd
  rename_i hbz
  obtain ⟨rfl, rfl⟩ := hbz
  split at hd
  ·rename_i hs
   have h0 := repF_str (repD_d (hr 0 _ rfl))
   have h1 := repF_int (repD_d (hr 1 _ rfl))
   have h2 := repF_int (repD_d (hr 2 _ rfl))
   have hl' : args.size = 3 := hl
   obtain ⟨a0, a1, a2, rfl⟩ : ∃ a0 a1 a2, args = #[a0, a1, a2] := by
    rcases args with ⟨l⟩
    match l, hl' with
    | [a0, a1, a2], _ => exact ⟨a0, a1, a2, rfl⟩
   simp at h0 h1 h2
   subst h0 h1 h2
   have two : ∀ {w' : World} {a b : Value} {x y : FV}, RepF S w' a x → RepF S w' b y → RepF S w' (.tuple #[a, b]) (.tup [x, y]) := fun ha hb => .tup _ _ rfl fun j z hz => by
    match j, hz with
    | 0, hz => simp at hz; subst hz; exact ha
    | 1, hz => simp at hz; subst hz; exact hb
    | j + 2, hz => simp at hz
   refine (hc s hs w (fun b o v g => (hi.glob b o v g).2)).mono fun e w' ⟨hb, he⟩ => ?_
   generalize Lib.parseIntB 64 s.data.toList = r at *
   cases r with
   | ok v =>
    simp only at he
    simp only [Option.some.injEq] at hd
    subst hd
    subst he
    exact callPost_below hi hb (two (.int _ _) .nili)
   | range =>
    simp only at he
    simp only [Option.some.injEq] at hd
    subst hd
    obtain ⟨p, rfl⟩ := he
    exact callPost_below hi hb (two (.int _ _) (.iface _ _ _ (.undef _)))
   | _ =>
    simp only at he
    simp only [Option.some.injEq] at hd
    subst hd
    obtain ⟨p, rfl⟩ := he
    exact callPost_below hi hb (two (.int _ _) (.iface _ _ _ (.undef _)))
  ·cases hd
 ·cases hd
end
end Go.Deepv
namespace Go.Deepv
abbrev CallG := Cle → List DV → List Res → Option DOut
def opK (r : Option DOut) (a : List DV) (d : Option Nat) (k : List DV → List Res → Option DRun) : Option DRun := match r with
 | some (.val v h') => k (put a d v) h'
 | some (.pan v h') => some (.pan v, a, h')
 | none => none
def seqK (r : Option DRun) (k : List DV → List Res → Option DRun) : Option DRun := match r with
 | some (.normal, a', h') => k a' h'
 | r => r
def blkK (id : Nat) (r : Option DRun) : Option DRun := match r with
 | some (.exit i, a', h') => if i = id then some (.normal, a', h') else some (.exit i, a', h')
 | r => r
def drawK (r : Option DRun) (k : DRun → Bool) : Option DRun := match r with
 | some (.normal, a', h') => if k (.normal, a', h') = true then some (.normal, a', h') else none
 | _ => none
def bodK (F : AFunc) (n : Nat) (r : Option DRun) : Option DOut := match r with
 | some (.pan v, _, h') => if v.low n then some (.pan v (h'.take n)) else none
 | some (.normal, a, h') | some (.ret, a, h') => match F.results.mapM (dresult a h') with
  | some rs => if (dresults (F.keep == 0 && F.coe) rs).low (n + F.keep) then some (.val (dresults (F.keep == 0 && F.coe) rs) (h'.take (n + F.keep))) else none
  | none => none
 | _ => none
def rndK (n : Nat) (hd ex : List Bool) (K : List DV → List Res → Option DRun) (r : Option DRun) : Option DRun := match r with
 | some (.normal, a', h') => if DV.lows n (mask hd a') then K (mask hd a') (h'.take n) else none
 | some (.pan v, a', h') => some (.pan v, a', h')
 | some (e, a', h') => if DV.lows n (mask ex a') then some (e, mask ex a', h'.take n) else none
 | none => none
def bySlot (a : List DV) (t : Nat) (x : Option DV) (P Q R : List DV → Option DRun) : Option DRun := match x with
 | some (.d (.bool b)) => if b = true then P (a.set t (.d (.bool true))) else Q (a.set t (.d (.bool false)))
 | some (.d (.tup [])) => R a
 | _ => none
def setOpd (a : List DV) (c : Opd) (v : DV) : List DV := match c with
 | .tmp t => a.set t v
 | _ => a
def byOpd (a : List DV) (c : Opd) (x : DV) (P Q : List DV → Option DRun) : Option DRun := match x with
 | .d (.bool b) => if b = true then P (setOpd a c (.d (.bool true))) else Q (setOpd a c (.d (.bool false)))
 | _ => none
def runT (call : CallG) (d : Option Nat) (o : DOp) (r : List DOper) (h : List Res) (a : List DV) : Option DRun := opK (dop call o a h) a d (dops call r)
def skipT (call : CallG) (d : Option Nat) (r : List DOper) (h : List Res) (a : List DV) : Option DRun := dops call r (put a d (.d (.tup []))) h
noncomputable def exT (call : CallG) (loop : LoopF) (c : ACode) (h : List Res) (a : List DV) : Option DRun := dexec call loop c a h
def pickT (k : List DV → List Res → Option DRun) (d : Option Nat) (x : Opd) (h : List Res) (a : List DV) : Option DRun := k (put a d (ev a x)) h
section
variable (call : CallG) (loop : LoopF)
theorem go_none (d : Option Nat) (o : DOp) (r : List DOper) (a : List DV) (h : List Res) : dops call (⟨d, o, none⟩ :: r) a h = opK (dop call o a h) a d (dops call r) := by
 simp only [dops, wants]
 cases dop call o a h with
 | none => rfl
 | some x => cases x <;> rfl
theorem set_get {a : List DV} {t : Nat} {v : DV} (h : a[t]? = some v) : a.set t v = a := by
 apply List.ext_getElem?
 intro i
 by_cases hi : t = i
 ·subst hi
  have : t < a.length := (List.getElem?_eq_some_iff.1 h).1
  rw [h, List.getElem?_set_self this]
 ·rw [List.getElem?_set_ne hi]
theorem by_eq {a : List DV} {t : Nat} {P Q R : List DV → Option DRun} : bySlot a t a[t]? P Q R = match a[t]? with
  | some (.d (.bool b)) => if b = true then P a else Q a
  | some (.d (.tup [])) => R a
  | _ => none := by
 generalize hx : a[t]? = x
 unfold bySlot
 split
 ·rename_i b
  have hs := set_get hx
  cases b <;> simp [hs]
 ·rfl
 ·rename_i h1 h2
  rfl
theorem go_true (d : Option Nat) (o : DOp) (t : Nat) (r : List DOper) (a : List DV) (h : List Res) : dops call (⟨d, o, some (t, true)⟩ :: r) a h = bySlot a t a[t]? (runT call d o r h) (skipT call d r h) (skipT call d r h) := by
 unfold runT skipT
 rw [by_eq, ← go_none]
 simp only [dops, wants]
 split
 ·rename_i h1
  split at h1
  ·rename_i b hb; rw [hb]; cases b <;> simp_all
  ·cases h1
  ·cases h1
 ·rename_i h1
  split at h1
  ·rename_i b hb; rw [hb]; cases b <;> simp_all
  ·rename_i hb; rw [hb]
  ·cases h1
 ·rename_i h1
  split at h1
  ·cases h1
  ·cases h1
  ·rename_i h2 h3
   split
   ·rename_i hb; exact absurd hb (h2 _)
   ·rename_i hb; exact absurd hb h3
   ·rfl
theorem go_false (d : Option Nat) (o : DOp) (t : Nat) (r : List DOper) (a : List DV) (h : List Res) : dops call (⟨d, o, some (t, false)⟩ :: r) a h = bySlot a t a[t]? (skipT call d r h) (runT call d o r h) (skipT call d r h) := by
 unfold runT skipT
 rw [by_eq, ← go_none]
 simp only [dops, wants]
 split
 ·rename_i h1
  split at h1
  ·rename_i b hb; rw [hb]; cases b <;> simp_all
  ·cases h1
  ·cases h1
 ·rename_i h1
  split at h1
  ·rename_i b hb; rw [hb]; cases b <;> simp_all
  ·rename_i hb; rw [hb]
  ·cases h1
 ·rename_i h1
  split at h1
  ·cases h1
  ·cases h1
  ·rename_i h2 h3
   split
   ·rename_i hb; exact absurd hb (h2 _)
   ·rename_i hb; exact absurd hb h3
   ·rfl
theorem opd_set {a : List DV} {c : Opd} {b : Bool} (h : ev a c = .d (.bool b)) : setOpd a c (.d (.bool b)) = a := by
 cases c with
 | tmp t =>
  simp only [ev] at h
  simp only [setOpd]
  cases hx : a[t]? with
  | none => exact List.set_eq_of_length_le (by simpa using hx)
  | some v =>
   have : v = .d (.bool b) := by simpa [List.getD, hx] using h
   exact set_get (this ▸ hx)
 | _ => rfl
theorem op_pick (d : Option Nat) (c x y : Opd) (k : List DV → List Res → Option DRun) (a : List DV) (h : List Res) : opK (dop call (.pick c x y) a h) a d k = byOpd a c (ev a c) (pickT k d x h) (pickT k d y h) := by
 unfold pickT
 simp only [dop]
 generalize hx : ev a c = v
 unfold byOpd
 split
 ·rename_i b
  cases b
  ·simp only [opd_set hx, opK, Bool.false_eq_true, if_false]
  ·simp only [opd_set hx, opK, if_true]
 ·rename_i h1
  cases v with
  | d v => cases v with
   | bool b => exact absurd rfl (h1 b)
   | _ => rfl
  | _ => rfl
theorem ex_seq (c d : ACode) (a : List DV) (h : List Res) : dexec call loop (.seq c d) a h = seqK (dexec call loop c a h) (dexec call loop d) := by
 rw [dexec]
 unfold seqK
 cases dexec call loop c a h with
 | none => rfl
 | some r => obtain ⟨e, a1, h1⟩ := r; cases e <;> rfl
theorem ex_blk (id : Nat) (c : ACode) (a : List DV) (h : List Res) : dexec call loop (.block id c) a h = blkK id (dexec call loop c a h) := by
 rw [dexec]
 unfold blkK
 cases dexec call loop c a h with
 | none => rfl
 | some r => obtain ⟨e, a1, h1⟩ := r; cases e <;> rfl
theorem ex_cond (c : Opd) (t e : ACode) (a : List DV) (h : List Res) : dexec call loop (.cond c t e) a h = byOpd a c (ev a c) (exT call loop t h) (exT call loop e h) := by
 unfold exT
 simp only [dexec]
 generalize hx : ev a c = v
 unfold byOpd
 split
 ·rename_i b
  cases b
  ·simp only [opd_set hx, Bool.false_eq_true, if_false]
  ·simp only [opd_set hx, if_true]
 ·rename_i h1
  cases v with
  | d v => cases v with
   | bool b => exact absurd rfl (h1 b)
   | _ => rfl
  | _ => rfl
theorem ex_draw (ops : List DOper) (alts : List (List DOper)) (a : List DV) (h : List Res) : dexec call loop (.draw ops alts) a h = drawK (dops call ops a h) (same call alts a h) := by
 rw [dexec]
 unfold drawK
 cases dops call ops a h with
 | none => rfl
 | some r => obtain ⟨e, a1, h1⟩ := r; cases e <;> rfl
theorem bod_eq (F : AFunc) (args : List DV) (h : List Res) : dbody call loop F args h = bodK F h.length (drun call loop F (args ++ List.replicate (F.ntmps - args.length) (.d .undef)) h) := rfl
theorem drun_no {F : AFunc} (hg : F.guard = none) (a : List DV) (h : List Res) : drun call loop F a h = dexec call loop F.body a h := by
 simp [drun, hg]
theorem same_nil (a : List DV) (h : List Res) (r : DRun) : same call [] a h r = true := by simp [same]
end
theorem L_rnd {E : Env} {n : Nat} {hd ex : List Bool} {c : ACode} {K : List DV → List Res → Option DRun} (hK : L E n true hd ex c = K) (a : List DV) (h : List Res) :
  K a h = rndK n hd ex K (dexec (Dc E) (L E) c a h) := L_round hK a h
section
variable (a : List DV) (h : List Res) (d : Option Nat) (k : List DV → List Res → Option DRun)
theorem opK_v (v : DV) (h' : List Res) : opK (some (.val v h')) a d k = k (put a d v) h' := rfl
theorem opK_p (v : DV) (h' : List Res) : opK (some (.pan v h')) a d k = some (.pan v, a, h') := rfl
theorem opK_n : opK none a d k = none := rfl
theorem seqK_o : seqK (some (.normal, a, h)) k = k a h := rfl
theorem seqK_r : seqK (some (.ret, a, h)) k = some (.ret, a, h) := rfl
theorem seqK_e (i : Nat) : seqK (some (.exit i, a, h)) k = some (.exit i, a, h) := rfl
theorem seqK_p (v : DV) : seqK (some (.pan v, a, h)) k = some (.pan v, a, h) := rfl
theorem seqK_n : seqK none k = none := rfl
theorem blkK_o (i : Nat) : blkK i (some (.normal, a, h)) = some (.normal, a, h) := rfl
theorem blkK_r (i : Nat) : blkK i (some (.ret, a, h)) = some (.ret, a, h) := rfl
theorem blkK_e (i j : Nat) : blkK i (some (.exit j, a, h)) = if j = i then some (.normal, a, h) else some (.exit j, a, h) := rfl
theorem blkK_p (i : Nat) (v : DV) : blkK i (some (.pan v, a, h)) = some (.pan v, a, h) := rfl
theorem blkK_n (i : Nat) : blkK i none = none := rfl
theorem drawK_o (q : DRun → Bool) : drawK (some (.normal, a, h)) q = if q (.normal, a, h) = true then some (.normal, a, h) else none := rfl
theorem drawK_p (q : DRun → Bool) (v : DV) : drawK (some (.pan v, a, h)) q = none := rfl
theorem drawK_n (q : DRun → Bool) : drawK none q = none := rfl
def outK (F : AFunc) (n : Nat) (h' : List Res) (r : Option (List DV)) : Option DOut := match r with
 | some rs => if (dresults (F.keep == 0 && F.coe) rs).low (n + F.keep) then some (.val (dresults (F.keep == 0 && F.coe) rs) (h'.take (n + F.keep))) else none
 | none => none
theorem bodK_o (F : AFunc) (n : Nat) : bodK F n (some (.normal, a, h)) = outK F n h (F.results.mapM (dresult a h)) := rfl
theorem bodK_r (F : AFunc) (n : Nat) : bodK F n (some (.ret, a, h)) = outK F n h (F.results.mapM (dresult a h)) := rfl
theorem bodK_p (F : AFunc) (n : Nat) (v : DV) : bodK F n (some (.pan v, a, h)) = if v.low n then some (.pan v (h.take n)) else none := rfl
theorem bodK_n (F : AFunc) (n : Nat) : bodK F n none = none := rfl
theorem outK_s (F : AFunc) (n : Nat) (rs : List DV) : outK F n h (some rs) = if (dresults (F.keep == 0 && F.coe) rs).low (n + F.keep) then some (.val (dresults (F.keep == 0 && F.coe) rs) (h.take (n + F.keep))) else none := rfl
theorem rndK_o (n : Nat) (hd ex : List Bool) : rndK n hd ex k (some (.normal, a, h)) = if DV.lows n (mask hd a) then k (mask hd a) (h.take n) else none := rfl
theorem rndK_r (n : Nat) (hd ex : List Bool) : rndK n hd ex k (some (.ret, a, h)) = if DV.lows n (mask ex a) then some (.ret, mask ex a, h.take n) else none := rfl
theorem rndK_e (n : Nat) (hd ex : List Bool) (i : Nat) : rndK n hd ex k (some (.exit i, a, h)) = if DV.lows n (mask ex a) then some (.exit i, mask ex a, h.take n) else none := rfl
theorem rndK_p (n : Nat) (hd ex : List Bool) (v : DV) : rndK n hd ex k (some (.pan v, a, h)) = some (.pan v, a, h) := rfl
theorem rndK_n (n : Nat) (hd ex : List Bool) : rndK n hd ex k none = none := rfl
theorem set_t (t : Nat) (v : DV) : setOpd a (.tmp t) v = a.set t v := rfl
theorem set_c (c : FV) (v : DV) : setOpd a (.con c) v = a := rfl
theorem run_eq (call : CallG) (o : DOp) (r : List DOper) : runT call d o r h a = opK (dop call o a h) a d (dops call r) := rfl
theorem skip_eq (call : CallG) (r : List DOper) : skipT call d r h a = dops call r (put a d (.d (.tup []))) h := rfl
theorem exT_eq (call : CallG) (loop : LoopF) (c : ACode) : exT call loop c h a = dexec call loop c a h := rfl
theorem pick_eq (x : Opd) : pickT k d x h a = k (put a d (ev a x)) h := rfl
end
theorem L_go (E : Env) (n : Nat) (hd ex : List Bool) (c : ACode) (a : List DV) (h : List Res) : L E n true hd ex c a h = rndK n hd ex (L E n true hd ex c) (dexec (Dc E) (L E) c a h) := L_rnd rfl a h
theorem D_ext {E : Env} {f : FuncId} {F : List DV → List Res → Option DOut} (he : E.ext f = some F) (args : List DV) (h : List Res) : D E f args h = F args h := by
 rw [D_eq]
 unfold dcallF
 rw [he]
section
variable {p : Prop} [Decidable p]
theorem opK_ite (x y : Option DOut) (a : List DV) (d : Option Nat) (k : List DV → List Res → Option DRun) : opK (if p then x else y) a d k = if p then opK x a d k else opK y a d k := by split <;> rfl
theorem seqK_ite (x y : Option DRun) (k : List DV → List Res → Option DRun) : seqK (if p then x else y) k = if p then seqK x k else seqK y k := by split <;> rfl
theorem blkK_ite (i : Nat) (x y : Option DRun) : blkK i (if p then x else y) = if p then blkK i x else blkK i y := by split <;> rfl
theorem drawK_ite (x y : Option DRun) (k : DRun → Bool) : drawK (if p then x else y) k = if p then drawK x k else drawK y k := by split <;> rfl
theorem bodK_ite (F : AFunc) (n : Nat) (x y : Option DRun) : bodK F n (if p then x else y) = if p then bodK F n x else bodK F n y := by split <;> rfl
theorem rndK_ite (n : Nat) (hd ex : List Bool) (K : List DV → List Res → Option DRun) (x y : Option DRun) : rndK n hd ex K (if p then x else y) = if p then rndK n hd ex K x else rndK n hd ex K y := by split <;> rfl
theorem omap_ite {α β : Type} (f : α → β) (x y : Option α) : Option.map f (if p then x else y) = if p then Option.map f x else Option.map f y := by split <;> rfl
end
def insD : Option Nat → List Nat → List Nat
 | some d, D => d :: D
 | none, D => D
def memD : List Nat → Nat → Bool
 | [], _ => false
 | x :: l, t => if x = t then true else memD l t
def splitG (t : Nat) (b : Bool) : List Nat → List DOper → List DOper × List DOper
 | _, [] => ([], [])
 | D, ⟨d, o, some (t', b')⟩ :: r => if d ≠ some t ∧ (t' = t ∧ b' = b ∨ t' ≠ t ∧ memD D t' = true) then (⟨d, o, some (t', b')⟩ :: (splitG t b (insD d D) r).1, (splitG t b (insD d D) r).2) else ([], ⟨d, o, some (t', b')⟩ :: r)
 | _, ⟨d, .pick (.tmp t') x y, none⟩ :: r => if t' = t then ([⟨d, .pick (.tmp t') x y, none⟩], r) else ([], ⟨d, .pick (.tmp t') x y, none⟩ :: r)
 | _, ⟨d, o, none⟩ :: r => ([], ⟨d, o, none⟩ :: r)
def onG (t : Nat) (on : Bool) : List DOper → List DOper
 | [] => []
 | ⟨d, o, some (t', b')⟩ :: r => (if t' = t then (if on = true then ⟨d, o, none⟩ else ⟨d, .mv (.con (.tup [])), none⟩) else ⟨d, o, some (t', b')⟩) :: onG t on r
 | ⟨d, o, none⟩ :: r => ⟨d, o, none⟩ :: onG t on r
def iteD (c : Bool) (x y : DV) : DV := if c = true then x else y
def zipD (c : Bool) : List DV → List DV → List DV
 | x :: xs, y :: ys => iteD c x y :: zipD c xs ys
 | xs, ys => if c = true then xs else ys
theorem zipD_eq (c : Bool) : ∀ xs ys : List DV, zipD c xs ys = if c = true then xs else ys
 | x :: xs, y :: ys => by
  simp only [zipD, zipD_eq c xs ys, iteD]
  cases c <;> rfl
 | [], _ => by simp [zipD]
 | _ :: _, [] => by simp [zipD]
def joinK (c : Bool) (r1 r2 : Option DRun) (k : List DV → List Res → Option DRun) : Option DRun := if c = true then seqK r1 k else seqK r2 k
def runG (call : CallG) (ops : List DOper) (h : List Res) (a : List DV) : Option DRun := dops call ops a h
def grpK (a : List DV) (t : Nat) (x : Option DV) (P Q R : List DV → Option DRun) (k : List DV → List Res → Option DRun) : Option DRun := match x with
 | some (.d (.bool c)) => joinK c (P (a.set t (.d (.bool true)))) (Q (a.set t (.d (.bool false)))) k
 | some (.d (.tup [])) => seqK (R a) k
 | _ => none
def grpS (call : CallG) (p : List DOper × List DOper) (t : Nat) (b : Bool) (a : List DV) (h : List Res) : Option DRun :=
 grpK a t a[t]? (runG call (onG t b p.1) h) (runG call (onG t (!b) p.1) h) (runG call (onG t false p.1) h) (dops call p.2)
theorem splitG_app (t : Nat) (b : Bool) : ∀ l D, (splitG t b D l).1 ++ (splitG t b D l).2 = l
 | [], _ => rfl
 | ⟨d, o, some (t', b')⟩ :: r, D => by
  simp only [splitG]
  split
  ·simp [splitG_app t b r]
  ·rfl
 | ⟨d, o, none⟩ :: r, D => by
  unfold splitG
  split <;> try simp_all
  split <;> simp_all
theorem dops_app (call : CallG) : ∀ (x y : List DOper) (a : List DV) (h : List Res), dops call (x ++ y) a h = seqK (dops call x a h) (dops call y)
 | [], y, a, h => rfl
 | o :: x, y, a, h => by
  simp only [List.cons_append, dops]
  cases wants a o.guard with
  | none => rfl
  | some w => cases w with
   | false => exact dops_app call x y _ _
   | true =>
    simp only
    cases dop call o.op a h with
    | none => rfl
    | some r => cases r with
     | val v h' => exact dops_app call x y _ _
     | pan v h' => rfl
theorem put_get {a : List DV} {d : Option Nat} {t : Nat} {v : DV} (hd : d ≠ some t) : (put a d v)[t]? = a[t]? := by
 cases d with
 | none => rfl
 | some d => simp only [put]; rw [List.getElem?_set_ne (fun e => hd (by rw [e]))]
theorem onG_eq (call : CallG) (t : Nat) (b c : Bool) : ∀ (l : List DOper) (D : List Nat) (a : List DV) (h : List Res), a[t]? = some (.d (.bool c)) → dops call (splitG t b D l).1 a h = dops call (onG t (c == b) (splitG t b D l).1) a h
 | [], D, a, h, ha => rfl
 | ⟨d, o, some (t', b')⟩ :: r, D, a, h, ha => by
  simp only [splitG]
  split
  ·rename_i hc
   obtain ⟨hd, hc⟩ := hc
   have ih := fun v (h' : List Res) => onG_eq call t b c r (insD d D) (put a d v) h' (by rw [put_get hd, ha])
   rcases hc with ⟨rfl, rfl⟩ | ⟨hne, _⟩
   ·simp only [onG, dops, wants, ha, if_true]
    cases hcb : c == b' with
    | true =>
     rw [hcb] at ih
     simp only [if_true, wants]
     cases dop call o a h with
     | none => rfl
     | some q => cases q with
      | val v h' => exact ih v h'
      | pan v h' => rfl
    | false =>
     rw [hcb] at ih
     simp only [Bool.false_eq_true, if_false, wants, dop, ev]
     exact ih _ _
   ·simp only [onG, hne, if_false, dops]
    split
    ·cases dop call o a h with
     | none => rfl
     | some q => cases q with
      | val v h' => exact ih v h'
      | pan v h' => rfl
    ·exact ih _ _
    ·rfl
  ·rfl
 | ⟨d, o, none⟩ :: r, D, a, h, ha => by
  unfold splitG
  split <;> try simp_all [onG]
  split <;> simp_all [onG]
theorem onG_tup (call : CallG) (t : Nat) (b : Bool) : ∀ (l : List DOper) (D : List Nat) (a : List DV) (h : List Res), a[t]? = some (.d (.tup [])) → dops call (splitG t b D l).1 a h = dops call (onG t false (splitG t b D l).1) a h
 | [], D, a, h, ha => rfl
 | ⟨d, o, some (t', b')⟩ :: r, D, a, h, ha => by
  simp only [splitG]
  split
  ·rename_i hc
   obtain ⟨hd, hc⟩ := hc
   have ih := fun v (h' : List Res) => onG_tup call t b r (insD d D) (put a d v) h' (by rw [put_get hd, ha])
   rcases hc with ⟨rfl, rfl⟩ | ⟨hne, _⟩
   ·simp only [onG, dops, wants, ha, Bool.false_eq_true, if_false, if_true, dop, ev]
    exact ih _ _
   ·simp only [onG, hne, if_false, dops]
    split
    ·cases dop call o a h with
     | none => rfl
     | some q => cases q with
      | val v h' => exact ih v h'
      | pan v h' => rfl
    ·exact ih _ _
    ·rfl
  ·rfl
 | ⟨d, o, none⟩ :: r, D, a, h, ha => by
  unfold splitG
  split <;> try simp_all [onG]
  split <;> simp_all [onG]
theorem go_grp (call : CallG) (d : Option Nat) (o : DOp) (t : Nat) (b : Bool) (r : List DOper) (a : List DV) (h : List Res) (hd : (d == some t) = false) :
  dops call (⟨d, o, some (t, b)⟩ :: r) a h = grpS call (splitG t b [] (⟨d, o, some (t, b)⟩ :: r)) t b a h := by
 conv => lhs; rw [← splitG_app t b (⟨d, o, some (t, b)⟩ :: r) [], dops_app]
 unfold grpS grpK runG
 have hd' : d ≠ some t := by simpa using hd
 generalize hx : a[t]? = x
 split
 ·rename_i c
  have hs := set_get hx
  rw [onG_eq call t b c _ [] a h hx]
  unfold joinK
  cases c <;> cases b <;> simp [hs]
 ·rw [onG_tup call t b _ [] a h hx]
 ·rename_i h1 h2
  simp only [splitG, ne_eq, hd', not_false_eq_true, and_self, true_and, true_or, if_true, dops, wants, hx]
  rfl
theorem dst_ne (x y : Nat) : ((some x : Option Nat) == some y) = (x == y) := rfl
theorem dst_no (y : Nat) : ((none : Option Nat) == some y) = false := rfl
section
variable (a : List DV) (h : List Res) (k : List DV → List Res → Option DRun) (c : Bool) (r1 r2 : Option DRun)
theorem run_g (call : CallG) (ops : List DOper) : runG call ops h a = dops call ops a h := rfl
theorem grpS_eq (call : CallG) (g r : List DOper) (t : Nat) (b : Bool) : grpS call (g, r) t b a h = grpK a t a[t]? (runG call (onG t b g) h) (runG call (onG t (!b) g) h) (runG call (onG t false g) h) (dops call r) := rfl
theorem joinK_t : joinK true r1 r2 k = seqK r1 k := rfl
theorem joinK_f : joinK false r1 r2 k = seqK r2 k := rfl
theorem joinK_oo (a1 a2 : List DV) (h1 h2 : List Res) : joinK c (some (.normal, a1, h1)) (some (.normal, a2, h2)) k = k (zipD c a1 a2) (if c = true then h1 else h2) := by
 rw [zipD_eq]; unfold joinK seqK; cases c <;> rfl
theorem joinK_n1 : joinK c none r2 k = if c = true then none else seqK r2 k := rfl
theorem joinK_n2 : joinK c r1 none k = if c = true then seqK r1 k else none := rfl
theorem joinK_p1 (v : DV) : joinK c (some (.pan v, a, h)) r2 k = if c = true then some (.pan v, a, h) else seqK r2 k := rfl
theorem joinK_p2 (v : DV) : joinK c r1 (some (.pan v, a, h)) k = if c = true then seqK r1 k else some (.pan v, a, h) := rfl
theorem joinK_i1 {p : Prop} [Decidable p] (x y : Option DRun) : joinK c (if p then x else y) r2 k = if p then joinK c x r2 k else joinK c y r2 k := by split <;> rfl
theorem joinK_i2 {p : Prop} [Decidable p] (x y : Option DRun) : joinK c r1 (if p then x else y) k = if p then joinK c r1 x k else joinK c r1 y k := by split <;> rfl
theorem zipD_c (x y : DV) (xs ys : List DV) : zipD c (x :: xs) (y :: ys) = iteD c x y :: zipD c xs ys := rfl
theorem zipD_n : zipD c [] [] = [] := by simp [zipD]
theorem iteD_s (x : DV) : iteD c x x = x := by simp [iteD]
theorem iteD_and (p : Bool) : iteD c (.d (.bool p)) (.d (.bool false)) = .d (.bool (c && p)) := by cases c <;> rfl
theorem iteD_or (p : Bool) : iteD c (.d (.bool true)) (.d (.bool p)) = .d (.bool (c || p)) := by cases c <;> rfl
theorem iteD_imp (p : Bool) : iteD c (.d (.bool p)) (.d (.bool true)) = .d (.bool (!c || p)) := by cases c <;> rfl
theorem iteD_nand (p : Bool) : iteD c (.d (.bool false)) (.d (.bool p)) = .d (.bool (!c && p)) := by cases c <;> rfl
theorem iteD_tf : iteD c (.d (.bool true)) (.d (.bool false)) = .d (.bool c) := by cases c <;> rfl
theorem iteD_ft : iteD c (.d (.bool false)) (.d (.bool true)) = .d (.bool (!c)) := by cases c <;> rfl
end
def slk : List (Nat × DV) → Nat → DV
 | [], _ => .d .undef
 | (k, v) :: r, t => if k = t then v else slk r t
def den (n : Nat) (s : List (Nat × DV)) : List DV := (List.range n).map (slk s)
def keepS : List Bool → Nat → List (Nat × DV) → List (Nat × DV)
 | [], _, _ => []
 | true :: m, k, s => (k, slk s k) :: keepS m (k + 1) s
 | false :: m, k, s => keepS m (k + 1) s
def joinS (c : Bool) : List (Nat × DV) → List (Nat × DV) → List (Nat × DV)
 | (k, x) :: r, (k', y) :: r' => if k = k' then (k, iteD c x y) :: joinS c r r' else if c = true then (k, x) :: r else (k', y) :: r'
 | s, s' => if c = true then s else s'
def idxS : Nat → List DV → List (Nat × DV)
 | _, [] => []
 | k, x :: xs => (k, x) :: idxS (k + 1) xs
def lowS (n : Nat) : List (Nat × DV) → Bool
 | [] => true
 | (_, v) :: r => v.low n && lowS n r
section
variable (n : Nat) (s : List (Nat × DV))
theorem den_len : (den n s).length = n := by simp [den]
theorem den_get (t : Nat) : (den n s)[t]? = if t < n then some (slk s t) else none := by
 simp only [den, List.getElem?_map]
 split
 ·rename_i h; rw [List.getElem?_range h]; rfl
 ·rename_i h; rw [List.getElem?_eq_none (by simpa using h)]; rfl
theorem den_getD (t : Nat) (d : DV) : (den n s).getD t d = if t < n then slk s t else d := by
 rw [List.getD_eq_getElem?_getD, den_get]
 split <;> rfl
theorem den_t (t : Nat) : ev (den n s) (.tmp t) = if t < n then slk s t else .d .undef := den_getD n s t _
theorem den_c (v : FV) : ev (den n s) (.con v) = .d v := rfl
theorem den_f (g : FuncId) : ev (den n s) (.fn g) = .d (.func (.func g) [] []) := rfl
theorem den_set (d : Nat) (v : DV) : (den n s).set d v = den n ((d, v) :: s) := by
 apply List.ext_getElem?
 intro t
 rw [den_get]
 simp only [slk]
 by_cases ht : d = t
 ·subst ht
  by_cases hd : d < n
  ·rw [List.getElem?_set_self (by rw [den_len]; exact hd)]; simp [hd]
  ·rw [List.getElem?_eq_none (by simp [den_len]; omega)]; simp [hd]
 ·rw [List.getElem?_set_ne ht, den_get]; simp [ht]
theorem den_put (d : Nat) (v : DV) : put (den n s) (some d) v = den n ((d, v) :: s) := den_set n s d v
theorem den_pno (v : DV) : put (den n s) none v = den n s := rfl
theorem look_keep (m : List Bool) : ∀ (k t : Nat), slk (keepS m k s) t = if k ≤ t ∧ m[t - k]? = some true then slk s t else .d .undef := by
 induction m with
 | nil => intro k t; simp [keepS, slk]
 | cons b m ih =>
  intro k t
  have hstep : ∀ (h : k < t), (b :: m)[t - k]? = m[t - (k + 1)]? := fun h => by
   rw [show t - k = (t - (k + 1)) + 1 from by omega, List.getElem?_cons_succ]
  cases b with
  | true =>
   simp only [keepS, slk, ih]
   by_cases h1 : k = t
   ·subst h1; simp
   ·by_cases h2 : k < t
    ·have e1 : k + 1 ≤ t := h2
     have e2 : k ≤ t := by omega
     simp only [h1, if_false, hstep h2, e1, e2, true_and]
    ·have e1 : ¬ k + 1 ≤ t := by omega
     have e2 : ¬ k ≤ t := by omega
     simp only [h1, if_false, e1, e2, false_and]
  | false =>
   simp only [keepS, ih]
   by_cases h1 : k = t
   ·subst h1; simp; omega
   ·by_cases h2 : k < t
    ·have e1 : k + 1 ≤ t := h2
     have e2 : k ≤ t := by omega
     simp only [hstep h2, e1, e2, true_and]
    ·have e1 : ¬ k + 1 ≤ t := by omega
     have e2 : ¬ k ≤ t := by omega
     simp only [e1, e2, false_and, if_false]
theorem mask_get (m : List Bool) : ∀ (a : List DV) (t : Nat), (mask m a)[t]? = (a[t]?).map fun x => if m[t]? = some true then x else .d .undef := by
 induction m with
 | nil =>
  intro a
  induction a with
  | nil => intro t; simp [mask]
  | cons x xs ih =>
   intro t
   simp only [mask]
   cases t with
   | zero => simp
   | succ t => simpa using ih t
 | cons b m ih =>
  intro a t
  cases a with
  | nil => cases b <;> simp [mask]
  | cons x xs =>
   cases b <;> cases t <;> simp [mask, ih]
theorem den_mask (m : List Bool) : mask m (den n s) = den n (keepS m 0 s) := by
 apply List.ext_getElem?
 intro t
 rw [mask_get, den_get, den_get, look_keep]
 by_cases ht : t < n
 ·simp [ht]
 ·simp [ht]
theorem look_join (c : Bool) : ∀ (s s' : List (Nat × DV)) (t : Nat), slk (joinS c s s') t = iteD c (slk s t) (slk s' t)
 | (k, x) :: r, (k', y) :: r', t => by
  simp only [joinS]
  split
  ·rename_i h
   subst h
   simp only [slk, look_join c r r' t]
   split <;> rfl
  ·cases c <;> simp [iteD]
 | [], s', t => by cases c <;> simp [joinS, iteD]
 | _ :: _, [], t => by cases c <;> simp [joinS, iteD]
theorem den_zip (c : Bool) (s' : List (Nat × DV)) : zipD c (den n s) (den n s') = den n (joinS c s s') := by
 rw [zipD_eq]
 unfold den
 rw [show slk (joinS c s s') = fun t => iteD c (slk s t) (slk s' t) from funext (look_join c s s')]
 cases c <;> rfl
theorem joinS_s (c : Bool) : joinS c s s = s := by
 induction s with
 | nil => simp [joinS]
 | cons p r ih => obtain ⟨k, x⟩ := p; simp [joinS, ih, iteD]
theorem joinS_c (c : Bool) (k k' : Nat) (x y : DV) (r r' : List (Nat × DV)) : joinS c ((k, x) :: r) ((k', y) :: r') = if k = k' then (k, iteD c x y) :: joinS c r r' else if c = true then (k, x) :: r else (k', y) :: r' := rfl
theorem look_low {m : Nat} : ∀ {s : List (Nat × DV)}, lowS m s = true → ∀ t, (slk s t).low m = true
 | [], _, t => rfl
 | (k, v) :: r, h, t => by
  simp only [lowS, Bool.and_eq_true] at h
  simp only [slk]
  split
  ·exact h.1
  ·exact look_low h.2 t
theorem lows_all {m : Nat} : ∀ {a : List DV}, (∀ x ∈ a, x.low m = true) → DV.lows m a = true
 | [], _ => rfl
 | x :: a, h => by
  simp only [DV.lows, Bool.and_eq_true]
  exact ⟨h x (by simp), lows_all fun y hy => h y (by simp [hy])⟩
theorem den_low {m : Nat} (h : lowS m s = true) : DV.lows m (den n s) = true := lows_all fun x hx => by
 simp only [den, List.mem_map] at hx
 obtain ⟨t, _, rfl⟩ := hx
 exact look_low h t
theorem look_idx : ∀ (xs : List DV) (k t : Nat), slk (idxS k xs) t = if k ≤ t then xs.getD (t - k) (.d .undef) else .d .undef
 | [], k, t => by simp [idxS, slk]
 | x :: xs, k, t => by
  simp only [idxS, slk, look_idx xs]
  by_cases h : k = t
  ·subst h; simp
  ·by_cases h2 : k < t
   ·have e1 : k + 1 ≤ t := h2
    have e2 : k ≤ t := by omega
    rw [if_neg h, if_pos e1, if_pos e2, show t - k = (t - (k + 1)) + 1 from by omega]
    rfl
   ·rw [if_neg h, if_neg (by omega), if_neg (by omega)]
theorem den_args (xs : List DV) (hn : xs.length ≤ n) : xs ++ List.replicate (n - xs.length) (.d .undef) = den n (idxS 0 xs) := by
 apply List.ext_getElem?
 intro t
 rw [den_get, look_idx]
 by_cases h : t < n
 ·simp only [h, if_true, Nat.zero_le, Nat.sub_zero]
  by_cases h2 : t < xs.length
  ·rw [List.getElem?_append_left h2, List.getElem?_eq_getElem h2]; simp [h2]
  ·rw [List.getElem?_append_right (by omega), List.getElem?_replicate]
   rw [if_pos (by omega)]
   simp [List.getD, List.getElem?_eq_none (by omega : xs.length ≤ t)]
 ·rw [List.getElem?_eq_none (by simp; omega)]; simp [h]
theorem bod_den (call : CallG) (loop : LoopF) (F : AFunc) (args : List DV) (h : List Res) (hg : F.guard = none) (hn : decide (args.length ≤ F.ntmps) = true) : dbody call loop F args h = bodK F h.length (dexec call loop F.body (den F.ntmps (idxS 0 args)) h) := by
 rw [bod_eq, drun_no call loop hg, den_args _ _ (by simpa using hn)]
theorem set_d (t : Nat) (v : DV) : setOpd (den n s) (.tmp t) v = den n ((t, v) :: s) := den_set n s t v
theorem set_dc (c : FV) (v : DV) : setOpd (den n s) (.con c) v = den n s := rfl
theorem res_t (h : List Res) (t : Nat) : dresult (den n s) h (.tmp t) = some (if t < n then slk s t else .d .undef) := by
 rw [dresult, den_getD]
end
def agreeS (s s' : List (Nat × DV)) : List Nat → Prop
 | [] => True
 | k :: r => slk s k = slk s' k ∧ agreeS s s' r
theorem slk_no : ∀ {s : List (Nat × DV)} {t : Nat}, t ∉ s.map (·.1) → slk s t = .d .undef
 | [], _, _ => rfl
 | (k, v) :: r, t, h => by
  simp only [List.map_cons, List.mem_cons, not_or] at h
  simp only [slk, if_neg (fun e => h.1 (Eq.symm e))]
  exact slk_no h.2
theorem agree_mem {s s' : List (Nat × DV)} : ∀ {l : List Nat}, agreeS s s' l → ∀ t ∈ l, slk s t = slk s' t
 | _ :: _, h, t, ht => by
  rcases List.mem_cons.1 ht with rfl | ht
  ·exact h.1
  ·exact agree_mem h.2 t ht
theorem den_eq (n : Nat) (s s' : List (Nat × DV)) (h : agreeS s s' (s.map (·.1) ++ s'.map (·.1))) : (den n s = den n s') = True := by
 refine eq_true ?_
 unfold den
 refine List.map_congr_left fun t _ => ?_
 by_cases h1 : t ∈ s.map (·.1) ++ s'.map (·.1)
 ·exact agree_mem h t h1
 ·simp only [List.mem_append, not_or] at h1
  rw [slk_no h1.1, slk_no h1.2]
section
variable {p : Prop} [Decidable p]
theorem if_some {α : Type} (x y : α) : (if p then some x else some y) = some (if p then x else y) := by split <;> rfl
theorem if_val (x y : DV) (h : List Res) : (if p then DOut.val x h else DOut.val y h) = DOut.val (if p then x else y) h := by split <;> rfl
theorem if_d (x y : FV) : (if p then DV.d x else DV.d y) = DV.d (if p then x else y) := by split <;> rfl
theorem if_int (k : IntKind) (x y : Int) : (if p then FV.int k x else FV.int k y) = FV.int k (if p then x else y) := by split <;> rfl
theorem if_bool (x y : Bool) : (if p then FV.bool x else FV.bool y) = FV.bool (if p then x else y) := by split <;> rfl
theorem if_str (x y : ByteArray) : (if p then FV.str x else FV.str y) = FV.str (if p then x else y) := by split <;> rfl
theorem if_slice (n : Nat) (x y : List (List FV)) : (if p then FV.slice n x else FV.slice n y) = FV.slice n (if p then x else y) := by split <;> rfl
theorem if_agg (x y : List FV) : (if p then FV.agg x else FV.agg y) = FV.agg (if p then x else y) := by split <;> rfl
theorem if_tup (x y : List FV) : (if p then FV.tup x else FV.tup y) = FV.tup (if p then x else y) := by split <;> rfl
theorem if_cons (x y : FV) (xs ys : List FV) : (if p then x :: xs else y :: ys) = (if p then x else y) :: (if p then xs else ys) := by split <;> rfl
end
theorem fac : type_of% @if_some ∧ type_of% @if_val ∧ type_of% @if_d ∧ type_of% @if_int ∧ type_of% @if_bool ∧ type_of% @if_str ∧ type_of% @if_slice ∧ type_of% @if_agg ∧ type_of% @if_tup ∧ type_of% @if_cons ∧ type_of% @ite_self.{1} :=
 ⟨@if_some, @if_val, @if_d, @if_int, @if_bool, @if_str, @if_slice, @if_agg, @if_tup, @if_cons, @ite_self.{1}⟩
theorem wrap_i32 {n : Int} (h1 : -2147483648 ≤ n) (h2 : n < 2147483648) : IntKind.i32.wrap n = n := by
 simp only [IntKind.wrap, IntKind.signed, IntKind.bits, Bool.true_and, Bool.false_and, decide_eq_true_eq, Bool.false_eq_true, if_false, show ((2 : Int) ^ 32) = 4294967296 from rfl, show ((2 : Int) ^ (32 - 1)) = 2147483648 from rfl]
 try split
 all_goals omega
theorem wrap_u64 {n : Int} (h1 : 0 ≤ n) (h2 : n < 18446744073709551616) : IntKind.u64.wrap n = n := by
 simp only [IntKind.wrap, IntKind.signed, IntKind.bits, Bool.true_and, Bool.false_and, decide_eq_true_eq, Bool.false_eq_true, if_false, show ((2 : Int) ^ 64) = 18446744073709551616 from rfl]
 try split
 all_goals omega
theorem wl_p (n : Nat) (h : n < 9223372036854775808) : IntKind.i64.wrap (no_index (OfNat.ofNat n)) = OfNat.ofNat n := wrap_i64 (n := (n : Int)) (by omega) (by omega)
theorem wl_n (n : Nat) (h : n < 9223372036854775808) : IntKind.i64.wrap (-(no_index (OfNat.ofNat n))) = -(OfNat.ofNat n) := wrap_i64 (n := -(n : Int)) (by omega) (by omega)
theorem wl_32 (n : Nat) (h : n < 2147483648) : IntKind.i32.wrap (no_index (OfNat.ofNat n)) = OfNat.ofNat n := wrap_i32 (n := (n : Int)) (by omega) (by omega)
theorem wl_8 (n : Nat) (h : n < 256) : IntKind.u8.wrap (no_index (OfNat.ofNat n)) = OfNat.ofNat n := wrap_u8 (n := (n : Int)) (by omega) (by omega)
theorem wl_u (n : Nat) (h : n < 18446744073709551616) : IntKind.u64.wrap (no_index (OfNat.ofNat n)) = OfNat.ofNat n := wrap_u64 (n := (n : Int)) (by omega) (by omega)
theorem one_vslc (i g s o n : Nat) : (DV.vslc i g s o n).one = true := rfl
theorem one_eptr (i g k o : Nat) : (DV.eptr i g k o).one = true := rfl
theorem one_mref (i : Nat) : (DV.mref i).one = true := rfl
set_option maxRecDepth 10000 in
theorem stq :
  type_of% @dops_end ∧
  type_of% @List.length_cons.{0} ∧
  type_of% @List.length_cons.{1} ∧
  type_of% @List.length_nil.{0} ∧
  type_of% @List.length_nil.{1} ∧
  type_of% @List.cons_append.{0} ∧
  type_of% @List.cons_append.{1} ∧
  type_of% @List.nil_append.{0} ∧
  type_of% @List.nil_append.{1} ∧
  type_of% @List.append_nil.{0} ∧
  type_of% @List.append_nil.{1} ∧
  type_of% @List.set_cons_zero.{0} ∧
  type_of% @List.set_cons_zero.{1} ∧
  type_of% @List.set_cons_succ.{0} ∧
  type_of% @List.set_cons_succ.{1} ∧
  type_of% @List.set_nil.{0} ∧
  type_of% @List.set_nil.{1} ∧
  type_of% @List.getD_cons_zero.{0} ∧
  type_of% @List.getD_cons_zero.{1} ∧
  type_of% @List.getD_cons_succ.{0} ∧
  type_of% @List.getD_cons_succ.{1} ∧
  type_of% @List.getD_nil.{0} ∧
  type_of% @List.getD_nil.{1} ∧
  type_of% @List.map_cons.{0, 0} ∧
  type_of% @List.map_cons.{1, 1} ∧
  type_of% @List.map_nil.{0, 0} ∧
  type_of% @List.map_nil.{1, 1} ∧
  type_of% @List.all_cons.{0} ∧
  type_of% @List.all_cons.{1} ∧
  type_of% @List.all_nil.{0} ∧
  type_of% @List.all_nil.{1} ∧
  type_of% @one_d1 ∧
  type_of% @one_ptr ∧
  type_of% @one_row ∧
  type_of% @one_clo ∧
  type_of% @one_if ∧
  type_of% @one_int ∧
  type_of% @one_bool ∧
  type_of% @one_str ∧
  type_of% @one_slice ∧
  type_of% @one_ref ∧
  type_of% @one_nilp ∧
  type_of% @one_iface ∧
  type_of% @one_nili ∧
  type_of% @one_func ∧
  type_of% @one_nilf ∧
  type_of% @Bool.and_self ∧
  type_of% @Bool.and_true ∧
  type_of% @Bool.true_and ∧
  type_of% @Bool.and_false ∧
  type_of% @Bool.false_and ∧
  type_of% @Bool.or_true ∧
  type_of% @Bool.or_false ∧
  type_of% @Bool.true_or ∧
  type_of% @Bool.false_or ∧
  type_of% @if_true.{0} ∧
  type_of% @if_true.{1} ∧
  type_of% @flat_comp ∧
  type_of% @flat_map ∧
  type_of% @List.mapM_cons.{0, 0, 0} ∧
  type_of% @List.mapM_cons.{1, 1, 1} ∧
  type_of% @List.mapM_nil.{0, 0, 0} ∧
  type_of% @List.mapM_nil.{1, 1, 1} ∧
  type_of% @Option.pure_def.{0} ∧
  type_of% @Option.pure_def.{1} ∧
  type_of% @Option.bind_eq_bind.{0} ∧
  type_of% @Option.bind_eq_bind.{1} ∧
  type_of% @Option.bind_some.{0, 0} ∧
  type_of% @Option.bind_some.{1, 1} ∧
  type_of% @Option.bind_none.{0, 0} ∧
  type_of% @Option.bind_none.{1, 1} ∧
  type_of% @Option.map_some.{0, 0} ∧
  type_of% @Option.map_some.{1, 1} ∧
  type_of% @Option.map_none.{0, 0} ∧
  type_of% @Option.map_none.{1, 1} ∧
  type_of% @List.getElem?_cons_zero.{0} ∧
  type_of% @List.getElem?_cons_zero.{1} ∧
  type_of% @List.getElem?_cons_succ.{0} ∧
  type_of% @List.getElem?_cons_succ.{1} ∧
  type_of% @List.getElem?_nil.{0} ∧
  type_of% @List.getElem?_nil.{1} ∧
  type_of% @Nat.zero_add ∧
  type_of% @Nat.add_zero ∧
  type_of% @bne_self_eq_false.{0} ∧
  type_of% @bne_self_eq_false.{1} ∧
  type_of% @beq_self_eq_true.{0} ∧
  type_of% @beq_self_eq_true.{1} ∧
  type_of% @Bool.false_eq_true ∧
  type_of% @if_false.{0} ∧
  type_of% @if_false.{1} ∧
  type_of% @ne_eq.{0} ∧
  type_of% @ne_eq.{1} ∧
  type_of% @not_true_eq_false ∧
  type_of% @not_false_eq_true ∧
  type_of% @Bool.not_true ∧
  type_of% @Bool.not_false ∧
  type_of% @beq_iff_eq.{0} ∧
  type_of% @beq_iff_eq.{1} ∧
  type_of% @bne_iff_ne.{0} ∧
  type_of% @bne_iff_ne.{1} ∧
  type_of% @List.take_zero.{0} ∧
  type_of% @List.take_zero.{1} ∧
  type_of% @List.take_nil.{0} ∧
  type_of% @List.take_nil.{1} ∧
  type_of% @dcallV_fn ∧
  type_of% @dcallV_fnc ∧
  type_of% @dcallV_clo ∧
  type_of% @dcallV_yld ∧
  type_of% @List.drop_zero.{0} ∧
  type_of% @List.drop_zero.{1} ∧
  type_of% @List.drop_succ_cons.{0} ∧
  type_of% @List.drop_succ_cons.{1} ∧
  type_of% @List.take_succ_cons.{0} ∧
  type_of% @List.take_succ_cons.{1} ∧
  type_of% @List.not_mem_nil.{0} ∧
  type_of% @List.not_mem_nil.{1} ∧
  type_of% @false_implies ∧
  type_of% @implies_true.{0} ∧
  type_of% @implies_true.{1} ∧
  type_of% @decide_true ∧
  type_of% @decide_false ∧
  type_of% @decide_eq_true_eq ∧
  type_of% @Int.toNat_natCast ∧
  type_of% @Int.natCast_nonneg ∧
  type_of% @and_self ∧
  type_of% @and_true ∧
  type_of% @true_and ∧
  type_of% @List.foldlM_cons.{0, 0, 0} ∧
  type_of% @List.foldlM_cons.{1, 1, 1} ∧
  type_of% @List.foldlM_nil.{0, 0, 0} ∧
  type_of% @List.foldlM_nil.{1, 1, 1} ∧
  type_of% @List.length_append.{0} ∧
  type_of% @List.length_append.{1} ∧
  type_of% @List.length_map.{0, 0} ∧
  type_of% @List.length_map.{1, 1} ∧
  type_of% @Nat.le_refl ∧
  type_of% @List.all_map.{0, 0} ∧
  type_of% @List.all_map.{1, 1} ∧
  type_of% @Function.comp_def.{0, 0, 0} ∧
  type_of% @Function.comp_def.{1, 1, 1} ∧
  type_of% @Bool.false_beq ∧
  type_of% @Bool.true_beq ∧
  type_of% @gt_iff_lt.{0} ∧
  type_of% @gt_iff_lt.{1} ∧
  type_of% @ge_iff_le.{0} ∧
  type_of% @ge_iff_le.{1} ∧
  type_of% @cast_lit ∧
  type_of% @Bool.not_eq_true ∧
  type_of% @Int.toNat_zero ∧
  type_of% @Nat.zero_mul ∧
  type_of% @and_false ∧
  type_of% @false_and ∧
  type_of% @or_false ∧
  type_of% @or_true ∧
  type_of% @true_or ∧
  type_of% @false_or ∧
  type_of% @Int.le_refl ∧
  type_of% @Int.lt_irrefl ∧
  type_of% @List.mem_cons.{0} ∧
  type_of% @List.mem_cons.{1} ∧
  type_of% @forall_eq_or_imp.{0} ∧
  type_of% @forall_eq_or_imp.{1} ∧
  type_of% @forall_eq.{0} ∧
  type_of% @forall_eq.{1} ∧
  type_of% @List.append_assoc.{0} ∧
  type_of% @List.append_assoc.{1} ∧
  type_of% @List.length_set.{0} ∧
  type_of% @List.length_set.{1} ∧
  type_of% @List.set_set.{0} ∧
  type_of% @List.set_set.{1} ∧
  type_of% @DOut.val.injEq ∧
  type_of% @one_bslc ∧
  type_of% @dc_fn ∧
  type_of% @dexec.eq_1 ∧
  type_of% @dexec.eq_2 ∧
  type_of% @dexec.eq_7 ∧
  type_of% @dexec.eq_9 ∧
  type_of% @dexec.eq_10 ∧
  type_of% @dop.eq_1 ∧
  type_of% @dop.eq_2 ∧
  type_of% @dop.eq_3 ∧
  type_of% @dop.eq_5 ∧
  type_of% @dop.eq_6 ∧
  type_of% @dop.eq_7 ∧
  type_of% @dop.eq_8 ∧
  type_of% @dop.eq_9 ∧
  type_of% @dop.eq_10 ∧
  type_of% @dop.eq_11 ∧
  type_of% @dop.eq_12 ∧
  type_of% @dop.eq_13 ∧
  type_of% @dop.eq_14 ∧
  type_of% @dop.eq_15 ∧
  type_of% @dop.eq_16 ∧
  type_of% @dop.eq_17 ∧
  type_of% @dop.eq_18 ∧
  type_of% @dop.eq_19 ∧
  type_of% @dop.eq_20 ∧
  type_of% @dop.eq_21 ∧
  type_of% @dop.eq_22 ∧
  type_of% @dop.eq_23 ∧
  type_of% @dop.eq_24 ∧
  type_of% @dop.eq_25 ∧
  type_of% @dop.eq_26 ∧
  type_of% @dop.eq_27 ∧
  type_of% @dop.eq_28 ∧
  type_of% @dop.eq_29 ∧
  type_of% @dop.eq_30 ∧
  type_of% @dop.eq_31 ∧
  type_of% @dop.eq_32 ∧
  type_of% @dop.eq_33 ∧
  type_of% @dop.eq_34 ∧
  type_of% @dop.eq_35 ∧
  type_of% @dop.eq_36 ∧
  type_of% @dop.eq_37 ∧
  type_of% @dop.eq_38 ∧
  type_of% @dop.eq_39 ∧
  type_of% @dop.eq_40 ∧
  type_of% @dop.eq_41 ∧
  type_of% @dop.eq_42 ∧
  type_of% @dop.eq_43 ∧
  type_of% @dop.eq_44 ∧
  type_of% @dop.eq_45 ∧
  type_of% @dop.eq_46 ∧
  type_of% @dop.eq_47 ∧
  type_of% @dop.eq_48 ∧
  type_of% @dop.eq_49 ∧
  type_of% @dop.eq_50 ∧
  type_of% @dop.eq_51 ∧
  type_of% @dop.eq_52 ∧
  type_of% @dop.eq_53 ∧
  type_of% @dop.eq_54 ∧
  type_of% @dop.eq_55 ∧
  type_of% @dop.eq_56 ∧
  type_of% @dop.eq_57 ∧
  type_of% @dop.eq_58 ∧
  type_of% @dop.eq_59 ∧
  type_of% @dop.eq_60 ∧
  type_of% @dop.eq_61 ∧
  type_of% @dop.eq_62 ∧
  type_of% @one_vslc ∧
  type_of% @one_eptr ∧
  type_of% @one_mref ∧
  type_of% @go_none ∧
  type_of% @go_grp ∧
  type_of% @op_pick ∧
  type_of% @ex_seq ∧
  type_of% @ex_blk ∧
  type_of% @ex_cond ∧
  type_of% @ex_draw ∧
  type_of% @bod_den ∧
  type_of% @same_nil ∧
  type_of% @opK_ite ∧
  type_of% @seqK_ite ∧
  type_of% @blkK_ite ∧
  type_of% @drawK_ite ∧
  type_of% @bodK_ite ∧
  type_of% @rndK_ite ∧
  type_of% @omap_ite ∧
  type_of% @opK_v ∧
  type_of% @opK_p ∧
  type_of% @opK_n ∧
  type_of% @seqK_o ∧
  type_of% @seqK_r ∧
  type_of% @seqK_e ∧
  type_of% @seqK_p ∧
  type_of% @seqK_n ∧
  type_of% @blkK_o ∧
  type_of% @blkK_r ∧
  type_of% @blkK_e ∧
  type_of% @blkK_p ∧
  type_of% @blkK_n ∧
  type_of% @drawK_o ∧
  type_of% @drawK_p ∧
  type_of% @drawK_n ∧
  type_of% @bodK_o ∧
  type_of% @bodK_r ∧
  type_of% @bodK_p ∧
  type_of% @bodK_n ∧
  type_of% @outK_s ∧
  type_of% @rndK_o ∧
  type_of% @rndK_r ∧
  type_of% @rndK_e ∧
  type_of% @rndK_p ∧
  type_of% @rndK_n ∧
  type_of% @den_get ∧
  type_of% @den_getD ∧
  type_of% @den_t ∧
  type_of% @den_c ∧
  type_of% @den_f ∧
  type_of% @den_set ∧
  type_of% @den_put ∧
  type_of% @den_pno ∧
  type_of% @den_mask ∧
  type_of% @den_zip ∧
  type_of% @joinS_s ∧
  type_of% @joinS_c ∧
  type_of% @den_eq ∧
  type_of% @Prod.mk.injEq.{0,0} ∧
  type_of% @den_low ∧
  type_of% @set_d ∧
  type_of% @set_dc ∧
  type_of% @run_eq ∧
  type_of% @skip_eq ∧
  type_of% @exT_eq ∧
  type_of% @pick_eq ∧
  type_of% @run_g ∧
  type_of% @grpS_eq ∧
  type_of% @grpK.eq_1 ∧
  type_of% @grpK.eq_2 ∧
  type_of% @joinK_oo ∧
  type_of% @joinK_n1 ∧
  type_of% @joinK_n2 ∧
  type_of% @joinK_p1 ∧
  type_of% @joinK_p2 ∧
  type_of% @joinK_i1 ∧
  type_of% @joinK_i2 ∧
  type_of% @iteD_s ∧
  type_of% @iteD_tf ∧
  type_of% @iteD_ft ∧
  type_of% @iteD_and ∧
  type_of% @iteD_or ∧
  type_of% @iteD_imp ∧
  type_of% @iteD_nand ∧
  type_of% @ite_self.{1} ∧
  type_of% @ite_self.{2} ∧
  type_of% @dst_ne ∧
  type_of% @dst_no ∧
  type_of% @Option.some.injEq.{0} ∧
  type_of% @List.take_length.{0} ∧
  type_of% @wl_p ∧
  type_of% @wl_n ∧
  type_of% @wl_32 ∧
  type_of% @wl_8 ∧
  type_of% @wl_u ∧
  type_of% @byOpd.eq_1 ∧
  type_of% @Bool.not_eq_true' ∧
  type_of% @Bool.not_eq_false' ∧
  type_of% @Bool.and_eq_true ∧
  type_of% @Bool.or_eq_true :=
 ⟨@dops_end, @List.length_cons.{0}, @List.length_cons.{1}, @List.length_nil.{0}, @List.length_nil.{1}, @List.cons_append.{0}, @List.cons_append.{1}, @List.nil_append.{0}, @List.nil_append.{1}, @List.append_nil.{0}, @List.append_nil.{1}, @List.set_cons_zero.{0}, @List.set_cons_zero.{1}, @List.set_cons_succ.{0}, @List.set_cons_succ.{1}, @List.set_nil.{0}, @List.set_nil.{1}, @List.getD_cons_zero.{0}, @List.getD_cons_zero.{1}, @List.getD_cons_succ.{0}, @List.getD_cons_succ.{1}, @List.getD_nil.{0}, @List.getD_nil.{1}, @List.map_cons.{0, 0}, @List.map_cons.{1, 1}, @List.map_nil.{0, 0}, @List.map_nil.{1, 1}, @List.all_cons.{0}, @List.all_cons.{1}, @List.all_nil.{0}, @List.all_nil.{1}, @one_d1, @one_ptr, @one_row, @one_clo, @one_if, @one_int, @one_bool, @one_str, @one_slice, @one_ref, @one_nilp, @one_iface, @one_nili, @one_func, @one_nilf, @Bool.and_self, @Bool.and_true, @Bool.true_and, @Bool.and_false, @Bool.false_and, @Bool.or_true, @Bool.or_false, @Bool.true_or, @Bool.false_or, @if_true.{0}, @if_true.{1}, @flat_comp, @flat_map, @List.mapM_cons.{0, 0, 0}, @List.mapM_cons.{1, 1, 1}, @List.mapM_nil.{0, 0, 0}, @List.mapM_nil.{1, 1, 1}, @Option.pure_def.{0}, @Option.pure_def.{1}, @Option.bind_eq_bind.{0}, @Option.bind_eq_bind.{1}, @Option.bind_some.{0, 0}, @Option.bind_some.{1, 1}, @Option.bind_none.{0, 0}, @Option.bind_none.{1, 1}, @Option.map_some.{0, 0}, @Option.map_some.{1, 1}, @Option.map_none.{0, 0}, @Option.map_none.{1, 1}, @List.getElem?_cons_zero.{0}, @List.getElem?_cons_zero.{1}, @List.getElem?_cons_succ.{0}, @List.getElem?_cons_succ.{1}, @List.getElem?_nil.{0}, @List.getElem?_nil.{1}, @Nat.zero_add, @Nat.add_zero, @bne_self_eq_false.{0}, @bne_self_eq_false.{1}, @beq_self_eq_true.{0}, @beq_self_eq_true.{1}, @Bool.false_eq_true, @if_false.{0}, @if_false.{1}, @ne_eq.{0}, @ne_eq.{1}, @not_true_eq_false, @not_false_eq_true, @Bool.not_true, @Bool.not_false, @beq_iff_eq.{0}, @beq_iff_eq.{1}, @bne_iff_ne.{0}, @bne_iff_ne.{1}, @List.take_zero.{0}, @List.take_zero.{1}, @List.take_nil.{0}, @List.take_nil.{1}, @dcallV_fn, @dcallV_fnc, @dcallV_clo, @dcallV_yld, @List.drop_zero.{0}, @List.drop_zero.{1}, @List.drop_succ_cons.{0}, @List.drop_succ_cons.{1}, @List.take_succ_cons.{0}, @List.take_succ_cons.{1}, @List.not_mem_nil.{0}, @List.not_mem_nil.{1}, @false_implies, @implies_true.{0}, @implies_true.{1}, @decide_true, @decide_false, @decide_eq_true_eq, @Int.toNat_natCast, @Int.natCast_nonneg, @and_self, @and_true, @true_and, @List.foldlM_cons.{0, 0, 0}, @List.foldlM_cons.{1, 1, 1}, @List.foldlM_nil.{0, 0, 0}, @List.foldlM_nil.{1, 1, 1}, @List.length_append.{0}, @List.length_append.{1}, @List.length_map.{0, 0}, @List.length_map.{1, 1}, @Nat.le_refl, @List.all_map.{0, 0}, @List.all_map.{1, 1}, @Function.comp_def.{0, 0, 0}, @Function.comp_def.{1, 1, 1}, @Bool.false_beq, @Bool.true_beq, @gt_iff_lt.{0}, @gt_iff_lt.{1}, @ge_iff_le.{0}, @ge_iff_le.{1}, @cast_lit, @Bool.not_eq_true, @Int.toNat_zero, @Nat.zero_mul, @and_false, @false_and, @or_false, @or_true, @true_or, @false_or, @Int.le_refl, @Int.lt_irrefl, @List.mem_cons.{0}, @List.mem_cons.{1}, @forall_eq_or_imp.{0}, @forall_eq_or_imp.{1}, @forall_eq.{0}, @forall_eq.{1}, @List.append_assoc.{0}, @List.append_assoc.{1}, @List.length_set.{0}, @List.length_set.{1}, @List.set_set.{0}, @List.set_set.{1}, @DOut.val.injEq, @one_bslc, @dc_fn, @dexec.eq_1, @dexec.eq_2, @dexec.eq_7, @dexec.eq_9, @dexec.eq_10, @dop.eq_1, @dop.eq_2, @dop.eq_3, @dop.eq_5, @dop.eq_6, @dop.eq_7, @dop.eq_8, @dop.eq_9, @dop.eq_10, @dop.eq_11, @dop.eq_12, @dop.eq_13, @dop.eq_14, @dop.eq_15, @dop.eq_16, @dop.eq_17, @dop.eq_18, @dop.eq_19, @dop.eq_20, @dop.eq_21, @dop.eq_22, @dop.eq_23, @dop.eq_24, @dop.eq_25, @dop.eq_26, @dop.eq_27, @dop.eq_28, @dop.eq_29, @dop.eq_30, @dop.eq_31, @dop.eq_32, @dop.eq_33, @dop.eq_34, @dop.eq_35, @dop.eq_36, @dop.eq_37, @dop.eq_38, @dop.eq_39, @dop.eq_40, @dop.eq_41, @dop.eq_42, @dop.eq_43, @dop.eq_44, @dop.eq_45, @dop.eq_46, @dop.eq_47, @dop.eq_48, @dop.eq_49, @dop.eq_50, @dop.eq_51, @dop.eq_52, @dop.eq_53, @dop.eq_54, @dop.eq_55, @dop.eq_56, @dop.eq_57, @dop.eq_58, @dop.eq_59, @dop.eq_60, @dop.eq_61, @dop.eq_62, @one_vslc, @one_eptr, @one_mref, @go_none, @go_grp, @op_pick, @ex_seq, @ex_blk, @ex_cond, @ex_draw, @bod_den, @same_nil, @opK_ite, @seqK_ite, @blkK_ite, @drawK_ite, @bodK_ite, @rndK_ite, @omap_ite, @opK_v, @opK_p, @opK_n, @seqK_o, @seqK_r, @seqK_e, @seqK_p, @seqK_n, @blkK_o, @blkK_r, @blkK_e, @blkK_p, @blkK_n, @drawK_o, @drawK_p, @drawK_n, @bodK_o, @bodK_r, @bodK_p, @bodK_n, @outK_s, @rndK_o, @rndK_r, @rndK_e, @rndK_p, @rndK_n, @den_get, @den_getD, @den_t, @den_c, @den_f, @den_set, @den_put, @den_pno, @den_mask, @den_zip, @joinS_s, @joinS_c, @den_eq, @Prod.mk.injEq.{0,0}, @den_low, @set_d, @set_dc, @run_eq, @skip_eq, @exT_eq, @pick_eq, @run_g, @grpS_eq, @grpK.eq_1, @grpK.eq_2, @joinK_oo, @joinK_n1, @joinK_n2, @joinK_p1, @joinK_p2, @joinK_i1, @joinK_i2, @iteD_s, @iteD_tf, @iteD_ft, @iteD_and, @iteD_or, @iteD_imp, @iteD_nand, @ite_self.{1}, @ite_self.{2}, @dst_ne, @dst_no, @Option.some.injEq.{0}, @List.take_length.{0}, @wl_p, @wl_n, @wl_32, @wl_8, @wl_u, @byOpd.eq_1, @Bool.not_eq_true', @Bool.not_eq_false', @Bool.and_eq_true, @Bool.or_eq_true⟩
end Go.Deepv
namespace Go.Deepv
open Go.RowKit
def GW (W : World) : Glob := fun b o v => b < W.heap.size ∧ W.cell? ⟨b, o, none⟩ = v
theorem gw_start (W : World) : ∀ b o v, GW W b o v → b < W.heap.size ∧ W.cell? ⟨b, o, none⟩ = v := fun _ _ _ h => h
theorem gw_cell {W w : World} (h : ∀ b o v, GW W b o v → w.cell? ⟨b, o, none⟩ = v) {b o : Nat} {v : Value} (hv : W.cell? ⟨b, o, none⟩ = some v) : w.cell? ⟨b, o, none⟩ = some v := by
 refine h b o _ ⟨?_, hv⟩
 unfold World.cell? at hv
 cases hb : W.heap[b]? with
 | none => simp only at hv; rw [hb] at hv; cases hv
 | some x => exact (Array.getElem?_eq_some_iff.1 hb).1
theorem gw_tab {P : Program} {W w : World} {n : String} {k : IntKind} {zs : List Int} (hz : zs ≠ []) (h : ∀ b o v, GW W b o v → w.cell? ⟨b, o, none⟩ = v) (ht : Lib.TabIs P W n k zs) : Lib.TabIs P w n k zs := by
 unfold Lib.TabIs World.var? at ht ⊢
 cases hg : P.globalNamed n with
 | none => rw [hg] at ht; cases ht
 | some b =>
  rw [hg] at ht
  simp only [Option.bind_some] at ht ⊢
  split at ht
  ·rename_i cs e f hc
   simp only [Option.some.injEq] at ht
   have hb : b < W.heap.size := (Array.getElem?_eq_some_iff.1 hc).1
   have key : ∀ o, w.cell? ⟨b, o, none⟩ = cs[o]? := fun o => by
    refine h b o _ ⟨hb, ?_⟩
    unfold World.cell?
    rw [hc]
    rfl
   have k0 := key 0
   have p0 : ∃ v, cs[0]? = some v := by
    rw [ht]
    cases zs with
    | nil => exact absurd rfl hz
    | cons z zs => exact ⟨_, rfl⟩
   obtain ⟨v, p0⟩ := p0
   rw [p0] at k0
   unfold World.cell? at key k0
   split at k0
   ·rename_i c e f hc'
    simp only [hc'] at key ⊢
    rw [← ht]
    congr 1
    refine Array.ext' (List.ext_getElem? fun o => ?_)
    have := key o
    simpa using this
   ·cases k0
  ·cases ht
theorem cell_iface {P : Program} {w : World} {g : Nat} {t : TypeId} {zero : Array Value} {ms : Array (String × TypeId)}
  (h : w.ShapedOpen P) (hg : g < P.globals.size)
  (h0 : ((begin P (fun _ _ => 0) default).world.heap[g]?).bind Obj.row? = some (zero, t)) (hz : zero.size = 1)
  (hb : P.buildable t = true) (hc : P.cellTypes P.depth t = some [t]) (hu : P.underlying t = some (.interface ms)) :
  ∃ v, w.cell? ⟨g, 0, none⟩ = some v ∧ (v = .nilIface ∨ ∃ te pe, v = .iface te pe) := by
 obtain ⟨cs, hh, hs, hr⟩ := h.1 g zero t hg h0
 obtain ⟨ts, hts, _, hall⟩ := hr hb
 rw [hc] at hts
 cases hts
 have h1 : 0 < cs.size := by omega
 obtain ⟨u, hu', hok⟩ := hall 0 cs[0] (by simp [h1])
 have : u = t := by simpa using hu'.symm
 subst this
 have hcell : w.cell? ⟨g, 0, none⟩ = some cs[0] := by simp [World.cell?, hh, h1]
 refine ⟨_, hcell, ?_⟩
 unfold Cell.ok at hok
 rw [hu] at hok
 cases hv : cs[0] <;> rw [hv] at hok <;> simp at hok
 all_goals first | exact .inl rfl | exact .inr ⟨_, _, rfl⟩
section
variable {H : Type} {enc : TypeId × Value → H}
theorem returns_all {C : Checked} {os : Os} {f : FuncId} {fn : Func} {s : ChangeSpec} {conds : List PathCond} {apart fresh handsOn again : Bool} {X : World → Array Value → Prop}
  (hX : ∀ (w w' : World) (args : Array Value), w.heap = w'.heap → X w args → X w' args)
  (own : ownKnob C.prog.godebug = none) (started : os.Started) (noInit : C.prog.inits.idxOf? f = none) (hfn : C.prog.funcs[f]? = some fn)
  (witness : ∃ (w : World) (tape : Tape) (i : Input), w.os = os ∧ (w.forCall tape i).Shaped C.prog ∧ i.vars = [] ∧ Input.okWide C.prog (w.forCall tape i) .any w.heap.size f i ∧
   ((s.pre enc C.prog fn conds apart (w.forCall tape i).memory i.args ∧ X (w.forCall tape i).memory i.args) ∧ sizedMet enc C.prog fn (OpenSpec.ofChange s) apart (w.forCall tape i).memory i.args) ∧ ({} : Assume).holds C.prog (lone (Frame.enter C.prog f i.args .normal) [] (w.forCall tape i)))
  (contract : ∀ (W : World) (base : Nat) (args : Array Value) (ds gs : List (DataW H)) (before : List MemPlace),
   (∀ (j : Nat) t v, fn.params[j]? = some t → args[j]? = some v → Value.okWide C.prog W .any base t v) →
   DataW.Whole enc C.prog fn.params.toList s.vars apart W args.toList ds gs before →
   conds.all (PathCond.test C.prog ⟨fn.params.toList, ds, s.plain.varTypes C.prog, gs⟩) = true →
   (DataW.weightsEach C.prog (fn.params.toList ++ s.plain.varTypes C.prog) (ds ++ gs)).all (· ≤ reachBytes) = true → X W args → W.ShapedOpen C.prog →
   Calls C.prog f args W fun e W' => ∃ v, e = .returned v ∧ s.post enc C.prog fn apart fresh handsOn again W args v W') :
  ReturnsInHanded {} C os f .any (fun w args => (s.pre enc C.prog fn conds apart w args ∧ X w args) ∧ sizedMet enc C.prog fn (OpenSpec.ofChange s) apart w args) (s.post enc C.prog fn apart fresh handsOn again) := by
 refine returnsInHanded_of_calls own started noInit witness ?_
 intro w tape i _ hsh _ hok hpre _
 obtain ⟨_, _, _, fn', hfn', _, _, _, _, hval⟩ := hok
 have e : fn' = fn := Option.some.inj (hfn'.symm.trans hfn)
 subst e
 obtain ⟨⟨⟨ds, gs, before, hw, hc⟩, hx⟩, hz⟩ := hpre
 have hw' := DataW.Whole.of_heap (w' := w.forCall tape i) (by rfl) hw
 refine (contract (w.forCall tape i) w.heap.size i.args ds gs before hval hw' hc (hz.weights hw) (hX _ _ _ (by rfl) hx) hsh).mono fun e W' ⟨v, he, hp⟩ => ?_
 subst he
 exact ChangeSpec.post_blind hp
end
end Go.Deepv
namespace Go.Deepv
mutual
def eqF : FV → FV → Bool
 | .int k a, .int l b => decide (k = l) && decide (a = b)
 | .bool a, .bool b => a == b
 | .str a, .str b => decide (a.data.toList = b.data.toList)
 | .slice s l, .slice t m => s == t && eqLL l m
 | .agg l, .agg m => eqL l m
 | .ref l o, .ref m p => eqL l m && o == p
 | .nilp, .nilp => true
 | .nili, .nili => true
 | .nilf, .nilf => true
 | .undef, .undef => true
 | .iface t v, .iface u w => decide (t = u) && eqF v w
 | .tup l, .tup m => eqL l m
 | .nils s, .nils t => s == t
 | .fulls s l, .fulls t m => s == t && eqLL l m
 | .nonn s, .nonn t => s == t
 | .nilm, .nilm => true
 | .nilx s, .nilx t => s == t
 | .func (.func f) p q, .func (.func g) p' q' => decide (f = g) && eqL p p' && eqL q q'
 | _, _ => false
def eqL : List FV → List FV → Bool
 | [], [] => true
 | x :: xs, y :: ys => eqF x y && eqL xs ys
 | _, _ => false
def eqLL : List (List FV) → List (List FV) → Bool
 | [], [] => true
 | x :: xs, y :: ys => eqL x y && eqLL xs ys
 | _, _ => false
end
mutual
theorem eqF_eq : ∀ {x y : FV}, eqF x y = true → x = y
 | .int k a, y, h => by cases y <;> simp_all [eqF]
 | .bool a, y, h => by cases y <;> simp_all [eqF]
 | .str a, y, h => by
  cases y <;> simp [eqF] at h
  congr 1
  exact ByteArray.ext h
 | .slice s l, y, h => by
  cases y <;> simp [eqF] at h
  rw [h.1, eqLL_eq h.2]
 | .agg l, y, h => by
  cases y <;> simp [eqF] at h
  rw [eqL_eq h]
 | .ref l o, y, h => by
  cases y <;> simp [eqF] at h
  rw [eqL_eq h.1, h.2]
 | .nilp, y, h => by cases y <;> simp_all [eqF]
 | .nili, y, h => by cases y <;> simp_all [eqF]
 | .nilf, y, h => by cases y <;> simp_all [eqF]
 | .undef, y, h => by cases y <;> simp_all [eqF]
 | .iface t v, y, h => by
  cases y <;> simp [eqF] at h
  rw [h.1, eqF_eq h.2]
 | .tup l, y, h => by
  cases y <;> simp [eqF] at h
  rw [eqL_eq h]
 | .nils s, y, h => by cases y <;> simp_all [eqF]
 | .fulls s l, y, h => by
  cases y <;> simp [eqF] at h
  rw [h.1, eqLL_eq h.2]
 | .nonn s, y, h => by cases y <;> simp_all [eqF]
 | .nilm, y, h => by cases y <;> simp_all [eqF]
 | .nilx s, y, h => by cases y <;> simp_all [eqF]
 | .func f p q, y, h => by
  cases f
  case func f =>
   cases y
   case func g p' q' =>
    cases g
    case func g =>
     simp [eqF] at h
     rw [h.1.1, eqL_eq h.1.2, eqL_eq h.2]
    all_goals simp [eqF] at h
   all_goals simp [eqF] at h
  all_goals (cases y <;> simp [eqF] at h)
theorem eqL_eq : ∀ {x y : List FV}, eqL x y = true → x = y
 | [], y, h => by cases y <;> simp_all [eqL]
 | x :: xs, y, h => by
  cases y <;> simp [eqL] at h
  rw [eqF_eq h.1, eqL_eq h.2]
theorem eqLL_eq : ∀ {x y : List (List FV)}, eqLL x y = true → x = y
 | [], y, h => by cases y <;> simp_all [eqLL]
 | x :: xs, y, h => by
  cases y <;> simp [eqLL] at h
  rw [eqL_eq h.1, eqLL_eq h.2]
end
mutual
def eqV : DV → DV → Bool
 | .d x, .d y => eqF x y
 | .ptr i o, .ptr j p => i == j && o == p
 | .row s l t, .row s' l' t' => s == s' && eqLL l l' && t == t'
 | .agg l, .agg m => eqVs l m
 | .tup l, .tup m => eqVs l m
 | .iface t v, .iface u w => decide (t = u) && eqV v w
 | .yld i, .yld j => i == j
 | .rptr l t, .rptr l' t' => eqLL l l' && t == t'
 | .bslc i o n, .bslc j p m => i == j && o == p && n == m
 | .vslc i g s o n, .vslc i' g' s' o' n' => i == i' && g == g' && s == s' && o == o' && n == n'
 | .eptr i g k o, .eptr i' g' k' o' => i == i' && g == g' && k == k' && o == o'
 | .mref i, .mref j => i == j
 | .clo (.func f) p q, .clo (.func g) p' q' => decide (f = g) && eqVs p p' && eqVs q q'
 | _, _ => false
def eqVs : List DV → List DV → Bool
 | [], [] => true
 | x :: xs, y :: ys => eqV x y && eqVs xs ys
 | _, _ => false
end
mutual
theorem eqV_eq : ∀ {x y : DV}, eqV x y = true → x = y
 | .d x, y, h => by
  cases y <;> simp [eqV] at h
  rw [eqF_eq h]
 | .ptr i o, y, h => by cases y <;> simp_all [eqV]
 | .row s l t, y, h => by
  cases y <;> simp [eqV] at h
  rw [h.1.1, eqLL_eq h.1.2, h.2]
 | .agg l, y, h => by
  cases y <;> simp [eqV] at h
  rw [eqVs_eq h]
 | .tup l, y, h => by
  cases y <;> simp [eqV] at h
  rw [eqVs_eq h]
 | .iface t v, y, h => by
  cases y <;> simp [eqV] at h
  rw [h.1, eqV_eq h.2]
 | .yld i, y, h => by cases y <;> simp_all [eqV]
 | .rptr l t, y, h => by
  cases y <;> simp [eqV] at h
  rw [eqLL_eq h.1, h.2]
 | .bslc i o n, y, h => by cases y <;> simp_all [eqV]
 | .vslc i g s o n, y, h => by cases y <;> simp_all [eqV]
 | .eptr i g k o, y, h => by cases y <;> simp_all [eqV]
 | .mref i, y, h => by cases y <;> simp_all [eqV]
 | .clo f p q, y, h => by
  cases f
  case func f =>
   cases y
   case clo g p' q' =>
    cases g
    case func g =>
     simp [eqV] at h
     rw [h.1.1, eqVs_eq h.1.2, eqVs_eq h.2]
    all_goals simp [eqV] at h
   all_goals simp [eqV] at h
  all_goals (cases y <;> simp [eqV] at h)
theorem eqVs_eq : ∀ {x y : List DV}, eqVs x y = true → x = y
 | [], y, h => by cases y <;> simp_all [eqVs]
 | x :: xs, y, h => by
  cases y <;> simp [eqVs] at h
  rw [eqV_eq h.1, eqVs_eq h.2]
end
def eqPs : List (FV × FV) → List (FV × FV) → Bool
 | [], [] => true
 | x :: xs, y :: ys => eqF x.1 y.1 && eqF x.2 y.2 && eqPs xs ys
 | _, _ => false
theorem eqPs_eq : ∀ {x y : List (FV × FV)}, eqPs x y = true → x = y
 | [], y, h => by cases y <;> simp_all [eqPs]
 | (a, b) :: xs, y, h => by
  rcases y with _ | ⟨⟨c, d⟩, ys⟩ <;> simp [eqPs] at h
  rw [eqF_eq h.1.1, eqF_eq h.1.2, eqPs_eq h.2]
def eqN (a b : Nat) : Bool := Nat.beq a b
theorem eqN_eq {a b : Nat} : eqN a b = true ↔ a = b := by simp [eqN, Nat.beq_eq]
def eqB (a b : Bool) : Bool := a == b
theorem eqB_eq {a b : Bool} : eqB a b = true ↔ a = b := by simp [eqB]
def eqK (a b : IntKind) : Bool := decide (a = b)
theorem eqK_eq {a b : IntKind} : eqK a b = true ↔ a = b := by simp [eqK]
def eqBin (a b : BinOp) : Bool := decide (a = b)
theorem eqBin_eq {a b : BinOp} : eqBin a b = true ↔ a = b := by simp [eqBin]
def eqUn (a b : UnOp) : Bool := decide (a = b)
theorem eqUn_eq {a b : UnOp} : eqUn a b = true ↔ a = b := by simp [eqUn]
def eqON : Option Nat → Option Nat → Bool
 | none, none => true
 | some a, some b => eqN a b
 | _, _ => false
theorem eqON_eq {a b : Option Nat} (h : eqON a b = true) : a = b := by cases a <;> cases b <;> simp_all [eqON, eqN_eq]
def eqNs : List Nat → List Nat → Bool
 | [], [] => true
 | a :: l, b :: m => eqN a b && eqNs l m
 | _, _ => false
theorem eqNs_eq : ∀ {a b : List Nat}, eqNs a b = true → a = b
 | [], b, h => by cases b <;> simp_all [eqNs]
 | a :: l, b, h => by
  cases b <;> simp [eqNs] at h
  rw [eqN_eq.1 h.1, eqNs_eq h.2]
def eqBs : List Bool → List Bool → Bool
 | [], [] => true
 | a :: l, b :: m => eqB a b && eqBs l m
 | _, _ => false
theorem eqBs_eq : ∀ {a b : List Bool}, eqBs a b = true → a = b
 | [], b, h => by cases b <;> simp_all [eqBs]
 | a :: l, b, h => by
  cases b <;> simp [eqBs] at h
  rw [eqB_eq.1 h.1, eqBs_eq h.2]
def eqFn : Fn → Fn → Bool
 | .func f, .func g => eqN f g
 | _, _ => false
theorem eqFn_eq {a b : Fn} (h : eqFn a b = true) : a = b := by
 cases a
 case func f =>
  cases b
  case func g => simp [eqFn, eqN_eq] at h; rw [h]
  all_goals cases h
 all_goals (cases b <;> cases h)
def eqO : Opd → Opd → Bool
 | .tmp a, .tmp b => eqN a b
 | .con v, .con w => eqF v w
 | .fn f, .fn g => eqN f g
 | _, _ => false
theorem eqO_eq {a b : Opd} (h : eqO a b = true) : a = b := by
 cases a <;> cases b <;> simp [eqO, eqN_eq] at h
 ·rw [h]
 ·rw [eqF_eq h]
 ·rw [h]
def eqOO : Option Opd → Option Opd → Bool
 | none, none => true
 | some a, some b => eqO a b
 | _, _ => false
theorem eqOO_eq {a b : Option Opd} (h : eqOO a b = true) : a = b := by
 cases a <;> cases b <;> simp [eqOO] at h
 ·rfl
 ·rw [eqO_eq h]
def eqOs : List Opd → List Opd → Bool
 | [], [] => true
 | a :: l, b :: m => eqO a b && eqOs l m
 | _, _ => false
theorem eqOs_eq : ∀ {a b : List Opd}, eqOs a b = true → a = b
 | [], b, h => by cases b <;> simp_all [eqOs]
 | a :: l, b, h => by
  cases b <;> simp [eqOs] at h
  rw [eqO_eq h.1, eqOs_eq h.2]
def eqZ : List (Except Nat FV) → List (Except Nat FV) → Bool
 | [], [] => true
 | .ok a :: l, .ok b :: m => eqF a b && eqZ l m
 | .error a :: l, .error b :: m => eqN a b && eqZ l m
 | _, _ => false
theorem eqZ_eq : ∀ {a b : List (Except Nat FV)}, eqZ a b = true → a = b
 | [], b, h => by cases b <;> simp_all [eqZ]
 | .ok a :: l, b, h => by
  rcases b with _ | ⟨b | b, m⟩ <;> simp [eqZ] at h
  rw [eqF_eq h.1, eqZ_eq h.2]
 | .error a :: l, b, h => by
  rcases b with _ | ⟨b | b, m⟩ <;> simp [eqZ] at h
  rw [eqN_eq.1 h.1, eqZ_eq h.2]
def eqNO : List (Nat × Opd) → List (Nat × Opd) → Bool
 | [], [] => true
 | a :: l, b :: m => eqN a.1 b.1 && eqO a.2 b.2 && eqNO l m
 | _, _ => false
theorem eqNO_eq : ∀ {a b : List (Nat × Opd)}, eqNO a b = true → a = b
 | [], b, h => by cases b <;> simp_all [eqNO]
 | (a, x) :: l, b, h => by
  rcases b with _ | ⟨⟨b, y⟩, m⟩ <;> simp [eqNO] at h
  rw [eqN_eq.1 h.1.1, eqO_eq h.1.2, eqNO_eq h.2]
def eqNNO : List (Nat × Nat × Opd) → List (Nat × Nat × Opd) → Bool
 | [], [] => true
 | a :: l, b :: m => eqN a.1 b.1 && eqN a.2.1 b.2.1 && eqO a.2.2 b.2.2 && eqNNO l m
 | _, _ => false
theorem eqNNO_eq : ∀ {a b : List (Nat × Nat × Opd)}, eqNNO a b = true → a = b
 | [], b, h => by cases b <;> simp_all [eqNNO]
 | (a, c, x) :: l, b, h => by
  rcases b with _ | ⟨⟨b, d, y⟩, m⟩ <;> simp [eqNNO] at h
  rw [eqN_eq.1 h.1.1.1, eqN_eq.1 h.1.1.2, eqO_eq h.1.2, eqNNO_eq h.2]
def eqOp : DOp → DOp → Bool
 | .mv a0, .mv b0 => eqO a0 b0
 | .nilrow a0, .nilrow b0 => eqN a0 b0
 | .pick a0 a1 a2, .pick b0 b1 b2 => eqO a0 b0 && eqO a1 b1 && eqO a2 b2
 | .box a0 a1, .box b0 b1 => eqB a0 b0 && eqO a1 b1
 | .alloc a0 a1, .alloc b0 b1 => eqZ a0 b0 && eqN a1 b1
 | .load a0 a1, .load b0 b1 => eqON a0 b0 && eqO a1 b1
 | .loadk a0 a1, .loadk b0 b1 => eqON a0 b0 && eqO a1 b1
 | .store a0 a1 a2, .store b0 b1 b2 => eqN a0 b0 && eqO a1 b1 && eqO a2 b2
 | .storen a0 a1 a2, .storen b0 b1 b2 => eqN a0 b0 && eqO a1 b1 && eqO a2 b2
 | .bin a0 a1 a2, .bin b0 b1 b2 => eqBin a0 b0 && eqO a1 b1 && eqO a2 b2
 | .eqb a0 a1 a2, .eqb b0 b1 b2 => eqB a0 b0 && eqO a1 b1 && eqO a2 b2
 | .isnil a0 a1 a2, .isnil b0 b1 b2 => eqN a0 b0 && eqB a1 b1 && eqO a2 b2
 | .un a0 a1, .un b0 b1 => eqUn a0 b0 && eqO a1 b1
 | .cvt a0 a1, .cvt b0 b1 => eqK a0 b0 && eqO a1 b1
 | .bstr a0, .bstr b0 => eqO a0 b0
 | .addOff a0 a1, .addOff b0 b1 => eqN a0 b0 && eqO a1 b1
 | .fld a0 a1 a2, .fld b0 b1 b2 => eqON a0 b0 && eqN a1 b1 && eqO a2 b2
 | .idxAddr a0 a1 a2, .idxAddr b0 b1 b2 => eqN a0 b0 && eqO a1 b1 && eqO a2 b2
 | .idxArr a0 a1 a2 a3, .idxArr b0 b1 b2 b3 => eqN a0 b0 && eqN a1 b1 && eqO a2 b2 && eqO a3 b3
 | .idxStr a0 a1, .idxStr b0 b1 => eqO a0 b0 && eqO a1 b1
 | .len a0 a1, .len b0 b1 => eqB a0 b0 && eqO a1 b1
 | .slcStr a0 a1 a2, .slcStr b0 b1 b2 => eqO a0 b0 && eqOO a1 b1 && eqOO a2 b2
 | .slc a0 a1 a2 a3, .slc b0 b1 b2 b3 => eqN a0 b0 && eqO a1 b1 && eqOO a2 b2 && eqOO a3 b3
 | .ext a0 a1, .ext b0 b1 => eqN a0 b0 && eqO a1 b1
 | .lit a0 a1 a2 a3 a4 a5, .lit b0 b1 b2 b3 b4 b5 => eqB a0 b0 && eqN a1 b1 && eqN a2 b2 && eqN a3 b3 && eqL a4 b4 && eqNO a5 b5
 | .build a0 a1, .build b0 b1 => eqL a0 b0 && eqNNO a1 b1
 | .app a0 a1 a2 a3 a4 a5, .app b0 b1 b2 b3 b4 b5 => eqB a0 b0 && eqN a1 b1 && eqN a2 b2 && eqN a3 b3 && eqO a4 b4 && eqO a5 b5
 | .eqs a0 a1 a2 a3, .eqs b0 b1 b2 b3 => eqB a0 b0 && eqNs a1 b1 && eqO a2 b2 && eqO a3 b3
 | .rng a0, .rng b0 => eqO a0 b0
 | .next a0, .next b0 => eqO a0 b0
 | .sbytes a0, .sbytes b0 => eqO a0 b0
 | .rstr a0, .rstr b0 => eqO a0 b0
 | .tass a0 a1 a2 a3, .tass b0 b1 b2 b3 => eqN a0 b0 && eqB a1 b1 && eqF a2 b2 && eqO a3 b3
 | .usd a0, .usd b0 => eqO a0 b0
 | .mark a0, .mark b0 => eqO a0 b0
 | .ustr a0 a1 a2, .ustr b0 b1 b2 => eqN a0 b0 && eqO a1 b1 && eqO a2 b2
 | .mnmx a0 a1, .mnmx b0 b1 => eqB a0 b0 && eqOs a1 b1
 | .call a0 a1, .call b0 b1 => eqO a0 b0 && eqOs a1 b1
 | .mkf a0 a1 a2, .mkf b0 b1 b2 => eqFn a0 b0 && eqOs a1 b1 && eqOs a2 b2
 | .nilchk a0, .nilchk b0 => eqO a0 b0
 | .mki a0 a1, .mki b0 b1 => eqN a0 b0 && eqO a1 b1
 | .panic a0, .panic b0 => eqO a0 b0
 | .calln a0 a1 a2, .calln b0 b1 b2 => eqN a0 b0 && eqO a1 b1 && eqOs a2 b2
 | .idxB a0 a1, .idxB b0 b1 => eqO a0 b0 && eqO a1 b1
 | .slcA a0 a1 a2 a3 a4, .slcA b0 b1 b2 b3 b4 => eqN a0 b0 && eqN a1 b1 && eqO a2 b2 && eqOO a3 b3 && eqOO a4 b4
 | .idxVal a0 a1 a2 a3 a4, .idxVal b0 b1 b2 b3 b4 => eqN a0 b0 && eqN a1 b1 && eqON a2 b2 && eqO a3 b3 && eqO a4 b4
 | .calld a0 a1, .calld b0 b1 => eqO a0 b0 && eqOs a1 b1
 | .vlit a0 a1 a2 a3 a4, .vlit b0 b1 b2 b3 b4 => eqN a0 b0 && eqN a1 b1 && eqN a2 b2 && eqL a3 b3 && eqNO a4 b4
 | .vmake a0 a1 a2 a3 a4 a5 a6, .vmake b0 b1 b2 b3 b4 b5 b6 => eqB a0 b0 && eqN a1 b1 && eqN a2 b2 && eqN a3 b3 && eqL a4 b4 && eqO a5 b5 && eqO a6 b6
 | .vapp a0 a1 a2 a3 a4, .vapp b0 b1 b2 b3 b4 => eqN a0 b0 && eqN a1 b1 && eqN a2 b2 && eqO a3 b3 && eqO a4 b4
 | .frz a0, .frz b0 => eqO a0 b0
 | .mkmap, .mkmap => true
 | .mlook a0 a1 a2 a3 a4, .mlook b0 b1 b2 b3 b4 => eqB a0 b0 && eqF a1 b1 && eqF a2 b2 && eqO a3 b3 && eqO a4 b4
 | .mupd a0 a1 a2 a3, .mupd b0 b1 b2 b3 => eqF a0 b0 && eqO a1 b1 && eqO a2 b2 && eqO a3 b3
 | .slc3 a0 a1 a2 a3 a4, .slc3 b0 b1 b2 b3 b4 => eqN a0 b0 && eqO a1 b1 && eqOO a2 b2 && eqO a3 b3 && eqO a4 b4
 | .slcn a0 a1 a2 a3, .slcn b0 b1 b2 b3 => eqN a0 b0 && eqO a1 b1 && eqOO a2 b2 && eqOO a3 b3
 | .capn a0, .capn b0 => eqO a0 b0
 | .boxn a0, .boxn b0 => eqO a0 b0
 | .lenm a0, .lenm b0 => eqO a0 b0
 | .vappn a0 a1 a2 a3 a4 a5, .vappn b0 b1 b2 b3 b4 b5 => eqN a0 b0 && eqN a1 b1 && eqN a2 b2 && eqL a3 b3 && eqO a4 b4 && eqO a5 b5
 | .stuck, .stuck => true
 | _, _ => false
theorem eqOp_eq {x y : DOp} (h : eqOp x y = true) : x = y := by
 cases x
 case mv a0 =>
  cases y
  case mv b0 =>
   simp only [eqOp, Bool.and_eq_true] at h
   have h0 := h
   rw [eqO_eq h0]
  all_goals cases h
 case nilrow a0 =>
  cases y
  case nilrow b0 =>
   simp only [eqOp, Bool.and_eq_true] at h
   have h0 := h
   rw [eqN_eq.1 h0]
  all_goals cases h
 case pick a0 a1 a2 =>
  cases y
  case pick b0 b1 b2 =>
   simp only [eqOp, Bool.and_eq_true] at h
   obtain ⟨⟨h0, h1⟩, h2⟩ := h
   rw [eqO_eq h0, eqO_eq h1, eqO_eq h2]
  all_goals cases h
 case box a0 a1 =>
  cases y
  case box b0 b1 =>
   simp only [eqOp, Bool.and_eq_true] at h
   obtain ⟨h0, h1⟩ := h
   rw [eqB_eq.1 h0, eqO_eq h1]
  all_goals cases h
 case alloc a0 a1 =>
  cases y
  case alloc b0 b1 =>
   simp only [eqOp, Bool.and_eq_true] at h
   obtain ⟨h0, h1⟩ := h
   rw [eqZ_eq h0, eqN_eq.1 h1]
  all_goals cases h
 case load a0 a1 =>
  cases y
  case load b0 b1 =>
   simp only [eqOp, Bool.and_eq_true] at h
   obtain ⟨h0, h1⟩ := h
   rw [eqON_eq h0, eqO_eq h1]
  all_goals cases h
 case loadk a0 a1 =>
  cases y
  case loadk b0 b1 =>
   simp only [eqOp, Bool.and_eq_true] at h
   obtain ⟨h0, h1⟩ := h
   rw [eqON_eq h0, eqO_eq h1]
  all_goals cases h
 case store a0 a1 a2 =>
  cases y
  case store b0 b1 b2 =>
   simp only [eqOp, Bool.and_eq_true] at h
   obtain ⟨⟨h0, h1⟩, h2⟩ := h
   rw [eqN_eq.1 h0, eqO_eq h1, eqO_eq h2]
  all_goals cases h
 case storen a0 a1 a2 =>
  cases y
  case storen b0 b1 b2 =>
   simp only [eqOp, Bool.and_eq_true] at h
   obtain ⟨⟨h0, h1⟩, h2⟩ := h
   rw [eqN_eq.1 h0, eqO_eq h1, eqO_eq h2]
  all_goals cases h
 case bin a0 a1 a2 =>
  cases y
  case bin b0 b1 b2 =>
   simp only [eqOp, Bool.and_eq_true] at h
   obtain ⟨⟨h0, h1⟩, h2⟩ := h
   rw [eqBin_eq.1 h0, eqO_eq h1, eqO_eq h2]
  all_goals cases h
 case eqb a0 a1 a2 =>
  cases y
  case eqb b0 b1 b2 =>
   simp only [eqOp, Bool.and_eq_true] at h
   obtain ⟨⟨h0, h1⟩, h2⟩ := h
   rw [eqB_eq.1 h0, eqO_eq h1, eqO_eq h2]
  all_goals cases h
 case isnil a0 a1 a2 =>
  cases y
  case isnil b0 b1 b2 =>
   simp only [eqOp, Bool.and_eq_true] at h
   obtain ⟨⟨h0, h1⟩, h2⟩ := h
   rw [eqN_eq.1 h0, eqB_eq.1 h1, eqO_eq h2]
  all_goals cases h
 case un a0 a1 =>
  cases y
  case un b0 b1 =>
   simp only [eqOp, Bool.and_eq_true] at h
   obtain ⟨h0, h1⟩ := h
   rw [eqUn_eq.1 h0, eqO_eq h1]
  all_goals cases h
 case cvt a0 a1 =>
  cases y
  case cvt b0 b1 =>
   simp only [eqOp, Bool.and_eq_true] at h
   obtain ⟨h0, h1⟩ := h
   rw [eqK_eq.1 h0, eqO_eq h1]
  all_goals cases h
 case bstr a0 =>
  cases y
  case bstr b0 =>
   simp only [eqOp, Bool.and_eq_true] at h
   have h0 := h
   rw [eqO_eq h0]
  all_goals cases h
 case addOff a0 a1 =>
  cases y
  case addOff b0 b1 =>
   simp only [eqOp, Bool.and_eq_true] at h
   obtain ⟨h0, h1⟩ := h
   rw [eqN_eq.1 h0, eqO_eq h1]
  all_goals cases h
 case fld a0 a1 a2 =>
  cases y
  case fld b0 b1 b2 =>
   simp only [eqOp, Bool.and_eq_true] at h
   obtain ⟨⟨h0, h1⟩, h2⟩ := h
   rw [eqON_eq h0, eqN_eq.1 h1, eqO_eq h2]
  all_goals cases h
 case idxAddr a0 a1 a2 =>
  cases y
  case idxAddr b0 b1 b2 =>
   simp only [eqOp, Bool.and_eq_true] at h
   obtain ⟨⟨h0, h1⟩, h2⟩ := h
   rw [eqN_eq.1 h0, eqO_eq h1, eqO_eq h2]
  all_goals cases h
 case idxArr a0 a1 a2 a3 =>
  cases y
  case idxArr b0 b1 b2 b3 =>
   simp only [eqOp, Bool.and_eq_true] at h
   obtain ⟨⟨⟨h0, h1⟩, h2⟩, h3⟩ := h
   rw [eqN_eq.1 h0, eqN_eq.1 h1, eqO_eq h2, eqO_eq h3]
  all_goals cases h
 case idxStr a0 a1 =>
  cases y
  case idxStr b0 b1 =>
   simp only [eqOp, Bool.and_eq_true] at h
   obtain ⟨h0, h1⟩ := h
   rw [eqO_eq h0, eqO_eq h1]
  all_goals cases h
 case len a0 a1 =>
  cases y
  case len b0 b1 =>
   simp only [eqOp, Bool.and_eq_true] at h
   obtain ⟨h0, h1⟩ := h
   rw [eqB_eq.1 h0, eqO_eq h1]
  all_goals cases h
 case slcStr a0 a1 a2 =>
  cases y
  case slcStr b0 b1 b2 =>
   simp only [eqOp, Bool.and_eq_true] at h
   obtain ⟨⟨h0, h1⟩, h2⟩ := h
   rw [eqO_eq h0, eqOO_eq h1, eqOO_eq h2]
  all_goals cases h
 case slc a0 a1 a2 a3 =>
  cases y
  case slc b0 b1 b2 b3 =>
   simp only [eqOp, Bool.and_eq_true] at h
   obtain ⟨⟨⟨h0, h1⟩, h2⟩, h3⟩ := h
   rw [eqN_eq.1 h0, eqO_eq h1, eqOO_eq h2, eqOO_eq h3]
  all_goals cases h
 case ext a0 a1 =>
  cases y
  case ext b0 b1 =>
   simp only [eqOp, Bool.and_eq_true] at h
   obtain ⟨h0, h1⟩ := h
   rw [eqN_eq.1 h0, eqO_eq h1]
  all_goals cases h
 case lit a0 a1 a2 a3 a4 a5 =>
  cases y
  case lit b0 b1 b2 b3 b4 b5 =>
   simp only [eqOp, Bool.and_eq_true] at h
   obtain ⟨⟨⟨⟨⟨h0, h1⟩, h2⟩, h3⟩, h4⟩, h5⟩ := h
   rw [eqB_eq.1 h0, eqN_eq.1 h1, eqN_eq.1 h2, eqN_eq.1 h3, eqL_eq h4, eqNO_eq h5]
  all_goals cases h
 case build a0 a1 =>
  cases y
  case build b0 b1 =>
   simp only [eqOp, Bool.and_eq_true] at h
   obtain ⟨h0, h1⟩ := h
   rw [eqL_eq h0, eqNNO_eq h1]
  all_goals cases h
 case app a0 a1 a2 a3 a4 a5 =>
  cases y
  case app b0 b1 b2 b3 b4 b5 =>
   simp only [eqOp, Bool.and_eq_true] at h
   obtain ⟨⟨⟨⟨⟨h0, h1⟩, h2⟩, h3⟩, h4⟩, h5⟩ := h
   rw [eqB_eq.1 h0, eqN_eq.1 h1, eqN_eq.1 h2, eqN_eq.1 h3, eqO_eq h4, eqO_eq h5]
  all_goals cases h
 case eqs a0 a1 a2 a3 =>
  cases y
  case eqs b0 b1 b2 b3 =>
   simp only [eqOp, Bool.and_eq_true] at h
   obtain ⟨⟨⟨h0, h1⟩, h2⟩, h3⟩ := h
   rw [eqB_eq.1 h0, eqNs_eq h1, eqO_eq h2, eqO_eq h3]
  all_goals cases h
 case rng a0 =>
  cases y
  case rng b0 =>
   simp only [eqOp, Bool.and_eq_true] at h
   have h0 := h
   rw [eqO_eq h0]
  all_goals cases h
 case next a0 =>
  cases y
  case next b0 =>
   simp only [eqOp, Bool.and_eq_true] at h
   have h0 := h
   rw [eqO_eq h0]
  all_goals cases h
 case sbytes a0 =>
  cases y
  case sbytes b0 =>
   simp only [eqOp, Bool.and_eq_true] at h
   have h0 := h
   rw [eqO_eq h0]
  all_goals cases h
 case rstr a0 =>
  cases y
  case rstr b0 =>
   simp only [eqOp, Bool.and_eq_true] at h
   have h0 := h
   rw [eqO_eq h0]
  all_goals cases h
 case tass a0 a1 a2 a3 =>
  cases y
  case tass b0 b1 b2 b3 =>
   simp only [eqOp, Bool.and_eq_true] at h
   obtain ⟨⟨⟨h0, h1⟩, h2⟩, h3⟩ := h
   rw [eqN_eq.1 h0, eqB_eq.1 h1, eqF_eq h2, eqO_eq h3]
  all_goals cases h
 case usd a0 =>
  cases y
  case usd b0 =>
   simp only [eqOp, Bool.and_eq_true] at h
   have h0 := h
   rw [eqO_eq h0]
  all_goals cases h
 case mark a0 =>
  cases y
  case mark b0 =>
   simp only [eqOp, Bool.and_eq_true] at h
   have h0 := h
   rw [eqO_eq h0]
  all_goals cases h
 case ustr a0 a1 a2 =>
  cases y
  case ustr b0 b1 b2 =>
   simp only [eqOp, Bool.and_eq_true] at h
   obtain ⟨⟨h0, h1⟩, h2⟩ := h
   rw [eqN_eq.1 h0, eqO_eq h1, eqO_eq h2]
  all_goals cases h
 case mnmx a0 a1 =>
  cases y
  case mnmx b0 b1 =>
   simp only [eqOp, Bool.and_eq_true] at h
   obtain ⟨h0, h1⟩ := h
   rw [eqB_eq.1 h0, eqOs_eq h1]
  all_goals cases h
 case call a0 a1 =>
  cases y
  case call b0 b1 =>
   simp only [eqOp, Bool.and_eq_true] at h
   obtain ⟨h0, h1⟩ := h
   rw [eqO_eq h0, eqOs_eq h1]
  all_goals cases h
 case mkf a0 a1 a2 =>
  cases y
  case mkf b0 b1 b2 =>
   simp only [eqOp, Bool.and_eq_true] at h
   obtain ⟨⟨h0, h1⟩, h2⟩ := h
   rw [eqFn_eq h0, eqOs_eq h1, eqOs_eq h2]
  all_goals cases h
 case nilchk a0 =>
  cases y
  case nilchk b0 =>
   simp only [eqOp, Bool.and_eq_true] at h
   have h0 := h
   rw [eqO_eq h0]
  all_goals cases h
 case mki a0 a1 =>
  cases y
  case mki b0 b1 =>
   simp only [eqOp, Bool.and_eq_true] at h
   obtain ⟨h0, h1⟩ := h
   rw [eqN_eq.1 h0, eqO_eq h1]
  all_goals cases h
 case panic a0 =>
  cases y
  case panic b0 =>
   simp only [eqOp, Bool.and_eq_true] at h
   have h0 := h
   rw [eqO_eq h0]
  all_goals cases h
 case calln a0 a1 a2 =>
  cases y
  case calln b0 b1 b2 =>
   simp only [eqOp, Bool.and_eq_true] at h
   obtain ⟨⟨h0, h1⟩, h2⟩ := h
   rw [eqN_eq.1 h0, eqO_eq h1, eqOs_eq h2]
  all_goals cases h
 case idxB a0 a1 =>
  cases y
  case idxB b0 b1 =>
   simp only [eqOp, Bool.and_eq_true] at h
   obtain ⟨h0, h1⟩ := h
   rw [eqO_eq h0, eqO_eq h1]
  all_goals cases h
 case slcA a0 a1 a2 a3 a4 =>
  cases y
  case slcA b0 b1 b2 b3 b4 =>
   simp only [eqOp, Bool.and_eq_true] at h
   obtain ⟨⟨⟨⟨h0, h1⟩, h2⟩, h3⟩, h4⟩ := h
   rw [eqN_eq.1 h0, eqN_eq.1 h1, eqO_eq h2, eqOO_eq h3, eqOO_eq h4]
  all_goals cases h
 case idxVal a0 a1 a2 a3 a4 =>
  cases y
  case idxVal b0 b1 b2 b3 b4 =>
   simp only [eqOp, Bool.and_eq_true] at h
   obtain ⟨⟨⟨⟨h0, h1⟩, h2⟩, h3⟩, h4⟩ := h
   rw [eqN_eq.1 h0, eqN_eq.1 h1, eqON_eq h2, eqO_eq h3, eqO_eq h4]
  all_goals cases h
 case calld a0 a1 =>
  cases y
  case calld b0 b1 =>
   simp only [eqOp, Bool.and_eq_true] at h
   obtain ⟨h0, h1⟩ := h
   rw [eqO_eq h0, eqOs_eq h1]
  all_goals cases h
 case vlit a0 a1 a2 a3 a4 =>
  cases y
  case vlit b0 b1 b2 b3 b4 =>
   simp only [eqOp, Bool.and_eq_true] at h
   obtain ⟨⟨⟨⟨h0, h1⟩, h2⟩, h3⟩, h4⟩ := h
   rw [eqN_eq.1 h0, eqN_eq.1 h1, eqN_eq.1 h2, eqL_eq h3, eqNO_eq h4]
  all_goals cases h
 case vmake a0 a1 a2 a3 a4 a5 a6 =>
  cases y
  case vmake b0 b1 b2 b3 b4 b5 b6 =>
   simp only [eqOp, Bool.and_eq_true] at h
   obtain ⟨⟨⟨⟨⟨⟨h0, h1⟩, h2⟩, h3⟩, h4⟩, h5⟩, h6⟩ := h
   rw [eqB_eq.1 h0, eqN_eq.1 h1, eqN_eq.1 h2, eqN_eq.1 h3, eqL_eq h4, eqO_eq h5, eqO_eq h6]
  all_goals cases h
 case vapp a0 a1 a2 a3 a4 =>
  cases y
  case vapp b0 b1 b2 b3 b4 =>
   simp only [eqOp, Bool.and_eq_true] at h
   obtain ⟨⟨⟨⟨h0, h1⟩, h2⟩, h3⟩, h4⟩ := h
   rw [eqN_eq.1 h0, eqN_eq.1 h1, eqN_eq.1 h2, eqO_eq h3, eqO_eq h4]
  all_goals cases h
 case frz a0 =>
  cases y
  case frz b0 =>
   simp only [eqOp, Bool.and_eq_true] at h
   have h0 := h
   rw [eqO_eq h0]
  all_goals cases h
 case mkmap =>
  cases y
  case mkmap => rfl
  all_goals cases h
 case mlook a0 a1 a2 a3 a4 =>
  cases y
  case mlook b0 b1 b2 b3 b4 =>
   simp only [eqOp, Bool.and_eq_true] at h
   obtain ⟨⟨⟨⟨h0, h1⟩, h2⟩, h3⟩, h4⟩ := h
   rw [eqB_eq.1 h0, eqF_eq h1, eqF_eq h2, eqO_eq h3, eqO_eq h4]
  all_goals cases h
 case mupd a0 a1 a2 a3 =>
  cases y
  case mupd b0 b1 b2 b3 =>
   simp only [eqOp, Bool.and_eq_true] at h
   obtain ⟨⟨⟨h0, h1⟩, h2⟩, h3⟩ := h
   rw [eqF_eq h0, eqO_eq h1, eqO_eq h2, eqO_eq h3]
  all_goals cases h
 case slc3 a0 a1 a2 a3 a4 =>
  cases y
  case slc3 b0 b1 b2 b3 b4 =>
   simp only [eqOp, Bool.and_eq_true] at h
   obtain ⟨⟨⟨⟨h0, h1⟩, h2⟩, h3⟩, h4⟩ := h
   rw [eqN_eq.1 h0, eqO_eq h1, eqOO_eq h2, eqO_eq h3, eqO_eq h4]
  all_goals cases h
 case slcn a0 a1 a2 a3 =>
  cases y
  case slcn b0 b1 b2 b3 =>
   simp only [eqOp, Bool.and_eq_true] at h
   obtain ⟨⟨⟨h0, h1⟩, h2⟩, h3⟩ := h
   rw [eqN_eq.1 h0, eqO_eq h1, eqOO_eq h2, eqOO_eq h3]
  all_goals cases h
 case capn a0 =>
  cases y
  case capn b0 =>
   simp only [eqOp, Bool.and_eq_true] at h
   have h0 := h
   rw [eqO_eq h0]
  all_goals cases h
 case boxn a0 =>
  cases y
  case boxn b0 =>
   simp only [eqOp, Bool.and_eq_true] at h
   have h0 := h
   rw [eqO_eq h0]
  all_goals cases h
 case lenm a0 =>
  cases y
  case lenm b0 =>
   simp only [eqOp, Bool.and_eq_true] at h
   have h0 := h
   rw [eqO_eq h0]
  all_goals cases h
 case vappn a0 a1 a2 a3 a4 a5 =>
  cases y
  case vappn b0 b1 b2 b3 b4 b5 =>
   simp only [eqOp, Bool.and_eq_true] at h
   obtain ⟨⟨⟨⟨⟨h0, h1⟩, h2⟩, h3⟩, h4⟩, h5⟩ := h
   rw [eqN_eq.1 h0, eqN_eq.1 h1, eqN_eq.1 h2, eqL_eq h3, eqO_eq h4, eqO_eq h5]
  all_goals cases h
 case stuck =>
  cases y
  case stuck => rfl
  all_goals cases h
def eqOper (x y : DOper) : Bool := eqON x.dst y.dst && eqOp x.op y.op && (match x.guard, y.guard with
 | none, none => true
 | some (a, b), some (c, d) => eqN a c && eqB b d
 | _, _ => false)
theorem eqOper_eq {x y : DOper} (h : eqOper x y = true) : x = y := by
 obtain ⟨d, o, g⟩ := x
 obtain ⟨d', o', g'⟩ := y
 simp only [eqOper, Bool.and_eq_true] at h
 obtain ⟨⟨h1, h2⟩, h3⟩ := h
 rw [eqON_eq h1, eqOp_eq h2]
 rcases g with _ | ⟨a, b⟩ <;> rcases g' with _ | ⟨c, d⟩ <;> simp [eqN_eq, eqB_eq] at h3
 ·rfl
 ·rw [h3.1, h3.2]
def eqOpers : List DOper → List DOper → Bool
 | [], [] => true
 | a :: l, b :: m => eqOper a b && eqOpers l m
 | _, _ => false
theorem eqOpers_eq : ∀ {a b : List DOper}, eqOpers a b = true → a = b
 | [], b, h => by cases b <;> simp_all [eqOpers]
 | a :: l, b, h => by
  cases b <;> simp [eqOpers] at h
  rw [eqOper_eq h.1, eqOpers_eq h.2]
def eqAlts : List (List DOper) → List (List DOper) → Bool
 | [], [] => true
 | a :: l, b :: m => eqOpers a b && eqAlts l m
 | _, _ => false
theorem eqAlts_eq : ∀ {a b : List (List DOper)}, eqAlts a b = true → a = b
 | [], b, h => by cases b <;> simp_all [eqAlts]
 | a :: l, b, h => by
  cases b <;> simp [eqAlts] at h
  rw [eqOpers_eq h.1, eqAlts_eq h.2]
def eqCode : ACode → ACode → Bool
 | .skip, .skip => true
 | .region a, .region b => eqOpers a b
 | .draw a b, .draw c d => eqOpers a c && eqAlts b d
 | .seq a b, .seq c d => eqCode a c && eqCode b d
 | .cond k a b, .cond l c d => eqO k l && eqCode a c && eqCode b d
 | .block i a, .block j b => eqN i j && eqCode a b
 | .loop c x y a, .loop d z w b => eqB c d && eqBs x z && eqBs y w && eqCode a b
 | .rangeFn f p s a b, .rangeFn g q t c d => eqO f g && eqNs p q && eqBs s t && eqCode a c && eqCode b d
 | .exit i, .exit j => eqN i j
 | .ret, .ret => true
 | .stuck, .stuck => true
 | _, _ => false
theorem eqCode_eq : ∀ {x y : ACode}, eqCode x y = true → x = y := by
 intro x
 induction x with
 | skip => intro y h; cases y <;> first | rfl | cases h
 | region a =>
  intro y h
  cases y <;> simp [eqCode] at h
  rw [eqOpers_eq h]
 | draw a b =>
  intro y h
  cases y <;> simp [eqCode] at h
  rw [eqOpers_eq h.1, eqAlts_eq h.2]
 | seq a b iha ihb =>
  intro y h
  cases y <;> simp [eqCode] at h
  rw [iha h.1, ihb h.2]
 | cond k a b iha ihb =>
  intro y h
  cases y <;> simp [eqCode] at h
  rw [eqO_eq h.1.1, iha h.1.2, ihb h.2]
 | block i a ih =>
  intro y h
  cases y <;> simp [eqCode] at h
  rw [eqN_eq.1 h.1, ih h.2]
 | loop c x z a ih =>
  intro y h
  cases y <;> simp [eqCode] at h
  rw [eqB_eq.1 h.1.1.1, eqBs_eq h.1.1.2, eqBs_eq h.1.2, ih h.2]
 | rangeFn f p s a b iha ihb =>
  intro y h
  cases y <;> simp [eqCode] at h
  rw [eqO_eq h.1.1.1.1, eqNs_eq h.1.1.1.2, eqBs_eq h.1.1.2, iha h.1.2, ihb h.2]
 | exit i =>
  intro y h
  cases y <;> simp [eqCode] at h
  rw [eqN_eq.1 h]
 | ret => intro y h; cases y <;> first | rfl | cases h
 | stuck => intro y h; cases y <;> first | rfl | cases h
def eqSt : LSt → LSt → Bool
 | .ready, .ready => true
 | .busy, .busy => true
 | .done a, .done b => eqON a b
 | _, _ => false
theorem eqSt_eq {a b : LSt} (h : eqSt a b = true) : a = b := by
 cases a <;> cases b <;> simp [eqSt] at h
 ·rfl
 ·rfl
 ·rw [eqON_eq h]
def eqR : Res → Res → Bool
 | .vec s l f e, .vec s' l' f' e' => s == s' && eqLL l l' && f == f' && e == e'
 | .map l, .map m => eqPs l m
 | .box l t, .box m u => eqVs l m && t == u
 | .nilrow, .nilrow => true
 | .row a b c, .row d e f => a == d && b == e && c == f
 | .iter s p, .iter t q => decide (s.data.toList = t.data.toList) && p == q
 | .dead, .dead => true
 | .loop p a b s t, .loop q c d u v => eqNs p q && eqCode a c && eqCode b d && eqVs s u && eqSt t v
 | _, _ => false
theorem eqR_eq : ∀ {x y : Res}, eqR x y = true → x = y
 | .vec s l f e, y, h => by
  cases y <;> simp [eqR] at h
  rw [h.1.1.1, eqLL_eq h.1.1.2, h.1.2, h.2]
 | .map l, y, h => by
  cases y <;> simp [eqR] at h
  rw [eqPs_eq h]
 | .box l t, y, h => by
  cases y <;> simp [eqR] at h
  rw [eqVs_eq h.1, h.2]
 | .nilrow, y, h => by cases y <;> simp_all [eqR]
 | .row .., y, h => by cases y <;> simp_all [eqR]
 | .iter s p, y, h => by
  cases y <;> simp [eqR] at h
  rw [h.2]
  congr 1
  exact ByteArray.ext h.1
 | .dead, y, h => by cases y <;> simp_all [eqR]
 | .loop p a b s t, y, h => by
  cases y <;> simp [eqR] at h
  rw [eqNs_eq h.1.1.1.1, eqCode_eq h.1.1.1.2, eqCode_eq h.1.1.2, eqVs_eq h.1.2, eqSt_eq h.2]
def eqRs : List Res → List Res → Bool
 | [], [] => true
 | x :: xs, y :: ys => eqR x y && eqRs xs ys
 | _, _ => false
theorem eqRs_eq : ∀ {x y : List Res}, eqRs x y = true → x = y
 | [], y, h => by cases y <;> simp_all [eqRs]
 | x :: xs, y, h => by
  cases y <;> simp [eqRs] at h
  rw [eqR_eq h.1, eqRs_eq h.2]
def sameB (call : Cle → List DV → List Res → Option DOut) (alts : List (List DOper)) (a : List DV) (h : List Res) (a' : List DV) (h' : List Res) : Bool := alts.all fun l => match dops call l a h with
 | some (.normal, a1, h1) => eqVs a1 a' && eqRs h1 h'
 | _ => false
theorem sameB_eq {call : Cle → List DV → List Res → Option DOut} {alts : List (List DOper)} {a : List DV} {h : List Res} {a' : List DV} {h' : List Res} (hs : sameB call alts a h a' h' = true) : same call alts a h (.normal, a', h') = true := by
 simp only [sameB, List.all_eq_true] at hs
 simp only [same, decide_eq_true_eq]
 intro l hl
 have := hs l hl
 split at this
 ·rename_i a1 h1 hd
  simp only [Bool.and_eq_true] at this
  rw [hd, eqVs_eq this.1, eqRs_eq this.2]
 ·cases this
section
variable (call : Cle → List DV → List Res → Option DOut) (loop : LoopF)
def cexec : ACode → List DV → List Res → Option DRun
 | .skip, a, h => some (.normal, a, h)
 | .region ops, a, h => dops call ops a h
 | .draw ops alts, a, h => match dops call ops a h with
  | some (.normal, a', h') => if sameB call alts a h a' h' then some (.normal, a', h') else none
  | _ => none
 | .seq c d, a, h => match cexec c a h with
  | some (.normal, a', h') => cexec d a' h'
  | r => r
 | .cond c t e, a, h => match ev a c with
  | .d (.bool b) => if b then cexec t a h else cexec e a h
  | _ => none
 | .block id c, a, h => match cexec c a h with
  | some (.exit i, a', h') => if i = id then some (.normal, a', h') else some (.exit i, a', h')
  | r => r
 | .loop cut hd ex c, a, h => loop h.length cut hd ex c (mask hd a) h
 | .rangeFn f ps sn as_ bd, a, h => match ev a f with
  | .yld _ => none
  | fv => match dcallV call fv [.yld h.length] (h ++ [.loop ps as_ bd (mask sn a) .ready]) with
   | some (.val _ h') => match h'[h.length]? with
    | some (.loop _ _ _ _ .ready) => some (.normal, a, h'.take h.length)
    | some (.loop _ _ _ _ (.done (some i))) => some (.exit i, a, h'.take h.length)
    | some (.loop _ _ _ _ (.done none)) => some (.ret, a, h'.take h.length)
    | _ => none
   | _ => none
 | .exit id, a, h => some (.exit id, a, h)
 | .ret, a, h => some (.ret, a, h)
 | .stuck, _, _ => none
theorem cexec_eq : ∀ {A : ACode} {a : List DV} {h : List Res} {r : DRun}, cexec call loop A a h = some r → dexec call loop A a h = some r := by
 intro A
 induction A with
 | skip => intro a h r hr; exact hr
 | region ops => intro a h r hr; exact hr
 | draw ops alts =>
  intro a h r hr
  simp only [cexec, dexec] at hr ⊢
  split at hr
  ·rename_i a1 h1 hm
   split at hr
   ·rename_i hs
    rw [hm]
    simp only
    rw [if_pos (sameB_eq hs)]
    exact hr
   ·cases hr
  ·cases hr
 | seq x y ihx ihy =>
  intro a h r hr
  simp only [cexec, dexec] at hr ⊢
  cases hx : cexec call loop x a h with
  | none => rw [hx] at hr; cases hr
  | some q =>
   rw [hx] at hr
   rw [ihx hx]
   obtain ⟨e, a1, h1⟩ := q
   cases e with
   | normal => exact ihy hr
   | _ => exact hr
 | cond k x y ihx ihy =>
  intro a h r hr
  simp only [cexec, dexec] at hr ⊢
  split at hr
  ·rename_i b eb
   rw [eb]
   cases b with
   | true => exact ihx (by simpa using hr)
   | false => exact ihy (by simpa using hr)
  ·cases hr
 | block id b ih =>
  intro a h r hr
  simp only [cexec, dexec] at hr ⊢
  cases hx : cexec call loop b a h with
  | none => rw [hx] at hr; cases hr
  | some q =>
   rw [hx] at hr
   rw [ih hx]
   exact hr
 | loop cut hd ex b ih => intro a h r hr; exact hr
 | rangeFn f ps sn as_ bd _ _ => intro a h r hr; exact hr
 | exit id => intro a h r hr; exact hr
 | ret => intro a h r hr; exact hr
 | stuck => intro a h r hr; cases hr
def cyield (id : Nat) (args : List DV) (h : List Res) : Option DOut :=
 match h[id]? with
 | some (.loop ps as_ bd snap .ready) =>
  if args.length = ps.length then
   match cexec call loop as_ (setAll snap ps args) h with
   | some (.normal, a1, h1) => match h1[id]? with
    | some (.loop _ _ _ _ .ready) => match markLoop id .busy h1 with
     | some h1 => match cexec call loop bd a1 h1 with
      | some (.normal, _, h2) => endLoop id h.length .ready h2
      | some (.exit i, _, h2) => endLoop id h.length (.done (some i)) h2
      | some (.ret, _, h2) => endLoop id h.length (.done none) h2
      | _ => none
     | none => none
    | _ => none
   | _ => none
  else none
 | _ => none
theorem cyield_eq {id : Nat} {args : List DV} {h : List Res} {r : DOut} (hr : cyield call loop id args h = some r) : dyield call loop id args h = some r := by
 unfold cyield at hr
 unfold dyield
 split at hr
 ·rename_i ps A B snap hh
  split at hr
  ·rename_i hl
   rw [hh]
   simp only
   rw [if_pos hl]
   split at hr
   ·rename_i a1 h1 hA
    rw [cexec_eq call loop hA]
    simp only
    split at hr
    ·rename_i hrd
     rw [hrd]
     simp only
     split at hr
     ·rename_i h2 hm
      rw [hm]
      simp only
      cases hB : cexec call loop B a1 h2 with
      | none => rw [hB] at hr; cases hr
      | some q => rw [hB] at hr; rw [cexec_eq call loop hB]; exact hr
     ·cases hr
    ·cases hr
   ·cases hr
  ·cases hr
 ·cases hr
def cround (n0 : Nat) (cut : Bool) (hd ex : List Bool) (c : ACode) (a : List DV) (h : List Res) : Option DRun :=
 match cexec call loop c a h with
 | some (.normal, a', h') => if trims cut n0 (mask hd a') then loop n0 cut hd ex c (mask hd a') (trim cut n0 h') else none
 | some (.pan v, a', h') => some (.pan v, a', h')
 | some (e, a', h') => if trims cut n0 (mask ex a') then some (e, mask ex a', trim cut n0 h') else none
 | none => none
theorem cround_eq {n0 : Nat} {cut : Bool} {hd ex : List Bool} {c : ACode} {a : List DV} {h : List Res} {r : DRun} (hr : cround call loop n0 cut hd ex c a h = some r) : dround call loop n0 cut hd ex c a h = some r := by
 unfold cround at hr
 unfold dround
 cases hx : cexec call loop c a h with
 | none => rw [hx] at hr; cases hr
 | some q =>
  rw [hx] at hr
  rw [cexec_eq call loop hx]
  exact hr
def cpre : List ACode → List DV → List Res → Option DRun
 | [], a, h => some (.normal, a, h)
 | c :: cs, a, h => match cexec call loop c a h with
  | some (.normal, a', h') => cpre cs a' h'
  | r => r
theorem cpre_eq : ∀ {A : List ACode} {a : List DV} {h : List Res} {r : DRun}, cpre call loop A a h = some r → dpre call loop A a h = some r
 | [], a, h, r, hr => hr
 | x :: xs, a, h, r, hr => by
  simp only [cpre] at hr
  simp only [dpre]
  cases hx : cexec call loop x a h with
  | none => rw [hx] at hr; cases hr
  | some q =>
   rw [hx] at hr
   rw [cexec_eq call loop hx]
   obtain ⟨e, a1, h1⟩ := q
   cases e with
   | normal => exact cpre_eq hr
   | _ => exact hr
def clast (g : DGuard) (cs : List DV) (v : DV) (a : List DV) (h : List Res) : Option DRun :=
 match cexec call loop g.code (mvs g.ops ((cs ++ List.replicate (g.ntmps - cs.length) (DV.d .undef)).set g.dst v)) h with
 | some (.normal, _, h') => some (.ret, a, h')
 | some (.ret, _, h') => some (.ret, a, h')
 | _ => none
theorem clast_eq {g : DGuard} {cs : List DV} {v : DV} {a : List DV} {h : List Res} {r : DRun} (hr : clast call loop g cs v a h = some r) : dlast call loop g cs v a h = some r := by
 unfold clast at hr
 unfold dlast
 cases hx : cexec call loop g.code (mvs g.ops ((cs ++ List.replicate (g.ntmps - cs.length) (DV.d .undef)).set g.dst v)) h with
 | none => rw [hx] at hr; cases hr
 | some q =>
  rw [hx] at hr
  rw [cexec_eq call loop hx]
  exact hr
def crun (F : AFunc) (a : List DV) (h : List Res) : Option DRun := match F.guard with
 | none => cexec call loop F.body a h
 | some g => match cpre call loop g.pre a h with
  | some (.normal, a1, h1) => if g.slot < a1.length then (match cexec call loop F.body (a1.set g.slot (.d .undef)) h1 with
   | some (.pan v, a2, h2) => clast call loop g (g.caps.map (ev a1)) v a2 h2
   | some (.normal, a2, h2) => clast call loop g (g.caps.map (ev a1)) (.d .nili) a2 h2
   | some (.ret, a2, h2) => clast call loop g (g.caps.map (ev a1)) (.d .nili) a2 h2
   | _ => none) else none
  | some (.ret, a1, h1) => some (.ret, a1, h1)
  | _ => none
theorem crun_eq {F : AFunc} {a : List DV} {h : List Res} {r : DRun} (hr : crun call loop F a h = some r) : drun call loop F a h = some r := by
 unfold crun at hr
 unfold drun
 cases hg : F.guard with
 | none =>
  rw [hg] at hr
  exact cexec_eq call loop hr
 | some g =>
  rw [hg] at hr
  simp only at hr ⊢
  cases hx : cpre call loop g.pre a h with
  | none => rw [hx] at hr; cases hr
  | some q =>
   rw [hx] at hr
   rw [cpre_eq call loop hx]
   obtain ⟨e, a1, h1⟩ := q
   cases e with
   | normal =>
    simp only at hr ⊢
    split at hr
    ·rename_i hs
     rw [if_pos hs]
     cases hy : cexec call loop F.body (a1.set g.slot (.d .undef)) h1 with
     | none => rw [hy] at hr; cases hr
     | some q2 =>
      rw [hy] at hr
      rw [cexec_eq call loop hy]
      obtain ⟨e2, a2, h2⟩ := q2
      cases e2 with
      | exit i => cases hr
      | _ => exact clast_eq call loop hr
    ·cases hr
   | _ => exact hr
def cbody (F : AFunc) (args : List DV) (h : List Res) : Option DOut :=
 match crun call loop F (args ++ List.replicate (F.ntmps - args.length) (.d .undef)) h with
 | some (.pan v, _, h') => if v.low h.length then some (.pan v (h'.take h.length)) else none
 | some (.normal, a, h') | some (.ret, a, h') => match F.results.mapM (dresult a h') with
  | some rs => if (dresults (F.keep == 0 && F.coe) rs).low (h.length + F.keep) then some (.val (dresults (F.keep == 0 && F.coe) rs) (h'.take (h.length + F.keep))) else none
  | none => none
 | _ => none
theorem cbody_eq {F : AFunc} {args : List DV} {h : List Res} {r : DOut} (hr : cbody call loop F args h = some r) : dbody call loop F args h = some r := by
 unfold cbody at hr
 unfold dbody
 cases hx : crun call loop F (args ++ List.replicate (F.ntmps - args.length) (.d .undef)) h with
 | none => rw [hx] at hr; cases hr
 | some q =>
  rw [hx] at hr
  rw [crun_eq call loop hx]
  exact hr
def ccall (E : Env) (c : Cle) (args : List DV) (h : List Res) : Option DOut := match c with
 | .fn f => match E.ext f with
  | some F => F args h
  | none => match E.af f with
   | none => none
   | some F =>
    let args' := if F.coe then args.map DV.coe else args
    if F.keep == 0 && args'.all DV.isD then (cbody call loop F args' []).map (withHeap h) else cbody call loop F args' h
 | .yld id => cyield call loop id args h
theorem ccall_eq {E : Env} {c : Cle} {args : List DV} {h : List Res} {r : DOut} (hr : ccall call loop E c args h = some r) : dcall call loop E c args h = some r := by
 cases c with
 | yld id => exact cyield_eq call loop hr
 | fn f =>
  unfold ccall at hr
  unfold dcall dcallF
  simp only at hr ⊢
  cases hF : E.ext f with
  | some F => rw [hF] at hr; exact hr
  | none =>
   rw [hF] at hr
   cases hA : E.af f with
   | none => rw [hA] at hr; cases hr
   | some F =>
    rw [hA] at hr
    simp only at hr ⊢
    generalize (if F.coe then args.map DV.coe else args) = da at hr ⊢
    split at hr
    ·rename_i hda
     rw [if_pos hda]
     simp only [Option.map_eq_some_iff] at hr ⊢
     obtain ⟨o, ho, rfl⟩ := hr
     exact ⟨o, cbody_eq call loop ho, rfl⟩
    ·rename_i hda
     rw [if_neg hda]
     exact cbody_eq call loop hr
end
def crec (E : Env) : Nat → (Cle → List DV → List Res → Option DOut) × LoopF
 | 0 => (fun _ _ _ => none, fun _ _ _ _ _ _ _ => none)
 | k + 1 => (ccall (crec E k).1 (crec E k).2 E, cround (crec E k).1 (crec E k).2)
theorem crec_eq (E : Env) : ∀ k, LeC (crec E k).1 (drec E k).1 ∧ LeL (crec E k).2 (drec E k).2
 | 0 => ⟨fun _ _ _ _ h => h, fun _ _ _ _ _ _ _ _ h => h⟩
 | k + 1 => by
  obtain ⟨h1, h2⟩ := crec_eq E k
  refine ⟨fun c a h r hr => ?_, fun n cut hd ex c a h r hr => ?_⟩
  ·exact dcall_mono h1 h2 E c a h r (ccall_eq _ _ hr)
  ·exact dround_mono h1 h2 n cut hd ex c a h r (cround_eq _ _ hr)
theorem D_reckon {E : Env} {f : FuncId} {args : List DV} {h : List Res} {r : DOut} (k : Nat) (hr : (crec E k).1 (.fn f) args h = some r) : D E f args h = some r :=
 D_iff.2 ⟨k, (crec_eq E k).1 _ _ _ _ hr⟩
def Env.over (E : Env) (g : FuncId) (F : List DV → List Res → Option DOut) : Env := { af := E.af, ext := fun k => if k = g then some F else E.ext k }
theorem over_le {E : Env} {g : FuncId} {F : List DV → List Res → Option DOut} (hF : ∀ a h r, F a h = some r → D E g a h = some r) : ∀ k, LeC (drec (E.over g F) k).1 (Dc E) ∧ LeL (drec (E.over g F) k).2 (L E)
 | 0 => ⟨fun _ _ _ _ h => by simp [drec] at h, fun _ _ _ _ _ _ _ _ h => by simp [drec] at h⟩
 | k + 1 => by
  obtain ⟨h1, h2⟩ := over_le hF k
  refine ⟨fun c a h r hr => ?_, fun n cut hd ex c a h r hr => ?_⟩
  ·cases c with
   | yld id =>
    rw [Dc_eq]
    exact dcall_mono h1 h2 E _ a h r hr
   | fn f =>
    by_cases hfg : f = g
    ·subst hfg
     simp only [drec, dcall, dcallF, Env.over, if_true] at hr
     exact hF _ _ _ hr
    ·rw [Dc_eq]
     refine dcall_mono h1 h2 E _ a h r ?_
     simp only [drec, dcall] at hr ⊢
     unfold dcallF at hr ⊢
     simp only [Env.over, if_neg hfg] at hr
     exact hr
  ·rw [L_eq]
   exact dround_mono h1 h2 n cut hd ex c a h r hr
theorem D_reckon_over {E : Env} {g f : FuncId} {F : List DV → List Res → Option DOut} {args : List DV} {h : List Res} {r : DOut} (hF : ∀ a h r, F a h = some r → D E g a h = some r) (k : Nat) (hr : (crec (E.over g F) k).1 (.fn f) args h = some r) : D E f args h = some r :=
 (over_le hF k).1 _ _ _ _ ((crec_eq _ k).1 _ _ _ _ hr)
end Go.Deepv
namespace Go.Deepv
open Go.Lib
theorem parse_app : ∀ (l r : List UInt8) (a : Nat), parseUint10 a (l ++ r) = match parseUint10 a l with | .ok v => parseUint10 v r | e => e
 | [], r, a => rfl
 | c :: l, r, a => by
  simp only [List.cons_append, parseUint10]
  split
  ·split
   ·rfl
   ·split
    ·rfl
    ·exact parse_app l r _
  ·rfl
theorem dig_toNat {d : Nat} (h : d < 10) : (UInt8.ofNat (48 + d)).toNat = 48 + d := by
 rw [UInt8.toNat_ofNat']; omega
theorem dec_parse : ∀ (k u : Nat), u ≤ k → u ≤ 9223372036854775808 → parseUint10 0 (decDigits u) = .ok u
 | 0, u, hk, hu => by
  have : u = 0 := by omega
  subst this
  rw [decDigits_one (by omega)]
  rfl
 | k + 1, u, hk, hu => by
  by_cases h : u < 10
  ·rw [decDigits_one h]
   simp only [parseUint10, dig_toNat h]
   rw [if_pos (by omega), if_neg (by omega), if_neg (by omega)]
   congr 1
   omega
  ·rw [decDigits, dif_neg h, parse_app, dec_parse k (u / 10) (by omega) (by omega)]
   have hd : u % 10 < 10 := Nat.mod_lt _ (by omega)
   simp only [parseUint10, dig_toNat hd]
   rw [if_pos (by omega), if_neg (by omega), if_neg (by omega)]
   congr 1
   omega
theorem dec_digits : ∀ (k u : Nat), u ≤ k → decDigits u ≠ [] ∧ ∀ b ∈ decDigits u, 48 ≤ b.toNat ∧ b.toNat ≤ 57
 | 0, u, hk => by
  have : u = 0 := by omega
  subst this
  rw [decDigits_one (by omega)]
  exact ⟨by simp, fun b hb => by rw [List.mem_singleton] at hb; subst hb; decide⟩
 | k + 1, u, hk => by
  by_cases h : u < 10
  ·rw [decDigits_one h]
   exact ⟨by simp, fun b hb => by rw [List.mem_singleton] at hb; subst hb; rw [dig_toNat h]; omega⟩
  ·rw [decDigits, dif_neg h]
   refine ⟨by simp, fun b hb => ?_⟩
   rcases List.mem_append.1 hb with hb | hb
   ·exact (dec_digits k (u / 10) (by omega)).2 b hb
   ·rw [List.mem_singleton] at hb
    subst hb
    rw [dig_toNat (Nat.mod_lt _ (by omega))]
    omega
theorem atoi_itoa (n : Int) (h1 : -9223372036854775808 ≤ n) (h2 : n < 9223372036854775808) : atoiAll (itoa n) = .ok n := by
 by_cases hn : n < 0
 ·obtain ⟨u, rfl⟩ : ∃ u : Nat, n = -(u : Int) := ⟨n.natAbs, by omega⟩
  rw [itoa_neg u (by omega)]
  have hd := (dec_digits u u (Nat.le_refl _)).1
  have hp := dec_parse u u (Nat.le_refl _) (by omega)
  unfold atoiAll
  simp only [show (45 : UInt8).toNat = 45 from rfl, or_true, if_true, parseMag, hd, if_false, hp, not_true_eq_false, false_and, true_and]
  rw [if_neg (by omega)]
 ·obtain ⟨u, rfl⟩ : ∃ u : Nat, n = u := ⟨n.toNat, by omega⟩
  rw [itoa_nonneg]
  obtain ⟨hd, hb⟩ := dec_digits u u (Nat.le_refl _)
  have hp := dec_parse u u (Nat.le_refl _) (by omega)
  unfold atoiAll
  cases hc : decDigits u with
  | nil => exact absurd hc hd
  | cons c r =>
   have hcb := hb c (by rw [hc]; simp)
   have e1 : ¬ c.toNat = 43 := by omega
   have e2 : ¬ c.toNat = 45 := by omega
   rw [hc] at hp
   simp only [e1, e2, or_self, if_false, parseMag, reduceCtorEq, hp, not_false_eq_true, true_and, false_and]
   rw [if_neg (by omega)]
theorem itoa_bytes (n : Int) : itoa n ≠ [] ∧ ∀ b ∈ itoa n, b.toNat = 45 ∨ (48 ≤ b.toNat ∧ b.toNat ≤ 57) := by
 by_cases hn : n < 0
 ·obtain ⟨u, rfl⟩ : ∃ u : Nat, n = -(u : Int) := ⟨n.natAbs, by omega⟩
  rw [itoa_neg u (by omega)]
  refine ⟨by simp, fun b hb => ?_⟩
  rcases List.mem_cons.1 hb with rfl | hb
  ·exact .inl rfl
  ·exact .inr ((dec_digits u u (Nat.le_refl _)).2 b hb)
 ·obtain ⟨u, rfl⟩ : ∃ u : Nat, n = u := ⟨n.toNat, by omega⟩
  rw [itoa_nonneg]
  exact ⟨(dec_digits u u (Nat.le_refl _)).1, fun b hb => .inr ((dec_digits u u (Nat.le_refl _)).2 b hb)⟩
def cutL (c : UInt8) : List UInt8 → List (List UInt8)
 | [] => [[]]
 | b :: l => if b = c then [] :: cutL c l else match cutL c l with
  | p :: r => (b :: p) :: r
  | [] => [[b]]
theorem cutL_cons (c : UInt8) : ∀ l, ∃ p r, cutL c l = p :: r
 | [] => ⟨[], [], rfl⟩
 | b :: l => by
  obtain ⟨p, r, h⟩ := cutL_cons c l
  simp only [cutL, h]
  split
  ·exact ⟨_, _, rfl⟩
  ·exact ⟨_, _, rfl⟩
theorem cutL_one {c : UInt8} : ∀ {l : List UInt8}, (∀ b ∈ l, b ≠ c) → cutL c l = [l]
 | [], _ => rfl
 | b :: l, h => by
  rw [cutL, if_neg (h b (by simp)), cutL_one fun x hx => h x (by simp [hx])]
theorem cutL_app {c : UInt8} : ∀ {x l : List UInt8}, (∀ b ∈ x, b ≠ c) → cutL c (x ++ c :: l) = x :: cutL c l
 | [], l, _ => by simp [cutL]
 | b :: x, l, h => by
  rw [List.cons_append, cutL, if_neg (h b (by simp)), cutL_app fun y hy => h y (by simp [hy])]
theorem join_cons2 (x y : List UInt8) (l : List (List UInt8)) (c : UInt8) : join (x :: y :: l) [c] = x ++ c :: join (y :: l) [c] := by
 simp [join, List.intercalate]
theorem cut_join {c : UInt8} : ∀ {l : List (List UInt8)}, l ≠ [] → (∀ x ∈ l, ∀ b ∈ x, b ≠ c) → cutL c (join l [c]) = l
 | [], h, _ => absurd rfl h
 | [x], _, h => by
  rw [join_one]
  exact cutL_one (h x (by simp))
 | x :: y :: l, _, h => by
  rw [join_cons2, cutL_app (h x (by simp)), cut_join (by simp) fun z hz => h z (by simp [hz])]
theorem splitK_cut (c : UInt8) : ∀ s : List UInt8, splitK [c] 0 (count s [c]) s = cutL c s
 | [] => by rw [count_one]; rfl
 | b :: l => by
  have ih := splitK_cut c l
  by_cases h : b = c
  ·subst h
   have hix : index (b :: l) [b] = ((0 : Nat) : Int) := by rw [index]; simp [List.isPrefixOf]
   rw [count_cons_eq, Nat.add_comm, splitK, hix, cutL, if_pos rfl]
   simp [ih]
  ·rw [count_cons_ne b c l h]
   have hp : ([c] : List UInt8).isPrefixOf (b :: l) = false := by simp [List.isPrefixOf, Ne.symm h]
   have hix : index (b :: l) [c] = if index l [c] == -1 then -1 else index l [c] + 1 := by rw [index, hp]; simp
   rw [cutL, if_neg h, ← ih]
   cases hk : count l [c] with
   | zero => rfl
   | succ k =>
    have hm : index l [c] ≠ -1 := fun e => by rw [count_miss e] at hk; omega
    have hge := index_ge l [c]
    obtain ⟨j, hj⟩ : ∃ j : Nat, index l [c] = j := ⟨(index l [c]).toNat, by omega⟩
    have hm2 : (index l [c] == -1) = false := by simpa using hm
    have hm3 : (((j + 1 : Nat) : Int) == -1) = false := beq_eq_false_iff_ne.2 (by omega)
    have hm4 : ((j : Int) == -1) = false := beq_eq_false_iff_ne.2 (by omega)
    have hix' : index (b :: l) [c] = ((j + 1 : Nat) : Int) := by rw [hix, hm2, hj]; simp
    simp only [splitK, hix', hj, hm3, hm4, Bool.false_eq_true, if_false, Int.toNat_natCast, List.length_singleton]
    simp [List.take_succ_cons, List.drop_succ_cons]
theorem split_cut (s : ByteArray) (c : UInt8) : splitB ⟨#[c]⟩ 0 (countB s ⟨#[c]⟩) s = (cutL c s.data.toList).map fun l => ⟨l.toArray⟩ := by
 have h := splitB_data ⟨#[c]⟩ 0 (countB s ⟨#[c]⟩) s
 have h2 : countB s ⟨#[c]⟩ = count s.data.toList [c] := rfl
 rw [h2] at h ⊢
 rw [show (⟨#[c]⟩ : ByteArray).data.toList = [c] from rfl, splitK_cut] at h
 rw [← h, List.map_map]
 have : ((fun l : List UInt8 => (⟨l.toArray⟩ : ByteArray)) ∘ fun x : ByteArray => x.data.toList) = id := by
  funext x
  simp
 rw [this, List.map_id]
end Go.Deepv

namespace Go.Deepv
abbrev oP (d : Nat) (x : DOp) : DOper := ⟨some d, x, none⟩
abbrev sP (x : DOp) : DOper := ⟨none, x, none⟩
abbrev gP (d g : Nat) (b : Bool) (x : DOp) : DOper := ⟨some d, x, some (g, b)⟩
abbrev tP (n : Nat) : Opd := .tmp n
abbrev iP (n : Int) : Opd := .con (.int .i64 n)
abbrev bP (b : Bool) : Opd := .con (.bool b)
set_option maxRecDepth 10000 in
theorem sS :
 type_of% @oP.eq_1 ∧
 type_of% @sP.eq_1 ∧
 type_of% @gP.eq_1 ∧
 type_of% @tP.eq_1 ∧
 type_of% @iP.eq_1 ∧
 type_of% @bP.eq_1 ∧
 type_of% @drun.eq_1 ∧
 type_of% @dpre.eq_1 ∧
 type_of% @dpre.eq_2 ∧
 type_of% @dlast.eq_1 ∧
 type_of% @mvs.eq_1 ∧
 type_of% @FV.isNils.eq_1 ∧
 type_of% @FV.isNils.eq_2 ∧
 type_of% @DV.isRow.eq_1 ∧
 type_of% @DV.isRow.eq_2 ∧
 type_of% @fillD.eq_1 ∧
 type_of% @fillD.eq_2 ∧
 type_of% @buildD.eq_1 ∧
 type_of% @nilC.eq_1 ∧
 type_of% @nilC.eq_2 ∧
 type_of% @keepNil.eq_1 ∧
 type_of% @keepNil.eq_2 ∧
 type_of% @keepNil.eq_3 ∧
 type_of% @keepNil.eq_4 ∧
 type_of% @keepNil.eq_5 ∧
 type_of% @keepNil.eq_6 ∧
 type_of% @fullOf.eq_1 ∧
 type_of% @fullOf.eq_2 ∧
 type_of% @fullOf.eq_3 ∧
 type_of% @unfull.eq_1 ∧
 type_of% @unfull.eq_2 ∧
 type_of% @mintD.eq_1 ∧
 type_of% @mintD.eq_2 ∧
 type_of% @mintD.eq_3 ∧
 type_of% @List.any_nil.{0} ∧
 type_of% @List.any_nil.{1} ∧
 type_of% @List.any_cons.{0} ∧
 type_of% @List.any_cons.{1} ∧
 type_of% @dbody.eq_1 ∧
 type_of% @dexec.eq_1 ∧
 type_of% @dexec.eq_2 ∧
 type_of% @dexec.eq_3 ∧
 type_of% @dexec.eq_4 ∧
 type_of% @dexec.eq_5 ∧
 type_of% @dexec.eq_6 ∧
 type_of% @dexec.eq_7 ∧
 type_of% @dexec.eq_8 ∧
 type_of% @dexec.eq_9 ∧
 type_of% @dexec.eq_10 ∧
 type_of% @dexec.eq_11 ∧
 type_of% @ostep.eq_1 ∧
 type_of% @dop.eq_1 ∧
 type_of% @dop.eq_2 ∧
 type_of% @dop.eq_3 ∧
 type_of% @dop.eq_4 ∧
 type_of% @dop.eq_5 ∧
 type_of% @dop.eq_6 ∧
 type_of% @dop.eq_7 ∧
 type_of% @dop.eq_8 ∧
 type_of% @dop.eq_9 ∧
 type_of% @dop.eq_10 ∧
 type_of% @dop.eq_11 ∧
 type_of% @dop.eq_12 ∧
 type_of% @dop.eq_13 ∧
 type_of% @dop.eq_14 ∧
 type_of% @dop.eq_15 ∧
 type_of% @dop.eq_16 ∧
 type_of% @dop.eq_17 ∧
 type_of% @dop.eq_18 ∧
 type_of% @dop.eq_19 ∧
 type_of% @dop.eq_20 ∧
 type_of% @dop.eq_21 ∧
 type_of% @dop.eq_22 ∧
 type_of% @dop.eq_23 ∧
 type_of% @dop.eq_24 ∧
 type_of% @dop.eq_25 ∧
 type_of% @dop.eq_26 ∧
 type_of% @dop.eq_27 ∧
 type_of% @dop.eq_28 ∧
 type_of% @dop.eq_29 ∧
 type_of% @dop.eq_30 ∧
 type_of% @dop.eq_31 ∧
 type_of% @dop.eq_32 ∧
 type_of% @dop.eq_33 ∧
 type_of% @dop.eq_34 ∧
 type_of% @dop.eq_35 ∧
 type_of% @dop.eq_36 ∧
 type_of% @dop.eq_37 ∧
 type_of% @dop.eq_38 ∧
 type_of% @dop.eq_39 ∧
 type_of% @dop.eq_40 ∧
 type_of% @dop.eq_41 ∧
 type_of% @dop.eq_42 ∧
 type_of% @dop.eq_43 ∧
 type_of% @dop.eq_44 ∧
 type_of% @dop.eq_45 ∧
 type_of% @dop.eq_46 ∧
 type_of% @dop.eq_47 ∧
 type_of% @dop.eq_48 ∧
 type_of% @dop.eq_49 ∧
 type_of% @dop.eq_50 ∧
 type_of% @dop.eq_51 ∧
 type_of% @dop.eq_52 ∧
 type_of% @dop.eq_53 ∧
 type_of% @dop.eq_54 ∧
 type_of% @dop.eq_55 ∧
 type_of% @dop.eq_56 ∧
 type_of% @dop.eq_57 ∧
 type_of% @dop.eq_58 ∧
 type_of% @dop.eq_59 ∧
 type_of% @dop.eq_60 ∧
 type_of% @dop.eq_61 ∧
 type_of% @dop.eq_62 ∧
 type_of% @ev.eq_1 ∧
 type_of% @ev.eq_2 ∧
 type_of% @ev.eq_3 ∧
 type_of% @put.eq_1 ∧
 type_of% @put.eq_2 ∧
 type_of% @wants.eq_1 ∧
 type_of% @wants.eq_2 ∧
 type_of% @dbin.eq_1 ∧
 type_of% @dbin.eq_2 ∧
 type_of% @dbin.eq_3 ∧
 type_of% @dbin.eq_4 ∧
 type_of% @dbin.eq_5 ∧
 type_of% @dbin.eq_6 ∧
 type_of% @dbin.eq_7 ∧
 type_of% @dbin.eq_8 ∧
 type_of% @dbin.eq_9 ∧
 type_of% @dbin.eq_10 ∧
 type_of% @dbin.eq_11 ∧
 type_of% @dbin.eq_12 ∧
 type_of% @dbin.eq_13 ∧
 type_of% @dbin.eq_14 ∧
 type_of% @dbin.eq_15 ∧
 type_of% @dbin.eq_16 ∧
 type_of% @dbin.eq_17 ∧
 type_of% @dbin.eq_18 ∧
 type_of% @dbin.eq_19 ∧
 type_of% @dbin.eq_20 ∧
 type_of% @dun.eq_1 ∧
 type_of% @dun.eq_2 ∧
 type_of% @dun.eq_3 ∧
 type_of% @List.replicate.eq_1.{0} ∧
 type_of% @List.replicate.eq_1.{1} ∧
 type_of% @List.replicate.eq_2.{0} ∧
 type_of% @List.replicate.eq_2.{1} ∧
 type_of% @DV.cells.eq_1 ∧
 type_of% @DV.cells.eq_2 ∧
 type_of% @DV.cells.eq_3 ∧
 type_of% @DV.flat.eq_1 ∧
 type_of% @DV.flat.eq_2 ∧
 type_of% @DV.flat.eq_3 ∧
 type_of% @dload.eq_1 ∧
 type_of% @dload.eq_2 ∧
 type_of% @DV.elems.eq_1 ∧
 type_of% @DV.elems.eq_2 ∧
 type_of% @DV.elems.eq_3 ∧
 type_of% @DV.elems.eq_4 ∧
 type_of% @DV.elems.eq_5 ∧
 type_of% @DV.elems.eq_6 ∧
 type_of% @DV.elems.eq_7 ∧
 type_of% @mask.eq_1 ∧
 type_of% @mask.eq_2 ∧
 type_of% @mask.eq_3 ∧
 type_of% @mask.eq_4 ∧
 type_of% @DV.lows.eq_1 ∧
 type_of% @DV.lows.eq_2 ∧
 type_of% @DV.low.eq_1 ∧
 type_of% @DV.low.eq_2 ∧
 type_of% @DV.low.eq_3 ∧
 type_of% @DV.low.eq_4 ∧
 type_of% @DV.low.eq_5 ∧
 type_of% @DV.low.eq_6 ∧
 type_of% @DV.low.eq_7 ∧
 type_of% @DV.low.eq_8 ∧
 type_of% @DV.low.eq_9 ∧
 type_of% @DV.low.eq_10 ∧
 type_of% @DV.low.eq_11 ∧
 type_of% @DV.low.eq_12 ∧
 type_of% @DV.low.eq_13 ∧
 type_of% @DV.coe.eq_1 ∧
 type_of% @DV.coe.eq_2 ∧
 type_of% @DV.coe.eq_3 ∧
 type_of% @DV.coe.eq_4 ∧
 type_of% @DV.isD.eq_1 ∧
 type_of% @DV.isD.eq_2 ∧
 type_of% @dresults.eq_1 ∧
 type_of% @dresults.eq_2 ∧
 type_of% @dresult.eq_1 ∧
 type_of% @dresult.eq_2 ∧
 type_of% @withHeap.eq_1 ∧
 type_of% @withHeap.eq_2 ∧
 type_of% @lowCells.eq_1 ∧
 type_of% @LSt.isReady.eq_1 ∧
 type_of% @LSt.isReady.eq_2 ∧
 type_of% @srcElems.eq_1 ∧
 type_of% @srcElems.eq_2 ∧
 type_of% @DV.int.eq_1 ∧
 type_of% @DV.int.eq_2 ∧
 type_of% @DV.mkAgg.eq_1 ∧
 type_of% @same.eq_1 ∧
 type_of% @mnmx2.eq_1 ∧
 type_of% @mnmx2.eq_2 ∧
 type_of% @nilness.eq_1 ∧
 type_of% @nilness.eq_2 ∧
 type_of% @nilness.eq_3 ∧
 type_of% @nilness.eq_4 ∧
 type_of% @nilness.eq_5 ∧
 type_of% @nilness.eq_6 ∧
 type_of% @nilness.eq_7 ∧
 type_of% @nilness.eq_8 ∧
 type_of% @nilness.eq_9 ∧
 type_of% @nilness.eq_10 ∧
 type_of% @nilness.eq_11 ∧
 type_of% @nilness.eq_12 ∧
 type_of% @nilness.eq_13 ∧
 type_of% @nilness.eq_14 ∧
 type_of% @nilness.eq_15 ∧
 type_of% @nilness.eq_16 ∧
 type_of% @nilness.eq_17 ∧
 type_of% @bound.eq_1 ∧
 type_of% @bound.eq_2 ∧
 type_of% @fill.eq_1 ∧
 type_of% @fill.eq_2 ∧
 type_of% @flatCells.eq_1 ∧
 type_of% @allocCells.eq_1 ∧
 type_of% @allocCells.eq_2 ∧
 type_of% @allocCells.eq_3 ∧
 type_of% @stp :=
 ⟨@oP.eq_1, @sP.eq_1, @gP.eq_1, @tP.eq_1, @iP.eq_1, @bP.eq_1, @drun.eq_1, @dpre.eq_1, @dpre.eq_2, @dlast.eq_1, @mvs.eq_1, @FV.isNils.eq_1, @FV.isNils.eq_2, @DV.isRow.eq_1, @DV.isRow.eq_2, @fillD.eq_1, @fillD.eq_2, @buildD.eq_1, @nilC.eq_1, @nilC.eq_2, @keepNil.eq_1, @keepNil.eq_2, @keepNil.eq_3, @keepNil.eq_4, @keepNil.eq_5, @keepNil.eq_6, @fullOf.eq_1, @fullOf.eq_2, @fullOf.eq_3, @unfull.eq_1, @unfull.eq_2, @mintD.eq_1, @mintD.eq_2, @mintD.eq_3, @List.any_nil.{0}, @List.any_nil.{1}, @List.any_cons.{0}, @List.any_cons.{1}, @dbody.eq_1, @dexec.eq_1, @dexec.eq_2, @dexec.eq_3, @dexec.eq_4, @dexec.eq_5, @dexec.eq_6, @dexec.eq_7, @dexec.eq_8, @dexec.eq_9, @dexec.eq_10, @dexec.eq_11, @ostep.eq_1, @dop.eq_1, @dop.eq_2, @dop.eq_3, @dop.eq_4, @dop.eq_5, @dop.eq_6, @dop.eq_7, @dop.eq_8, @dop.eq_9, @dop.eq_10, @dop.eq_11, @dop.eq_12, @dop.eq_13, @dop.eq_14, @dop.eq_15, @dop.eq_16, @dop.eq_17, @dop.eq_18, @dop.eq_19, @dop.eq_20, @dop.eq_21, @dop.eq_22, @dop.eq_23, @dop.eq_24, @dop.eq_25, @dop.eq_26, @dop.eq_27, @dop.eq_28, @dop.eq_29, @dop.eq_30, @dop.eq_31, @dop.eq_32, @dop.eq_33, @dop.eq_34, @dop.eq_35, @dop.eq_36, @dop.eq_37, @dop.eq_38, @dop.eq_39, @dop.eq_40, @dop.eq_41, @dop.eq_42, @dop.eq_43, @dop.eq_44, @dop.eq_45, @dop.eq_46, @dop.eq_47, @dop.eq_48, @dop.eq_49, @dop.eq_50, @dop.eq_51, @dop.eq_52, @dop.eq_53, @dop.eq_54, @dop.eq_55, @dop.eq_56, @dop.eq_57, @dop.eq_58, @dop.eq_59, @dop.eq_60, @dop.eq_61, @dop.eq_62, @ev.eq_1, @ev.eq_2, @ev.eq_3, @put.eq_1, @put.eq_2, @wants.eq_1, @wants.eq_2, @dbin.eq_1, @dbin.eq_2, @dbin.eq_3, @dbin.eq_4, @dbin.eq_5, @dbin.eq_6, @dbin.eq_7, @dbin.eq_8, @dbin.eq_9, @dbin.eq_10, @dbin.eq_11, @dbin.eq_12, @dbin.eq_13, @dbin.eq_14, @dbin.eq_15, @dbin.eq_16, @dbin.eq_17, @dbin.eq_18, @dbin.eq_19, @dbin.eq_20, @dun.eq_1, @dun.eq_2, @dun.eq_3, @List.replicate.eq_1.{0}, @List.replicate.eq_1.{1}, @List.replicate.eq_2.{0}, @List.replicate.eq_2.{1}, @DV.cells.eq_1, @DV.cells.eq_2, @DV.cells.eq_3, @DV.flat.eq_1, @DV.flat.eq_2, @DV.flat.eq_3, @dload.eq_1, @dload.eq_2, @DV.elems.eq_1, @DV.elems.eq_2, @DV.elems.eq_3, @DV.elems.eq_4, @DV.elems.eq_5, @DV.elems.eq_6, @DV.elems.eq_7, @mask.eq_1, @mask.eq_2, @mask.eq_3, @mask.eq_4, @DV.lows.eq_1, @DV.lows.eq_2, @DV.low.eq_1, @DV.low.eq_2, @DV.low.eq_3, @DV.low.eq_4, @DV.low.eq_5, @DV.low.eq_6, @DV.low.eq_7, @DV.low.eq_8, @DV.low.eq_9, @DV.low.eq_10, @DV.low.eq_11, @DV.low.eq_12, @DV.low.eq_13, @DV.coe.eq_1, @DV.coe.eq_2, @DV.coe.eq_3, @DV.coe.eq_4, @DV.isD.eq_1, @DV.isD.eq_2, @dresults.eq_1, @dresults.eq_2, @dresult.eq_1, @dresult.eq_2, @withHeap.eq_1, @withHeap.eq_2, @lowCells.eq_1, @LSt.isReady.eq_1, @LSt.isReady.eq_2, @srcElems.eq_1, @srcElems.eq_2, @DV.int.eq_1, @DV.int.eq_2, @DV.mkAgg.eq_1, @same.eq_1, @mnmx2.eq_1, @mnmx2.eq_2, @nilness.eq_1, @nilness.eq_2, @nilness.eq_3, @nilness.eq_4, @nilness.eq_5, @nilness.eq_6, @nilness.eq_7, @nilness.eq_8, @nilness.eq_9, @nilness.eq_10, @nilness.eq_11, @nilness.eq_12, @nilness.eq_13, @nilness.eq_14, @nilness.eq_15, @nilness.eq_16, @nilness.eq_17, @bound.eq_1, @bound.eq_2, @fill.eq_1, @fill.eq_2, @flatCells.eq_1, @allocCells.eq_1, @allocCells.eq_2, @allocCells.eq_3, @stp⟩
set_option maxRecDepth 10000 in
theorem sT :
 type_of% @oP.eq_1 ∧
 type_of% @sP.eq_1 ∧
 type_of% @gP.eq_1 ∧
 type_of% @tP.eq_1 ∧
 type_of% @iP.eq_1 ∧
 type_of% @bP.eq_1 ∧
 type_of% @FV.isNils.eq_1 ∧
 type_of% @FV.isNils.eq_2 ∧
 type_of% @DV.isRow.eq_1 ∧
 type_of% @DV.isRow.eq_2 ∧
 type_of% @fillD.eq_1 ∧
 type_of% @fillD.eq_2 ∧
 type_of% @buildD.eq_1 ∧
 type_of% @nilC.eq_1 ∧
 type_of% @nilC.eq_2 ∧
 type_of% @keepNil.eq_1 ∧
 type_of% @keepNil.eq_2 ∧
 type_of% @keepNil.eq_3 ∧
 type_of% @keepNil.eq_4 ∧
 type_of% @keepNil.eq_5 ∧
 type_of% @keepNil.eq_6 ∧
 type_of% @fullOf.eq_1 ∧
 type_of% @fullOf.eq_2 ∧
 type_of% @fullOf.eq_3 ∧
 type_of% @unfull.eq_1 ∧
 type_of% @unfull.eq_2 ∧
 type_of% @mintD.eq_1 ∧
 type_of% @mintD.eq_2 ∧
 type_of% @mintD.eq_3 ∧
 type_of% @List.any_nil.{0} ∧
 type_of% @List.any_nil.{1} ∧
 type_of% @List.any_cons.{0} ∧
 type_of% @List.any_cons.{1} ∧
 type_of% @unnil.eq_1 ∧
 type_of% @unnil.eq_2 ∧
 type_of% @unnil.eq_3 ∧
 type_of% @unnil.eq_4 ∧
 type_of% @unnil.eq_5 ∧
 type_of% @keyOk.eq_1 ∧
 type_of% @keyOk.eq_2 ∧
 type_of% @keyOk.eq_3 ∧
 type_of% @keyOk.eq_4 ∧
 type_of% @keyEq.eq_1 ∧
 type_of% @keyEq.eq_2 ∧
 type_of% @keyEq.eq_3 ∧
 type_of% @keyEq.eq_4 ∧
 type_of% @findE.eq_1 ∧
 type_of% @findE.eq_2 ∧
 type_of% @appVec.eq_1 ∧
 type_of% @appVec.eq_2 ∧
 type_of% @appVec.eq_3 ∧
 type_of% @slk.eq_1 ∧
 type_of% @slk.eq_2 ∧
 type_of% @agreeS.eq_1 ∧
 type_of% @agreeS.eq_2 ∧
 type_of% @idxS.eq_1 ∧
 type_of% @idxS.eq_2 ∧
 type_of% @keepS.eq_1 ∧
 type_of% @keepS.eq_2 ∧
 type_of% @keepS.eq_3 ∧
 type_of% @lowS.eq_1 ∧
 type_of% @lowS.eq_2 ∧
 type_of% @dbin.eq_1 ∧
 type_of% @dbin.eq_2 ∧
 type_of% @dbin.eq_3 ∧
 type_of% @dbin.eq_4 ∧
 type_of% @dbin.eq_5 ∧
 type_of% @dbin.eq_6 ∧
 type_of% @dbin.eq_7 ∧
 type_of% @dbin.eq_8 ∧
 type_of% @dbin.eq_9 ∧
 type_of% @dbin.eq_10 ∧
 type_of% @dbin.eq_11 ∧
 type_of% @dbin.eq_12 ∧
 type_of% @dbin.eq_13 ∧
 type_of% @dbin.eq_14 ∧
 type_of% @dbin.eq_15 ∧
 type_of% @dbin.eq_16 ∧
 type_of% @dbin.eq_17 ∧
 type_of% @dbin.eq_18 ∧
 type_of% @dbin.eq_19 ∧
 type_of% @dbin.eq_20 ∧
 type_of% @dun.eq_1 ∧
 type_of% @dun.eq_2 ∧
 type_of% @dun.eq_3 ∧
 type_of% @List.replicate.eq_1.{0} ∧
 type_of% @List.replicate.eq_1.{1} ∧
 type_of% @List.replicate.eq_2.{0} ∧
 type_of% @List.replicate.eq_2.{1} ∧
 type_of% @DV.cells.eq_1 ∧
 type_of% @DV.cells.eq_2 ∧
 type_of% @DV.cells.eq_3 ∧
 type_of% @DV.flat.eq_1 ∧
 type_of% @DV.flat.eq_2 ∧
 type_of% @DV.flat.eq_3 ∧
 type_of% @dload.eq_1 ∧
 type_of% @dload.eq_2 ∧
 type_of% @DV.elems.eq_1 ∧
 type_of% @DV.elems.eq_2 ∧
 type_of% @DV.elems.eq_3 ∧
 type_of% @DV.elems.eq_4 ∧
 type_of% @DV.elems.eq_5 ∧
 type_of% @DV.elems.eq_6 ∧
 type_of% @DV.elems.eq_7 ∧
 type_of% @DV.lows.eq_1 ∧
 type_of% @DV.lows.eq_2 ∧
 type_of% @DV.low.eq_1 ∧
 type_of% @DV.low.eq_2 ∧
 type_of% @DV.low.eq_3 ∧
 type_of% @DV.low.eq_4 ∧
 type_of% @DV.low.eq_5 ∧
 type_of% @DV.low.eq_6 ∧
 type_of% @DV.low.eq_7 ∧
 type_of% @DV.low.eq_8 ∧
 type_of% @DV.low.eq_9 ∧
 type_of% @DV.low.eq_10 ∧
 type_of% @DV.low.eq_11 ∧
 type_of% @DV.low.eq_12 ∧
 type_of% @DV.low.eq_13 ∧
 type_of% @DV.coe.eq_1 ∧
 type_of% @DV.coe.eq_2 ∧
 type_of% @DV.coe.eq_3 ∧
 type_of% @DV.coe.eq_4 ∧
 type_of% @DV.isD.eq_1 ∧
 type_of% @DV.isD.eq_2 ∧
 type_of% @dresults.eq_1 ∧
 type_of% @dresults.eq_2 ∧
 type_of% @dresult.eq_1 ∧
 type_of% @dresult.eq_2 ∧
 type_of% @withHeap.eq_1 ∧
 type_of% @withHeap.eq_2 ∧
 type_of% @lowCells.eq_1 ∧
 type_of% @LSt.isReady.eq_1 ∧
 type_of% @LSt.isReady.eq_2 ∧
 type_of% @srcElems.eq_1 ∧
 type_of% @srcElems.eq_2 ∧
 type_of% @DV.int.eq_1 ∧
 type_of% @DV.int.eq_2 ∧
 type_of% @DV.mkAgg.eq_1 ∧
 type_of% @same.eq_1 ∧
 type_of% @mnmx2.eq_1 ∧
 type_of% @mnmx2.eq_2 ∧
 type_of% @nilness.eq_1 ∧
 type_of% @nilness.eq_2 ∧
 type_of% @nilness.eq_3 ∧
 type_of% @nilness.eq_4 ∧
 type_of% @nilness.eq_5 ∧
 type_of% @nilness.eq_6 ∧
 type_of% @nilness.eq_7 ∧
 type_of% @nilness.eq_8 ∧
 type_of% @nilness.eq_9 ∧
 type_of% @nilness.eq_10 ∧
 type_of% @nilness.eq_11 ∧
 type_of% @nilness.eq_12 ∧
 type_of% @nilness.eq_13 ∧
 type_of% @nilness.eq_14 ∧
 type_of% @nilness.eq_15 ∧
 type_of% @nilness.eq_16 ∧
 type_of% @nilness.eq_17 ∧
 type_of% @bound.eq_1 ∧
 type_of% @bound.eq_2 ∧
 type_of% @fill.eq_1 ∧
 type_of% @fill.eq_2 ∧
 type_of% @flatCells.eq_1 ∧
 type_of% @allocCells.eq_1 ∧
 type_of% @allocCells.eq_2 ∧
 type_of% @allocCells.eq_3 ∧
 type_of% @putCells.eq_1 ∧
 type_of% @splitG.eq_1 ∧
 type_of% @splitG.eq_2 ∧
 type_of% @splitG.eq_3 ∧
 type_of% @splitG.eq_4 ∧
 type_of% @onG.eq_1 ∧
 type_of% @onG.eq_2 ∧
 type_of% @onG.eq_3 ∧
 type_of% @insD.eq_1 ∧
 type_of% @insD.eq_2 ∧
 type_of% @memD.eq_1 ∧
 type_of% @memD.eq_2 ∧
 type_of% @stq :=
 ⟨@oP.eq_1, @sP.eq_1, @gP.eq_1, @tP.eq_1, @iP.eq_1, @bP.eq_1, @FV.isNils.eq_1, @FV.isNils.eq_2, @DV.isRow.eq_1, @DV.isRow.eq_2, @fillD.eq_1, @fillD.eq_2, @buildD.eq_1, @nilC.eq_1, @nilC.eq_2, @keepNil.eq_1, @keepNil.eq_2, @keepNil.eq_3, @keepNil.eq_4, @keepNil.eq_5, @keepNil.eq_6, @fullOf.eq_1, @fullOf.eq_2, @fullOf.eq_3, @unfull.eq_1, @unfull.eq_2, @mintD.eq_1, @mintD.eq_2, @mintD.eq_3, @List.any_nil.{0}, @List.any_nil.{1}, @List.any_cons.{0}, @List.any_cons.{1}, @unnil.eq_1, @unnil.eq_2, @unnil.eq_3, @unnil.eq_4, @unnil.eq_5, @keyOk.eq_1, @keyOk.eq_2, @keyOk.eq_3, @keyOk.eq_4, @keyEq.eq_1, @keyEq.eq_2, @keyEq.eq_3, @keyEq.eq_4, @findE.eq_1, @findE.eq_2, @appVec.eq_1, @appVec.eq_2, @appVec.eq_3, @slk.eq_1, @slk.eq_2, @agreeS.eq_1, @agreeS.eq_2, @idxS.eq_1, @idxS.eq_2, @keepS.eq_1, @keepS.eq_2, @keepS.eq_3, @lowS.eq_1, @lowS.eq_2, @dbin.eq_1, @dbin.eq_2, @dbin.eq_3, @dbin.eq_4, @dbin.eq_5, @dbin.eq_6, @dbin.eq_7, @dbin.eq_8, @dbin.eq_9, @dbin.eq_10, @dbin.eq_11, @dbin.eq_12, @dbin.eq_13, @dbin.eq_14, @dbin.eq_15, @dbin.eq_16, @dbin.eq_17, @dbin.eq_18, @dbin.eq_19, @dbin.eq_20, @dun.eq_1, @dun.eq_2, @dun.eq_3, @List.replicate.eq_1.{0}, @List.replicate.eq_1.{1}, @List.replicate.eq_2.{0}, @List.replicate.eq_2.{1}, @DV.cells.eq_1, @DV.cells.eq_2, @DV.cells.eq_3, @DV.flat.eq_1, @DV.flat.eq_2, @DV.flat.eq_3, @dload.eq_1, @dload.eq_2, @DV.elems.eq_1, @DV.elems.eq_2, @DV.elems.eq_3, @DV.elems.eq_4, @DV.elems.eq_5, @DV.elems.eq_6, @DV.elems.eq_7, @DV.lows.eq_1, @DV.lows.eq_2, @DV.low.eq_1, @DV.low.eq_2, @DV.low.eq_3, @DV.low.eq_4, @DV.low.eq_5, @DV.low.eq_6, @DV.low.eq_7, @DV.low.eq_8, @DV.low.eq_9, @DV.low.eq_10, @DV.low.eq_11, @DV.low.eq_12, @DV.low.eq_13, @DV.coe.eq_1, @DV.coe.eq_2, @DV.coe.eq_3, @DV.coe.eq_4, @DV.isD.eq_1, @DV.isD.eq_2, @dresults.eq_1, @dresults.eq_2, @dresult.eq_1, @dresult.eq_2, @withHeap.eq_1, @withHeap.eq_2, @lowCells.eq_1, @LSt.isReady.eq_1, @LSt.isReady.eq_2, @srcElems.eq_1, @srcElems.eq_2, @DV.int.eq_1, @DV.int.eq_2, @DV.mkAgg.eq_1, @same.eq_1, @mnmx2.eq_1, @mnmx2.eq_2, @nilness.eq_1, @nilness.eq_2, @nilness.eq_3, @nilness.eq_4, @nilness.eq_5, @nilness.eq_6, @nilness.eq_7, @nilness.eq_8, @nilness.eq_9, @nilness.eq_10, @nilness.eq_11, @nilness.eq_12, @nilness.eq_13, @nilness.eq_14, @nilness.eq_15, @nilness.eq_16, @nilness.eq_17, @bound.eq_1, @bound.eq_2, @fill.eq_1, @fill.eq_2, @flatCells.eq_1, @allocCells.eq_1, @allocCells.eq_2, @allocCells.eq_3, @putCells.eq_1, @splitG.eq_1, @splitG.eq_2, @splitG.eq_3, @splitG.eq_4, @onG.eq_1, @onG.eq_2, @onG.eq_3, @insD.eq_1, @insD.eq_2, @memD.eq_1, @memD.eq_2, @stq⟩
end Go.Deepv
namespace Go.Deepv
open Go.RowKit
def Sized (P : Program) : Nat → TypeId → List FV → Prop
 | 0, _, _ => True
 | k + 1, t, fs => match P.underlying t with
  | some .string => ∀ s, fs = [.str s] → s.size ≤ reachBytes
  | some (.slice e) => ∀ sz elems, fs = [.slice sz elems] → elems.length * P.bytesOf e ≤ reachBytes ∧ ∀ c ∈ elems, Sized P k e c
  | some (.struct fl) => ∀ f ∈ fl.toList, Sized P k f.type ((fs.drop f.offset).take (P.cellsOf f.type))
  | _ => True
theorem mapM_len {α β : Type} {f : α → Option β} : ∀ {l : List α} {r : List β}, l.mapM f = some r → r.length = l.length
 | [], r, h => by simp at h; subst h; rfl
 | a :: l, r, h => by
  simp only [List.mapM_cons, Option.pure_def, Option.bind_eq_bind, Option.bind_eq_some_iff, Option.some.injEq] at h
  obtain ⟨b, hb, bs, hbs, rfl⟩ := h
  simp [mapM_len hbs]
theorem mapM_get {α β : Type} {f : α → Option β} : ∀ {l : List α} {r : List β}, l.mapM f = some r → ∀ (j : Nat) (x : α), l[j]? = some x → ∃ y, f x = some y ∧ r[j]? = some y
 | [], r, h, j, x, hx => by simp at hx
 | a :: l, r, h, j, x, hx => by
  simp only [List.mapM_cons, Option.pure_def, Option.bind_eq_bind, Option.bind_eq_some_iff, Option.some.injEq] at h
  obtain ⟨b, hb, bs, hbs, rfl⟩ := h
  cases j with
  | zero => simp at hx; subst hx; exact ⟨b, hb, rfl⟩
  | succ j =>
   obtain ⟨y, h1, h2⟩ := mapM_get hbs j x (by simpa using hx)
   exact ⟨y, h1, by simpa using h2⟩
theorem mapM_mem2 {α β : Type} {f : α → Option β} {l : List α} {r : List β} (h : l.mapM f = some r) (x : α) (hx : x ∈ l) : ∃ y, f x = some y ∧ y ∈ r := by
 obtain ⟨j, hj⟩ := List.getElem?_of_mem hx
 obtain ⟨y, h1, h2⟩ := mapM_get h j x hj
 exact ⟨y, h1, List.mem_of_getElem? h2⟩
theorem weightsAll_mem {H : Type} {P : Program} {e : TypeId} : ∀ {ds : List (DataW H)} {d : DataW H}, d ∈ ds → ∀ n ∈ d.weights P e, n ∈ DataW.weightsAll P e ds
 | d0 :: ds, d, hd, n, hn => by
  simp only [DataW.weightsAll, List.mem_append]
  rcases List.mem_cons.1 hd with rfl | hd
  ·exact .inl hn
  ·exact .inr (weightsAll_mem hd n hn)
theorem weights_elem {H : Type} {P : Program} {t e : TypeId} {es sp : List (DataW H)} {d : DataW H} (hu : P.underlying t = some (.slice e)) (hd : d ∈ es) (h : ((DataW.slice es sp).weights P t).all (· ≤ reachBytes) = true) : (d.weights P e).all (· ≤ reachBytes) = true := by
 simp only [DataW.weights, hu, List.all_cons, List.all_append, Bool.and_eq_true] at h
 exact List.all_eq_true.2 fun n hn => List.all_eq_true.1 h.2.1 n (weightsAll_mem hd n hn)
theorem weights_field {H : Type} {P : Program} {t : TypeId} {fl : Array Field} {ds : List (DataW H)} {j : Nat} {t' : TypeId} {d : DataW H} (hu : P.underlying t = some (.struct fl)) (ht : (fl.toList.map (·.type))[j]? = some t') (hd : ds[j]? = some d) (h : ((DataW.agg ds).weights P t).all (· ≤ reachBytes) = true) : (d.weights P t').all (· ≤ reachBytes) = true := by
 simp only [DataW.weights, hu] at h
 exact List.all_eq_true.2 fun n hn => List.all_eq_true.1 h n (DataW.weights_mem_each ht hd n hn)
theorem struct_cellsQ {w : World} (Q : TypeId → List FV → Prop) (sz : TypeId → Nat) : ∀ (fl : List Field) (off : Nat) (cs : List Value), (∀ (j : Nat) f, fl[j]? = some f → f.offset = off + ((fl.take j).map fun f => sz f.type).sum) → cs.length = off + (fl.map fun f => sz f.type).sum →
  (∀ f ∈ fl, ∃ fs, RepFs w ((cs.drop f.offset).take (sz f.type)) fs ∧ Q f.type fs) →
  ∃ fs, RepFs w (cs.drop off) fs ∧ ∀ f ∈ fl, Q f.type ((fs.drop (f.offset - off)).take (sz f.type))
 | [], off, cs, h1, h2, h3 => ⟨[], by
   have : cs.drop off = [] := List.drop_of_length_le (by simp at h2; omega)
   rw [this]; exact RepFs.nil, fun f hf => by cases hf⟩
 | g :: fl, off, cs, h1, h2, h3 => by
  have hg : g.offset = off := by simpa using h1 0 g rfl
  obtain ⟨fs1, r1, t1⟩ := h3 g (by simp)
  rw [hg] at r1
  have l1 : fs1.length = sz g.type := by
   rw [← r1.1, List.length_take, List.length_drop]
   simp only [List.map_cons, List.sum_cons] at h2
   omega
  obtain ⟨fs2, r2, t2⟩ := struct_cellsQ (w := w) Q sz fl (off + sz g.type) cs (fun j f hf => by
   have := h1 (j + 1) f (by simpa using hf)
   simp only [List.take_succ_cons, List.map_cons, List.sum_cons] at this
   omega) (by simp at h2; omega) (fun f hf => h3 f (by simp [hf]))
  refine ⟨fs1 ++ fs2, ?_, fun f hf => ?_⟩
  ·have : cs.drop off = (cs.drop off).take (sz g.type) ++ cs.drop (off + sz g.type) := by
    rw [← List.drop_drop]; exact (List.take_append_drop _ _).symm
   rw [this]
   exact r1.append r2
  ·rcases List.mem_cons.1 hf with hf | hf
   ·rw [hf, hg, Nat.sub_self, List.drop_zero, List.take_append_of_le_length (by omega), List.take_of_length_le (by omega)]
    exact t1
   ·have ht := t2 f hf
    obtain ⟨j, hj⟩ := List.getElem?_of_mem hf
    have := h1 (j + 1) f (by simpa using hj)
    simp only [List.take_succ_cons, List.map_cons, List.sum_cons] at this
    rw [List.drop_append, List.drop_of_length_le (by omega), List.nil_append, l1]
    rwa [show f.offset - off - sz g.type = f.offset - (off + sz g.type) from by omega]
section
variable {H : Type} {enc : TypeId × Value → H} {P : Program} {w : World}
theorem rep_of_trod2 {T : TypeId → Prop} (K : Kids P T) (hp : Plain P T) : ∀ (n : Nat) (t : TypeId) (cs : List Value) (x : DataW H × List MemPlace), T t → DataW.trod enc P w 0 (fun _ => true) true n t cs = some x → ∃ fs, RepFs w cs fs ∧ Fits P n t fs ∧ ((x.1.weights P t).all (· ≤ reachBytes) = true → Sized P n t fs) := by
 intro n
 induction n with
 | zero => intro t cs x ht h; simp [DataW.trod] at h
 | succ n ih =>
  intro t cs x ht h
  have hpt := hp t ht
  rw [DataW.trod.eq_def] at h
  simp only at h
  split at h <;> first
   | (cases h; done)
   | skip
  ·rename_i b hu
   exact ⟨[.bool b], RepFs.single (.bool b) rfl, by simp [Fits, hu], fun _ => by simp [Sized, hu]⟩
  ·rename_i k k' m hu
   split at h
   ·rename_i hk
    obtain ⟨rfl, hw⟩ := hk
    exact ⟨[.int k' m], RepFs.single (.int k' m) rfl, by simp [Fits, hu, hw], fun _ => by simp [Sized, hu]⟩
   ·cases h
  ·rename_i hu; rw [hu] at hpt; exact hpt.elim
  ·rename_i s hu
   split at h
   ·rename_i hk
    cases h
    exact ⟨[.str s], RepFs.single (.str s) rfl, by simp [Fits, hu, hk], fun hW => by simpa [Sized, hu, DataW.weights] using hW⟩
   ·cases h
  all_goals rename_i hu
  all_goals first
   | (rw [hu] at hpt; exact hpt.elim)
   | skip
  ·rename_i e
   exact ⟨[.slice (P.cellsOf e) []], RepFs.single (.slice0 none 0 _) rfl, by simp [Fits, hu], fun _ => by simp [Sized, hu]⟩
  ·rename_i e a len cap
   rw [hu] at hpt
   simp only at hpt
   split at h
   ·rename_i hk
    obtain ⟨_, hk1, hk2⟩ := hk
    simp only [Option.bind_eq_some_iff, Option.map_eq_some_iff] at h
    obtain ⟨elems, hel, rest, hrest, rfl⟩ := h
    have ln : elems.length = len := by simpa using mapM_len hel
    have each : ∀ i, i < len → ∃ c fs, w.cells? 0 (a.add (i * P.cellsOf e)) (P.cellsOf e) = some c ∧ RepFs w c fs ∧ Fits P n e fs ∧ (((DataW.slice (elems.map (·.1)) (rest.map (·.1))).weights P t).all (· ≤ reachBytes) = true → Sized P n e fs) := by
     intro i hi
     obtain ⟨y, hy, hym⟩ := mapM_mem2 hel i (List.mem_range.2 hi)
     simp only [Option.bind_eq_some_iff] at hy
     obtain ⟨c, hc, hy⟩ := hy
     obtain ⟨fs, h1, h2, h3⟩ := ih e c y (K.slice ht hu) hy
     refine ⟨c, fs, hc, h1, h2, fun hW => h3 (weights_elem hu ?_ hW)⟩
     exact List.mem_map.2 ⟨y, hym, rfl⟩
    obtain ⟨l, hl, hlp⟩ := pick_list (p := fun i fs => ∃ c, w.cells? 0 (a.add (i * P.cellsOf e)) (P.cellsOf e) = some c ∧ RepFs w c fs ∧ Fits P n e fs ∧ (((DataW.slice (elems.map (·.1)) (rest.map (·.1))).weights P t).all (· ≤ reachBytes) = true → Sized P n e fs)) len fun i hi => by
     obtain ⟨c, fs, h1, h2, h3⟩ := each i hi
     exact ⟨fs, c, h1, h2, h3⟩
    have lens : ∀ (i : Nat) (c : List FV), l[i]? = some c → c.length = P.cellsOf e := fun i c hc => by
     obtain ⟨cc, h1, h2, h3⟩ := hlp i c hc
     rw [← h2.1, (cells_at h1).1]
    refine ⟨[.slice (P.cellsOf e) l], RepFs.single ?_ rfl, ?_, ?_⟩
    ·rcases Nat.eq_zero_or_pos len with h0 | h0
     ·subst h0
      have : l = [] := List.eq_nil_of_length_eq_zero hl
      subst this
      exact .slice0 (some a) cap _
     ·obtain ⟨b, o, sp⟩ := a
      have hsp : sp = none := by
       obtain ⟨c, fs, h1, _, _⟩ := each 0 h0
       have := (cells_at h1).2 0 hpt
       simp only [Nat.zero_mul, Addr.add, if_true] at this
       unfold World.cell? at this
       split at this
       ·cases sp with
        | none => rfl
        | some q => simp at this
       ·cases this
      subst hsp
      have padd : ∀ i j, ((⟨b, o, none⟩ : Addr).add i).add j = ⟨b, o + i + j, none⟩ := fun i j => by
       unfold Addr.add
       split <;> split <;> simp_all
      have cell : ∀ i j, i < len → j < P.cellsOf e → ∃ v, w.cell? ⟨b, o + i * P.cellsOf e + j, none⟩ = some v := fun i j hi hj => by
       obtain ⟨c, fs, h1, _, _⟩ := each i hi
       have := (cells_at h1).2 j hj
       rw [padd] at this
       exact ⟨_, this⟩
      have rep : ∀ (i j : Nat) (c : List FV) (x : FV), l[i]? = some c → c[j]? = some x → RepF (Start w) w ((w.cell? ⟨b, o + i * P.cellsOf e + j, none⟩).getD undef) x ∧ x.one = true := fun i j c x hc hx => by
       obtain ⟨cc, h1, h2, h3⟩ := hlp i c hc
       have hj : j < P.cellsOf e := by rw [← lens i c hc]; exact (List.getElem?_eq_some_iff.1 hx).1
       have := (cells_at h1).2 j hj
       rw [padd] at this
       rw [this]
       exact h2.2 j x hx
      refine .slice b o len cap _ l (fun i j => (w.cell? ⟨b, o + i * P.cellsOf e + j, none⟩).getD undef) hl hk1 lens (fun i j hi hj => ?_) (fun i j c x hc hx => (rep i j c x hc hx).1) (fun i j c x hc hx => (rep i j c x hc hx).2)
      obtain ⟨v, hv⟩ := cell i j hi hj
      exact ⟨World.block_lt_of_cell? w _ hv, by rw [hv]; rfl⟩
    ·simp only [Fits, hu]
     refine ⟨l, rfl, by omega, fun c hc => ?_⟩
     obtain ⟨i, hi⟩ := List.getElem?_of_mem hc
     obtain ⟨cc, h1, h2, h3⟩ := hlp i c hi
     exact ⟨lens i c hi, h3.1⟩
    ·intro hW
     simp only [Sized, hu]
     intro sz es hes
     obtain ⟨rfl, rfl⟩ : sz = P.cellsOf e ∧ es = l := by simpa [eq_comm] using hes
     refine ⟨?_, fun c hc => ?_⟩
     ·have := List.all_eq_true.1 hW ((elems.length + rest.length) * P.bytesOf e) (by simp [DataW.weights, hu])
      simp only [decide_eq_true_eq] at this
      rw [hl, ← ln]
      exact Nat.le_trans (Nat.mul_le_mul_right _ (by omega)) this
     ·obtain ⟨i, hi⟩ := List.getElem?_of_mem hc
      obtain ⟨cc, h1, h2, h3⟩ := hlp i c hi
      exact h3.2 hW
   ·cases h
  ·rename_i cs' _ _ fl
   split at h
   ·rename_i hlen
    simp only [Option.map_eq_some_iff] at h
    obtain ⟨xs, hxs, rfl⟩ := h
    obtain ⟨k1, k2, k3⟩ := K.struct ht hu
    obtain ⟨fs, r1, r2⟩ := struct_cellsQ (w := w) (fun u fs => Fits P n u fs ∧ (((DataW.agg (xs.map (·.1))).weights P t).all (· ≤ reachBytes) = true → Sized P n u fs)) P.cellsOf fl.toList 0 cs' (fun j f hf => by rw [k3 j f hf]; simp) (by rw [hlen, k2]; simp) (fun f hf => by
     obtain ⟨j, hj⟩ := List.getElem?_of_mem hf
     obtain ⟨y, hy, hyj⟩ := mapM_get hxs j f hj
     obtain ⟨fs, h1, h2, h3⟩ := ih f.type _ y (k1 f hf) hy
     refine ⟨fs, h1, h2, fun hW => h3 (weights_field hu (j := j) (t' := f.type) (d := y.1) ?_ ?_ hW)⟩
     ·simp [hj]
     ·simp [hyj])
    rw [List.drop_zero] at r1
    refine ⟨fs, r1, ?_, fun hW => ?_⟩
    ·simp only [Fits, hu]
     exact ⟨by rw [← r1.1, hlen], fun f hf => by simpa using (r2 f hf).1⟩
    ·simp only [Sized, hu]
     exact fun f hf => by simpa using (r2 f hf).2 hW
   ·cases h
theorem arg_one2 {T : TypeId → Prop} (K : Kids P T) (hp : Plain P T) {t : TypeId} {v : Value} {d : DataW H} {ps : List MemPlace} (ht : T t) (h : DataW.Trod enc P w 0 (fun _ => true) true t v d ps) (hz : (d.weights P t).all (· ≤ reachBytes) = true) (hv : v.cells.toList = [v]) : ∃ n x, RepF (Start w) w v x ∧ Fits P n t [x] ∧ Sized P n t [x] := by
 obtain ⟨n, hn⟩ := h
 obtain ⟨fs, h1, h2, h3⟩ := rep_of_trod2 K hp n t _ _ ht hn
 rw [hv] at h1
 match fs, h1, h2, h3 with
 | [], h1, _, _ => exact absurd h1.1 (by simp)
 | [x], h1, h2, h3 => exact ⟨n, x, (h1.2 0 x rfl).1, h2, h3 hz⟩
 | _ :: _ :: _, h1, _, _ => exact absurd h1.1 (by simp)
theorem arg_struct2 {T : TypeId → Prop} (K : Kids P T) (hp : Plain P T) {t : TypeId} {v : Value} {d : DataW H} {ps : List MemPlace} {r : Reach} {base : Nat} {fl : Array Field} (ht : T t) (hu : P.underlying t = some (.struct fl)) (hv : Value.okWide P w r base t v)
  (h : DataW.Trod enc P w 0 (fun _ => true) true t v d ps) (hz : (d.weights P t).all (· ≤ reachBytes) = true) : ∃ n fs, RepF (Start w) w v (.agg fs) ∧ Fits P n t fs ∧ Sized P n t fs := by
 obtain ⟨cs, rfl, _⟩ := Go.WideShapes.okWide_struct hu hv
 obtain ⟨n, hn⟩ := h
 obtain ⟨fs, h1, h2, h3⟩ := rep_of_trod2 K hp n t _ _ ht hn
 refine ⟨n, fs, .agg cs fs ?_ fun j x hx => ?_, h2, h3 hz⟩
 ·simpa [Value.cells] using h1.1
 ·have := (h1.2 j x hx).1
  simpa [Value.cells, List.getD, Array.getD_eq_getD_getElem?] using this
theorem slice_sized {n : Nat} {t e : TypeId} {sz : Nat} {l : List (List FV)} (hu : P.underlying t = some (.slice e)) (h : Sized P (n + 1) t [.slice sz l]) : l.length * P.bytesOf e ≤ reachBytes ∧ ∀ c ∈ l, Sized P n e c := by
 simp only [Sized, hu] at h
 exact h sz l rfl
theorem str_sized {n : Nat} {t : TypeId} {s : ByteArray} (hu : P.underlying t = some .string) (h : Sized P (n + 1) t [.str s]) : s.size ≤ reachBytes := by
 simp only [Sized, hu] at h
 exact h s rfl
theorem struct_sized {n : Nat} {t : TypeId} {fl : Array Field} {c : List FV} (hu : P.underlying t = some (.struct fl)) (h : Sized P (n + 1) t c) : ∀ f ∈ fl.toList, Sized P n f.type ((c.drop f.offset).take (P.cellsOf f.type)) := by
 simpa only [Sized, hu] using h
end
end Go.Deepv
