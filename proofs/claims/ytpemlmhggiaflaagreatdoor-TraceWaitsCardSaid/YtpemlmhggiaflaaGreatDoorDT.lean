/-
  From what a law's arguments read as to deep values, and back behind the call.
  Conditions: the program's table of types is laid out; no slice has elements of no cells.
-/
import Derived.Test.YtpemlmhggiaflaaGreatDoorDP
import Derived.ReadAgain
import Derived.ChangeStays
import Derived.ChangeOld
import Derived.ChangeShapes
set_option linter.unusedVariables false
set_option linter.unusedSimpArgs false
namespace Go.Deepv
open Go.RowKit

abbrev Start (w : World) : Settled := fun b _ => b < w.heap.size

def RepFs (w : World) (cs : List Value) (fs : List FV) : Prop := cs.length = fs.length ∧ ∀ (j : Nat) (x : FV), fs[j]? = some x → RepF (Start w) w (cs.getD j undef) x ∧ x.one = true

theorem RepFs.append {w : World} {c1 c2 : List Value} {f1 f2 : List FV} (h1 : RepFs w c1 f1) (h2 : RepFs w c2 f2) : RepFs w (c1 ++ c2) (f1 ++ f2) := by
  refine ⟨by simp [h1.1, h2.1], fun j x hx => ?_⟩
  rcases Nat.lt_or_ge j f1.length with hj | hj
  · rw [List.getElem?_append_left hj] at hx
    have := h1.2 j x hx
    rw [List.getD_eq_getElem?_getD, List.getElem?_append_left (by rw [h1.1]; exact hj), ← List.getD_eq_getElem?_getD]
    exact this
  · rw [List.getElem?_append_right hj] at hx
    have := h2.2 _ x hx
    rw [List.getD_eq_getElem?_getD, List.getElem?_append_right (by rw [h1.1]; exact hj), ← List.getD_eq_getElem?_getD, h1.1]
    exact this
theorem RepFs.nil {w : World} : RepFs w [] [] := ⟨rfl, fun j x hx => by simp at hx⟩
theorem RepFs.single {w : World} {v : Value} {x : FV} (h : RepF (Start w) w v x) (h1 : x.one = true) : RepFs w [v] [x] := by
  refine ⟨rfl, fun j y hy => ?_⟩
  cases j with
  | zero => simp at hy; subst hy; exact ⟨h, h1⟩
  | succ j => simp at hy

/-- What a type's deep values are. -/
def Fits (P : Program) : Nat → TypeId → List FV → Prop
  | 0, _, _ => False
  | k + 1, t, fs => match P.underlying t with
    | some .bool => ∃ b, fs = [.bool b]
    | some (.int kd) => ∃ n, fs = [.int kd n] ∧ (Lit.int kd n).wf = true
    | some .string => ∃ s, fs = [.str s] ∧ s.size ≤ maxLen
    | some (.slice e) => ∃ elems, fs = [.slice (P.cellsOf e) elems] ∧ elems.length ≤ maxLen ∧ ∀ c ∈ elems, c.length = P.cellsOf e ∧ Fits P k e c
    | some (.pointer e) => fs = [.nilp] ∨ ∃ c, fs = [.ref c 0] ∧ c.length = P.cellsOf e ∧ Fits P k e c
    | some (.struct fl) => fs.length = P.cellsOf t ∧ ∀ f ∈ fl.toList, Fits P k f.type ((fs.drop f.offset).take (P.cellsOf f.type))
    | some (.interface _) => fs = [.nili]
    | _ => True

theorem mapM_mem {α β : Type} {f : α → Option β} : ∀ {l : List α} {r : List β}, l.mapM f = some r → ∀ x ∈ l, ∃ y, f x = some y
  | [], r, h, x, hx => by cases hx
  | a :: l, r, h, x, hx => by
    simp only [List.mapM_cons, Option.pure_def, Option.bind_eq_bind, Option.bind_eq_some_iff, Option.some.injEq] at h
    obtain ⟨b, hb, bs, hbs, rfl⟩ := h
    rcases List.mem_cons.1 hx with hx | hx
    · exact ⟨b, by rw [hx]; exact hb⟩
    · exact mapM_mem hbs x hx

/-- A struct's cells, field by field. -/
theorem struct_cells {w : World} {P : Program} {k : Nat} (sz : TypeId → Nat) : ∀ (fl : List Field) (off : Nat) (cs : List Value), (∀ (j : Nat) f, fl[j]? = some f → f.offset = off + ((fl.take j).map fun f => sz f.type).sum) → cs.length = off + (fl.map fun f => sz f.type).sum →
    (∀ f ∈ fl, ∃ fs, RepFs w ((cs.drop f.offset).take (sz f.type)) fs ∧ Fits P k f.type fs) →
    ∃ fs, RepFs w (cs.drop off) fs ∧ ∀ f ∈ fl, Fits P k f.type ((fs.drop (f.offset - off)).take (sz f.type))
  | [], off, cs, h1, h2, h3 => ⟨[], by
      have : cs.drop off = [] := List.drop_of_length_le (by simp at h2; omega)
      rw [this]; exact RepFs.nil, fun f hf => by cases hf⟩
  | g :: fl, off, cs, h1, h2, h3 => by
    have hg : g.offset = off := by simpa using h1 0 g rfl
    obtain ⟨fs1, r1, t1⟩ := h3 g (by simp)
    rw [hg] at r1
    have l1 : fs1.length = sz g.type := by
      rw [← r1.1, List.length_take, List.length_drop]
      simp only [List.map_cons, List.sum_cons] at h2
      omega
    obtain ⟨fs2, r2, t2⟩ := struct_cells (P := P) (k := k) (w := w) sz fl (off + sz g.type) cs (fun j f hf => by
      have := h1 (j + 1) f (by simpa using hf)
      simp only [List.take_succ_cons, List.map_cons, List.sum_cons] at this
      omega) (by simp at h2; omega) (fun f hf => h3 f (by simp [hf]))
    refine ⟨fs1 ++ fs2, ?_, fun f hf => ?_⟩
    · have : cs.drop off = (cs.drop off).take (sz g.type) ++ cs.drop (off + sz g.type) := by
        rw [← List.drop_drop]; exact (List.take_append_drop _ _).symm
      rw [this]
      exact r1.append r2
    · rcases List.mem_cons.1 hf with hf | hf
      · rw [hf, hg, Nat.sub_self, List.drop_zero, List.take_append_of_le_length (by omega), List.take_of_length_le (by omega)]
        exact t1
      · have ht := t2 f hf
        obtain ⟨j, hj⟩ := List.getElem?_of_mem hf
        have := h1 (j + 1) f (by simpa using hj)
        simp only [List.take_succ_cons, List.map_cons, List.sum_cons] at this
        rw [List.drop_append, List.drop_of_length_le (by omega), List.nil_append, l1]
        rwa [show f.offset - off - sz g.type = f.offset - (off + sz g.type) from by omega]

section
variable {H : Type} {enc : TypeId × Value → H} {P : Program} {w : World}

/-- What reads as data of a type is represented. Arrays, maps, functions, channels, interfaces that hold something: not here. -/
def Plain (P : Program) (T : TypeId → Prop) : Prop := ∀ t, T t → match P.underlying t with
  | some .bool | some (.int _) | some .string => True
  | some (.slice e) => 0 < P.cellsOf e
  | some (.struct _) => True
  | _ => False

theorem cells_at {a : Addr} {n : Nat} {cs : List Value} (h : w.cells? 0 a n = some cs) : cs.length = n ∧ ∀ j, j < n → w.cell? (a.add j) = some (cs.getD j undef) := by
  obtain ⟨_, hl, hc⟩ := World.cells?_some h
  refine ⟨hl, fun j hj => ?_⟩
  rw [hc j hj, List.getD_eq_getElem?_getD, List.getElem?_eq_getElem (by omega)]
  rfl

theorem pick_list {α : Type} {p : Nat → α → Prop} : ∀ n : Nat, (∀ i, i < n → ∃ y, p i y) → ∃ l : List α, l.length = n ∧ ∀ (i : Nat) (y : α), l[i]? = some y → p i y
  | 0, _ => ⟨[], rfl, fun i y hy => by simp at hy⟩
  | n + 1, h => by
    obtain ⟨l, h1, h2⟩ := pick_list n fun i hi => h i (by omega)
    obtain ⟨y, hy⟩ := h n (by omega)
    refine ⟨l ++ [y], by simp [h1], fun i z hz => ?_⟩
    rcases Nat.lt_or_ge i l.length with hi | hi
    · rw [List.getElem?_append_left hi] at hz; exact h2 i z hz
    · rw [List.getElem?_append_right hi] at hz
      have : i - l.length = 0 := by
        have := (List.getElem?_eq_some_iff.1 hz).1
        simp at this
        omega
      rw [this] at hz
      simp at hz
      subst hz
      rwa [show i = n from by omega]

theorem rep_of_trod {T : TypeId → Prop} (K : Kids P T) (hp : Plain P T) : ∀ (n : Nat) (t : TypeId) (cs : List Value) (x : DataW H × List MemPlace), T t → DataW.trod enc P w 0 (fun _ => true) true n t cs = some x → ∃ fs, RepFs w cs fs ∧ Fits P n t fs := by
  intro n
  induction n with
  | zero => intro t cs x ht h; simp [DataW.trod] at h
  | succ n ih =>
    intro t cs x ht h
    have hpt := hp t ht
    rw [DataW.trod.eq_def] at h
    simp only at h
    split at h <;> first
      | (cases h; done)
      | skip
    · rename_i b hu
      exact ⟨[.bool b], RepFs.single (.bool b) rfl, by simp [Fits, hu]⟩
    · rename_i k k' m hu
      split at h
      · rename_i hk
        obtain ⟨rfl, hw⟩ := hk
        exact ⟨[.int k' m], RepFs.single (.int k' m) rfl, by simp [Fits, hu, hw]⟩
      · cases h
    · rename_i hu; rw [hu] at hpt; exact hpt.elim
    · rename_i s hu
      split at h
      · rename_i hk
        exact ⟨[.str s], RepFs.single (.str s) rfl, by simp [Fits, hu, hk]⟩
      · cases h
    all_goals rename_i hu
    all_goals first
      | (rw [hu] at hpt; exact hpt.elim)
      | skip
    · rename_i e
      exact ⟨[.slice (P.cellsOf e) []], RepFs.single (.slice0 none 0 _) rfl, by simp [Fits, hu]⟩
    · rename_i e a len cap
      rw [hu] at hpt
      simp only at hpt
      split at h
      · rename_i hk
        obtain ⟨_, hk1, hk2⟩ := hk
        simp only [Option.bind_eq_some_iff, Option.map_eq_some_iff] at h
        obtain ⟨elems, hel, rest, hrest, rfl⟩ := h
        -- each element
        have each : ∀ i, i < len → ∃ c fs, w.cells? 0 (a.add (i * P.cellsOf e)) (P.cellsOf e) = some c ∧ RepFs w c fs ∧ Fits P n e fs := by
          intro i hi
          obtain ⟨y, hy⟩ := mapM_mem hel i (List.mem_range.2 hi)
          simp only [Option.bind_eq_some_iff] at hy
          obtain ⟨c, hc, hy⟩ := hy
          obtain ⟨fs, h1, h2⟩ := ih e c y (K.slice ht hu) hy
          exact ⟨c, fs, hc, h1, h2⟩
        obtain ⟨l, hl, hlp⟩ := pick_list (p := fun i fs => ∃ c, w.cells? 0 (a.add (i * P.cellsOf e)) (P.cellsOf e) = some c ∧ RepFs w c fs ∧ Fits P n e fs) len fun i hi => by
          obtain ⟨c, fs, h1, h2, h3⟩ := each i hi
          exact ⟨fs, c, h1, h2, h3⟩
        have lens : ∀ (i : Nat) (c : List FV), l[i]? = some c → c.length = P.cellsOf e := fun i c hc => by
          obtain ⟨cc, h1, h2, h3⟩ := hlp i c hc
          rw [← h2.1, (cells_at h1).1]
        refine ⟨[.slice (P.cellsOf e) l], RepFs.single ?_ rfl, ?_⟩
        · rcases Nat.eq_zero_or_pos len with h0 | h0
          · subst h0
            have : l = [] := List.eq_nil_of_length_eq_zero hl
            subst this
            exact .slice0 (some a) cap _
          · obtain ⟨b, o, sp⟩ := a
            have hsp : sp = none := by
              obtain ⟨c, fs, h1, _⟩ := each 0 h0
              have := (cells_at h1).2 0 hpt
              simp only [Nat.zero_mul, Addr.add, if_true] at this
              unfold World.cell? at this
              split at this
              · cases sp with
                | none => rfl
                | some q => simp at this
              · cases this
            subst hsp
            have padd : ∀ i j, ((⟨b, o, none⟩ : Addr).add i).add j = ⟨b, o + i + j, none⟩ := fun i j => by
              unfold Addr.add
              split <;> split <;> simp_all
            have cell : ∀ i j, i < len → j < P.cellsOf e → ∃ v, w.cell? ⟨b, o + i * P.cellsOf e + j, none⟩ = some v := fun i j hi hj => by
              obtain ⟨c, fs, h1, _⟩ := each i hi
              have := (cells_at h1).2 j hj
              rw [padd] at this
              exact ⟨_, this⟩
            have rep : ∀ (i j : Nat) (c : List FV) (x : FV), l[i]? = some c → c[j]? = some x → RepF (Start w) w ((w.cell? ⟨b, o + i * P.cellsOf e + j, none⟩).getD undef) x ∧ x.one = true := fun i j c x hc hx => by
              obtain ⟨cc, h1, h2, h3⟩ := hlp i c hc
              have hj : j < P.cellsOf e := by rw [← lens i c hc]; exact (List.getElem?_eq_some_iff.1 hx).1
              have := (cells_at h1).2 j hj
              rw [padd] at this
              rw [this]
              exact h2.2 j x hx
            refine .slice b o len cap _ l (fun i j => (w.cell? ⟨b, o + i * P.cellsOf e + j, none⟩).getD undef) hl hk1 lens (fun i j hi hj => ?_) (fun i j c x hc hx => (rep i j c x hc hx).1) (fun i j c x hc hx => (rep i j c x hc hx).2)
            obtain ⟨v, hv⟩ := cell i j hi hj
            exact ⟨World.block_lt_of_cell? w _ hv, by rw [hv]; rfl⟩
        · simp only [Fits, hu]
          refine ⟨l, rfl, by omega, fun c hc => ?_⟩
          obtain ⟨i, hi⟩ := List.getElem?_of_mem hc
          obtain ⟨cc, h1, h2, h3⟩ := hlp i c hi
          exact ⟨lens i c hi, h3⟩
      · cases h
    · rename_i cs' _ _ fl
      split at h
      · rename_i hlen
        simp only [Option.map_eq_some_iff] at h
        obtain ⟨xs, hxs, rfl⟩ := h
        obtain ⟨k1, k2, k3⟩ := K.struct ht hu
        obtain ⟨fs, r1, r2⟩ := struct_cells (P := P) (k := n) (w := w) P.cellsOf fl.toList 0 cs' (fun j f hf => by rw [k3 j f hf]; simp) (by rw [hlen, k2]; simp) (fun f hf => by
          obtain ⟨y, hy⟩ := mapM_mem hxs f hf
          exact ih f.type _ y (k1 f hf) hy)
        rw [List.drop_zero] at r1
        refine ⟨fs, r1, ?_⟩
        simp only [Fits, hu]
        exact ⟨by rw [← r1.1, hlen], fun f hf => by simpa using r2 f hf⟩
      · cases h

/-- The arguments read behind the call as they did. -/
theorem carryAll {w' : World} {sp : Nat → Bool} (bel : Below w.heap.size w w') : ∀ {ts : List TypeId} {vs : List Value} {ds : List (DataW H)} {ps : List MemPlace}, (∀ p ∈ ps, p.block < w.heap.size) → DataW.TrodAll enc P w 0 sp true ts vs ds ps → DataW.TrodAll enc P w' 0 sp true ts vs ds ps
  | [], [], [], _, _, h => h
  | t :: ts, v :: vs, d :: ds, ps, hps, ⟨p, q, ⟨n, h1⟩, h2, e⟩ => ⟨p, q, ⟨n, DataW.trod_carry n t _ (d, p) h1 fun x hx => bel.same (hps x (by rw [e]; exact List.mem_append_left _ hx))⟩, carryAll bel (fun x hx => hps x (by rw [e]; exact List.mem_append_right _ hx)) h2, e⟩
theorem args_back {T : TypeId → Prop} (K : Kids P T) (hz : ∀ t e, T t → P.underlying t = some (.slice e) → 0 < P.cellsOf e) {w' : World} (bel : Below w.heap.size w w') {ts : List TypeId} {vs : List Value} {ds : List (DataW H)} {ps : List MemPlace} (hT : ∀ t ∈ ts, T t) (h : DataW.TrodAll enc P w 0 (fun _ => true) true ts vs ds ps) :
    DataW.TrodAll enc P w' 0 (fun b => decide (b < w.heap.size)) true ts vs ds ps :=
  carryAll bel h.lt (h.respare K hz hT fun p hp => by simpa using h.lt p hp)
/-- A list of types that are plain and closed. -/
def kidsB (P : Program) (l : List TypeId) : Bool := l.all fun t => decide (t < P.types.size) && match P.underlying t with
  | some .bool | some (.int _) | some .string => true
  | some (.slice e) => l.contains e && decide (0 < P.cellsOf e)
  | some (.struct fl) => fl.toList.all fun f => l.contains f.type
  | _ => false
theorem kidsB_plain {P : Program} {l : List TypeId} (h : kidsB P l = true) : Plain P (· ∈ l) := by
  intro t ht
  have := List.all_eq_true.1 h t ht
  simp only [Bool.and_eq_true] at this
  have h2 := this.2
  split at h2 <;> simp_all
theorem kidsB_kids {P : Program} {l : List TypeId} (hl : laidOutB P = true) (hm : mapsRowed P = true) (h : kidsB P l = true) : Kids P (· ∈ l) := by
  have K := kids_rows hl hm
  have at_ : ∀ t ∈ l, t < P.types.size ∧ (match P.underlying t with
      | some .bool | some (.int _) | some .string => true
      | some (.slice e) => l.contains e && decide (0 < P.cellsOf e)
      | some (.struct fl) => fl.toList.all fun f => l.contains f.type
      | _ => false) = true := fun t ht => by
    have := List.all_eq_true.1 h t ht
    simp only [Bool.and_eq_true, decide_eq_true_eq] at this
    exact this
  refine ⟨fun {t e} ht hu => ?_, fun {t e} ht hu => ?_, fun {t e n} ht hu => ?_, fun {t fs} ht hu => ?_, fun {t k e} ht hu => ?_⟩
  · have := (at_ t ht).2; rw [hu] at this; cases this
  · have := (at_ t ht).2
    rw [hu] at this
    simp only [Bool.and_eq_true, List.contains_eq_mem, decide_eq_true_eq] at this
    exact this.1
  · have := (at_ t ht).2; rw [hu] at this; cases this
  · have := (at_ t ht).2
    rw [hu] at this
    simp only [List.all_eq_true, List.contains_eq_mem, decide_eq_true_eq] at this
    exact ⟨this, (K.struct (at_ t ht).1 hu).2⟩
  · have := (at_ t ht).2; rw [hu] at this; cases this
theorem kidsB_full {P : Program} {l : List TypeId} (h : kidsB P l = true) : ∀ t e, t ∈ l → P.underlying t = some (.slice e) → 0 < P.cellsOf e := by
  intro t e ht hu
  have := List.all_eq_true.1 h t ht
  rw [hu] at this
  simp only [Bool.and_eq_true, decide_eq_true_eq] at this
  exact this.2.2
/-- An argument of one cell. -/
theorem arg_one {T : TypeId → Prop} (K : Kids P T) (hp : Plain P T) {t : TypeId} {v : Value} {d : DataW H} {ps : List MemPlace} (ht : T t) (h : DataW.Trod enc P w 0 (fun _ => true) true t v d ps) (hv : v.cells.toList = [v]) : ∃ n x, RepF (Start w) w v x ∧ Fits P n t [x] := by
  obtain ⟨n, hn⟩ := h
  obtain ⟨fs, h1, h2⟩ := rep_of_trod K hp n t _ _ ht hn
  rw [hv] at h1
  match fs, h1, h2 with
  | [], h1, _ => exact absurd h1.1 (by simp)
  | [x], h1, h2 => exact ⟨n, x, (h1.2 0 x rfl).1, h2⟩
  | _ :: _ :: _, h1, _ => exact absurd h1.1 (by simp)
end
end Go.Deepv
