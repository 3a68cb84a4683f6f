/-
  What a law's arguments read as is represented, and as large as the form's own reach lets it be.
  Conditions: the program's table of types is laid out; no slice has elements of no cells.
-/
import Derived.Test.YtpemlmhggiaflaaGreatDoorDT
import Derived.SizedLaws
import Derived.WideShapes
set_option linter.unusedVariables false
set_option linter.unusedSimpArgs false
namespace Go.Deepv
open Go.RowKit

/-- No string and no slice takes more bytes than the form's own reach. -/
def Sized (P : Program) : Nat → TypeId → List FV → Prop
  | 0, _, _ => True
  | k + 1, t, fs => match P.underlying t with
    | some .string => ∀ s, fs = [.str s] → s.size ≤ reachBytes
    | some (.slice e) => ∀ sz elems, fs = [.slice sz elems] → elems.length * P.bytesOf e ≤ reachBytes ∧ ∀ c ∈ elems, Sized P k e c
    | some (.struct fl) => ∀ f ∈ fl.toList, Sized P k f.type ((fs.drop f.offset).take (P.cellsOf f.type))
    | _ => True

theorem mapM_len {α β : Type} {f : α → Option β} : ∀ {l : List α} {r : List β}, l.mapM f = some r → r.length = l.length
  | [], r, h => by simp at h; subst h; rfl
  | a :: l, r, h => by
    simp only [List.mapM_cons, Option.pure_def, Option.bind_eq_bind, Option.bind_eq_some_iff, Option.some.injEq] at h
    obtain ⟨b, hb, bs, hbs, rfl⟩ := h
    simp [mapM_len hbs]
theorem mapM_get {α β : Type} {f : α → Option β} : ∀ {l : List α} {r : List β}, l.mapM f = some r → ∀ (j : Nat) (x : α), l[j]? = some x → ∃ y, f x = some y ∧ r[j]? = some y
  | [], r, h, j, x, hx => by simp at hx
  | a :: l, r, h, j, x, hx => by
    simp only [List.mapM_cons, Option.pure_def, Option.bind_eq_bind, Option.bind_eq_some_iff, Option.some.injEq] at h
    obtain ⟨b, hb, bs, hbs, rfl⟩ := h
    cases j with
    | zero => simp at hx; subst hx; exact ⟨b, hb, rfl⟩
    | succ j =>
      obtain ⟨y, h1, h2⟩ := mapM_get hbs j x (by simpa using hx)
      exact ⟨y, h1, by simpa using h2⟩
theorem mapM_mem2 {α β : Type} {f : α → Option β} {l : List α} {r : List β} (h : l.mapM f = some r) (x : α) (hx : x ∈ l) : ∃ y, f x = some y ∧ y ∈ r := by
  obtain ⟨j, hj⟩ := List.getElem?_of_mem hx
  obtain ⟨y, h1, h2⟩ := mapM_get h j x hj
  exact ⟨y, h1, List.mem_of_getElem? h2⟩
theorem weightsAll_mem {H : Type} {P : Program} {e : TypeId} : ∀ {ds : List (DataW H)} {d : DataW H}, d ∈ ds → ∀ n ∈ d.weights P e, n ∈ DataW.weightsAll P e ds
  | d0 :: ds, d, hd, n, hn => by
    simp only [DataW.weightsAll, List.mem_append]
    rcases List.mem_cons.1 hd with rfl | hd
    · exact .inl hn
    · exact .inr (weightsAll_mem hd n hn)
theorem weights_elem {H : Type} {P : Program} {t e : TypeId} {es sp : List (DataW H)} {d : DataW H} (hu : P.underlying t = some (.slice e)) (hd : d ∈ es) (h : ((DataW.slice es sp).weights P t).all (· ≤ reachBytes) = true) : (d.weights P e).all (· ≤ reachBytes) = true := by
  simp only [DataW.weights, hu, List.all_cons, List.all_append, Bool.and_eq_true] at h
  exact List.all_eq_true.2 fun n hn => List.all_eq_true.1 h.2.1 n (weightsAll_mem hd n hn)
theorem weights_field {H : Type} {P : Program} {t : TypeId} {fl : Array Field} {ds : List (DataW H)} {j : Nat} {t' : TypeId} {d : DataW H} (hu : P.underlying t = some (.struct fl)) (ht : (fl.toList.map (·.type))[j]? = some t') (hd : ds[j]? = some d) (h : ((DataW.agg ds).weights P t).all (· ≤ reachBytes) = true) : (d.weights P t').all (· ≤ reachBytes) = true := by
  simp only [DataW.weights, hu] at h
  exact List.all_eq_true.2 fun n hn => List.all_eq_true.1 h n (DataW.weights_mem_each ht hd n hn)
/-- A struct's cells, field by field. -/
theorem struct_cellsQ {w : World} (Q : TypeId → List FV → Prop) (sz : TypeId → Nat) : ∀ (fl : List Field) (off : Nat) (cs : List Value), (∀ (j : Nat) f, fl[j]? = some f → f.offset = off + ((fl.take j).map fun f => sz f.type).sum) → cs.length = off + (fl.map fun f => sz f.type).sum →
    (∀ f ∈ fl, ∃ fs, RepFs w ((cs.drop f.offset).take (sz f.type)) fs ∧ Q f.type fs) →
    ∃ fs, RepFs w (cs.drop off) fs ∧ ∀ f ∈ fl, Q f.type ((fs.drop (f.offset - off)).take (sz f.type))
  | [], off, cs, h1, h2, h3 => ⟨[], by
      have : cs.drop off = [] := List.drop_of_length_le (by simp at h2; omega)
      rw [this]; exact RepFs.nil, fun f hf => by cases hf⟩
  | g :: fl, off, cs, h1, h2, h3 => by
    have hg : g.offset = off := by simpa using h1 0 g rfl
    obtain ⟨fs1, r1, t1⟩ := h3 g (by simp)
    rw [hg] at r1
    have l1 : fs1.length = sz g.type := by
      rw [← r1.1, List.length_take, List.length_drop]
      simp only [List.map_cons, List.sum_cons] at h2
      omega
    obtain ⟨fs2, r2, t2⟩ := struct_cellsQ (w := w) Q sz fl (off + sz g.type) cs (fun j f hf => by
      have := h1 (j + 1) f (by simpa using hf)
      simp only [List.take_succ_cons, List.map_cons, List.sum_cons] at this
      omega) (by simp at h2; omega) (fun f hf => h3 f (by simp [hf]))
    refine ⟨fs1 ++ fs2, ?_, fun f hf => ?_⟩
    · have : cs.drop off = (cs.drop off).take (sz g.type) ++ cs.drop (off + sz g.type) := by
        rw [← List.drop_drop]; exact (List.take_append_drop _ _).symm
      rw [this]
      exact r1.append r2
    · rcases List.mem_cons.1 hf with hf | hf
      · rw [hf, hg, Nat.sub_self, List.drop_zero, List.take_append_of_le_length (by omega), List.take_of_length_le (by omega)]
        exact t1
      · have ht := t2 f hf
        obtain ⟨j, hj⟩ := List.getElem?_of_mem hf
        have := h1 (j + 1) f (by simpa using hj)
        simp only [List.take_succ_cons, List.map_cons, List.sum_cons] at this
        rw [List.drop_append, List.drop_of_length_le (by omega), List.nil_append, l1]
        rwa [show f.offset - off - sz g.type = f.offset - (off + sz g.type) from by omega]

section
variable {H : Type} {enc : TypeId × Value → H} {P : Program} {w : World}
theorem rep_of_trod2 {T : TypeId → Prop} (K : Kids P T) (hp : Plain P T) : ∀ (n : Nat) (t : TypeId) (cs : List Value) (x : DataW H × List MemPlace), T t → DataW.trod enc P w 0 (fun _ => true) true n t cs = some x → ∃ fs, RepFs w cs fs ∧ Fits P n t fs ∧ ((x.1.weights P t).all (· ≤ reachBytes) = true → Sized P n t fs) := by
  intro n
  induction n with
  | zero => intro t cs x ht h; simp [DataW.trod] at h
  | succ n ih =>
    intro t cs x ht h
    have hpt := hp t ht
    rw [DataW.trod.eq_def] at h
    simp only at h
    split at h <;> first
      | (cases h; done)
      | skip
    · rename_i b hu
      exact ⟨[.bool b], RepFs.single (.bool b) rfl, by simp [Fits, hu], fun _ => by simp [Sized, hu]⟩
    · rename_i k k' m hu
      split at h
      · rename_i hk
        obtain ⟨rfl, hw⟩ := hk
        exact ⟨[.int k' m], RepFs.single (.int k' m) rfl, by simp [Fits, hu, hw], fun _ => by simp [Sized, hu]⟩
      · cases h
    · rename_i hu; rw [hu] at hpt; exact hpt.elim
    · rename_i s hu
      split at h
      · rename_i hk
        cases h
        exact ⟨[.str s], RepFs.single (.str s) rfl, by simp [Fits, hu, hk], fun hW => by simpa [Sized, hu, DataW.weights] using hW⟩
      · cases h
    all_goals rename_i hu
    all_goals first
      | (rw [hu] at hpt; exact hpt.elim)
      | skip
    · rename_i e
      exact ⟨[.slice (P.cellsOf e) []], RepFs.single (.slice0 none 0 _) rfl, by simp [Fits, hu], fun _ => by simp [Sized, hu]⟩
    · rename_i e a len cap
      rw [hu] at hpt
      simp only at hpt
      split at h
      · rename_i hk
        obtain ⟨_, hk1, hk2⟩ := hk
        simp only [Option.bind_eq_some_iff, Option.map_eq_some_iff] at h
        obtain ⟨elems, hel, rest, hrest, rfl⟩ := h
        -- each element
        have ln : elems.length = len := by simpa using mapM_len hel
        have each : ∀ i, i < len → ∃ c fs, w.cells? 0 (a.add (i * P.cellsOf e)) (P.cellsOf e) = some c ∧ RepFs w c fs ∧ Fits P n e fs ∧ (((DataW.slice (elems.map (·.1)) (rest.map (·.1))).weights P t).all (· ≤ reachBytes) = true → Sized P n e fs) := by
          intro i hi
          obtain ⟨y, hy, hym⟩ := mapM_mem2 hel i (List.mem_range.2 hi)
          simp only [Option.bind_eq_some_iff] at hy
          obtain ⟨c, hc, hy⟩ := hy
          obtain ⟨fs, h1, h2, h3⟩ := ih e c y (K.slice ht hu) hy
          refine ⟨c, fs, hc, h1, h2, fun hW => h3 (weights_elem hu ?_ hW)⟩
          exact List.mem_map.2 ⟨y, hym, rfl⟩
        obtain ⟨l, hl, hlp⟩ := pick_list (p := fun i fs => ∃ c, w.cells? 0 (a.add (i * P.cellsOf e)) (P.cellsOf e) = some c ∧ RepFs w c fs ∧ Fits P n e fs ∧ (((DataW.slice (elems.map (·.1)) (rest.map (·.1))).weights P t).all (· ≤ reachBytes) = true → Sized P n e fs)) len fun i hi => by
          obtain ⟨c, fs, h1, h2, h3⟩ := each i hi
          exact ⟨fs, c, h1, h2, h3⟩
        have lens : ∀ (i : Nat) (c : List FV), l[i]? = some c → c.length = P.cellsOf e := fun i c hc => by
          obtain ⟨cc, h1, h2, h3⟩ := hlp i c hc
          rw [← h2.1, (cells_at h1).1]
        refine ⟨[.slice (P.cellsOf e) l], RepFs.single ?_ rfl, ?_, ?_⟩
        · rcases Nat.eq_zero_or_pos len with h0 | h0
          · subst h0
            have : l = [] := List.eq_nil_of_length_eq_zero hl
            subst this
            exact .slice0 (some a) cap _
          · obtain ⟨b, o, sp⟩ := a
            have hsp : sp = none := by
              obtain ⟨c, fs, h1, _, _⟩ := each 0 h0
              have := (cells_at h1).2 0 hpt
              simp only [Nat.zero_mul, Addr.add, if_true] at this
              unfold World.cell? at this
              split at this
              · cases sp with
                | none => rfl
                | some q => simp at this
              · cases this
            subst hsp
            have padd : ∀ i j, ((⟨b, o, none⟩ : Addr).add i).add j = ⟨b, o + i + j, none⟩ := fun i j => by
              unfold Addr.add
              split <;> split <;> simp_all
            have cell : ∀ i j, i < len → j < P.cellsOf e → ∃ v, w.cell? ⟨b, o + i * P.cellsOf e + j, none⟩ = some v := fun i j hi hj => by
              obtain ⟨c, fs, h1, _, _⟩ := each i hi
              have := (cells_at h1).2 j hj
              rw [padd] at this
              exact ⟨_, this⟩
            have rep : ∀ (i j : Nat) (c : List FV) (x : FV), l[i]? = some c → c[j]? = some x → RepF (Start w) w ((w.cell? ⟨b, o + i * P.cellsOf e + j, none⟩).getD undef) x ∧ x.one = true := fun i j c x hc hx => by
              obtain ⟨cc, h1, h2, h3⟩ := hlp i c hc
              have hj : j < P.cellsOf e := by rw [← lens i c hc]; exact (List.getElem?_eq_some_iff.1 hx).1
              have := (cells_at h1).2 j hj
              rw [padd] at this
              rw [this]
              exact h2.2 j x hx
            refine .slice b o len cap _ l (fun i j => (w.cell? ⟨b, o + i * P.cellsOf e + j, none⟩).getD undef) hl hk1 lens (fun i j hi hj => ?_) (fun i j c x hc hx => (rep i j c x hc hx).1) (fun i j c x hc hx => (rep i j c x hc hx).2)
            obtain ⟨v, hv⟩ := cell i j hi hj
            exact ⟨World.block_lt_of_cell? w _ hv, by rw [hv]; rfl⟩
        · simp only [Fits, hu]
          refine ⟨l, rfl, by omega, fun c hc => ?_⟩
          obtain ⟨i, hi⟩ := List.getElem?_of_mem hc
          obtain ⟨cc, h1, h2, h3⟩ := hlp i c hi
          exact ⟨lens i c hi, h3.1⟩
        · intro hW
          simp only [Sized, hu]
          intro sz es hes
          obtain ⟨rfl, rfl⟩ : sz = P.cellsOf e ∧ es = l := by simpa [eq_comm] using hes
          refine ⟨?_, fun c hc => ?_⟩
          · have := List.all_eq_true.1 hW ((elems.length + rest.length) * P.bytesOf e) (by simp [DataW.weights, hu])
            simp only [decide_eq_true_eq] at this
            rw [hl, ← ln]
            exact Nat.le_trans (Nat.mul_le_mul_right _ (by omega)) this
          · obtain ⟨i, hi⟩ := List.getElem?_of_mem hc
            obtain ⟨cc, h1, h2, h3⟩ := hlp i c hi
            exact h3.2 hW
      · cases h
    · rename_i cs' _ _ fl
      split at h
      · rename_i hlen
        simp only [Option.map_eq_some_iff] at h
        obtain ⟨xs, hxs, rfl⟩ := h
        obtain ⟨k1, k2, k3⟩ := K.struct ht hu
        obtain ⟨fs, r1, r2⟩ := struct_cellsQ (w := w) (fun u fs => Fits P n u fs ∧ (((DataW.agg (xs.map (·.1))).weights P t).all (· ≤ reachBytes) = true → Sized P n u fs)) P.cellsOf fl.toList 0 cs' (fun j f hf => by rw [k3 j f hf]; simp) (by rw [hlen, k2]; simp) (fun f hf => by
          obtain ⟨j, hj⟩ := List.getElem?_of_mem hf
          obtain ⟨y, hy, hyj⟩ := mapM_get hxs j f hj
          obtain ⟨fs, h1, h2, h3⟩ := ih f.type _ y (k1 f hf) hy
          refine ⟨fs, h1, h2, fun hW => h3 (weights_field hu (j := j) (t' := f.type) (d := y.1) ?_ ?_ hW)⟩
          · simp [hj]
          · simp [hyj])
        rw [List.drop_zero] at r1
        refine ⟨fs, r1, ?_, fun hW => ?_⟩
        · simp only [Fits, hu]
          exact ⟨by rw [← r1.1, hlen], fun f hf => by simpa using (r2 f hf).1⟩
        · simp only [Sized, hu]
          exact fun f hf => by simpa using (r2 f hf).2 hW
      · cases h

/-- An argument of one cell. -/
theorem arg_one2 {T : TypeId → Prop} (K : Kids P T) (hp : Plain P T) {t : TypeId} {v : Value} {d : DataW H} {ps : List MemPlace} (ht : T t) (h : DataW.Trod enc P w 0 (fun _ => true) true t v d ps) (hz : (d.weights P t).all (· ≤ reachBytes) = true) (hv : v.cells.toList = [v]) : ∃ n x, RepF (Start w) w v x ∧ Fits P n t [x] ∧ Sized P n t [x] := by
  obtain ⟨n, hn⟩ := h
  obtain ⟨fs, h1, h2, h3⟩ := rep_of_trod2 K hp n t _ _ ht hn
  rw [hv] at h1
  match fs, h1, h2, h3 with
  | [], h1, _, _ => exact absurd h1.1 (by simp)
  | [x], h1, h2, h3 => exact ⟨n, x, (h1.2 0 x rfl).1, h2, h3 hz⟩
  | _ :: _ :: _, h1, _, _ => exact absurd h1.1 (by simp)
theorem arg_struct2 {T : TypeId → Prop} (K : Kids P T) (hp : Plain P T) {t : TypeId} {v : Value} {d : DataW H} {ps : List MemPlace} {r : Reach} {base : Nat} {fl : Array Field} (ht : T t) (hu : P.underlying t = some (.struct fl)) (hv : Value.okWide P w r base t v)
    (h : DataW.Trod enc P w 0 (fun _ => true) true t v d ps) (hz : (d.weights P t).all (· ≤ reachBytes) = true) : ∃ n fs, RepF (Start w) w v (.agg fs) ∧ Fits P n t fs ∧ Sized P n t fs := by
  obtain ⟨cs, rfl, _⟩ := Go.WideShapes.okWide_struct hu hv
  obtain ⟨n, hn⟩ := h
  obtain ⟨fs, h1, h2, h3⟩ := rep_of_trod2 K hp n t _ _ ht hn
  refine ⟨n, fs, .agg cs fs ?_ fun j x hx => ?_, h2, h3 hz⟩
  · simpa [Value.cells] using h1.1
  · have := (h1.2 j x hx).1
    simpa [Value.cells, List.getD, Array.getD_eq_getD_getElem?] using this
theorem slice_sized {n : Nat} {t e : TypeId} {sz : Nat} {l : List (List FV)} (hu : P.underlying t = some (.slice e)) (h : Sized P (n + 1) t [.slice sz l]) : l.length * P.bytesOf e ≤ reachBytes ∧ ∀ c ∈ l, Sized P n e c := by
  simp only [Sized, hu] at h
  exact h sz l rfl
theorem str_sized {n : Nat} {t : TypeId} {s : ByteArray} (hu : P.underlying t = some .string) (h : Sized P (n + 1) t [.str s]) : s.size ≤ reachBytes := by
  simp only [Sized, hu] at h
  exact h s rfl
theorem struct_sized {n : Nat} {t : TypeId} {fl : Array Field} {c : List FV} (hu : P.underlying t = some (.struct fl)) (h : Sized P (n + 1) t c) : ∀ f ∈ fl.toList, Sized P n f.type ((c.drop f.offset).take (P.cellsOf f.type)) := by
  simpa only [Sized, hu] using h
end
end Go.Deepv
