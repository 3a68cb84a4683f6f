/-
  Literals: structs and slices that are built.
  Conditions: none.
-/
import Derived.Test.YtpemlmhggiaflaaGreatDoorDJ
set_option linter.unusedVariables false
set_option linter.unusedSimpArgs false
namespace Go.Deepv
open Go.RowKit

theorem seg_fold (off : Nat) : ∀ (vs : List Value) (s : Nat) (c : Array Value), off + s + vs.length ≤ c.size →
    ((vs.zipIdx s).foldl (fun cs (x : Value × Nat) => cs.setIfInBounds (off + x.2) x.1) c).size = c.size ∧
    ∀ x, ((vs.zipIdx s).foldl (fun cs (x : Value × Nat) => cs.setIfInBounds (off + x.2) x.1) c).getD x undef = if off + s ≤ x ∧ x < off + s + vs.length then vs.getD (x - (off + s)) undef else c.getD x undef
  | [], s, c, h => ⟨rfl, fun x => by rw [if_neg (by simp only [List.length_nil]; omega)]; rfl⟩
  | v :: vs, s, c, h => by
    simp only [List.length_cons] at h
    obtain ⟨g1, g2⟩ := seg_fold off vs (s + 1) (c.setIfInBounds (off + s) v) (by simp; omega)
    simp only [List.zipIdx_cons, List.foldl_cons]
    refine ⟨by simpa using g1, fun x => ?_⟩
    rw [g2]
    simp only [List.length_cons]
    by_cases hx : x = off + s
    · subst hx
      rw [if_neg (by omega), if_pos (by omega)]
      simp [Array.getD_eq_getD_getElem?, show off + s < c.size by omega]
    · by_cases hx2 : off + (s + 1) ≤ x ∧ x < off + (s + 1) + vs.length
      · rw [if_pos hx2, if_pos (by omega), show x - (off + s) = (x - (off + (s + 1))) + 1 by omega]
        simp
      · rw [if_neg hx2, if_neg (by omega)]
        simp only [Array.getD_eq_getD_getElem?]
        rw [Array.getElem?_setIfInBounds_ne (by omega)]

/-- One part filled in. -/
theorem fill_cons (place : Nat → Option (Nat × Nat)) (c : Array Value) (i : Nat) (v : Value) (rest : List (Nat × Value)) {off size : Nat} (hp : place i = some (off, size)) (hs : v.cells.size = size) (hl : off + size ≤ c.size) :
    ∃ c', Instr.fill place c ((i, v) :: rest) = Instr.fill place c' rest ∧ c'.size = c.size ∧ ∀ x, c'.getD x undef = if off ≤ x ∧ x < off + size then v.cells.getD (x - off) undef else c.getD x undef := by
  obtain ⟨g1, g2⟩ := seg_fold off v.cells.toList 0 c (by simp; omega)
  refine ⟨_, ?_, g1, fun x => ?_⟩
  · simp only [Instr.fill, hp]
    rw [if_neg (by simp [hs]; omega)]
    congr 1
    rw [← Array.foldl_toList, Array.toList_zipIdx]
  · rw [g2]
    simp only [Nat.add_zero, Array.length_toList, hs]
    congr 1
    simp [Array.getD_eq_getD_getElem?, List.getD_eq_getElem?_getD]

section
variable {P : Program} {G : Glob} {S : Settled} {ρ : List RI} {h : List Res} {w : World} {a : Act} {ad : List DV} {call : Cle → List DV → List Res → Option DOut} {out : DOut}

/-- Rows of elements: an array of cells, and what its elements are. -/
structure Elems (S : Settled) (w : World) (sz : Nat) (c : Array Value) (l : List (List FV)) : Prop where
  size : c.size = l.length * sz
  len : ∀ (i : Nat) (x : List FV), l[i]? = some x → x.length = sz
  rep : ∀ (i j : Nat) (x : List FV) (y : FV), l[i]? = some x → x[j]? = some y → RepF S w (c.getD (i * sz + j) undef) y ∧ y.one = true

theorem fill_elems {sz : Nat} : ∀ (vs : List (Nat × Value)) (ps : List (Nat × List FV)) (c : Array Value) (l l' : List (List FV)), Elems S w sz c l → vs.length = ps.length →
    (∀ (k : Nat) (p : Nat × List FV), ps[k]? = some p → ∃ v, vs[k]? = some (p.1, v) ∧ (p.2.all FV.one = true → v.cells.size = p.2.length ∧ ∀ (j : Nat) (y : FV), p.2[j]? = some y → RepF S w (v.cells.getD j undef) y)) →
    ps.foldlM (fun (l : List (List FV)) p => if p.1 < l.length ∧ p.2.length = sz ∧ p.2.all FV.one then some (l.set p.1 p.2) else none) l = some l' →
    ∃ c', Instr.fill (fun i => some (i * sz, sz)) c vs = some c' ∧ Elems S w sz c' l' ∧ l'.length = l.length
  | [], [], c, l, l', hE, _, _, hf => by
    simp at hf
    subst hf
    exact ⟨c, rfl, hE, rfl⟩
  | (i0, v0) :: vs, p :: ps, c, l, l', hE, hl, hr, hf => by
    simp only [List.foldlM_cons, Option.bind_eq_bind, Option.bind_eq_some_iff] at hf
    obtain ⟨l1, h1, hf⟩ := hf
    split at h1
    · rename_i hc
      obtain ⟨hlt, hlen, hone⟩ := hc
      simp only [Option.some.injEq] at h1
      subst h1
      obtain ⟨v, hv, hrep⟩ := hr 0 p rfl
      simp only [List.getElem?_cons_zero, Option.some.injEq, Prod.mk.injEq] at hv
      obtain ⟨rfl, rfl⟩ := hv
      obtain ⟨k1, k2⟩ := hrep hone
      have hmul : (p.1 + 1) * sz ≤ l.length * sz := Nat.mul_le_mul_right _ hlt
      rw [Nat.succ_mul] at hmul
      obtain ⟨c', g1, g2, g3⟩ := fill_cons (fun i => some (i * sz, sz)) c p.1 v0 vs rfl (by omega) (by rw [hE.size]; omega)
      rw [g1]
      have hE' : Elems S w sz c' (l.set p.1 p.2) := by
        refine ⟨by rw [g2, hE.size]; simp, fun i x hx => ?_, fun i j x y hx hy => ?_⟩
        · by_cases e : i = p.1
          · subst e
            rw [List.getElem?_set_self hlt] at hx
            simp at hx
            subst hx
            exact hlen
          · rw [List.getElem?_set_ne (Ne.symm e)] at hx
            exact hE.len i x hx
        · rw [g3]
          by_cases e : i = p.1
          · subst e
            rw [List.getElem?_set_self hlt] at hx
            simp at hx
            subst hx
            have hj := (List.getElem?_eq_some_iff.1 hy).1
            rw [if_pos (by omega), show p.1 * sz + j - p.1 * sz = j by omega]
            exact ⟨k2 j y hy, (List.all_eq_true.1 hone) _ (List.mem_of_getElem? hy)⟩
          · rw [List.getElem?_set_ne (Ne.symm e)] at hx
            have hj : j < sz := by rw [← hE.len i x hx]; exact (List.getElem?_eq_some_iff.1 hy).1
            rw [if_neg (fun hh => by
              rcases Nat.lt_or_gt_of_ne e with h1 | h1
              · have : (i + 1) * sz ≤ p.1 * sz := Nat.mul_le_mul_right _ h1
                rw [Nat.succ_mul] at this
                omega
              · have : (p.1 + 1) * sz ≤ i * sz := Nat.mul_le_mul_right _ h1
                rw [Nat.succ_mul] at this
                omega)]
            exact hE.rep i j x y hx hy
      obtain ⟨c2, e1, e2, e3⟩ := fill_elems vs ps c' (l.set p.1 p.2) l' hE' (by simpa using hl) (fun k q hq => by simpa using hr (k + 1) q (by simpa using hq)) hf
      exact ⟨c2, e1, e2, by simpa using e3⟩
    · cases h1
  | [], _ :: _, _, _, _, _, hl, _, _ => by simp at hl
  | _ :: _, [], _, _, _, _, hl, _, _ => by simp at hl

theorem sim_imm (hi : Inv P G S ρ h w) {r : Result Next} {sz n et : Nat} {l : List (List FV)} (imm : Bool) (hd : some (if imm = true then DOut.val (.d (.slice sz l)) h else .val (.row sz l h.length) (h ++ [.row sz n et])) = some out) (hs : SimOut P G S ρ h w r (.val (.row sz l h.length) (h ++ [.row sz n et]))) : SimOut P G S ρ h w r out := by
  simp only [Option.some.injEq] at hd
  subst hd
  cases imm with
  | false => exact hs
  | true =>
    obtain ⟨x, w', S', ρ', hr, hx, E, I⟩ := hs
    have E2 := E.take hi
    have I2 := I.take h.length
    rw [List.take_left] at E2 I2
    refine ⟨x, w', S', _, hr, ?_, E2, I2⟩
    cases hx with
    | row v sz elems t hx ht hr => exact .d _ _ hx

/-- A literal slice: its cells, and how it is built. -/
theorem lit_parts (ha : RepA S ρ h w a.tmps ad) {t e : TypeId} {len : Nat} {i : TypeInfo} {z : List Value × List FV} {parts : Array (Nat × Operand)} {ps : List (Nat × Opd)} (ht : P.underlying t = some (.slice e)) (hinf : P.info? e = some i) (hz : zeroCellsOf P e = some z)
    (hps : parts.toList.mapM (fun p => (trOpd P e p.2).map (Prod.mk p.1)) = some ps) (hsz : 0 < i.size) (hzlen : z.2.length = i.size) (hsmall : len * i.size ≤ 16777216) {qs : List (Nat × List FV)} {l : List (List FV)}
    (hqs : ps.mapM (fun p => (flatCells (ev ad p.2)).map fun cs => (p.1, cs)) = some qs)
    (hl : qs.foldlM (fun (l : List (List FV)) p => if p.1 < l.length ∧ p.2.length = i.size ∧ p.2.all FV.one then some (l.set p.1 p.2) else none) (List.replicate len z.2) = some l) (hz1 : z.2.all FV.one = true) :
    ∃ c', (Instr.buildSlice t len (parts.map fun (i, x) => (i, a.eval x))).run P w = .ok (.slice (some ⟨w.heap.size, 0, none⟩) len len) (w.alloc (.cells c' e)) ∧ Elems S w i.size c' l ∧ l.length = len := by
  obtain ⟨zv, hzv, hk, hzz⟩ : ∃ zv, i.zero = some zv ∧ constsOk zv.cells.toList z.2 = true ∧ z.1 = zv.cells.toList := by
    unfold zeroCellsOf at hz
    simp only [hinf] at hz
    split at hz
    · rename_i zv hzv
      split at hz
      · split at hz
        · rename_i hk
          simp only [Option.some.injEq] at hz
          subst hz
          exact ⟨zv, hzv, hk, rfl⟩
        · cases hz
      · cases hz
    · cases hz
  obtain ⟨zl, zr⟩ := rep_consts (S := S) (w := w) hk
  have zsize : zv.cells.size = i.size := by simp at zl; omega
  have hE : Elems S w i.size ((Array.range (len * i.size)).map (zv.cells[· % zv.cells.size]!)) (List.replicate len z.2) := by
    refine ⟨by simp, fun k x hx => ?_, fun k j x y hx hy => ?_⟩
    · have := List.mem_of_getElem? hx
      simp at this
      rw [this.2, hzlen]
    · have hm := List.mem_of_getElem? hx
      have hkl := (List.getElem?_eq_some_iff.1 hx).1
      simp at hm hkl
      rw [hm.2] at hy
      have hj : j < i.size := by rw [← hzlen]; exact (List.getElem?_eq_some_iff.1 hy).1
      have hb : k * i.size + j < len * i.size := by
        have : (k + 1) * i.size ≤ len * i.size := Nat.mul_le_mul_right _ hkl
        rw [Nat.succ_mul] at this
        omega
      have e2 : (k * i.size + j) % i.size = j := by rw [Nat.add_comm, Nat.add_mul_mod_self_right, Nat.mod_eq_of_lt hj]
      have : ((Array.range (len * i.size)).map (zv.cells[· % zv.cells.size]!)).getD (k * i.size + j) undef = zv.cells.toList.getD j undef := by
        simp [Array.getD_eq_getD_getElem?, hb, zsize, e2, List.getD_eq_getElem?_getD, hj]
      rw [this]
      exact ⟨zr j y hy, (List.all_eq_true.1 hz1) _ (List.mem_of_getElem? hy)⟩
  have hparts : ((parts.map fun (i, x) => (i, a.eval x)).toList).length = qs.length ∧ ∀ (k : Nat) (p : Nat × List FV), qs[k]? = some p → ∃ v, ((parts.map fun (i, x) => (i, a.eval x)).toList)[k]? = some (p.1, v) ∧
      (p.2.all FV.one = true → v.cells.size = p.2.length ∧ ∀ (j : Nat) (y : FV), p.2[j]? = some y → RepF S w (v.cells.getD j undef) y) := by
    obtain ⟨m1, m2⟩ := mapM_some hps
    obtain ⟨n1, n2⟩ := mapM_some hqs
    refine ⟨by simp at m1 ⊢; omega, fun k p hp => ?_⟩
    obtain ⟨q, hq, hfq⟩ := n2 k p hp
    simp only [Option.map_eq_some_iff] at hfq
    obtain ⟨cs, hcs, rfl⟩ := hfq
    obtain ⟨r, hr, hfr⟩ := m2 k q hq
    simp only [Option.map_eq_some_iff] at hfr
    obtain ⟨o, ho, rfl⟩ := hfr
    have hr' : parts[k]? = some r := by simpa using hr
    exact ⟨a.eval r.2, by simp [hr'], fun h1 => rep_flatCells (rep_opd ha ho) hcs h1⟩
  obtain ⟨c', f1, f2, f3⟩ := fill_elems _ qs _ _ l hE hparts.1 hparts.2 hl
  have hll : l.length = len := by simpa using f3
  have hne : ¬ (16777216 < len * i.size) := by omega
  have run : (Instr.buildSlice t len (parts.map fun (i, x) => (i, a.eval x))).run P w = .ok (.slice (some ⟨w.heap.size, 0, none⟩) len len) (w.alloc (.cells c' e)) := by
    by_cases h0 : len * i.size = 0
    · have e0 : ((Array.range (len * i.size)).map (zv.cells[· % zv.cells.size]!)) = #[] := by rw [h0]; simp
      rw [e0] at f1
      simp only [Instr.buildSlice, underlying, Sem.run_bind, run_program, Result.andThen_ok, ht, Sem.run_pure, sizeOf, typeInfo, hinf]
      rw [if_neg (by omega), if_pos h0]
      simp only [Sem.run_pure, Result.andThen_ok, Sem.run_bind, h0]
      have e1 : ((Array.range 0).map ((#[] : Array Value)[· % (#[] : Array Value).size]!)) = #[] := by simp
      rw [e1, f1]
      simp [newRow, World.alloc_eq]
    · simp only [Instr.buildSlice, underlying, Sem.run_bind, run_program, Result.andThen_ok, ht, Sem.run_pure, sizeOf, typeInfo, hinf]
      rw [if_neg (by omega), if_neg h0]
      simp only [Sem.run_pure, Result.andThen_ok, Sem.run_bind, zeroValue, typeInfo, run_program, hinf, hzv, f1]
      simp [newRow, World.alloc_eq]
  exact ⟨c', run, f2, hll⟩

theorem sim_lit (hi : Inv P G S ρ h w) (ha : RepA S ρ h w a.tmps ad) {t e : TypeId} {len : Nat} {i : TypeInfo} {z : List Value × List FV} {parts : Array (Nat × Operand)} {ps : List (Nat × Opd)} (ht : P.underlying t = some (.slice e)) (hinf : P.info? e = some i) (hz : zeroCellsOf P e = some z)
    (hps : parts.toList.mapM (fun p => (trOpd P e p.2).map (Prod.mk p.1)) = some ps) {imm : Bool} (hd : dop call (.lit imm (tagE P e) i.size len z.2 ps) ad h = some out) :
    SimOut P G S ρ h w ((do pure (Next.value (← Instr.buildSlice t len (parts.map fun (i, x) => (i, a.eval x)))) : Sem Next).run P w) out := by
  obtain ⟨zv, hzv, hk, hzz⟩ : ∃ zv, i.zero = some zv ∧ constsOk zv.cells.toList z.2 = true ∧ z.1 = zv.cells.toList := by
    unfold zeroCellsOf at hz
    simp only [hinf] at hz
    split at hz
    · rename_i zv hzv
      split at hz
      · split at hz
        · rename_i hk
          simp only [Option.some.injEq] at hz
          subst hz
          exact ⟨zv, hzv, hk, rfl⟩
        · cases hz
      · cases hz
    · cases hz
  obtain ⟨zl, zr⟩ := rep_consts (S := S) (w := w) hk
  simp only [dop] at hd
  split at hd
  · cases hd
  · rename_i hcond
    have hsz : 0 < i.size := by omega
    have hzlen : z.2.length = i.size := by omega
    have hsmall : len * i.size ≤ 16777216 := by omega
    split at hd
    · rename_i qs hqs
      split at hd
      · rename_i l hl
        split at hd
        · rename_i hz1
          refine sim_imm hi imm hd ?_
          clear hd
          obtain ⟨c', run, f2, hll⟩ := lit_parts (w := w) ha ht hinf hz hps hsz hzlen hsmall hqs hl hz1
          rw [run_v run]
          have E := ext_alloc hi (.cells c' e) (fun x => x < len * i.size) [.row (.slice (some ⟨w.heap.size, 0, none⟩) len len)] [.row i.size len (tagE P e)] (fun r b hr hb => by simp at hr; subst hr; simpa [RI.block] using hb.symm)
          refine ⟨_, _, _, _, .inl rfl, ?_, E, ?_⟩
          · have hc : ∀ k, k < len * i.size → (w.alloc (.cells c' e)).cell? ⟨w.heap.size, 0 + k, none⟩ = some (c'.getD k undef) := fun k hk => by
              have := f2.size
              rw [hll] at this
              simp only [World.cell?, heap_alloc_at, Nat.zero_add]
              simp [Array.getD_eq_getD_getElem?, show k < c'.size by omega]
            have C : Cellrow (fun b x => S b x ∨ (b = w.heap.size ∧ x < len * i.size)) (w.alloc (.cells c' e)) w.heap.size 0 i.size l (fun k => c'.getD k undef) :=
              ⟨f2.len, fun k hk => ⟨.inr ⟨rfl, by rw [hll] at hk; omega⟩, hc k (by rw [hll] at hk; exact hk)⟩, fun i' j x y hx hy => ⟨((f2.rep i' j x y hx hy).1).mono E.settled E.cells, (f2.rep i' j x y hx hy).2⟩⟩
            have R := C.repF (cap := len) (by omega)
            rw [hll] at R
            refine .row _ _ _ _ R (by simp) fun n hn => ?_
            simp [Res.tip] at hn
            subst hn
            exact ⟨by omega, fun _ => by rw [← hi.len]; simp⟩
          · refine inv_alloc_old hi _ (fun x => x < len * i.size) _ _ (fun r b hr hb => by simp at hr; subst hr; simpa [RI.block] using hb.symm) rfl ?_ ?_ ?_ ?_ ?_
            · intro i j b r r' hr hr' _ _
              have a1 := (List.getElem?_eq_some_iff.1 hr).1
              have a2 := (List.getElem?_eq_some_iff.1 hr').1
              simp at a1 a2
              omega
            · intro i cells tag hc
              have a1 := (List.getElem?_eq_some_iff.1 hc).1
              have hi0 : i = 0 := by simp at a1; omega
              subst hi0
              simp at hc
            · intro i hc
              have a1 := (List.getElem?_eq_some_iff.1 hc).1
              have hi0 : i = 0 := by simp at a1; omega
              subst hi0
              simp at hc
            · intro i' sz n et hc
              have a1 := (List.getElem?_eq_some_iff.1 hc).1
              have hi0 : i' = 0 := by simp at a1; omega
              subst hi0
              simp at hc
              obtain ⟨rfl, rfl, rfl⟩ := hc
              refine ⟨w.heap.size, 0, len, c', e, rfl, heap_alloc_at _ _, ⟨hsz, (tagE_ok e).imp _root_.id fun h => ⟨h, rfl⟩⟩, Nat.le_refl _, by rw [f2.size, hll]; omega, fun x hx hs => ?_⟩
              rcases hs with hs | ⟨_, hs⟩
              · have := hi.bound _ _ hs
                omega
              · omega
            · intro i s pos hc
              have a1 := (List.getElem?_eq_some_iff.1 hc).1
              have hi0 : i = 0 := by simp at a1; omega
              subst hi0
              simp at hc
        · cases hd
      · cases hd
    · cases hd

theorem fill_flat {place : Nat → Option (Nat × Nat)} : ∀ (vs : List (Nat × Value)) (ps : List (Nat × List FV)) (c : Array Value) (fs fs' : List FV), c.size = fs.length → (∀ (j : Nat) (y : FV), fs[j]? = some y → RepF S w (c.getD j undef) y) → vs.length = ps.length →
    (∀ (k : Nat) (p : Nat × List FV), ps[k]? = some p → ∃ v i0, vs[k]? = some (i0, v) ∧ place i0 = some (p.1, p.2.length) ∧ v.cells.size = p.2.length ∧ ∀ (j : Nat) (y : FV), p.2[j]? = some y → RepF S w (v.cells.getD j undef) y) →
    fill fs ps = some fs' → ∃ c', Instr.fill place c vs = some c' ∧ c'.size = fs'.length ∧ ∀ (j : Nat) (y : FV), fs'[j]? = some y → RepF S w (c'.getD j undef) y
  | [], [], c, fs, fs', hl, hr, _, _, hf => by
    simp [fill] at hf
    subst hf
    exact ⟨c, rfl, hl, hr⟩
  | (i0, v0) :: vs, (off, new) :: ps, c, fs, fs', hl, hr, hlen, hp, hf => by
    simp only [fill] at hf
    split at hf
    · rename_i hfit
      obtain ⟨v, i1, hv, hpl, hs, hrep⟩ := hp 0 (off, new) rfl
      simp only [List.getElem?_cons_zero, Option.some.injEq, Prod.mk.injEq] at hv
      obtain ⟨rfl, rfl⟩ := hv
      simp only at hpl hs hrep
      obtain ⟨c', g1, g2, g3⟩ := fill_cons place c i0 v0 vs hpl hs (by omega)
      rw [g1]
      refine fill_flat vs ps c' _ fs' (by rw [g2, hl]; simp; omega) (fun j y hy => ?_) (by simpa using hlen) (fun k q hq => by simpa using hp (k + 1) q (by simpa using hq)) hf
      rw [g3]
      have hl1 : (fs.take off).length = off := by simp; omega
      rcases Nat.lt_or_ge j off with hj | hj
      · rw [List.append_assoc, List.getElem?_append_left (by omega), List.getElem?_take_of_lt hj] at hy
        rw [if_neg (by omega)]
        exact hr j y hy
      · rcases Nat.lt_or_ge j (off + new.length) with hj2 | hj2
        · rw [List.append_assoc, List.getElem?_append_right (by omega), hl1, List.getElem?_append_left (by omega)] at hy
          rw [if_pos ⟨hj, hj2⟩]
          exact hrep _ y hy
        · rw [List.getElem?_append_right (by simp; omega), List.getElem?_drop] at hy
          have e3 : off + new.length + (j - (fs.take off ++ new).length) = j := by simp; omega
          rw [e3] at hy
          rw [if_neg (by omega)]
          exact hr j y hy
    · cases hf
  | [], _ :: _, _, _, _, _, _, hl, _, _ => by simp at hl
  | _ :: _, [], _, _, _, _, _, hl, _, _ => by simp at hl

theorem zero_of {t : TypeId} {z : List Value × List FV} (hz : zeroCellsOf P t = some z) : ∃ i zv, P.info? t = some i ∧ i.zero = some zv ∧ constsOk zv.cells.toList z.2 = true := by
  unfold zeroCellsOf at hz
  split at hz
  · rename_i i hi
    split at hz
    · rename_i zv hzv
      split at hz
      · split at hz
        · rename_i hk
          simp only [Option.some.injEq] at hz
          subst hz
          exact ⟨i, zv, hi, hzv, hk⟩
        · cases hz
      · cases hz
    · cases hz
  · cases hz

theorem nilz_ok : ∀ {vs : List Value} {fs : List FV}, constsOk vs fs = true → constsOk vs (nilz fs) = true
  | [], [], _ => rfl
  | v :: vs, f :: fs, hc => by
    simp only [constsOk, Bool.and_eq_true] at hc
    have ih := nilz_ok hc.2
    simp only [nilz, List.map_cons, constsOk, Bool.and_eq_true] at ih ⊢
    refine ⟨?_, ih⟩
    split
    · have h1 := hc.1
      unfold constOk at h1 ⊢
      split at h1 <;> simp_all
    · exact hc.1
  | [], _ :: _, hc => by simp [constsOk] at hc
  | _ :: _, [], hc => by simp [constsOk] at hc
theorem sim_build (hi : Inv P G S ρ h w) (ha : RepA S ρ h w a.tmps ad) {t : TypeId} {fields : Array Field} {places : List (Nat × Nat)} {z : List Value × List FV} {parts : Array (Nat × Operand)} {ps : List (Nat × Nat × Opd)} (ht : P.underlying t = some (.struct fields))
    (hpl : fields.toList.mapM (fun f => (P.info? f.type).map fun i => (f.offset, i.size)) = some places) (hz : zeroCellsOf P t = some z)
    (hps : parts.toList.mapM (fun p => match places[p.1]?, fields[p.1]? with
          | some pl, some fl => (trOpd P fl.type p.2).map fun x => (pl.1, pl.2, x)
          | _, _ => none) = some ps) {nz : Bool} (hd : dop call (.build (if nz then nilz z.2 else z.2) ps) ad h = some out) :
    SimOut P G S ρ h w ((do pure (Next.value (← Instr.build t (parts.map fun (i, x) => (i, a.eval x)))) : Sem Next).run P w) out := by
  obtain ⟨i, zv, hi', hzv, hk⟩ := zero_of hz
  have hk : constsOk zv.cells.toList (if nz then nilz z.2 else z.2) = true := by
    split
    · exact nilz_ok hk
    · exact hk
  generalize (if nz then nilz z.2 else z.2) = zz at *
  obtain ⟨zl, zr⟩ := rep_consts (S := S) (w := w) hk
  simp only [dop] at hd
  split at hd
  · rename_i qs hqs
    simp only [Option.map_eq_some_iff] at hd
    obtain ⟨cs, hcs, rfl⟩ := hd
    obtain ⟨m1, m2⟩ := mapM_some hps
    obtain ⟨n1, n2⟩ := mapM_some hqs
    obtain ⟨c', f1, f2, f3⟩ := fill_flat (S := S) (w := w) (place := (places.toArray[·]?)) (parts.map fun (i, x) => (i, a.eval x)).toList qs zv.cells zz cs (by simpa using zl) (fun j y hy => by
        have := zr j y hy
        simpa [Array.getD_eq_getD_getElem?, List.getD_eq_getElem?_getD] using this) (by simp at m1 ⊢; omega) (fun k p hp => by
        obtain ⟨q, hq, hfq⟩ := n2 k p hp
        split at hfq
        · rename_i cs' hcs'
          split at hfq
          · rename_i hc
            simp only [Option.some.injEq] at hfq
            subst hfq
            obtain ⟨r, hr, hfr⟩ := m2 k q hq
            split at hfr
            · rename_i pl fl e1 e2
              simp only [Option.map_eq_some_iff] at hfr
              obtain ⟨o, ho, rfl⟩ := hfr
              obtain ⟨c1, c2⟩ := rep_flatCells (rep_opd ha ho) hcs' hc.2
              have hr' : parts[k]? = some r := by simpa using hr
              exact ⟨a.eval r.2, r.1, by simp [hr'], by simpa [hc.1] using e1, c1, c2⟩
            · cases hfr
          · cases hfq
        · cases hfq) hcs
    have hb : P.built t (parts.map fun (i, x) => (i, a.eval x)).toList = some c' := by
      simp only [Program.built, hi', ht, hzv, hpl]
      exact f1
    rw [run_v (run_build w t _ c' hb)]
    exact SimOut.plain hi (.d _ _ (.agg _ _ f2 f3))
  · cases hd
theorem sim_buildA (hi : Inv P G S ρ h w) (ha : RepA S ρ h w a.tmps ad) {t : TypeId} {e : TypeId} {n : Nat} {info : TypeInfo} {z : List Value × List FV} {parts : Array (Nat × Operand)} {ps : List (Nat × Nat × Opd)} (ht : P.underlying t = some (.array n e))
    (hinf : P.info? e = some info) (hz : zeroCellsOf P t = some z)
    (hps : parts.toList.mapM (fun p => (trOpd P e p.2).map fun x => (p.1 * info.size, info.size, x)) = some ps) (hd : dop call (.build z.2 ps) ad h = some out) :
    SimOut P G S ρ h w ((do pure (Next.value (← Instr.build t (parts.map fun (i, x) => (i, a.eval x)))) : Sem Next).run P w) out := by
  obtain ⟨i, zv, hi', hzv, hk⟩ := zero_of hz
  generalize z.2 = zz at *
  obtain ⟨zl, zr⟩ := rep_consts (S := S) (w := w) hk
  simp only [dop] at hd
  split at hd
  · rename_i qs hqs
    simp only [Option.map_eq_some_iff] at hd
    obtain ⟨cs, hcs, rfl⟩ := hd
    obtain ⟨m1, m2⟩ := mapM_some hps
    obtain ⟨n1, n2⟩ := mapM_some hqs
    obtain ⟨c', f1, f2, f3⟩ := fill_flat (S := S) (w := w) (place := fun i => some (i * info.size, info.size)) (parts.map fun (i, x) => (i, a.eval x)).toList qs zv.cells zz cs (by simpa using zl) (fun j y hy => by
        have := zr j y hy
        simpa [Array.getD_eq_getD_getElem?, List.getD_eq_getElem?_getD] using this) (by simp at m1 ⊢; omega) (fun k p hp => by
        obtain ⟨q, hq, hfq⟩ := n2 k p hp
        split at hfq
        · rename_i cs' hcs'
          split at hfq
          · rename_i hc
            simp only [Option.some.injEq] at hfq
            subst hfq
            obtain ⟨r, hr, hfr⟩ := m2 k q hq
            simp only [Option.map_eq_some_iff] at hfr
            obtain ⟨o, ho, rfl⟩ := hfr
            obtain ⟨c1, c2⟩ := rep_flatCells (rep_opd ha ho) hcs' hc.2
            have hr' : parts[k]? = some r := by simpa using hr
            exact ⟨a.eval r.2, r.1, by simp [hr'], by simp [hc.1], c1, c2⟩
          · cases hfq
        · cases hfq) hcs
    have hb : P.built t (parts.map fun (i, x) => (i, a.eval x)).toList = some c' := by
      simp only [Program.built, hi', ht, hzv, hinf]
      exact f1
    rw [run_v (run_build w t _ c' hb)]
    exact SimOut.plain hi (.d _ _ (.agg _ _ f2 f3))
  · cases hd

end
end Go.Deepv
