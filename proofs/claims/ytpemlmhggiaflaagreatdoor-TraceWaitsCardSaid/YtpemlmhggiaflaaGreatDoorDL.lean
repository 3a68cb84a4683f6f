/-
  Each operation, and each region, of a function's code does what the deep machine's does.
  Conditions: what is called can be entered.
-/
import Derived.Laws.Externs
import Derived.Test.YtpemlmhggiaflaaGreatDoorDU
import Derived.Test.YtpemlmhggiaflaaGreatDoorKM
set_option linter.unusedVariables false
set_option linter.unusedSimpArgs false
namespace Go.Deepv
open Go.RowKit

section
variable {P : Program} {G : Glob} {S S' : Settled} {ρ : List RI} {h : List Res} {w w' : World} {a : Act} {ad : List DV} {call : Cle → List DV → List Res → Option DOut} {out : DOut}

/-- What needs nothing of the call's own is the same beside whatever there is. -/
theorem RepD.lift {v : Value} {x : DV} (hx : RepD S [] [] w v x) : RepD S ρ h w v x := by
  generalize he : ([] : List RI) = ρ0 at hx
  generalize he2 : ([] : List Res) = h0 at hx
  induction hx with
  | d v x hx => exact .d _ _ hx
  | ptr id off b hb => subst he; simp at hb
  | row v sz elems t hx ht hr => subst he2; simp at ht
  | agg cs fs hl hh ih => exact .agg _ _ hl ih
  | clo fn p q fp fq hp hq h1 h2 ih1 ih2 => exact .clo _ _ _ _ _ hp hq ih1 ih2
  | tup cs fs hl hh ih => exact .tup _ _ hl ih
  | iface t v x hh ih => exact .iface _ _ _ ih
  | yld id b hb => subst he; simp at hb
  | bslc id off n cap b hc hb => subst he; simp at hb
  | rptr A p n cap elems t hx hp ht hr => subst he2; simp at ht
  | vslc b o cap id g sz off n hc ht hr => subst he2; simp at ht
  | eptr b o' id g k o ht hr => subst he2; simp at ht
  | mref id b hb => subst he; simp at hb

theorem inv_none (hi : Inv P G S ρ h w) : Inv P G S [] [] w where
  len := rfl
  bound := hi.bound
  glob := hi.glob
  low := fun i b r hr => by simp at hr
  apart := fun i j b r r' hr => by simp at hr
  box := fun i cells tag hc => by simp at hc
  nilrow := fun i hc => by simp at hc
  row := fun i sz n et hc => by simp at hc
  iter := fun i s pos hc => by simp at hc
  loop := fun i ps as bd snap st hc => by simp at hc
  own := fun i r hc => by simp at hc

theorem ext_lift {ρ1 : List RI} {h1 : List Res} (hi : Inv P G S ρ h w) (E : Ext S [] [] w S' ρ1 h1 w') (I : Inv P G S' ρ1 h1 w') : Ext S ρ h w S' ρ h w' ∧ Inv P G S' ρ h w' := by
  have old : ∀ b, b < w.heap.size → w'.heap[b]? = w.heap[b]? := fun b hb => E.frame b hb fun i r hr => by simp at hr
  have fr : ∀ b o, S' b o → S b o ∨ w.heap.size ≤ b := fun b o ho => by
    rcases E.fresh b o ho with h1 | h1 | ⟨i, r, hr, _⟩
    · exact .inl h1
    · exact .inr h1
    · simp at hr
  have E' : Ext S ρ h w S' ρ h w' :=
    { settled := E.settled
      cells := E.cells
      len := Nat.le_refl _
      boxes := fun _ _ x => x
      rows := fun t n' _ hn => ⟨n', hn, Nat.le_refl _, fun _ => rfl⟩
      size := E.size, os := E.os, tape := E.tape, output := E.output
      frame := fun b hb _ => old b hb
      blocks := fun i b r hr hb => .inr ⟨i, r, hr, hb, id⟩
      fresh := fun b o ho => (fr b o ho).elim .inl fun x => .inr (.inl x) }
  refine ⟨E', hi.len, I.bound, I.glob, fun i b r hr hb => Nat.lt_of_lt_of_le (hi.low i b r hr hb) E.size, hi.apart, fun i cells tag hc => ?_, hi.nilrow, fun i sz n et hc => ?_, fun i s pos hc => ?_, fun i ps as bd snap st hc => ?_, fun i r hc => ?_⟩
  · obtain ⟨b, c, e, g1, g2, g3, g4, g5⟩ := hi.box i cells _ hc
    have hb := hi.low i b _ g1 rfl
    refine ⟨b, c, e, g1, by rw [old b hb]; exact g2, g3, fun j x hx => ⟨(g4 j x hx).1, (g4 j x hx).2.1, (g4 j x hx).2.2.mono E'⟩, fun o ho => ?_⟩
    rcases fr b o ho with h1 | h1
    · exact g5 o h1
    · omega
  · obtain ⟨b, o, cap, c, e, g1, g2, g3, g4, g5, g7⟩ := hi.row i sz n et hc
    have hb := hi.low i b _ g1 rfl
    refine ⟨b, o, cap, c, e, g1, by rw [old b hb]; exact g2, g3, g4, g5, fun x hx hs => ?_⟩
    rcases fr b x hs with h1 | h1
    · exact g7 x hx h1
    · omega
  · obtain ⟨b, g1, g2⟩ := hi.iter i s pos hc
    exact ⟨b, g1, by rw [old b (hi.low i b _ g1 rfl)]; exact g2⟩
  · obtain ⟨b, r, g1, g2, g3, g4, g5⟩ := hi.loop i ps as bd snap st hc
    exact ⟨b, r, g1, by rw [old b (hi.low i b _ g1 rfl)]; exact g2, g3, g4, fun j x hx => ⟨(g5 j x hx).1, (g5 j x hx).2.mono E'⟩⟩
  · obtain ⟨ri, g1, g2⟩ := hi.own i r hc
    refine ⟨ri, g1, g2.mono E.settled E.cells fun b hb => ?_⟩
    have hb' := hi.low i b _ g1 hb
    refine ⟨old b hb', fun o ho => ?_⟩
    rcases fr b o ho with h1 | h1
    · exact h1
    · omega

/-- What is called is a function with a body. -/
def CallsOk (P : Program) (call : Cle → List DV → List Res → Option DOut) : Prop :=
  ∀ g args h out, call (.fn g) args h = some out → ∃ fn, P.funcs[g]? = some fn ∧ (fn.name == "runtime.NumGoroutine") = false ∧ fn.body.isNone = false

def OpOk (P : Program) (G : Glob) (call : Cle → List DV → List Res → Option DOut) (S : Settled) (ρ : List RI) (h : List Res) (w : World) (r : Result Next) (out : DOut) : Prop :=
  SimOut P G S ρ h w r out ∨ (∃ ρ1 h1, Ext S ρ h w S ρ1 h1 w ∧ Inv P G S ρ1 h1 w ∧ ∃ g args dargs, r = .ok (.enter g args) w ∧ args.size = dargs.length ∧ (∀ (j : Nat) (x : DV), dargs[j]? = some x → RepD S ρ1 h1 w (args.getD j undef) x) ∧ call (.fn g) dargs h1 = some out) ∨
    (∃ id l args dargs, r = (Instr.yield l args).run P w ∧ ρ[id]? = some (.box l) ∧ args.size = dargs.length ∧ (∀ (j : Nat) (x : DV), dargs[j]? = some x → RepD S ρ h w (args.getD j undef) x) ∧ call (.yld id) dargs h = some out) ∨
    ∃ g args dargs v, r = .ok (.enter g args) w ∧ args.size = dargs.length ∧ (∀ (j : Nat) (x : DV), dargs[j]? = some x → RepD S [] [] w (args.getD j undef) x) ∧ call (.fn g) dargs [] = some (.val (.d v) []) ∧ out = .val (.d v) h

theorem run_callFunc {g : FuncId} {fn : Func} {args : Array Value} (h1 : P.funcs[g]? = some fn) (h2 : (fn.name == "runtime.NumGoroutine") = false) (h3 : fn.body.isNone = false) : (callFunc g args).run P w = .ok (.enter g args) w := by
  have h2' : fn.name ≠ "runtime.NumGoroutine" := by simpa using h2
  have h3' : fn.body ≠ none := by intro h; simp [h] at h3
  simp [callFunc, h1, h2', h3']

theorem getD_append {α : Type} (xs ys : Array α) (d : α) (j : Nat) : (xs ++ ys).getD j d = if j < xs.size then xs.getD j d else ys.getD (j - xs.size) d := by
  simp only [Array.getD_eq_getD_getElem?]
  split
  · rename_i h
    rw [Array.getElem?_append_left h]
  · rename_i h
    rw [Array.getElem?_append_right (by omega)]

theorem rep_append {xs ys : Array Value} {ds es : List DV} (h1 : xs.size = ds.length) (h2 : ys.size = es.length) (r1 : ∀ (j : Nat) (x : DV), ds[j]? = some x → RepD S ρ h w (xs.getD j undef) x) (r2 : ∀ (j : Nat) (x : DV), es[j]? = some x → RepD S ρ h w (ys.getD j undef) x) :
    (xs ++ ys).size = (ds ++ es).length ∧ ∀ (j : Nat) (x : DV), (ds ++ es)[j]? = some x → RepD S ρ h w ((xs ++ ys).getD j undef) x := by
  refine ⟨by simp [h1, h2], fun j x hx => ?_⟩
  rw [getD_append]
  rcases Nat.lt_or_ge j ds.length with hj | hj
  · rw [List.getElem?_append_left hj] at hx
    rw [if_pos (by omega)]
    exact r1 j x hx
  · rw [List.getElem?_append_right hj] at hx
    rw [if_neg (by omega), h1]
    exact r2 _ x hx

theorem rep_args (ha : RepA S ρ h w a.tmps ad) {c : Call} {args : List Opd} (hl : c.args.size = c.argTypes.size) (ht : (c.args.toList.zip c.argTypes.toList).mapM (fun p => trOpd P p.2 p.1) = some args) :
    (c.args.map a.eval).size = (args.map (ev ad)).length ∧ ∀ (j : Nat) (x : DV), (args.map (ev ad))[j]? = some x → RepD S ρ h w ((c.args.map a.eval).getD j undef) x := by
  obtain ⟨m1, m2⟩ := mapM_some ht
  have hz : (c.args.toList.zip c.argTypes.toList).length = c.args.size := by simp [hl]
  refine ⟨by simp at m1 ⊢; omega, fun j x hx => ?_⟩
  simp only [List.getElem?_map, Option.map_eq_some_iff] at hx
  obtain ⟨y, hy, rfl⟩ := hx
  obtain ⟨p, hp, hfp⟩ := m2 j y hy
  have hpj : c.args[j]? = some p.1 := by
    have := List.getElem?_zip_eq_some.1 hp
    simpa using this.1
  have := rep_opd ha hfp
  simpa [Array.getD_eq_getD_getElem?, hpj] using this

theorem sim_call (hi : Inv P G S ρ h w) (ha : RepA S ρ h w a.tmps ad) (hc : CallsOk P call) {c : Call} {rt : TypeId} {d : DOp} (ht : trCall P c = some d) (hd : dop call d ad h = some out) :
    OpOk P G call S ρ h w ((do let d ← resolve a.eval c rt; invoke d.target d.args : Sem Next).run P w) out := by
  unfold trCall at ht
  split at ht
  · rename_i f hcal
    split at ht
    · rename_i f' args hf hargs
      split at ht
      · rename_i hl
        simp only [Option.some.injEq] at ht
        subst ht
        obtain ⟨l1, r1⟩ := rep_args ha hl hargs
        have g1 := rep_opd ha hf
        simp only [dop, dcallV] at hd
        split at hd
        · rename_i g p q e
          obtain ⟨fn, f1, f2, f3⟩ := hc _ _ _ _ hd
          rw [e] at g1
          have gg := repD_d g1
          generalize hv : a.eval f = vf at *
          cases gg with
          | func _ p' q' fp fq hp hq h1 h2 =>
            refine .inr (.inl ⟨ρ, h, Ext.refl S ρ h w, hi, g, p' ++ c.args.map a.eval ++ q', _, ?_, ?_, ?_, hd⟩)
            · simp only [resolve, hcal, Deferred.ofValue, hv, Sem.run_bind, Sem.run_pure, Result.andThen_ok, invoke]
              exact run_callFunc f1 f2 f3
            · simp at l1 ⊢; omega
            · have s1 := rep_append (S := S) (ρ := ρ) (h := h) (w := w) (ds := p.map .d) (by simpa using hp) l1 (fun j x hx => by
                simp only [List.getElem?_map, Option.map_eq_some_iff] at hx
                obtain ⟨y, hy, rfl⟩ := hx
                exact .d _ _ (h1 j y hy)) r1
              exact (rep_append (es := q.map .d) s1.1 (by simpa using hq) s1.2 (fun j x hx => by
                simp only [List.getElem?_map, Option.map_eq_some_iff] at hx
                obtain ⟨y, hy, rfl⟩ := hx
                exact .d _ _ (h2 j y hy))).2
        · rename_i g p q e
          obtain ⟨fn, f1, f2, f3⟩ := hc _ _ _ _ hd
          rw [e] at g1
          generalize hv : a.eval f = vf at *
          cases g1 with
          | clo _ p' q' fp fq hp hq h1 h2 =>
            refine .inr (.inl ⟨ρ, h, Ext.refl S ρ h w, hi, g, p' ++ c.args.map a.eval ++ q', _, ?_, ?_, ?_, hd⟩)
            · simp only [resolve, hcal, Deferred.ofValue, hv, Sem.run_bind, Sem.run_pure, Result.andThen_ok, invoke]
              exact run_callFunc f1 f2 f3
            · simp at l1 ⊢; omega
            · have s1 := rep_append (S := S) (ρ := ρ) (h := h) (w := w) (ds := p) hp l1 h1 r1
              exact (rep_append (es := q) s1.1 hq s1.2 h2).2
        · rename_i id e
          rw [e] at g1
          generalize hv : a.eval f = vf at *
          cases g1 with
          | yld id l hb =>
            refine .inr (.inr (.inl ⟨id, l, c.args.map a.eval, _, ?_, hb, l1, r1, hd⟩))
            simp [resolve, hcal, Deferred.ofValue, hv, Sem.run_bind, Sem.run_pure, Result.andThen_ok, invoke]
        · cases hd
      · cases ht
    · cases ht
  · rename_i b hcal
    split at ht
    · rename_i args hargs
      split at ht
      · cases ht
      · rename_i hl
        have hl : c.args.size = c.argTypes.size := by simpa using hl
        obtain ⟨m1, m2⟩ := mapM_some hargs
        obtain ⟨l1, r1⟩ := rep_args ha hl hargs
        have one : ∀ x, args = [x] → ∃ o t, c.args = #[o] ∧ c.argTypes = #[t] ∧ trOpd P t o = some x := by
          rintro x rfl
          have hz : c.args.size = 1 := by simp at m1; omega
          have hz2 : c.argTypes.size = 1 := by omega
          obtain ⟨o, ho⟩ := Array.size_eq_one_iff.1 hz
          obtain ⟨t, htt⟩ := Array.size_eq_one_iff.1 hz2
          refine ⟨o, t, ho, htt, ?_⟩
          obtain ⟨p, hp, hfp⟩ := m2 0 x rfl
          rw [ho, htt] at hp
          simp at hp
          subst hp
          exact hfp
        have two : ∀ s x, args = [s, x] → ∃ o1 o2 t1 t2, c.args = #[o1, o2] ∧ c.argTypes = #[t1, t2] ∧ trOpd P t1 o1 = some s ∧ trOpd P t2 o2 = some x := by
          rintro s x rfl
          have hz : c.args.size = 2 := by simp at m1; omega
          have hz2 : c.argTypes.size = 2 := by omega
          obtain ⟨o1, o2, ho⟩ : ∃ o1 o2, c.args = #[o1, o2] := ⟨c.args[0], c.args[1], by apply Array.ext <;> simp [hz]; intro i hi; rcases i with _ | _ | i <;> simp; omega⟩
          obtain ⟨t1, t2, htt⟩ : ∃ o1 o2, c.argTypes = #[o1, o2] := ⟨c.argTypes[0], c.argTypes[1], by apply Array.ext <;> simp [hz2]; intro i hi; rcases i with _ | _ | i <;> simp; omega⟩
          refine ⟨o1, o2, t1, t2, ho, htt, ?_, ?_⟩
          · obtain ⟨p, hp, hfp⟩ := m2 0 s rfl
            rw [ho, htt] at hp
            simp at hp
            subst hp
            exact hfp
          · obtain ⟨p, hp, hfp⟩ := m2 1 x rfl
            rw [ho, htt] at hp
            simp at hp
            subst hp
            exact hfp
        split at ht
        · rename_i x
          obtain ⟨o, t, e1, e2, ho⟩ := one x rfl
          rw [e2] at ht
          have hrun : (do let d ← resolve a.eval c rt; invoke d.target d.args : Sem Next).run P w = ((do pure (Next.value (← Builtin.len_ #[t] rt #[a.eval o])) : Sem Next).run P w) := by
            simp [resolve, hcal, invoke, builtin, e1, e2]
          rw [hrun]
          split at ht
          · rename_i hu
            simp only [Option.some.injEq] at ht
            subst ht
            exact .inl (sim_lenStr hi ha ho rfl (by simpa using hu) hd)
          · rename_i e hu
            simp only [Option.some.injEq] at ht
            subst ht
            exact .inl (sim_lenSlc hi ha ho rfl (by simpa using hu) hd)
          · cases ht
        · rename_i x
          obtain ⟨o, t, e1, e2, ho⟩ := one x rfl
          simp only [Option.some.injEq] at ht
          subst ht
          have hrun : (do let d ← resolve a.eval c rt; invoke d.target d.args : Sem Next).run P w = ((do pure (Next.value (← Builtin.unsafeSliceData_ #[t] rt #[a.eval o])) : Sem Next).run P w) := by
            simp [resolve, hcal, invoke, builtin, e1, e2]
          rw [hrun]
          exact .inl (sim_usd hi ha ho hd)
        · rename_i x n
          obtain ⟨o1, o2, t1, t2, e1, e2, ho1, ho2⟩ := two x n rfl
          rw [e2] at ht
          split at ht
          · rename_i e hu
            split at ht
            · rename_i i hinf hue
              split at ht
              · rename_i hc
                simp only [Option.some.injEq] at ht
                subst ht
                have hrun : (do let d ← resolve a.eval c rt; invoke d.target d.args : Sem Next).run P w = ((do pure (Next.value (← Builtin.unsafeString_ #[t1, t2] rt #[a.eval o1, a.eval o2])) : Sem Next).run P w) := by
                  simp [resolve, hcal, invoke, builtin, e1, e2]
                rw [hrun]
                exact .inl (sim_ustr hi ha (by simpa using hu) hc.2 ho1 ho2 hd)
              · cases ht
            · cases ht
          · cases ht
        · rename_i x xs
          simp only [Option.some.injEq] at ht
          subst ht
          have hrun : (do let d ← resolve a.eval c rt; invoke d.target d.args : Sem Next).run P w = ((do pure (Next.value (← (if false then Builtin.max_ c.argTypes rt (c.args.map a.eval).toList.toArray else Builtin.min_ c.argTypes rt (c.args.map a.eval).toList.toArray))) : Sem Next).run P w) := by
            have em : (c.args.map a.eval).toList.toArray = c.args.map a.eval := by cases (c.args.map a.eval); rfl
            rw [em]
            simp [resolve, hcal, invoke, builtin]
          rw [hrun]
          exact .inl (sim_mnmx hi ha (by simpa using l1) (fun j y hy => by simpa [Array.getD_eq_getD_getElem?, List.getD_eq_getElem?_getD] using r1 j y hy) hd)
        · rename_i x xs
          simp only [Option.some.injEq] at ht
          subst ht
          have hrun : (do let d ← resolve a.eval c rt; invoke d.target d.args : Sem Next).run P w = ((do pure (Next.value (← (if true then Builtin.max_ c.argTypes rt (c.args.map a.eval).toList.toArray else Builtin.min_ c.argTypes rt (c.args.map a.eval).toList.toArray))) : Sem Next).run P w) := by
            have em : (c.args.map a.eval).toList.toArray = c.args.map a.eval := by cases (c.args.map a.eval); rfl
            rw [em]
            simp [resolve, hcal, invoke, builtin]
          rw [hrun]
          exact .inl (sim_mnmx hi ha (by simpa using l1) (fun j y hy => by simpa [Array.getD_eq_getD_getElem?, List.getD_eq_getElem?_getD] using r1 j y hy) hd)
        · rename_i s x
          obtain ⟨o1, o2, t1, t2, e1, e2, ho1, ho2⟩ := two s x rfl
          rw [e2] at ht
          split at ht
          · rename_i e e' hu1 hu2
            split at ht
            · rename_i i hinf
              split at ht
              · rename_i z hz
                split at ht
                · rename_i hzs
                  simp only [Option.some.injEq] at ht
                  subst ht
                  have hrun : (do let d ← resolve a.eval c rt; invoke d.target d.args : Sem Next).run P w = ((do pure (Next.value (← Builtin.append_ #[t1, t2] rt #[a.eval o1, a.eval o2])) : Sem Next).run P w) := by
                    simp [resolve, hcal, invoke, builtin, e1, e2]
                  rw [hrun]
                  exact .inl (sim_app hi ha (by simpa using hu1) (by simpa using hu2) hinf hz hzs ho1 ho2 hd)
                · cases ht
              · cases ht
            · cases ht
          · rename_i e hu1 hu2
            split at ht
            · rename_i i hinf
              split at ht
              · rename_i z hz
                split at ht
                · rename_i hzs
                  simp only [Option.some.injEq] at ht
                  subst ht
                  have hrun : (do let d ← resolve a.eval c rt; invoke d.target d.args : Sem Next).run P w = ((do pure (Next.value (← Builtin.append_ #[t1, t2] rt #[a.eval o1, a.eval o2])) : Sem Next).run P w) := by
                    simp [resolve, hcal, invoke, builtin, e1, e2]
                  rw [hrun]
                  exact .inl (sim_apps hi ha (by simpa using hu1) (by simpa using hu2) hinf hz hzs.1 hzs.2 ho1 ho2 hd)
                · cases ht
              · cases ht
            · cases ht
          · cases ht
        · cases ht
    · cases ht
  · cases ht

theorem idx_find {fn : Func} (h : fn.name = "internal/bytealg.IndexByteString") : Extern.find fn = some Extern.BytealgIndexByte.indexByte := by
  unfold Extern.find
  rw [h]
  rfl
theorem idx_next {fn : Func} (h : fn.name = "internal/bytealg.IndexByteString") (h2 : fn.origin = "") : Extern.findNext fn = none := by
  unfold Extern.findNext
  rw [h, h2]
  rfl
theorem sim_idxB (hi : Inv P G S ρ h w) (ha : RepA S ρ h w a.tmps ad) {c : Call} {rt : TypeId} {d : DOp} (hib : isIdxB P c = true) (ht : (match trCall P c with | some (.call _ [x, y]) => some (DOp.idxB x y) | _ => none) = some d) (hd : dop call d ad h = some out) :
    SimOut P G S ρ h w ((do let d ← resolve a.eval c rt; invoke d.target d.args : Sem Next).run P w) out := by
  split at ht
  · rename_i f x y hcl
    simp only [Option.some.injEq] at ht
    subst ht
    unfold isIdxB at hib
    split at hib
    · rename_i g hcal
      split at hib
      · rename_i fn hfn
        simp only [Bool.and_eq_true, beq_iff_eq] at hib
        obtain ⟨⟨n1, n2⟩, n3⟩ := hib
        unfold trCall at hcl
        rw [hcal] at hcl
        simp only at hcl
        split at hcl
        · rename_i f2 args hf hargs
          split at hcl
          · rename_i hl
            simp only [Option.some.injEq, DOp.call.injEq] at hcl
            obtain ⟨rfl, rfl⟩ := hcl
            obtain ⟨l1, r1⟩ := rep_args ha hl hargs
            simp only [dop] at hd
            split at hd
            · rename_i s n es en
              simp only [Option.some.injEq] at hd
              subst hd
              have a0 := r1 0 (ev ad x) rfl
              have a1 := r1 1 (ev ad y) rfl
              rw [es] at a0
              rw [en] at a1
              have b0 := repF_str (repD_d a0)
              have b1 := repF_int (repD_d a1)
              have hsz : (c.args.map a.eval) = #[.string s, .int .u8 n] := by
                generalize c.args.map a.eval = xs at *
                rcases xs with ⟨l⟩
                match l, l1 with
                | [p, q], _ =>
                  simp at b0 b1
                  rw [b0, b1]
              have hrun : ((do let d ← resolve a.eval c rt; invoke d.target d.args : Sem Next).run P w) = .ok (.value (.int .i64 (Lib.indexByte s.data.toList n.toNat.toUInt8))) w := by
                have hev : a.eval (.func g) = .func (.func g) #[] #[] := rfl
                simp only [resolve, hcal, Deferred.ofValue, hev, Sem.run_bind, Sem.run_pure, Result.andThen_ok, invoke]
                have := run_callFunc_extern hfn (by rw [n1]; decide) n3 (idx_next n1 n2) (idx_find n1) #[.string s, .int .u8 n] w
                rw [Lib.run_indexByteString] at this
                simpa [hsz, Result.andThen] using this
              rw [hrun]
              exact ⟨_, _, S, ρ, .inl rfl, .d _ _ (.int _ _), Ext.refl S ρ h w, hi⟩
            · cases hd
          · cases hcl
        · cases hcl
      · cases hib
    · cases hib
  · cases ht

theorem sim_calln (hi : Inv P G S ρ h w) (ha : RepA S ρ h w a.tmps ad) (hc : CallsOk P call) {c : Call} {rt : TypeId} {d : DOp} (ht : trCallN P c = some d) (hd : dop call d ad h = some out) :
    OpOk P G call S ρ h w ((do let d ← resolve a.eval c rt; invoke d.target d.args : Sem Next).run P w) out := by
  unfold trCallN at ht
  split at ht
  · rename_i hib
    exact .inl (sim_idxB hi ha hib ht hd)
  split at ht
  · rename_i sz f x' rest hn hcl
    simp only [Option.some.injEq] at ht
    subst ht
    unfold nilFirst at hn
    split at hn
    · rename_i g0 x xs e hcal hx he
      split at hn
      · rename_i hnil
        simp only [Option.some.injEq] at hn
        subst hn
        unfold trCall at hcl
        rw [hcal] at hcl
        simp only at hcl
        split at hcl
        · rename_i f2 args hf hargs
          split at hcl
          · rename_i hl
            simp only [Option.some.injEq, DOp.call.injEq] at hcl
            obtain ⟨rfl, rfl⟩ := hcl
            obtain ⟨l1, r1⟩ := rep_args ha hl hargs
            have g1 := rep_opd ha hf
            simp only [dop] at hd
            split at hd
            · rename_i g ef
              obtain ⟨fn, f1, f2, f3⟩ := hc _ _ _ _ hd
              rw [ef] at g1
              have gg := repD_d g1
              generalize hv : a.eval (.func g0) = vf at *
              cases gg with
              | func _ p' q' fp fq hp hq h1 h2 =>
                have hp0 : p' = #[] := Array.eq_empty_of_size_eq_zero (by simpa using hp)
                have hq0 : q' = #[] := Array.eq_empty_of_size_eq_zero (by simpa using hq)
                subst hp0 hq0
                have E := ext_rows hi 1
                have I := inv_rows hi 1
                refine .inr (.inl ⟨_, _, E, I, g, #[] ++ c.args.map a.eval ++ #[], _, ?_, ?_, ?_, hd⟩)
                · simp only [resolve, hcal, Deferred.ofValue, hv, Sem.run_bind, Sem.run_pure, Result.andThen_ok, invoke]
                  exact run_callFunc f1 f2 f3
                · simp at l1 ⊢; omega
                · intro j y hy
                  have hx0 : a.eval x = .slice none 0 0 := by
                    unfold isNilSlice at hnil
                    split at hnil
                    · rfl
                    · cases hnil
                  cases j with
                  | zero =>
                    simp at hy
                    subst hy
                    have h0 : (#[] ++ c.args.map a.eval ++ #[]).getD 0 undef = .slice none 0 0 := by
                      have : c.args[0]? = some x := by
                        rw [← Array.getElem?_toList, hx]
                        rfl
                      simp [Array.getD_eq_getD_getElem?, this, hx0]
                    rw [h0]
                    refine .row _ _ [] h.length (.slice0 none 0 _) (by simp) fun n hn => ?_
                    simp [Res.tip] at hn
                    subst hn
                    refine ⟨Nat.le_refl _, fun _ => ?_⟩
                    rw [← hi.len]
                    simp
                  | succ j =>
                    have := r1 (j + 1) y (by simpa using hy)
                    simp only [Array.empty_append, Array.append_empty]
                    exact this.mono E
            · cases hd
          · cases hcl
        · cases hcl
      · cases hn
    · cases hn
  · exact sim_call hi ha hc ht hd

theorem trCall_value {c : Call} {f' : Opd} {args : List Opd} (ht : trCall P c = some (.call f' args)) : ∃ f, c.callee = .value f ∧ trOpd P 0 f = some f' ∧ (c.args.toList.zip c.argTypes.toList).mapM (fun p => trOpd P p.2 p.1) = some args ∧ c.args.size = c.argTypes.size := by
  unfold trCall at ht
  split at ht
  · rename_i f hcal
    split at ht
    · rename_i f' args hf hargs
      split at ht
      · rename_i hl
        simp only [Option.some.injEq, DOp.call.injEq] at ht
        obtain ⟨rfl, rfl⟩ := ht
        exact ⟨f, hcal, hf, hargs, hl⟩
      · cases ht
    · cases ht
  · exfalso
    repeat' split at ht
    all_goals first
      | (cases ht; done)
      | (simp at ht; done)
  · cases ht
theorem sim_calld (hi : Inv P G S ρ h w) (ha : RepA S ρ h w a.tmps ad) (hc : CallsOk P call) {c : Call} {rt : TypeId} {f' : Opd} {args : List Opd} (ht : trCallN P c = some (.call f' args)) (hd : dop call (.calld f' args) ad h = some out) :
    OpOk P G call S ρ h w ((do let d ← resolve a.eval c rt; invoke d.target d.args : Sem Next).run P w) out := by
  have ht : trCall P c = some (.call f' args) := by
    unfold trCallN at ht
    split at ht
    · split at ht <;> simp at ht
    · split at ht
      · simp at ht
      · exact ht
  obtain ⟨f, hcal, hf, hargs, hl⟩ := trCall_value ht
  obtain ⟨l1, r1⟩ := rep_args ha hl hargs
  have g1 := rep_opd ha hf
  simp only [dop] at hd
  split at hd
  · rename_i g e
    split at hd
    · rename_i hall
      split at hd
      · rename_i v hcl
        simp only [Option.some.injEq] at hd
        subst hd
        obtain ⟨fn, f1, f2, f3⟩ := hc _ _ _ _ hcl
        rw [e] at g1
        have gg := repD_d g1
        generalize hv : a.eval f = vf at *
        cases gg with
        | func _ p' q' fp fq hp hq h1 h2 =>
          have ep : p' = #[] := by simpa using hp
          have eq : q' = #[] := by simpa using hq
          subst ep
          subst eq
          refine .inr (.inr (.inr ⟨g, c.args.map a.eval, args.map (ev ad), v, ?_, l1, fun j x hx => ?_, hcl, rfl⟩))
          · simp only [resolve, hcal, Deferred.ofValue, hv, Sem.run_bind, Sem.run_pure, Result.andThen_ok, invoke, Array.empty_append, Array.append_empty]
            exact run_callFunc f1 f2 f3
          · have hx' := r1 j x hx
            have hd1 := List.all_eq_true.1 hall x (List.mem_of_getElem? hx)
            cases x <;> simp [DV.isD] at hd1
            exact .d _ _ (repD_d hx')
      · cases hd
    · cases hd
  · cases hd

theorem trCall_app {c : Call} {et sz bytes : Nat} {s x : Opd} (ht : trCallN P c = some (.app false et sz bytes s x)) : ∃ o1 o2 t1 t2 e e' i z, c.callee = .builtin .append ∧ c.args = #[o1, o2] ∧ c.argTypes = #[t1, t2] ∧ trOpd P t1 o1 = some s ∧ trOpd P t2 o2 = some x ∧
    P.underlying t1 = some (.slice e) ∧ P.underlying t2 = some (.slice e') ∧ P.info? e = some i ∧ i.zero = some z ∧ z.cells.size = i.size ∧ et = tagE P e ∧ sz = i.size ∧ bytes = i.bytes := by
  have ht : trCall P c = some (.app false et sz bytes s x) := by
    unfold trCallN at ht
    split at ht
    · split at ht <;> simp at ht
    · split at ht
      · simp at ht
      · exact ht
  unfold trCall at ht
  split at ht
  · split at ht
    · split at ht <;> simp at ht
    · cases ht
  · rename_i b hcal
    split at ht
    · rename_i args hargs
      split at ht
      · cases ht
      · rename_i hl
        have hl : c.args.size = c.argTypes.size := by simpa using hl
        obtain ⟨m1, m2⟩ := mapM_some hargs
        have two : ∀ s x, args = [s, x] → ∃ o1 o2 t1 t2, c.args = #[o1, o2] ∧ c.argTypes = #[t1, t2] ∧ trOpd P t1 o1 = some s ∧ trOpd P t2 o2 = some x := by
          rintro s x rfl
          have hz : c.args.size = 2 := by simp at m1; omega
          have hz2 : c.argTypes.size = 2 := by omega
          obtain ⟨o1, o2, ho⟩ : ∃ o1 o2, c.args = #[o1, o2] := ⟨c.args[0], c.args[1], by apply Array.ext <;> simp [hz]; intro i hi; rcases i with _ | _ | i <;> simp; omega⟩
          obtain ⟨t1, t2, htt⟩ : ∃ o1 o2, c.argTypes = #[o1, o2] := ⟨c.argTypes[0], c.argTypes[1], by apply Array.ext <;> simp [hz2]; intro i hi; rcases i with _ | _ | i <;> simp; omega⟩
          refine ⟨o1, o2, t1, t2, ho, htt, ?_, ?_⟩
          · obtain ⟨p, hp, hfp⟩ := m2 0 s rfl
            rw [ho, htt] at hp
            simp at hp
            subst hp
            exact hfp
          · obtain ⟨p, hp, hfp⟩ := m2 1 x rfl
            rw [ho, htt] at hp
            simp at hp
            subst hp
            exact hfp
        split at ht
        · split at ht <;> simp at ht
        · simp at ht
        · split at ht
          · split at ht
            · split at ht <;> simp at ht
            · cases ht
          · cases ht
        · simp at ht
        · simp at ht
        · rename_i s' x'
          obtain ⟨o1, o2, t1, t2, e1, e2, ho1, ho2⟩ := two s' x' rfl
          rw [e2] at ht
          split at ht
          · rename_i e e' hu1 hu2
            split at ht
            · rename_i i hinf
              split at ht
              · rename_i z hz
                split at ht
                · rename_i hzs
                  simp only [Option.some.injEq, DOp.app.injEq] at ht
                  obtain ⟨_, rfl, rfl, rfl, rfl, rfl⟩ := ht
                  exact ⟨o1, o2, t1, t2, e, e', i, z, hcal, e1, e2, ho1, ho2, by simpa using hu1, by simpa using hu2, hinf, hz, hzs, rfl, rfl, rfl⟩
                · cases ht
              · cases ht
            · cases ht
          · split at ht
            · split at ht
              · split at ht <;> simp at ht
              · cases ht
            · cases ht
          · cases ht
        · cases ht
    · cases ht
  · cases ht
theorem sim_vecCall (hi : Inv P G S ρ h w) (ha : RepA S ρ h w a.tmps ad) (hc : CallsOk P call) {c : Call} {rt : TypeId} {b : Bool} {d : DOp} (ht : vecCall b (trCallN P c) = some d) (hd : dop call d ad h = some out) :
    OpOk P G call S ρ h w ((do let d ← resolve a.eval c rt; invoke d.target d.args : Sem Next).run P w) out := by
  unfold vecCall at ht
  split at ht
  · split at ht
    · rename_i et sz bytes s x hcn
      simp only [Option.some.injEq] at ht
      subst ht
      obtain ⟨o1, o2, t1, t2, e, e', i, z, hcal, e1, e2, ho1, ho2, hu1, hu2, hinf, hz, hzs, rfl, rfl, rfl⟩ := trCall_app hcn
      have hrun : (do let d ← resolve a.eval c rt; invoke d.target d.args : Sem Next).run P w = ((do pure (Next.value (← Builtin.append_ #[t1, t2] rt #[a.eval o1, a.eval o2])) : Sem Next).run P w) := by
        simp [resolve, hcal, invoke, builtin, e1, e2]
      rw [hrun]
      exact .inl (sim_vapp hi ha hu1 hu2 hinf hz hzs ho1 ho2 hd)
    · exact sim_calln hi ha hc ht hd
  · exact sim_calln hi ha hc ht hd

theorem sim_op (hi : Inv P G S ρ h w) (ha : RepA S ρ h w a.tmps ad) (hc : CallsOk P call) {o : Oper} {imm : Nat → Bool} {d : DOp} (ht : trOp P imm o = some d) (hd : dop call d ad h = some out) : OpOk P G call S ρ h w ((execOp a.eval o).run P w) out := by
  obtain ⟨dst, op, type, pos, after, guard⟩ := o
  have mvc : ∀ x, trMove P imm ⟨dst, op, type, pos, after, guard⟩ x = some d → SimOut P G S ρ h w (.ok (.value (a.eval x)) w) out := fun x hx => by
    unfold trMove at hx
    split at hx
    · rename_i hn
      have this : a.eval x = .slice none 0 0 := by
        unfold isNilSlice at hn
        split at hn
        · rfl
        · cases hn
      split at hx
      · split at hx
        · simp only [Option.some.injEq] at hx
          subst hx
          rw [this]
          refine sim_mv hi ?_ hd
          exact .d _ _ (.slice0 none 0 _)
        · simp only [Option.some.injEq] at hx
          subst hx
          rw [this]
          exact sim_nilrow hi hd
      · cases hx
    · simp only [Option.map_eq_some_iff] at hx
      obtain ⟨y, hy, rfl⟩ := hx
      exact sim_mv hi (rep_opd ha hy) hd
  cases op <;> simp only [trOp] at ht <;> first | (cases ht; done) | skip
  case move x =>
    split at ht
    · simp only [Option.map_eq_some_iff] at ht
      obtain ⟨y, hy, rfl⟩ := ht
      exact .inl (sim_frz hi (rep_opd ha hy) hd)
    · exact .inl (mvc x ht)
  case assign x =>
    split at ht
    · simp only [Option.map_eq_some_iff] at ht
      obtain ⟨y, hy, rfl⟩ := ht
      exact .inl (sim_frz hi (rep_opd ha hy) hd)
    · exact .inl (mvc x ht)
  case makeSlice t n c =>
    split at ht
    · rename_i e hu
      split at ht
      · rename_i i z n' c' h1 h2 h3 h4
        simp only [Option.some.injEq] at ht
        subst ht
        exact .inl (sim_vmake hi ha hu h1 h2 h3 h4 hd)
      · cases ht
    · cases ht
  case makeMap t hint =>
    cases hint with
    | some _ => cases ht
    | none =>
      simp only at ht
      split at ht
      · simp only [Option.some.injEq] at ht
        subst ht
        exact .inl (sim_mkmap hi hd)
      · cases ht
  case lookup t x i comma =>
    split at ht
    · rename_i k e hu
      split at ht
      · rename_i zf x' i' kz h1 h2 h3 h4
        simp only [Option.some.injEq] at ht
        subst ht
        simp only [Option.bind_eq_some_iff] at h1
        obtain ⟨info, hinf, zv, hz, hzf⟩ := h1
        exact .inl (sim_mlook hi ha hu hinf hz hzf h4 h2 h3 hd)
      · cases ht
    · cases ht
  case mapUpdate t m k v =>
    split at ht
    · rename_i kt e hu
      split at ht
      · rename_i m' k' v' kz h1 h2 h3 h4
        simp only [Option.some.injEq] at ht
        subst ht
        exact .inl (sim_mupd hi ha hu h4 h1 h2 h3 hd)
      · cases ht
    · cases ht
  case pick c x y =>
    split at ht
    · rename_i c' x' y' h1 h2 h3
      simp only [Option.some.injEq] at ht
      subst ht
      exact .inl (sim_pick hi ha h1 h2 h3 hd)
    · cases ht
  case alloc t =>
    simp only [Option.map_eq_some_iff] at ht
    obtain ⟨z, hz, rfl⟩ := ht
    exact .inl (sim_alloc hi hz hd)
  case box t x =>
    simp only [Option.map_eq_some_iff] at ht
    obtain ⟨y, hy, rfl⟩ := ht
    exact .inl (sim_box hi ha hy hd)
  case load t x =>
    split at ht
    · rename_i n y hn hy
      simp only [Option.some.injEq] at ht
      subst ht
      exact .inl (sim_load hi ha hn hy hd)
    · cases ht
  case store t x v =>
    split at ht
    · rename_i i x' v' h1 h2 h3
      simp only [Option.some.injEq] at ht
      subst ht
      split at hd
      · exact .inl (sim_storen hi ha h1 h2 h3 hd)
      · exact .inl (sim_store hi ha h1 h2 h3 hd)
    · cases ht
  case binOp op xt x y yt => exact .inl (sim_bin hi ha ht hd)
  case unOp op t x =>
    simp only [Option.map_eq_some_iff] at ht
    obtain ⟨y, hy, rfl⟩ := ht
    exact .inl (sim_un hi ha hy hd)
  case convert src dst x =>
    split at ht
    · rename_i u k y h1 h2 h3
      simp only [Option.some.injEq] at ht
      subst ht
      exact .inl (sim_cvt hi ha h1 h2 h3 hd)
    · rename_i e y h1 h2 h3
      split at ht
      · rename_i he
        simp only [Option.some.injEq] at ht
        subst ht
        exact .inl (sim_bstr hi ha h1 h2 he h3 hd)
      · cases ht
    · rename_i k y h1 h2 h3
      simp only [Option.some.injEq] at ht
      subst ht
      exact .inl (sim_rstr hi ha h1 h2 h3 hd)
    · rename_i e0 e y h1 h2 h3
      split at ht
      · rename_i hsd
        subst hsd
        split at ht
        · rename_i he
          simp only [Option.some.injEq] at ht
          subst ht
          exact .inl (sim_mark hi ha h2 he h3 hd)
        · cases ht
      · cases ht
    · rename_i e y h1 h2 h3
      split at ht
      · rename_i i he hinf
        split at ht
        · simp only [Option.some.injEq] at ht
          subst ht
          exact .inl (sim_sbytes hi ha h1 h2 he h3 hd)
        · cases ht
      · cases ht
    · cases ht
  case range t x =>
    split at ht
    · rename_i y h1 h2
      simp only [Option.some.injEq] at ht
      subst ht
      exact .inl (sim_rng hi ha h1 h2 hd)
    · cases ht
  case next x b =>
    cases b with
    | false => cases ht
    | true =>
      simp only [Option.map_eq_some_iff] at ht
      obtain ⟨y, hy, rfl⟩ := ht
      exact .inl (sim_next hi ha hy hd)
  case typeAssert x t1 t comma =>
    split at ht
    · cases ht
    · rename_i u zf y hni hu hz hy
      simp only [Option.some.injEq] at ht
      subst ht
      exact .inl (sim_tass hi ha hu (fun m hm => hni m (by rw [hm])) hz hy hd)
    · cases ht
  case fieldAddr s x f =>
    split at ht
    · rename_i fields hu
      split at ht
      · rename_i fl hf
        split at ht
        · rename_i i y h1 h2
          split at ht
          · cases ht
          · rename_i h0
            simp only [Option.some.injEq] at ht
            subst ht
            exact .inl (sim_addOff hi ha hu hf h1 h0 h2 hd)
        · cases ht
      · cases ht
    · cases ht
  case field s x f =>
    split at ht
    · rename_i fields hu
      split at ht
      · rename_i fl hf
        split at ht
        · rename_i n y h1 h2
          simp only [Option.some.injEq] at ht
          subst ht
          exact .inl (sim_fld hi ha hu hf h1 h2 hd)
        · cases ht
      · cases ht
    · cases ht
  case indexAddr t x i =>
    unfold trIdxAddr at ht
    split at ht
    · rename_i e hu
      split at ht
      · rename_i info x' i' h1 h2 h3
        simp only [Option.some.injEq] at ht
        subst ht
        exact .inl (sim_idxAddr hi ha hu h1 h2 h3 hd)
      · cases ht
    · rename_i n e hu
      split at ht
      · rename_i info x' i' h1 h2 h3
        simp only [Option.some.injEq] at ht
        subst ht
        exact .inl (sim_idxArr hi ha hu h1 h2 h3 hd)
      · cases ht
    · cases ht
  case index t x i =>
    split at ht
    · rename_i x' i' h1 h2 h3
      simp only [Option.some.injEq] at ht
      subst ht
      exact .inl (sim_idxStr hi ha h1 h2 h3 hd)
    · rename_i n e x' i' h1 h2 h3
      split at ht
      · rename_i info m h4 h5
        simp only [Option.some.injEq] at ht
        subst ht
        exact .inl (sim_idxVal hi ha h1 h4 h5 h2 h3 hd)
      · cases ht
    · cases ht
  case slice t x lo hi' mx =>
    unfold trSlice at ht
    split at ht
    · cases ht
    · rename_i hmx
      have hmx' : mx = none := by cases mx <;> simp_all
      subst hmx'
      split at ht
      · rename_i x' lo' hi'' h1 h2 h3
        split at ht
        · rename_i hu
          simp only [Option.some.injEq] at ht
          subst ht
          exact .inl (sim_slcStr hi ha hu h1 h2 h3 hd)
        · rename_i e hu
          split at ht
          · rename_i i hinf
            simp only [Option.some.injEq] at ht
            subst ht
            exact .inl (sim_slc hi ha hu hinf h1 h2 h3 hd)
          · cases ht
        · rename_i n e hu
          split at ht
          · rename_i i hinf
            simp only [Option.some.injEq] at ht
            subst ht
            exact .inl (sim_slcA hi ha hu hinf h1 h2 h3 hd)
          · cases ht
        · cases ht
      · cases ht
  case extract x i =>
    simp only [Option.map_eq_some_iff] at ht
    obtain ⟨y, hy, rfl⟩ := ht
    exact .inl (sim_ext hi ha hy hd)
  case buildSlice t len parts =>
    split at ht
    · rename_i e hu
      split at ht
      · rename_i i z ps h1 h2 h3
        simp only [Option.some.injEq] at ht
        subst ht
        split at hd
        · exact .inl (sim_vlit hi ha hu h1 h2 h3 hd)
        · exact .inl (sim_lit hi ha hu h1 h2 h3 hd)
      · cases ht
    · cases ht
  case build t parts =>
    split at ht
    · rename_i fields hu
      split at ht
      · rename_i places hpl
        split at ht
        · rename_i z ps h1 h2
          simp only [Option.some.injEq] at ht
          subst ht
          exact .inl (sim_build hi ha hu hpl h1 h2 hd)
        · cases ht
      · cases ht
    · rename_i n e hu
      split at ht
      · rename_i info hinf
        split at ht
        · rename_i z ps h1 h2
          simp only [Option.some.injEq] at ht
          subst ht
          exact .inl (sim_buildA hi ha hu hinf h1 h2 hd)
        · cases ht
      · cases ht
    · cases ht
  case call c =>
    have sp : ∀ {b : Bool}, (if b = true then dataCall (trCallN P c) else vecCall (vecM imm ⟨dst, .call c, type, pos, after, guard⟩) (trCallN P c)) = some d → OpOk P G call S ρ h w ((execOp a.eval ⟨dst, .call c, type, pos, after, guard⟩).run P w) out := fun {b} ht => by
      cases b with
      | false => exact sim_vecCall hi ha hc ht hd
      | true =>
        simp only [if_true] at ht
        unfold dataCall at ht
        split at ht
        · rename_i f args hcn
          simp only [Option.some.injEq] at ht
          subst ht
          exact sim_calld hi ha hc hcn hd
        · exact sim_calln hi ha hc ht hd
    exact sp ht
  case makeFunc fn p q =>
    split at ht
    · rename_i p' q' h1 h2
      simp only [Option.some.injEq] at ht
      subst ht
      exact .inl (sim_mkf hi ha h1 h2 hd)
    · cases ht
  case nilCheck x =>
    simp only [Option.map_eq_some_iff] at ht
    obtain ⟨y, hy, rfl⟩ := ht
    exact .inl (sim_nilchk hi ha rfl hy hd)
  case makeInterface t x =>
    split at ht
    · cases ht
    · rename_i u y hni hu hy
      simp only [Option.some.injEq] at ht
      subst ht
      exact .inl (sim_mki hi ha hu (fun m hm => hni m (by rw [hm])) hy hd)
    · cases ht

end
end Go.Deepv
