/-
  Each operation, and each region, of a function's code does what the deep machine's does; The deep machine is sound: a call of a function does what the deep machine says of it; Operations of the deep machine in another order; Regions that draw their order: all orders come to the same; The deep machine is sound: code, rounds of loops, functions; all numbers of rounds
  Conditions: none.
-/
import Derived.Laws.Externs
import Derived.Test.YtnklhhmfmopdnaaGreatDoorMC
import Derived.TacticsIn
import Derived.OwnWalkIn
import Derived.LoopNIn
import Derived.LoopN
import Derived.RangeFuncRecord
import Derived.Test.YtnklhhmfmopdnaaGreatDoorMA
import Derived.Orders
set_option linter.unusedVariables false
set_option linter.unusedSimpArgs false
namespace Go.Deepv
open Go.RowKit
section
variable {P : Program} {G : Glob} {S S' : Settled} {ρ : List RI} {h : List Res} {w w' : World} {a : Act} {ad : List DV} {call : Cle → List DV → List Res → Option DOut} {out : DOut}
theorem RepD.lift {v : Value} {x : DV} (hx : RepD S [] [] w v x) : RepD S ρ h w v x := by
 generalize he : ([] : List RI) = ρ0 at hx
 generalize he2 : ([] : List Res) = h0 at hx
 induction hx with
 | d v x hx => exact .d _ _ hx
 | ptr id off b hb => subst he; simp at hb
 | row v sz elems t hx ht hr => subst he2; simp at ht
 | agg cs fs hl hh ih => exact .agg _ _ hl ih
 | clo fn p q fp fq hp hq h1 h2 ih1 ih2 => exact .clo _ _ _ _ _ hp hq ih1 ih2
 | tup cs fs hl hh ih => exact .tup _ _ hl ih
 | iface t v x hh ih => exact .iface _ _ _ ih
 | yld id b hb => subst he; simp at hb
 | bslc id off n cap b hc hb => subst he; simp at hb
 | rptr A p n cap elems t hx hp ht hr => subst he2; simp at ht
 | vslc b o cap id g sz off n hc ht hr => subst he2; simp at ht
 | eptr b o' id g k o ht hr => subst he2; simp at ht
 | mref id b hb => subst he; simp at hb
theorem inv_none (hi : Inv P G S ρ h w) : Inv P G S [] [] w where
 len := rfl
 bound := hi.bound
 glob := hi.glob
 low := fun i b r hr => by simp at hr
 apart := fun i j b r r' hr => by simp at hr
 box := fun i cells tag hc => by simp at hc
 nilrow := fun i hc => by simp at hc
 row := fun i sz n et hc => by simp at hc
 iter := fun i s pos hc => by simp at hc
 loop := fun i ps as_ bd snap st hc => by simp at hc
 own := fun i r hc => by simp at hc
theorem ext_lift {ρ1 : List RI} {h1 : List Res} (hi : Inv P G S ρ h w) (E : Ext S [] [] w S' ρ1 h1 w') (I : Inv P G S' ρ1 h1 w') : Ext S ρ h w S' ρ h w' ∧ Inv P G S' ρ h w' := by
 have old : ∀ b, b < w.heap.size → w'.heap[b]? = w.heap[b]? := fun b hb => E.frame b hb fun i r hr => by simp at hr
 have fr : ∀ b o, S' b o → S b o ∨ w.heap.size ≤ b := fun b o ho => by
  rcases E.fresh b o ho with h1 | h1 | ⟨i, r, hr, _⟩
  ·exact .inl h1
  ·exact .inr h1
  ·simp at hr
 have E' : Ext S ρ h w S' ρ h w' :=
  {settled := E.settled
   cells := E.cells
   len := Nat.le_refl _
   boxes := fun _ _ x => x
   rows := fun t n' _ hn => ⟨n', hn, Nat.le_refl _, fun _ => rfl⟩
   size := E.size, os := E.os, tape := E.tape, output := E.output
   frame := fun b hb _ => old b hb
   blocks := fun i b r hr hb => .inr ⟨i, r, hr, hb, id⟩
   fresh := fun b o ho => (fr b o ho).elim .inl fun x => .inr (.inl x) }
 refine ⟨E', hi.len, I.bound, I.glob, fun i b r hr hb => Nat.lt_of_lt_of_le (hi.low i b r hr hb) E.size, hi.apart, fun i cells tag hc => ?_, hi.nilrow, fun i sz n et hc => ?_, fun i s pos hc => ?_, fun i ps as_ bd snap st hc => ?_, fun i r hc => ?_⟩
 ·obtain ⟨b, c, e, g1, g2, g3, g4, g5⟩ := hi.box i cells _ hc
  have hb := hi.low i b _ g1 rfl
  refine ⟨b, c, e, g1, by rw [old b hb]; exact g2, g3, fun j x hx => ⟨(g4 j x hx).1, (g4 j x hx).2.1, (g4 j x hx).2.2.mono E'⟩, fun o ho => ?_⟩
  rcases fr b o ho with h1 | h1
  ·exact g5 o h1
  ·omega
 ·obtain ⟨b, o, cap, c, e, g1, g2, g3, g4, g5, g7⟩ := hi.row i sz n et hc
  have hb := hi.low i b _ g1 rfl
  refine ⟨b, o, cap, c, e, g1, by rw [old b hb]; exact g2, g3, g4, g5, fun x hx hs => ?_⟩
  rcases fr b x hs with h1 | h1
  ·exact g7 x hx h1
  ·omega
 ·obtain ⟨b, g1, g2⟩ := hi.iter i s pos hc
  exact ⟨b, g1, by rw [old b (hi.low i b _ g1 rfl)]; exact g2⟩
 ·obtain ⟨b, r, g1, g2, g3, g4, g5⟩ := hi.loop i ps as_ bd snap st hc
  exact ⟨b, r, g1, by rw [old b (hi.low i b _ g1 rfl)]; exact g2, g3, g4, fun j x hx => ⟨(g5 j x hx).1, (g5 j x hx).2.mono E'⟩⟩
 ·obtain ⟨ri, g1, g2⟩ := hi.own i r hc
  refine ⟨ri, g1, g2.mono E.settled E.cells fun b hb => ?_⟩
  have hb' := hi.low i b _ g1 hb
  refine ⟨old b hb', fun o ho => ?_⟩
  rcases fr b o ho with h1 | h1
  ·exact h1
  ·omega
def CallsOk (P : Program) (call : Cle → List DV → List Res → Option DOut) : Prop :=
 ∀ g args h out, call (.fn g) args h = some out → ∃ fn, P.funcs[g]? = some fn ∧ (fn.name == "runtime.NumGoroutine") = false ∧ fn.body.isNone = false
def OpOk (P : Program) (G : Glob) (call : Cle → List DV → List Res → Option DOut) (S : Settled) (ρ : List RI) (h : List Res) (w : World) (r : Result Next) (out : DOut) : Prop :=
 SimOut P G S ρ h w r out ∨ (∃ ρ1 h1, Ext S ρ h w S ρ1 h1 w ∧ Inv P G S ρ1 h1 w ∧ ∃ g args dargs, r = .ok (.enter g args) w ∧ args.size = dargs.length ∧ (∀ (j : Nat) (x : DV), dargs[j]? = some x → RepD S ρ1 h1 w (args.getD j undef) x) ∧ call (.fn g) dargs h1 = some out) ∨
  (∃ id l args dargs, r = (Instr.yield l args).run P w ∧ ρ[id]? = some (.box l) ∧ args.size = dargs.length ∧ (∀ (j : Nat) (x : DV), dargs[j]? = some x → RepD S ρ h w (args.getD j undef) x) ∧ call (.yld id) dargs h = some out) ∨
  ∃ g args dargs v, r = .ok (.enter g args) w ∧ args.size = dargs.length ∧ (∀ (j : Nat) (x : DV), dargs[j]? = some x → RepD S [] [] w (args.getD j undef) x) ∧ call (.fn g) dargs [] = some (.val (.d v) []) ∧ out = .val (.d v) h
theorem run_callFunc {g : FuncId} {fn : Func} {args : Array Value} (h1 : P.funcs[g]? = some fn) (h2 : (fn.name == "runtime.NumGoroutine") = false) (h3 : fn.body.isNone = false) : (callFunc g args).run P w = .ok (.enter g args) w := by
 have h2' : fn.name ≠ "runtime.NumGoroutine" := by simpa using h2
 have h3' : fn.body ≠ none := by intro h; simp [h] at h3
 simp [callFunc, h1, h2', h3']
theorem getD_append {α : Type} (xs ys : Array α) (d : α) (j : Nat) : (xs ++ ys).getD j d = if j < xs.size then xs.getD j d else ys.getD (j - xs.size) d := by
 simp only [Array.getD_eq_getD_getElem?]
 split
 ·rename_i h
  rw [Array.getElem?_append_left h]
 ·rename_i h
  rw [Array.getElem?_append_right (by omega)]
theorem rep_append {xs ys : Array Value} {ds es : List DV} (h1 : xs.size = ds.length) (h2 : ys.size = es.length) (r1 : ∀ (j : Nat) (x : DV), ds[j]? = some x → RepD S ρ h w (xs.getD j undef) x) (r2 : ∀ (j : Nat) (x : DV), es[j]? = some x → RepD S ρ h w (ys.getD j undef) x) :
  (xs ++ ys).size = (ds ++ es).length ∧ ∀ (j : Nat) (x : DV), (ds ++ es)[j]? = some x → RepD S ρ h w ((xs ++ ys).getD j undef) x := by
 refine ⟨by simp [h1, h2], fun j x hx => ?_⟩
 rw [getD_append]
 rcases Nat.lt_or_ge j ds.length with hj | hj
 ·rw [List.getElem?_append_left hj] at hx
  rw [if_pos (by omega)]
  exact r1 j x hx
 ·rw [List.getElem?_append_right hj] at hx
  rw [if_neg (by omega), h1]
  exact r2 _ x hx
theorem rep_args (ha : RepA S ρ h w a.tmps ad) {c : Call} {args : List Opd} (hl : c.args.size = c.argTypes.size) (ht : (c.args.toList.zip c.argTypes.toList).mapM (fun p => trOpd P p.2 p.1) = some args) :
  (c.args.map a.eval).size = (args.map (ev ad)).length ∧ ∀ (j : Nat) (x : DV), (args.map (ev ad))[j]? = some x → RepD S ρ h w ((c.args.map a.eval).getD j undef) x := by
 obtain ⟨m1, m2⟩ := mapM_some ht
 have hz : (c.args.toList.zip c.argTypes.toList).length = c.args.size := by simp [hl]
 refine ⟨by simp at m1 ⊢; omega, fun j x hx => ?_⟩
 simp only [List.getElem?_map, Option.map_eq_some_iff] at hx
 obtain ⟨y, hy, rfl⟩ := hx
 obtain ⟨p, hp, hfp⟩ := m2 j y hy
 have hpj : c.args[j]? = some p.1 := by
  have := List.getElem?_zip_eq_some.1 hp
  simpa using this.1
 have := rep_opd ha hfp
 simpa [Array.getD_eq_getD_getElem?, hpj] using this
theorem sim_call (hi : Inv P G S ρ h w) (ha : RepA S ρ h w a.tmps ad) (hc : CallsOk P call) {c : Call} {rt : TypeId} {d : DOp} (ht : trCall P c = some d) (hd : dop call d ad h = some out) :
  OpOk P G call S ρ h w ((do let d ← resolve a.eval c rt; invoke d.target d.args : Sem Next).run P w) out := by
 unfold trCall at ht
 split at ht
 ·rename_i f hcal
  split at ht
  ·rename_i f' args hf hargs
   split at ht
   ·rename_i hl
    simp only [Option.some.injEq] at ht
    subst ht
    obtain ⟨l1, r1⟩ := rep_args ha hl hargs
    have g1 := rep_opd ha hf
    simp only [dop, dcallV] at hd
    split at hd
    ·rename_i g p q e
     obtain ⟨fn, f1, f2, f3⟩ := hc _ _ _ _ hd
     rw [e] at g1
     have gg := repD_d g1
     generalize hv : a.eval f = vf at *
     cases gg with
     | func _ p' q' fp fq hp hq h1 h2 =>
      refine .inr (.inl ⟨ρ, h, Ext.refl S ρ h w, hi, g, p' ++ c.args.map a.eval ++ q', _, ?_, ?_, ?_, hd⟩)
      ·simp only [resolve, hcal, Deferred.ofValue, hv, Sem.run_bind, Sem.run_pure, Result.andThen_ok, invoke]
       exact run_callFunc f1 f2 f3
      ·simp at l1 ⊢; omega
      ·have s1 := rep_append (S := S) (ρ := ρ) (h := h) (w := w) (ds := p.map .d) (by simpa using hp) l1 (fun j x hx => by
        simp only [List.getElem?_map, Option.map_eq_some_iff] at hx
        obtain ⟨y, hy, rfl⟩ := hx
        exact .d _ _ (h1 j y hy)) r1
       exact (rep_append (es := q.map .d) s1.1 (by simpa using hq) s1.2 (fun j x hx => by
        simp only [List.getElem?_map, Option.map_eq_some_iff] at hx
        obtain ⟨y, hy, rfl⟩ := hx
        exact .d _ _ (h2 j y hy))).2
    ·rename_i g p q e
     obtain ⟨fn, f1, f2, f3⟩ := hc _ _ _ _ hd
     rw [e] at g1
     generalize hv : a.eval f = vf at *
     cases g1 with
     | clo _ p' q' fp fq hp hq h1 h2 =>
      refine .inr (.inl ⟨ρ, h, Ext.refl S ρ h w, hi, g, p' ++ c.args.map a.eval ++ q', _, ?_, ?_, ?_, hd⟩)
      ·simp only [resolve, hcal, Deferred.ofValue, hv, Sem.run_bind, Sem.run_pure, Result.andThen_ok, invoke]
       exact run_callFunc f1 f2 f3
      ·simp at l1 ⊢; omega
      ·have s1 := rep_append (S := S) (ρ := ρ) (h := h) (w := w) (ds := p) hp l1 h1 r1
       exact (rep_append (es := q) s1.1 hq s1.2 h2).2
    ·rename_i id e
     rw [e] at g1
     generalize hv : a.eval f = vf at *
     cases g1 with
     | yld id l hb =>
      refine .inr (.inr (.inl ⟨id, l, c.args.map a.eval, _, ?_, hb, l1, r1, hd⟩))
      simp [resolve, hcal, Deferred.ofValue, hv, Sem.run_bind, Sem.run_pure, Result.andThen_ok, invoke]
    ·cases hd
   ·cases ht
  ·cases ht
 ·rename_i b hcal
  split at ht
  ·rename_i args hargs
   split at ht
   ·cases ht
   ·rename_i hl
    have hl : c.args.size = c.argTypes.size := by simpa using hl
    obtain ⟨m1, m2⟩ := mapM_some hargs
    obtain ⟨l1, r1⟩ := rep_args ha hl hargs
    have one : ∀ x, args = [x] → ∃ o t, c.args = #[o] ∧ c.argTypes = #[t] ∧ trOpd P t o = some x := by
     rintro x rfl
     have hz : c.args.size = 1 := by simp at m1; omega
     have hz2 : c.argTypes.size = 1 := by omega
     obtain ⟨o, ho⟩ := Array.size_eq_one_iff.1 hz
     obtain ⟨t, htt⟩ := Array.size_eq_one_iff.1 hz2
     refine ⟨o, t, ho, htt, ?_⟩
     obtain ⟨p, hp, hfp⟩ := m2 0 x rfl
     rw [ho, htt] at hp
     simp at hp
     subst hp
     exact hfp
    have two : ∀ s x, args = [s, x] → ∃ o1 o2 t1 t2, c.args = #[o1, o2] ∧ c.argTypes = #[t1, t2] ∧ trOpd P t1 o1 = some s ∧ trOpd P t2 o2 = some x := by
     rintro s x rfl
     have hz : c.args.size = 2 := by simp at m1; omega
     have hz2 : c.argTypes.size = 2 := by omega
     obtain ⟨o1, o2, ho⟩ : ∃ o1 o2, c.args = #[o1, o2] := ⟨c.args[0], c.args[1], by apply Array.ext <;> simp [hz]; intro i hi; rcases i with _ | _ | i <;> simp; omega⟩
     obtain ⟨t1, t2, htt⟩ : ∃ o1 o2, c.argTypes = #[o1, o2] := ⟨c.argTypes[0], c.argTypes[1], by apply Array.ext <;> simp [hz2]; intro i hi; rcases i with _ | _ | i <;> simp; omega⟩
     refine ⟨o1, o2, t1, t2, ho, htt, ?_, ?_⟩
     ·obtain ⟨p, hp, hfp⟩ := m2 0 s rfl
      rw [ho, htt] at hp
      simp at hp
      subst hp
      exact hfp
     ·obtain ⟨p, hp, hfp⟩ := m2 1 x rfl
      rw [ho, htt] at hp
      simp at hp
      subst hp
      exact hfp
    split at ht
    ·rename_i x
     obtain ⟨o, t, e1, e2, ho⟩ := one x rfl
     rw [e2] at ht
     have hrun : (do let d ← resolve a.eval c rt; invoke d.target d.args : Sem Next).run P w = ((do pure (Next.value (← Builtin.len_ #[t] rt #[a.eval o])) : Sem Next).run P w) := by
      simp [resolve, hcal, invoke, builtin, e1, e2]
     rw [hrun]
     split at ht
     ·rename_i hu
      simp only [Option.some.injEq] at ht
      subst ht
      exact .inl (sim_lenStr hi ha ho rfl (by simpa using hu) hd)
     ·rename_i e hu
      simp only [Option.some.injEq] at ht
      subst ht
      exact .inl (sim_lenSlc hi ha ho rfl (by simpa using hu) hd)
     ·rename_i k e hu
      simp only [Option.some.injEq] at ht
      subst ht
      exact .inl (sim_lenm hi ha ho rfl (by simpa using hu) hd)
     ·cases ht
    ·rename_i x
     obtain ⟨o, t, e1, e2, ho⟩ := one x rfl
     rw [e2] at ht
     have hrun : (do let d ← resolve a.eval c rt; invoke d.target d.args : Sem Next).run P w = ((do pure (Next.value (← Builtin.cap_ #[t] rt #[a.eval o])) : Sem Next).run P w) := by
      simp [resolve, hcal, invoke, builtin, e1, e2]
     rw [hrun]
     split at ht
     ·rename_i e hu
      simp only [Option.some.injEq] at ht
      subst ht
      exact .inl (sim_capn hi ha ho rfl (by simpa using hu) hd)
     ·cases ht
    ·rename_i x
     obtain ⟨o, t, e1, e2, ho⟩ := one x rfl
     simp only [Option.some.injEq] at ht
     subst ht
     have hrun : (do let d ← resolve a.eval c rt; invoke d.target d.args : Sem Next).run P w = ((do pure (Next.value (← Builtin.unsafeSliceData_ #[t] rt #[a.eval o])) : Sem Next).run P w) := by
      simp [resolve, hcal, invoke, builtin, e1, e2]
     rw [hrun]
     exact .inl (sim_usd hi ha ho hd)
    ·rename_i x n
     obtain ⟨o1, o2, t1, t2, e1, e2, ho1, ho2⟩ := two x n rfl
     rw [e2] at ht
     split at ht
     ·rename_i e hu
      split at ht
      ·rename_i i hinf hue
       split at ht
       ·rename_i hc
        simp only [Option.some.injEq] at ht
        subst ht
        have hrun : (do let d ← resolve a.eval c rt; invoke d.target d.args : Sem Next).run P w = ((do pure (Next.value (← Builtin.unsafeString_ #[t1, t2] rt #[a.eval o1, a.eval o2])) : Sem Next).run P w) := by
         simp [resolve, hcal, invoke, builtin, e1, e2]
        rw [hrun]
        exact .inl (sim_ustr hi ha (by simpa using hu) hc.2 ho1 ho2 hd)
       ·cases ht
      ·cases ht
     ·cases ht
    ·rename_i x xs
     simp only [Option.some.injEq] at ht
     subst ht
     have hrun : (do let d ← resolve a.eval c rt; invoke d.target d.args : Sem Next).run P w = ((do pure (Next.value (← (if false then Builtin.max_ c.argTypes rt (c.args.map a.eval).toList.toArray else Builtin.min_ c.argTypes rt (c.args.map a.eval).toList.toArray))) : Sem Next).run P w) := by
      have em : (c.args.map a.eval).toList.toArray = c.args.map a.eval := by cases (c.args.map a.eval); rfl
      rw [em]
      simp [resolve, hcal, invoke, builtin]
     rw [hrun]
     exact .inl (sim_mnmx hi ha (by simpa using l1) (fun j y hy => by simpa [Array.getD_eq_getD_getElem?, List.getD_eq_getElem?_getD] using r1 j y hy) hd)
    ·rename_i x xs
     simp only [Option.some.injEq] at ht
     subst ht
     have hrun : (do let d ← resolve a.eval c rt; invoke d.target d.args : Sem Next).run P w = ((do pure (Next.value (← (if true then Builtin.max_ c.argTypes rt (c.args.map a.eval).toList.toArray else Builtin.min_ c.argTypes rt (c.args.map a.eval).toList.toArray))) : Sem Next).run P w) := by
      have em : (c.args.map a.eval).toList.toArray = c.args.map a.eval := by cases (c.args.map a.eval); rfl
      rw [em]
      simp [resolve, hcal, invoke, builtin]
     rw [hrun]
     exact .inl (sim_mnmx hi ha (by simpa using l1) (fun j y hy => by simpa [Array.getD_eq_getD_getElem?, List.getD_eq_getElem?_getD] using r1 j y hy) hd)
    ·rename_i s x
     obtain ⟨o1, o2, t1, t2, e1, e2, ho1, ho2⟩ := two s x rfl
     rw [e2] at ht
     split at ht
     ·rename_i e e' hu1 hu2
      split at ht
      ·rename_i i hinf
       split at ht
       ·rename_i z hz
        split at ht
        ·rename_i hzs
         simp only [Option.some.injEq] at ht
         subst ht
         have hrun : (do let d ← resolve a.eval c rt; invoke d.target d.args : Sem Next).run P w = ((do pure (Next.value (← Builtin.append_ #[t1, t2] rt #[a.eval o1, a.eval o2])) : Sem Next).run P w) := by
          simp [resolve, hcal, invoke, builtin, e1, e2]
         rw [hrun]
         exact .inl (sim_app hi ha (by simpa using hu1) (by simpa using hu2) hinf hz hzs ho1 ho2 hd)
        ·cases ht
       ·cases ht
      ·cases ht
     ·rename_i e kx hu1 hu2
      split at ht
      ·rename_i i z hinf hz
       simp only [Option.some.injEq] at ht
       subst ht
       have hrun : (do let d ← resolve a.eval c rt; invoke d.target d.args : Sem Next).run P w = ((do pure (Next.value (← Builtin.append_ #[t1, t2] rt #[a.eval o1, a.eval o2])) : Sem Next).run P w) := by
        simp [resolve, hcal, invoke, builtin, e1, e2]
       rw [hrun]
       exact .inl (sim_vappn hi ha (by simpa using hu1) (by simpa using hu2) hinf hz ho1 ho2 hd)
      ·cases ht
     ·rename_i e hu1 hu2
      split at ht
      ·rename_i i hinf
       split at ht
       ·rename_i z hz
        split at ht
        ·rename_i hzs
         simp only [Option.some.injEq] at ht
         subst ht
         have hrun : (do let d ← resolve a.eval c rt; invoke d.target d.args : Sem Next).run P w = ((do pure (Next.value (← Builtin.append_ #[t1, t2] rt #[a.eval o1, a.eval o2])) : Sem Next).run P w) := by
          simp [resolve, hcal, invoke, builtin, e1, e2]
         rw [hrun]
         exact .inl (sim_apps hi ha (by simpa using hu1) (by simpa using hu2) hinf hz hzs.1 hzs.2 ho1 ho2 hd)
        ·cases ht
       ·cases ht
      ·cases ht
     ·cases ht
    ·cases ht
  ·cases ht
 ·cases ht
theorem idx_find {fn : Func} (h : fn.name = "internal/bytealg.IndexByteString") : Extern.find fn = some Extern.BytealgIndexByte.indexByte := by
 unfold Extern.find
 rw [h]
 rfl
theorem idx_next {fn : Func} (h : fn.name = "internal/bytealg.IndexByteString") (h2 : fn.origin = "") : Extern.findNext fn = none := by
 unfold Extern.findNext
 rw [h, h2]
 rfl
theorem sim_idxB (hi : Inv P G S ρ h w) (ha : RepA S ρ h w a.tmps ad) {c : Call} {rt : TypeId} {d : DOp} (hib : isIdxB P c = true) (ht : (match trCall P c with | some (.call _ [x, y]) => some (DOp.idxB x y) | _ => none) = some d) (hd : dop call d ad h = some out) :
  SimOut P G S ρ h w ((do let d ← resolve a.eval c rt; invoke d.target d.args : Sem Next).run P w) out := by
 split at ht
 ·rename_i f x y hcl
  simp only [Option.some.injEq] at ht
  subst ht
  unfold isIdxB at hib
  split at hib
  ·rename_i g hcal
   split at hib
   ·rename_i fn hfn
    simp only [Bool.and_eq_true, beq_iff_eq] at hib
    obtain ⟨⟨n1, n2⟩, n3⟩ := hib
    unfold trCall at hcl
    rw [hcal] at hcl
    simp only at hcl
    split at hcl
    ·rename_i f2 args hf hargs
     split at hcl
     ·rename_i hl
      simp only [Option.some.injEq, DOp.call.injEq] at hcl
      obtain ⟨rfl, rfl⟩ := hcl
      obtain ⟨l1, r1⟩ := rep_args ha hl hargs
      simp only [dop] at hd
      split at hd
      ·rename_i s n es en
       simp only [Option.some.injEq] at hd
       subst hd
       have a0 := r1 0 (ev ad x) rfl
       have a1 := r1 1 (ev ad y) rfl
       rw [es] at a0
       rw [en] at a1
       have b0 := repF_str (repD_d a0)
       have b1 := repF_int (repD_d a1)
       have hsz : (c.args.map a.eval) = #[.string s, .int .u8 n] := by
        generalize c.args.map a.eval = xs at *
        rcases xs with ⟨l⟩
        match l, l1 with
        | [p, q], _ =>
         simp at b0 b1
         rw [b0, b1]
       have hrun : ((do let d ← resolve a.eval c rt; invoke d.target d.args : Sem Next).run P w) = .ok (.value (.int .i64 (Lib.indexByte s.data.toList n.toNat.toUInt8))) w := by
        have hev : a.eval (.func g) = .func (.func g) #[] #[] := rfl
        simp only [resolve, hcal, Deferred.ofValue, hev, Sem.run_bind, Sem.run_pure, Result.andThen_ok, invoke]
        have := run_callFunc_extern hfn (by rw [n1]; decide) n3 (idx_next n1 n2) (idx_find n1) #[.string s, .int .u8 n] w
        rw [Lib.run_indexByteString] at this
        simpa [hsz, Result.andThen] using this
       rw [hrun]
       exact ⟨_, _, S, ρ, .inl rfl, .d _ _ (.int _ _), Ext.refl S ρ h w, hi⟩
      ·cases hd
     ·cases hcl
    ·cases hcl
   ·cases hib
  ·cases hib
 ·cases ht
theorem sim_calln (hi : Inv P G S ρ h w) (ha : RepA S ρ h w a.tmps ad) (hc : CallsOk P call) {c : Call} {rt : TypeId} {d : DOp} (ht : trCallN P c = some d) (hd : dop call d ad h = some out) :
  OpOk P G call S ρ h w ((do let d ← resolve a.eval c rt; invoke d.target d.args : Sem Next).run P w) out := by
 unfold trCallN at ht
 split at ht
 ·rename_i hib
  exact .inl (sim_idxB hi ha hib ht hd)
 split at ht
 ·rename_i sz f x' rest hn hcl
  simp only [Option.some.injEq] at ht
  subst ht
  unfold nilFirst at hn
  split at hn
  ·rename_i g0 x xs e hcal hx he
   split at hn
   ·rename_i hnil
    simp only [Option.some.injEq] at hn
    subst hn
    unfold trCall at hcl
    rw [hcal] at hcl
    simp only at hcl
    split at hcl
    ·rename_i f2 args hf hargs
     split at hcl
     ·rename_i hl
      simp only [Option.some.injEq, DOp.call.injEq] at hcl
      obtain ⟨rfl, rfl⟩ := hcl
      obtain ⟨l1, r1⟩ := rep_args ha hl hargs
      have g1 := rep_opd ha hf
      simp only [dop] at hd
      split at hd
      ·rename_i g ef
       obtain ⟨fn, f1, f2, f3⟩ := hc _ _ _ _ hd
       rw [ef] at g1
       have gg := repD_d g1
       generalize hv : a.eval (.func g0) = vf at *
       cases gg with
       | func _ p' q' fp fq hp hq h1 h2 =>
        have hp0 : p' = #[] := Array.eq_empty_of_size_eq_zero (by simpa using hp)
        have hq0 : q' = #[] := Array.eq_empty_of_size_eq_zero (by simpa using hq)
        subst hp0 hq0
        have E := ext_rows hi 1
        have I := inv_rows hi 1
        refine .inr (.inl ⟨_, _, E, I, g, #[] ++ c.args.map a.eval ++ #[], _, ?_, ?_, ?_, hd⟩)
        ·simp only [resolve, hcal, Deferred.ofValue, hv, Sem.run_bind, Sem.run_pure, Result.andThen_ok, invoke]
         exact run_callFunc f1 f2 f3
        ·simp at l1 ⊢; omega
        ·intro j y hy
         have hx0 : a.eval x = .slice none 0 0 := by
          unfold isNilSlice at hnil
          split at hnil
          ·rfl
          ·cases hnil
         cases j with
         | zero =>
          simp at hy
          subst hy
          have h0 : (#[] ++ c.args.map a.eval ++ #[]).getD 0 undef = .slice none 0 0 := by
           have : c.args[0]? = some x := by
            rw [← Array.getElem?_toList, hx]
            rfl
           simp [Array.getD_eq_getD_getElem?, this, hx0]
          rw [h0]
          refine .row _ _ [] h.length (.slice0 none 0 _) (by simp) fun n hn => ?_
          simp [Res.tip] at hn
          subst hn
          refine ⟨Nat.le_refl _, fun _ => ?_⟩
          rw [← hi.len]
          simp
         | succ j =>
          have := r1 (j + 1) y (by simpa using hy)
          simp only [Array.empty_append, Array.append_empty]
          exact this.mono E
      ·cases hd
     ·cases hcl
    ·cases hcl
   ·cases hn
  ·cases hn
 ·exact sim_call hi ha hc ht hd
theorem trCall_value {c : Call} {f' : Opd} {args : List Opd} (ht : trCall P c = some (.call f' args)) : ∃ f, c.callee = .value f ∧ trOpd P 0 f = some f' ∧ (c.args.toList.zip c.argTypes.toList).mapM (fun p => trOpd P p.2 p.1) = some args ∧ c.args.size = c.argTypes.size := by
 unfold trCall at ht
 split at ht
 ·rename_i f hcal
  split at ht
  ·rename_i f' args hf hargs
   split at ht
   ·rename_i hl
    simp only [Option.some.injEq, DOp.call.injEq] at ht
    obtain ⟨rfl, rfl⟩ := ht
    exact ⟨f, hcal, hf, hargs, hl⟩
   ·cases ht
  ·cases ht
 ·exfalso
  repeat' split at ht
  all_goals first
   | (cases ht; done)
   | (simp at ht; done)
 ·cases ht
theorem sim_calld (hi : Inv P G S ρ h w) (ha : RepA S ρ h w a.tmps ad) (hc : CallsOk P call) {c : Call} {rt : TypeId} {f' : Opd} {args : List Opd} (ht : trCallN P c = some (.call f' args)) (hd : dop call (.calld f' args) ad h = some out) :
  OpOk P G call S ρ h w ((do let d ← resolve a.eval c rt; invoke d.target d.args : Sem Next).run P w) out := by
 have ht : trCall P c = some (.call f' args) := by
  unfold trCallN at ht
  split at ht
  ·split at ht <;> simp at ht
  ·split at ht
   ·simp at ht
   ·exact ht
 obtain ⟨f, hcal, hf, hargs, hl⟩ := trCall_value ht
 obtain ⟨l1, r1⟩ := rep_args ha hl hargs
 have g1 := rep_opd ha hf
 simp only [dop] at hd
 split at hd
 ·rename_i g e
  split at hd
  ·rename_i hall
   split at hd
   ·rename_i v hcl
    simp only [Option.some.injEq] at hd
    subst hd
    obtain ⟨fn, f1, f2, f3⟩ := hc _ _ _ _ hcl
    rw [e] at g1
    have gg := repD_d g1
    generalize hv : a.eval f = vf at *
    cases gg with
    | func _ p' q' fp fq hp hq h1 h2 =>
     have ep : p' = #[] := by simpa using hp
     have eq : q' = #[] := by simpa using hq
     subst ep
     subst eq
     refine .inr (.inr (.inr ⟨g, c.args.map a.eval, args.map (ev ad), v, ?_, l1, fun j x hx => ?_, hcl, rfl⟩))
     ·simp only [resolve, hcal, Deferred.ofValue, hv, Sem.run_bind, Sem.run_pure, Result.andThen_ok, invoke, Array.empty_append, Array.append_empty]
      exact run_callFunc f1 f2 f3
     ·have hx' := r1 j x hx
      have hd1 := List.all_eq_true.1 hall x (List.mem_of_getElem? hx)
      cases x <;> simp [DV.isD] at hd1
      exact .d _ _ (repD_d hx')
   ·cases hd
  ·cases hd
 ·cases hd
theorem trCall_app {c : Call} {et sz bytes : Nat} {s x : Opd} (ht : trCallN P c = some (.app false et sz bytes s x)) : ∃ o1 o2 t1 t2 e e' i z, c.callee = .builtin .append ∧ c.args = #[o1, o2] ∧ c.argTypes = #[t1, t2] ∧ trOpd P t1 o1 = some s ∧ trOpd P t2 o2 = some x ∧
  P.underlying t1 = some (.slice e) ∧ P.underlying t2 = some (.slice e') ∧ P.info? e = some i ∧ i.zero = some z ∧ z.cells.size = i.size ∧ et = tagE P e ∧ sz = i.size ∧ bytes = i.bytes := by
 have ht : trCall P c = some (.app false et sz bytes s x) := by
  unfold trCallN at ht
  split at ht
  ·split at ht <;> simp at ht
  ·split at ht
   ·simp at ht
   ·exact ht
 unfold trCall at ht
 split at ht
 ·split at ht
  ·split at ht <;> simp at ht
  ·cases ht
 ·rename_i b hcal
  split at ht
  ·rename_i args hargs
   split at ht
   ·cases ht
   ·rename_i hl
    have hl : c.args.size = c.argTypes.size := by simpa using hl
    obtain ⟨m1, m2⟩ := mapM_some hargs
    have two : ∀ s x, args = [s, x] → ∃ o1 o2 t1 t2, c.args = #[o1, o2] ∧ c.argTypes = #[t1, t2] ∧ trOpd P t1 o1 = some s ∧ trOpd P t2 o2 = some x := by
     rintro s x rfl
     have hz : c.args.size = 2 := by simp at m1; omega
     have hz2 : c.argTypes.size = 2 := by omega
     obtain ⟨o1, o2, ho⟩ : ∃ o1 o2, c.args = #[o1, o2] := ⟨c.args[0], c.args[1], by apply Array.ext <;> simp [hz]; intro i hi; rcases i with _ | _ | i <;> simp; omega⟩
     obtain ⟨t1, t2, htt⟩ : ∃ o1 o2, c.argTypes = #[o1, o2] := ⟨c.argTypes[0], c.argTypes[1], by apply Array.ext <;> simp [hz2]; intro i hi; rcases i with _ | _ | i <;> simp; omega⟩
     refine ⟨o1, o2, t1, t2, ho, htt, ?_, ?_⟩
     ·obtain ⟨p, hp, hfp⟩ := m2 0 s rfl
      rw [ho, htt] at hp
      simp at hp
      subst hp
      exact hfp
     ·obtain ⟨p, hp, hfp⟩ := m2 1 x rfl
      rw [ho, htt] at hp
      simp at hp
      subst hp
      exact hfp
    split at ht
    ·split at ht <;> simp at ht
    ·split at ht <;> simp at ht
    ·simp at ht
    ·split at ht
     ·split at ht
      ·split at ht <;> simp at ht
      ·cases ht
     ·cases ht
    ·simp at ht
    ·simp at ht
    ·rename_i s' x'
     obtain ⟨o1, o2, t1, t2, e1, e2, ho1, ho2⟩ := two s' x' rfl
     rw [e2] at ht
     split at ht
     ·rename_i e e' hu1 hu2
      split at ht
      ·rename_i i hinf
       split at ht
       ·rename_i z hz
        split at ht
        ·rename_i hzs
         simp only [Option.some.injEq, DOp.app.injEq] at ht
         obtain ⟨_, rfl, rfl, rfl, rfl, rfl⟩ := ht
         exact ⟨o1, o2, t1, t2, e, e', i, z, hcal, e1, e2, ho1, ho2, by simpa using hu1, by simpa using hu2, hinf, hz, hzs, rfl, rfl, rfl⟩
        ·cases ht
       ·cases ht
      ·cases ht
     ·split at ht <;> simp at ht
     ·split at ht
      ·split at ht
       ·split at ht <;> simp at ht
       ·cases ht
      ·cases ht
     ·cases ht
    ·cases ht
  ·cases ht
 ·cases ht
theorem sim_vecCall (hi : Inv P G S ρ h w) (ha : RepA S ρ h w a.tmps ad) (hc : CallsOk P call) {c : Call} {rt : TypeId} {b : Bool} {d : DOp} (ht : vecCall b (trCallN P c) = some d) (hd : dop call d ad h = some out) :
  OpOk P G call S ρ h w ((do let d ← resolve a.eval c rt; invoke d.target d.args : Sem Next).run P w) out := by
 unfold vecCall at ht
 split at ht
 ·split at ht
  ·rename_i et sz bytes s x hcn
   simp only [Option.some.injEq] at ht
   subst ht
   obtain ⟨o1, o2, t1, t2, e, e', i, z, hcal, e1, e2, ho1, ho2, hu1, hu2, hinf, hz, hzs, rfl, rfl, rfl⟩ := trCall_app hcn
   have hrun : (do let d ← resolve a.eval c rt; invoke d.target d.args : Sem Next).run P w = ((do pure (Next.value (← Builtin.append_ #[t1, t2] rt #[a.eval o1, a.eval o2])) : Sem Next).run P w) := by
    simp [resolve, hcal, invoke, builtin, e1, e2]
   rw [hrun]
   exact .inl (sim_vapp hi ha hu1 hu2 hinf hz hzs ho1 ho2 hd)
  ·exact sim_calln hi ha hc ht hd
 ·exact sim_calln hi ha hc ht hd
theorem sim_op (hi : Inv P G S ρ h w) (ha : RepA S ρ h w a.tmps ad) (hc : CallsOk P call) {o : Oper} {imm : Nat → Bool} {d : DOp} (ht : trOp P imm o = some d) (hd : dop call d ad h = some out) : OpOk P G call S ρ h w ((execOp a.eval o).run P w) out := by
 obtain ⟨dst, op, type, pos, after, guard⟩ := o
 have mvc : ∀ x, trMove P imm ⟨dst, op, type, pos, after, guard⟩ x = some d → SimOut P G S ρ h w (.ok (.value (a.eval x)) w) out := fun x hx => by
  unfold trMove at hx
  split at hx
  ·rename_i hn
   have this : a.eval x = .slice none 0 0 := by
    unfold isNilSlice at hn
    split at hn
    ·rfl
    ·cases hn
   split at hx
   ·split at hx
    ·simp only [Option.some.injEq] at hx
     subst hx
     rw [this]
     refine sim_mv hi ?_ hd
     exact .d _ _ (.slice0 none 0 _)
    ·simp only [Option.some.injEq] at hx
     subst hx
     rw [this]
     exact sim_nilrow hi hd
   ·cases hx
  ·simp only [Option.map_eq_some_iff] at hx
   obtain ⟨y, hy, rfl⟩ := hx
   exact sim_mv hi (rep_opd ha hy) hd
 cases op <;> simp only [trOp] at ht <;> first | (cases ht; done) | skip
 case move x =>
  split at ht
  ·simp only [Option.map_eq_some_iff] at ht
   obtain ⟨y, hy, rfl⟩ := ht
   exact .inl (sim_frz hi (rep_opd ha hy) hd)
  ·exact .inl (mvc x ht)
 case assign x =>
  split at ht
  ·simp only [Option.map_eq_some_iff] at ht
   obtain ⟨y, hy, rfl⟩ := ht
   exact .inl (sim_frz hi (rep_opd ha hy) hd)
  ·exact .inl (mvc x ht)
 case makeSlice t n c =>
  split at ht
  ·rename_i e hu
   split at ht
   ·rename_i i z n' c' h1 h2 h3 h4
    simp only [Option.some.injEq] at ht
    subst ht
    exact .inl (sim_vmake hi ha hu h1 h2 h3 h4 hd)
   ·cases ht
  ·cases ht
 case makeMap t hint =>
  cases hint with
  | some _ => cases ht
  | none =>
   simp only at ht
   split at ht
   ·simp only [Option.some.injEq] at ht
    subst ht
    exact .inl (sim_mkmap hi hd)
   ·cases ht
 case lookup t x i comma =>
  split at ht
  ·rename_i k e hu
   split at ht
   ·rename_i zf x' i' kz h1 h2 h3 h4
    simp only [Option.some.injEq] at ht
    subst ht
    simp only [Option.bind_eq_some_iff] at h1
    obtain ⟨info, hinf, zv, hz, hzf⟩ := h1
    exact .inl (sim_mlook hi ha hu hinf hz hzf h4 h2 h3 hd)
   ·cases ht
  ·cases ht
 case mapUpdate t m k v =>
  split at ht
  ·rename_i kt e hu
   split at ht
   ·rename_i m' k' v' kz h1 h2 h3 h4
    simp only [Option.some.injEq] at ht
    subst ht
    exact .inl (sim_mupd hi ha hu h4 h1 h2 h3 hd)
   ·cases ht
  ·cases ht
 case pick c x y =>
  split at ht
  ·rename_i c' x' y' h1 h2 h3
   simp only [Option.some.injEq] at ht
   subst ht
   exact .inl (sim_pick hi ha h1 h2 h3 hd)
  ·cases ht
 case alloc t =>
  simp only [Option.map_eq_some_iff] at ht
  obtain ⟨z, hz, rfl⟩ := ht
  exact .inl (sim_alloc hi hz hd)
 case box t x =>
  split at ht
  ·simp only [Option.map_eq_some_iff] at ht
   obtain ⟨y, hy, rfl⟩ := ht
   exact .inl (sim_boxn hi ha hy hd)
  ·simp only [Option.map_eq_some_iff] at ht
   obtain ⟨y, hy, rfl⟩ := ht
   exact .inl (sim_box hi ha hy hd)
 case load t x =>
  split at ht
  ·rename_i n y hn hy
   simp only [Option.some.injEq] at ht
   subst ht
   have key : ∀ b : Bool, dop call (if b = true then .loadk n y else .load n y) ad h = some out → SimOut P G S ρ h w ((do pure (Next.value (← Instr.loadAt t (a.eval x))) : Sem Next).run P w) out := fun b hb => by
    cases b with
    | true => exact sim_loadk hi ha hn hy hb
    | false => exact sim_load hi ha hn hy hb
   exact .inl (key _ hd)
  ·cases ht
 case store t x v =>
  split at ht
  ·rename_i i x' v' h1 h2 h3
   simp only [Option.some.injEq] at ht
   subst ht
   split at hd
   ·exact .inl (sim_storen hi ha h1 h2 h3 hd)
   ·exact .inl (sim_store hi ha h1 h2 h3 hd)
  ·cases ht
 case binOp op xt x y yt => exact .inl (sim_bin hi ha ht hd)
 case unOp op t x =>
  simp only [Option.map_eq_some_iff] at ht
  obtain ⟨y, hy, rfl⟩ := ht
  exact .inl (sim_un hi ha hy hd)
 case convert src dst x =>
  split at ht
  ·rename_i u k y h1 h2 h3
   simp only [Option.some.injEq] at ht
   subst ht
   exact .inl (sim_cvt hi ha h1 h2 h3 hd)
  ·rename_i e y h1 h2 h3
   split at ht
   ·rename_i he
    simp only [Option.some.injEq] at ht
    subst ht
    exact .inl (sim_bstr hi ha h1 h2 he h3 hd)
   ·cases ht
  ·rename_i k y h1 h2 h3
   simp only [Option.some.injEq] at ht
   subst ht
   exact .inl (sim_rstr hi ha h1 h2 h3 hd)
  ·rename_i e0 e y h1 h2 h3
   split at ht
   ·rename_i hsd
    subst hsd
    split at ht
    ·rename_i he
     simp only [Option.some.injEq] at ht
     subst ht
     exact .inl (sim_mark hi ha h2 he h3 hd)
    ·cases ht
   ·cases ht
  ·rename_i e y h1 h2 h3
   split at ht
   ·rename_i i he hinf
    split at ht
    ·simp only [Option.some.injEq] at ht
     subst ht
     exact .inl (sim_sbytes hi ha h1 h2 he h3 hd)
    ·cases ht
   ·cases ht
  ·cases ht
 case range t x =>
  split at ht
  ·rename_i y h1 h2
   simp only [Option.some.injEq] at ht
   subst ht
   exact .inl (sim_rng hi ha h1 h2 hd)
  ·cases ht
 case next x b =>
  cases b with
  | false => cases ht
  | true =>
   simp only [Option.map_eq_some_iff] at ht
   obtain ⟨y, hy, rfl⟩ := ht
   exact .inl (sim_next hi ha hy hd)
 case typeAssert x t1 t comma =>
  split at ht
  ·cases ht
  ·rename_i u zf y hni hu hz hy
   simp only [Option.some.injEq] at ht
   subst ht
   exact .inl (sim_tass hi ha hu (fun m hm => hni m (by rw [hm])) hz hy hd)
  ·cases ht
 case fieldAddr s x f =>
  split at ht
  ·rename_i fields hu
   split at ht
   ·rename_i fl hf
    split at ht
    ·rename_i i y h1 h2
     split at ht
     ·cases ht
     ·rename_i h0
      simp only [Option.some.injEq] at ht
      subst ht
      exact .inl (sim_addOff hi ha hu hf h1 h0 h2 hd)
    ·cases ht
   ·cases ht
  ·cases ht
 case field s x f =>
  split at ht
  ·rename_i fields hu
   split at ht
   ·rename_i fl hf
    split at ht
    ·rename_i n y h1 h2
     simp only [Option.some.injEq] at ht
     subst ht
     exact .inl (sim_fld hi ha hu hf h1 h2 hd)
    ·cases ht
   ·cases ht
  ·cases ht
 case indexAddr t x i =>
  unfold trIdxAddr at ht
  split at ht
  ·rename_i e hu
   split at ht
   ·rename_i info x' i' h1 h2 h3
    simp only [Option.some.injEq] at ht
    subst ht
    exact .inl (sim_idxAddr hi ha hu h1 h2 h3 hd)
   ·cases ht
  ·rename_i n e hu
   split at ht
   ·rename_i info x' i' h1 h2 h3
    simp only [Option.some.injEq] at ht
    subst ht
    exact .inl (sim_idxArr hi ha hu h1 h2 h3 hd)
   ·cases ht
  ·cases ht
 case index t x i =>
  split at ht
  ·rename_i x' i' h1 h2 h3
   simp only [Option.some.injEq] at ht
   subst ht
   exact .inl (sim_idxStr hi ha h1 h2 h3 hd)
  ·rename_i n e x' i' h1 h2 h3
   split at ht
   ·rename_i info m h4 h5
    simp only [Option.some.injEq] at ht
    subst ht
    exact .inl (sim_idxVal hi ha h1 h4 h5 h2 h3 hd)
   ·cases ht
  ·cases ht
 case slice t x lo hi' mx =>
  unfold trSlice at ht
  split at ht
  ·split at ht
   ·split at ht
    ·rename_i x' lo' hx' mx' h1 h2 h3 h4
     split at ht
     ·rename_i e hu
      split at ht
      ·rename_i i hinf
       simp only [Option.some.injEq] at ht
       subst ht
       exact .inl (sim_slc3 hi ha hu hinf h1 h2 h3 h4 hd)
      ·cases ht
     ·cases ht
    ·cases ht
   ·cases ht
  ·split at ht
   ·rename_i x' lo' hi'' h1 h2 h3
    split at ht
    ·rename_i hu
     simp only [Option.some.injEq] at ht
     subst ht
     exact .inl (sim_slcStr hi ha hu h1 h2 h3 hd)
    ·rename_i e hu
     split at ht
     ·rename_i i hinf
      simp only [Option.some.injEq] at ht
      subst ht
      have key : ∀ b : Bool, dop call (if b = true then .slcn i.size x' lo' hi'' else .slc i.size x' lo' hi'') ad h = some out → SimOut P G S ρ h w ((do pure (Next.value (← Instr.sliceAt t (a.eval x) (lo.map a.eval) (hi'.map a.eval) none)) : Sem Next).run P w) out := fun b hb => by
       cases b with
       | true => exact sim_slcn hi ha hu hinf h1 h2 h3 hb
       | false => exact sim_slc hi ha hu hinf h1 h2 h3 hb
      exact .inl (key _ hd)
     ·cases ht
    ·rename_i n e hu
     split at ht
     ·rename_i i hinf
      simp only [Option.some.injEq] at ht
      subst ht
      exact .inl (sim_slcA hi ha hu hinf h1 h2 h3 hd)
     ·cases ht
    ·cases ht
   ·cases ht
 case extract x i =>
  simp only [Option.map_eq_some_iff] at ht
  obtain ⟨y, hy, rfl⟩ := ht
  exact .inl (sim_ext hi ha hy hd)
 case buildSlice t len parts =>
  split at ht
  ·rename_i e hu
   split at ht
   ·rename_i i z ps h1 h2 h3
    simp only [Option.some.injEq] at ht
    subst ht
    split at hd
    ·exact .inl (sim_vlit hi ha hu h1 h2 h3 hd)
    ·exact .inl (sim_lit hi ha hu h1 h2 h3 hd)
   ·cases ht
  ·cases ht
 case build t parts =>
  split at ht
  ·rename_i fields hu
   split at ht
   ·rename_i places hpl
    split at ht
    ·rename_i z ps h1 h2
     simp only [Option.some.injEq] at ht
     subst ht
     exact .inl (sim_build hi ha hu hpl h1 h2 hd)
    ·cases ht
   ·cases ht
  ·rename_i n e hu
   split at ht
   ·rename_i info hinf
    split at ht
    ·rename_i z ps h1 h2
     simp only [Option.some.injEq] at ht
     subst ht
     exact .inl (sim_buildA hi ha hu hinf h1 h2 hd)
    ·cases ht
   ·cases ht
  ·cases ht
 case call c =>
  have sp : ∀ {b : Bool}, (if b = true then dataCall (trCallN P c) else vecCall (vecM imm ⟨dst, .call c, type, pos, after, guard⟩) (trCallN P c)) = some d → OpOk P G call S ρ h w ((execOp a.eval ⟨dst, .call c, type, pos, after, guard⟩).run P w) out := fun {b} ht => by
   cases b with
   | false => exact sim_vecCall hi ha hc ht hd
   | true =>
    simp only [if_true] at ht
    unfold dataCall at ht
    split at ht
    ·rename_i f args hcn
     simp only [Option.some.injEq] at ht
     subst ht
     exact sim_calld hi ha hc hcn hd
    ·exact sim_calln hi ha hc ht hd
  exact sp ht
 case makeFunc fn p q =>
  split at ht
  ·rename_i p' q' h1 h2
   simp only [Option.some.injEq] at ht
   subst ht
   exact .inl (sim_mkf hi ha h1 h2 hd)
  ·cases ht
 case nilCheck x =>
  simp only [Option.map_eq_some_iff] at ht
  obtain ⟨y, hy, rfl⟩ := ht
  exact .inl (sim_nilchk hi ha rfl hy hd)
 case makeInterface t x =>
  split at ht
  ·cases ht
  ·rename_i u y hni hu hy
   simp only [Option.some.injEq] at ht
   subst ht
   exact .inl (sim_mki hi ha hu (fun m hm => hni m (by rw [hm])) hy hd)
  ·cases ht
 case panic x =>
  simp only [Option.map_eq_some_iff] at ht
  obtain ⟨y, hy, rfl⟩ := ht
  exact .inl (sim_panic hi ha hy hd)
end
end Go.Deepv
namespace Go.Deepv
open Go.RowKit
section
variable {P : Program} {G : Glob} {S S' : Settled} {ρ ρ' : List RI} {h h' : List Res} {w w' : World} {a : Act} {ad : List DV} {call : Cle → List DV → List Res → Option DOut} {out : DOut}
theorem RepA.take {n : Nat} {a : Array Value} (ha : RepA S ρ h w a ad) (hl : DV.lows n ad = true) : RepA S (ρ.take n) (h.take n) w a ad :=
 ⟨ha.len, fun j x hx => (ha.at_ j x hx).take (DV.lows_at hl hx)⟩
theorem mask_spec : ∀ (m : List Bool) (ad : List DV), (mask m ad).length = ad.length ∧ ∀ (j : Nat) (x : DV), (mask m ad)[j]? = some x → x = .d .undef ∨ ad[j]? = some x
 | _, [] => by
  cases ‹List Bool› with
  | nil => exact ⟨rfl, fun j x h => by simp [mask] at h⟩
  | cons b m => cases b <;> exact ⟨rfl, fun j x h => by simp [mask] at h⟩
 | [], y :: ys => by
  obtain ⟨h1, h2⟩ := mask_spec [] ys
  simp only [mask]
  refine ⟨by simp [h1], fun j x hx => ?_⟩
  cases j with
  | zero => simp at hx; exact .inl hx.symm
  | succ j => simpa using h2 j x (by simpa using hx)
 | true :: m, y :: ys => by
  obtain ⟨h1, h2⟩ := mask_spec m ys
  simp only [mask]
  refine ⟨by simp [h1], fun j x hx => ?_⟩
  cases j with
  | zero => simp at hx; exact .inr (by simp [hx])
  | succ j => simpa using h2 j x (by simpa using hx)
 | false :: m, y :: ys => by
  obtain ⟨h1, h2⟩ := mask_spec m ys
  simp only [mask]
  refine ⟨by simp [h1], fun j x hx => ?_⟩
  cases j with
  | zero => simp at hx; exact .inl hx.symm
  | succ j => simpa using h2 j x (by simpa using hx)
theorem RepA.mask {a : Array Value} (ha : RepA S ρ h w a ad) (m : List Bool) : RepA S ρ h w a (mask m ad) := by
 obtain ⟨h1, h2⟩ := mask_spec m ad
 refine ⟨by rw [ha.len, h1], fun j x hx => ?_⟩
 rcases h2 j x hx with rfl | hx'
 ·exact .d _ _ (.undef _)
 ·exact ha.at_ j x hx'
theorem RepA.put (ha : RepA S ρ h w a.tmps ad) {v : Value} {x : DV} (hx : RepD S ρ h w v x) (dst : Option Nat) : RepA S ρ h w (a.put dst v).tmps (put ad dst x) := by
 cases dst with
 | none => exact ha
 | some d =>
  refine ⟨by simp [Act.put, Deepv.put, ha.len], fun j y hy => ?_⟩
  simp only [Deepv.put] at hy
  simp only [Act.put]
  by_cases e : j = d
  ·subst e
   have hl : j < ad.length := by have := (List.getElem?_eq_some_iff.1 hy).1; simpa using this
   rw [List.getElem?_set_self hl] at hy
   simp at hy
   subst hy
   have hl' : j < a.tmps.size := by rw [ha.len]; exact hl
   simpa [Array.getD_eq_getD_getElem?, hl'] using hx
  ·rw [List.getElem?_set_ne (Ne.symm e)] at hy
   have := ha.at_ j y hy
   simp only [Array.getD_eq_getD_getElem?] at this ⊢
   rw [Array.getElem?_setIfInBounds_ne (Ne.symm e)]
   exact this
theorem put_defers (a : Act) (dst : Option Nat) (v : Value) : (a.put dst v).defers = a.defers := by cases dst <;> rfl
def mark (D : Nat) : Deferred := { target := .collected D, args := #[] }
abbrev Base := Nat × List Deferred × Bool
def Marked (N0 : Base) (ρ : List RI) (w : World) (ds : List Deferred) : Prop :=
 N0.1 ≤ w.heap.size ∧ ∃ l : List Nat, ds = l.map mark ++ N0.2.1 ∧ (N0.2.2 = true → l = []) ∧ l.Nodup ∧ ∀ D ∈ l, N0.1 ≤ D ∧ w.heap[D]? = some (.deferred (some [])) ∧ ∀ (i : Nat) (r : RI), ρ[i]? = some r → r.block ≠ some D
theorem Marked.nil {N0 : Base} (h : N0.1 ≤ w.heap.size) : Marked N0 ρ w N0.2.1 := ⟨h, [], rfl, fun _ => rfl, List.nodup_nil, fun D hD => by cases hD⟩
theorem Marked.mono {N0 : Base} {ds : List Deferred} (E : Ext S ρ h w S' ρ' h' w') (m : Marked N0 ρ w ds) : Marked N0 ρ' w' ds := by
 obtain ⟨h0, l, e, hst, hn, hl⟩ := m
 refine ⟨Nat.le_trans h0 E.size, l, e, hst, hn, fun D hD => ?_⟩
 obtain ⟨h1, h2, h3⟩ := hl D hD
 have hlt : D < w.heap.size := (Array.getElem?_eq_some_iff.1 h2).1
 refine ⟨h1, by rw [E.frame D hlt h3]; exact h2, fun i r hr hb => ?_⟩
 rcases E.blocks i D r hr hb with h4 | ⟨j, r0, hj, hb0, _⟩
 ·omega
 ·exact h3 j r0 hj hb0
theorem Marked.take {N0 : Base} {ds : List Deferred} (m : Marked N0 ρ w ds) (n : Nat) : Marked N0 (ρ.take n) w ds := by
 obtain ⟨h0, l, e, hst, hn, hl⟩ := m
 exact ⟨h0, l, e, hst, hn, fun D hD => ⟨(hl D hD).1, (hl D hD).2.1, fun i r hr => (hl D hD).2.2 i r (take_some hr).2⟩⟩
def ExitOk (S : Settled) (ρ : List RI) (h : List Res) (w : World) : DExit → Exit → Prop
 | .normal, .normal => True
 | .exit i, .exit j => i = j ∧ i < 1000000
 | .exit i, .goto l => i = gid l ∧ l < 1000000
 | .ret, .ret => True
 | .pan v, .panic ch => ∃ x, ch = [{ v := x, recovered := false }] ∧ RepD S ρ h w x v
 | _, _ => False
def Post (P : Program) (G : Glob) (N0 : Base) (S : Settled) (ρ : List RI) (h : List Res) (w : World) (e : DExit) (ad' : List DV) (h' : List Res) (e' : Exit) (a' : Act) (w' : World) : Prop :=
 ∃ S' ρ', RepA S' ρ' h' w' a'.tmps ad' ∧ Ext S ρ h w S' ρ' h' w' ∧ Inv P G S' ρ' h' w' ∧ Marked N0 ρ' w' a'.defers ∧ ExitOk S' ρ' h' w' e e'
def CallPost (P : Program) (G : Glob) (S : Settled) (ρ : List RI) (h : List Res) (w : World) : DOut → Ending → World → Prop
 | .val v h', e, w' => ∃ x S' ρ', e = .returned x ∧ RepD S' ρ' h' w' x v ∧ Ext S ρ h w S' ρ' h' w' ∧ Inv P G S' ρ' h' w'
 | .pan v h', e, w' => ∃ x S' ρ', e = .panicked [{ v := x, recovered := false }] ∧ RepD S' ρ' h' w' x v ∧ Ext S ρ h w S' ρ' h' w' ∧ Inv P G S' ρ' h' w'
structure Wide (F : Fence) : Prop where
 fn : ∀ f, F.fn f
 calls : ∀ {n : Nat} {P : Program} {f : FuncId} {args : Array Value} {w : World} {R : Ending → World → Prop}, Calls P f args w R → CallsIn F n P f args w R
 depth : F.depth = none
theorem Wide.inRound {F : Fence} (h : Wide F) (l : Nat) : Wide (F.inRound l) := ⟨fun f => h.fn f, fun {n P f args w R} hc => h.calls hc, h.depth⟩
theorem wide_wide : Wide Fence.wide := ⟨fun _ => trivial, fun h => callsIn_wide.2 h, rfl⟩
structure CallS (P : Program) (G : Glob) (call : Cle → List DV → List Res → Option DOut) : Prop where
 fn : ∀ (g : FuncId) (args : Array Value) (dargs : List DV) (S : Settled) (ρ : List RI) (h : List Res) (w : World) (out : DOut), Inv P G S ρ h w → args.size = dargs.length → (∀ (j : Nat) (x : DV), dargs[j]? = some x → RepD S ρ h w (args.getD j undef) x) →
  call (.fn g) dargs h = some out → Calls P g args w (CallPost P G S ρ h w out)
 yld : ∀ (id l : Nat) (args : Array Value) (dargs : List DV) (S : Settled) (ρ : List RI) (h : List Res) (w : World) (out : DOut), Inv P G S ρ h w → ρ[id]? = some (.box l) → args.size = dargs.length → (∀ (j : Nat) (x : DV), dargs[j]? = some x → RepD S ρ h w (args.getD j undef) x) →
  call (.yld id) dargs h = some out → ∃ f tmps as_ bd, (Instr.yield l args).run P w = .ok (.round l f tmps as_ bd) w ∧ ∀ F : Fence, Wide F → RoundIn F 0 P l f tmps as_ bd w (CallPost P G S ρ h w out)
theorem wants_ok (ha : RepA S ρ h w a.tmps ad) {ops : Array Oper} {o : Oper} {g : Option (Nat × Bool)} (ht : trGuard ops o.guard = some g) {b : Bool} (hw : wants ad g = some b) : Region.wanted o (yielded ops a.tmps) = b := by
 unfold trGuard at ht
 split at ht
 ·rename_i hg
  simp only [Option.some.injEq] at ht
  subst ht
  simp only [wants, Option.some.injEq] at hw
  subst hw
  simp [Region.wanted, hg]
 ·rename_i j want hg
  split at ht
  ·rename_i t hd
   simp only [Option.some.injEq] at ht
   subst ht
   have look : ∀ x, ad[t]? = some x → a.tmps[t]? = some (a.tmps.getD t undef) ∧ RepD S ρ h w (a.tmps.getD t undef) x := fun x hx => by
    have hl : t < a.tmps.size := by rw [ha.len]; exact (List.getElem?_eq_some_iff.1 hx).1
    exact ⟨by simp [Array.getD_eq_getD_getElem?, hl], ha.at_ t x hx⟩
   simp only [wants] at hw
   split at hw
   ·rename_i c hx
    obtain ⟨l1, l2⟩ := look _ hx
    rw [repF_bool (repD_d l2)] at l1
    simp only [Option.some.injEq] at hw
    subst hw
    simp [Region.wanted, hg, yielded, hd, l1]
   ·rename_i hx
    obtain ⟨l1, l2⟩ := look _ hx
    have := repD_d l2
    simp only [Option.some.injEq] at hw
    subst hw
    generalize a.tmps.getD t undef = q at *
    cases this with
    | tup cs fs hl hh => simp [Region.wanted, hg, yielded, hd, l1]
   ·cases hw
  ·cases ht
theorem ops_sim {F : Fence} (hF : Wide F) (hc : CallsOk P call) (hS : CallS P G call) {imm : Nat → Bool} {ops : Array Oper} : ∀ (l : List Oper) (dl : List DOper), l.mapM (trOper P imm ops) = some dl →
  ∀ (a : Act) (ad : List DV) (S : Settled) (ρ : List RI) (h : List Res) (w : World) (e : DExit) (ad' : List DV) (h' : List Res) (N0 : Base) (Q : Exit → Act → World → Prop), Inv P G S ρ h w → RepA S ρ h w a.tmps ad → Marked N0 ρ w a.defers →
   dops call dl ad h = some (e, ad', h') → (∀ e' a' w', Post P G N0 S ρ h w e ad' h' e' a' w' → Q e' a' w') → wpListIn F 0 P ops Q l a w
 | [], dl, ht, a, ad, S, ρ, h, w, e, ad', h', N0, Q, hi, ha, hd, hr, hQ => by
  simp at ht
  subst ht
  simp only [dops, Option.some.injEq, Prod.mk.injEq] at hr
  obtain ⟨rfl, rfl, rfl⟩ := hr
  exact hQ _ _ _ ⟨S, ρ, ha, Ext.refl _ _ _ _, hi, hd, trivial⟩
 | o :: l, dl, ht, a, ad, S, ρ, h, w, e, ad', h', N0, Q, hi, ha, hd, hr, hQ => by
  simp only [List.mapM_cons, Option.pure_def, Option.bind_eq_bind, Option.bind_eq_some_iff, Option.some.injEq] at ht
  obtain ⟨d, hd1, dl', hdl, rfl⟩ := ht
  rcases trOper_cases P hd1 with ⟨op, g, rfl, hg, hop'⟩
  ·simp only [dops] at hr
   have ih := ops_sim hF hc hS (imm := imm) (ops := ops) l dl' hdl
   split at hr
   ·rename_i hwant
    have hw := wants_ok ha hg hwant
    have cont : ∀ (x : Value) (v : DV) (h1 : List Res) (w1 : World) (S1 : Settled) (ρ1 : List RI), RepD S1 ρ1 h1 w1 x v → Ext S ρ h w S1 ρ1 h1 w1 → Inv P G S1 ρ1 h1 w1 → dops call dl' (put ad o.dst v) h1 = some (e, ad', h') → wpListIn F 0 P ops Q l (a.put o.dst x) w1 := by
     intro x v h1 w1 S1 ρ1 hx E I hrest
     refine ih (a.put o.dst x) (put ad o.dst v) S1 ρ1 h1 w1 e ad' h' N0 Q I ((ha.mono E).put hx o.dst) (by rw [put_defers]; exact hd.mono E) hrest fun e' a' w' hp => ?_
     obtain ⟨S2, ρ2, p1, p2, p3, p4, p5⟩ := hp
     exact hQ e' a' w' ⟨S2, ρ2, p1, E.trans p2, p3, p4, p5⟩
    simp only [wpListIn, hw, if_true]
    refine ⟨fun f _ => hF.fn f, ?_⟩
    have hop : trOp P imm o = some op := by
     rcases hop' with hop' | rfl
     ·exact hop'
     ·simp [dop] at hr
    rw [Oper.semAt_plain F _ _ (fun c he => by simp [trOp, he] at hop)]
    split at hr
    ·rename_i v h1 hdop
     rcases sim_op hi ha hc hop hdop with ⟨x, w1, S1, ρ1, hrun, hx, E, I⟩ | ⟨ρ0, h0, E0, I0, g', args, dargs, hrun, hl, hrep, hcall⟩ | ⟨id, l', args, dargs, hrun, hρ, hl, hrep, hcall⟩ | ⟨g', args, dargs, vd, hrun, hl, hrep, hcall, hout⟩
     ·rcases hrun with hrun | ⟨hrun, rfl⟩
      ·rw [hrun, Oper.uponIn_value]
       exact cont x v h1 w1 S1 ρ1 hx E I hr
      ·rw [hrun, Oper.uponIn_skip]
       exact cont undef v h1 w1 S1 ρ1 hx E I hr
     ·rw [hrun, Oper.uponIn_enter]
      refine ⟨(fun hh => by rw [hF.depth] at hh; cases hh), ?_⟩
      refine hF.calls ?_
      refine (hS.fn g' args dargs S ρ0 h0 w _ I0 hl hrep hcall).mono fun e1 w1 hp => ?_
      obtain ⟨x, S1, ρ1, rfl, hx, E, I⟩ := hp
      have E := E0.trans E
      exact cont x v h1 w1 S1 ρ1 hx E I hr
     ·obtain ⟨f, tmps, as_, bd, hy, hround⟩ := hS.yld id l' args dargs S ρ h w _ hi hρ hl hrep hcall
      rw [hrun, hy, Oper.uponIn_round]
      refine ⟨(fun hh => by rw [hF.depth] at hh; cases hh), ?_⟩
      refine (hround F hF).mono fun e1 w1 hp => ?_
      obtain ⟨x, S1, ρ1, rfl, hx, E, I⟩ := hp
      exact cont x v h1 w1 S1 ρ1 hx E I hr
     ·simp only [DOut.val.injEq] at hout
      obtain ⟨rfl, rfl⟩ := hout
      rw [hrun, Oper.uponIn_enter]
      refine ⟨(fun hh => by rw [hF.depth] at hh; cases hh), ?_⟩
      refine hF.calls ?_
      refine (hS.fn g' args dargs S [] [] w _ (inv_none hi) hl hrep hcall).mono fun e1 w1 hp => ?_
      obtain ⟨x, S1, ρ1, rfl, hx, E, I⟩ := hp
      obtain ⟨E', I'⟩ := ext_lift hi E I
      exact cont x _ _ w1 S1 _ (.d _ _ (repD_d hx)) E' I' hr
    ·rename_i v h1 hdop
     simp only [Option.some.injEq, Prod.mk.injEq] at hr
     obtain ⟨rfl, rfl, rfl⟩ := hr
     rcases sim_op hi ha hc hop hdop with ⟨x, w1, S1, ρ1, hrun, hx, E, I⟩ | ⟨ρ0, h0, E0, I0, g', args, dargs, hrun, hl, hrep, hcall⟩ | ⟨id, l', args, dargs, hrun, hρ, hl, hrep, hcall⟩ | ⟨g', args, dargs, vd, hrun, hl, hrep, hcall, hout⟩
     ·rw [hrun, Oper.uponIn_panic]
      exact hQ _ _ _ ⟨S1, ρ1, ha.mono E, E, I, hd.mono E, x, rfl, hx⟩
     ·rw [hrun, Oper.uponIn_enter]
      refine ⟨(fun hh => by rw [hF.depth] at hh; cases hh), ?_⟩
      refine hF.calls ?_
      refine (hS.fn g' args dargs S ρ0 h0 w _ I0 hl hrep hcall).mono fun e1 w1 hp => ?_
      obtain ⟨x, S1, ρ1, rfl, hx, E, I⟩ := hp
      have E := E0.trans E
      exact hQ _ _ _ ⟨S1, ρ1, ha.mono E, E, I, hd.mono E, x, rfl, hx⟩
     ·obtain ⟨f, tmps, as_, bd, hy, hround⟩ := hS.yld id l' args dargs S ρ h w _ hi hρ hl hrep hcall
      rw [hrun, hy, Oper.uponIn_round]
      refine ⟨(fun hh => by rw [hF.depth] at hh; cases hh), ?_⟩
      refine (hround F hF).mono fun e1 w1 hp => ?_
      obtain ⟨x, S1, ρ1, rfl, hx, E, I⟩ := hp
      exact hQ _ _ _ ⟨S1, ρ1, ha.mono E, E, I, hd.mono E, x, rfl, hx⟩
     ·cases hout
    ·cases hr
   ·rename_i hwant
    have hw := wants_ok ha hg hwant
    simp only [wpListIn, hw, Bool.false_eq_true, if_false]
    refine ⟨fun f _ => hF.fn f, ih (a.put o.dst undef) (put ad o.dst (.d (.tup []))) S ρ h w e ad' h' N0 Q hi (ha.put (.d _ _ (.tup #[] [] rfl fun j y hy => by simp at hy)) o.dst) (by rw [put_defers]; exact hd) hr hQ⟩
   ·cases hr
end
end Go.Deepv
namespace Go.Deepv
section
variable {call : Cle → List DV → List Res → Option DOut} {a a' : List DV} {h h' : List Res}
theorem mapM_congr' {α β : Type} {f g : α → Option β} : ∀ {l : List α}, (∀ x ∈ l, f x = g x) → l.mapM f = l.mapM g
 | [], _ => rfl
 | x :: l, hl => by
  simp only [List.mapM_cons]
  rw [hl x (by simp), mapM_congr' (l := l) fun y hy => hl y (by simp [hy])]
theorem bound_congr {x : Option Opd} {u v : Nat} (hx : ∀ o ∈ x.toList, ev a o = ev a' o) : bound x a u v = bound x a' u v := by
 cases x with
 | none => rfl
 | some x => simp only [bound]; rw [hx x (by simp)]
theorem dop_congr {o : DOp} (hx : ∀ x ∈ o.opds, ev a x = ev a' x) : dop call o a h = dop call o a' h := by
 cases o <;> simp only [DOp.opds, List.mem_cons, List.not_mem_nil, or_false, forall_eq_or_imp, forall_eq] at hx
 case lit sz len zero ps =>
  simp only [dop]
  rw [mapM_congr' (g := fun p => (flatCells (ev a' p.2)).map fun cs => (p.1, cs)) fun p hp => by rw [hx p.2 (List.mem_map.2 ⟨p, hp, rfl⟩)]]
 case build zero ps =>
  simp only [dop]
  have e1 : (ps.map fun p => (p.1, p.2.1, ev a p.2.2)) = ps.map fun p => (p.1, p.2.1, ev a' p.2.2) := List.map_congr_left fun p hp => by rw [hx p.2.2 (List.mem_map.2 ⟨p, hp, rfl⟩)]
  have e3 : ∀ b : List DV, (ps.any fun p => (ev b p.2.2).isRow) = (ps.map fun p => (p.1, p.2.1, ev b p.2.2)).any fun p => p.2.2.isRow := fun b => by rw [List.any_map]; rfl
  rw [e3 a, e3 a', e1]
  rw [mapM_congr' (g := fun p => match flatCells (ev a' p.2.2) with | some cs => if cs.length = p.2.1 ∧ cs.all FV.one then some (p.1, cs) else none | none => none) fun p hp => by rw [hx p.2.2 (List.mem_map.2 ⟨p, hp, rfl⟩)]; rfl]
  rfl
 case mnmx mx xs =>
  simp only [dop]
  rw [List.map_congr_left hx]
 case call f xs =>
  simp only [dop]
  rw [hx.1, List.map_congr_left hx.2]
 case calln sz f xs =>
  simp only [dop]
  rw [hx.1, List.map_congr_left hx.2]
 case mkf fn p q =>
  simp only [dop]
  rw [List.map_congr_left (l := p) fun x hp => hx x (by simp [hp]), List.map_congr_left (l := q) fun x hp => hx x (by simp [hp])]
 case slcStr x lo hi =>
  simp only [dop]
  rw [hx.1]
  split <;> try rfl
  rw [bound_congr (x := hi) fun o ho => hx.2 o (by simp [ho])]
  split <;> try rfl
  rw [bound_congr (x := lo) fun o ho => hx.2 o (by simp [ho])]
 case slc sz x lo hi =>
  have bh : ∀ u v, bound hi a u v = bound hi a' u v := fun u v => bound_congr fun o ho => hx.2 o (by simp [ho])
  have bl : ∀ u v, bound lo a u v = bound lo a' u v := fun u v => bound_congr fun o ho => hx.2 o (by simp [ho])
  simp only [dop, hx.1, bh, bl]
 case slc3 sz x lo hi mx =>
  have bl : ∀ u v, bound lo a u v = bound lo a' u v := fun u v => bound_congr fun o ho => hx.2.2.2 o ho
  simp only [dop, hx.1, hx.2.1, hx.2.2.1, bl]
 case slcn sz x lo hi =>
  have bh : ∀ u v, bound hi a u v = bound hi a' u v := fun u v => bound_congr fun o ho => hx.2 o (by simp [ho])
  have bl : ∀ u v, bound lo a u v = bound lo a' u v := fun u v => bound_congr fun o ho => hx.2 o (by simp [ho])
  simp only [dop, hx.1, bh, bl]
 case vlit et sz len zero ps =>
  simp only [dop]
  rw [mapM_congr' (g := fun p => (flatCells (ev a' p.2)).map fun cs => (p.1, cs)) fun p hp => by rw [hx p.2 (List.mem_map.2 ⟨p, hp, rfl⟩)]]
 case slcA len sz x lo hi =>
  simp only [dop]
  rw [hx.1]
  split <;> try rfl
  rw [bound_congr (x := hi) fun o ho => hx.2 o (by simp [ho])]
  split <;> try rfl
  rw [bound_congr (x := lo) fun o ho => hx.2 o (by simp [ho])]
 case calld f xs =>
  simp only [dop]
  rw [hx.1, List.map_congr_left hx.2]
 case len s x => cases s <;> simp only [dop] <;> rw [hx]
 all_goals (try simp only [dop]) <;> (try simp only [hx])
theorem dop_quiet {o : DOp} (hp : o.quiet = true) {out : DOut} (hd : dop call o a h = some out) : ∃ v, out = .val v h := by
 cases o <;> simp only [DOp.quiet, DOp.pure, Bool.false_eq_true] at hp
 case len s x => cases s <;> simp only [dop] at hd <;> (repeat' split at hd) <;> simp only [Option.some.injEq, reduceCtorEq] at hd <;> exact ⟨_, hd.symm⟩
 all_goals simp only [dop] at hd
 all_goals (repeat' split at hd)
 all_goals first
  | (simp only [reduceCtorEq] at hd; done)
  | exact ⟨_, (Option.some.inj hd).symm⟩
  | (simp only [Option.map_eq_some_iff] at hd; obtain ⟨v, _, rfl⟩ := hd; exact ⟨_, rfl⟩)
  | skip
theorem dop_pure {o : DOp} (hp : o.pure = true) {v : DV} (hd : dop call o a h = some (.val v h)) (h' : List Res) : dop call o a h' = some (.val v h') := by
 cases o <;> simp only [DOp.pure, Bool.false_eq_true] at hp
 case len s x => cases s <;> simp only [dop] at hd ⊢ <;> (repeat' split at hd) <;> simp_all
 all_goals simp only [dop] at hd ⊢
 all_goals first
  | (simp_all; done)
  | ((repeat' split at hd) <;> simp_all; done)
  | ((repeat' split at hd) <;> simp_all <;> (intros; subst_vars; grind))
def dstep (call : Cle → List DV → List Res → Option DOut) (o : DOper) (a : List DV) (h : List Res) : Option (DV × List Res) :=
 match wants a o.guard with
 | some true => match dop call o.op a h with
  | some (.val v h') => some (v, h')
  | _ => none
 | some false => some (.d (.tup []), h)
 | none => none
theorem dops_cons {o : DOper} {l : List DOper} {r : List DV × List Res} : dops call (o :: l) a h = some (.normal, r) ↔ ∃ v h', dstep call o a h = some (v, h') ∧ dops call l (put a o.dst v) h' = some (.normal, r) := by
 simp only [dops, dstep]
 cases wants a o.guard with
 | none => simp
 | some b =>
  cases b with
  | false => exact ⟨fun hr => ⟨_, _, rfl, hr⟩, fun ⟨v, h', he, hr⟩ => by cases he; exact hr⟩
  | true =>
   simp only
   cases hd : dop call o.op a h with
   | none => simp
   | some out =>
    cases out with
    | val v h' => exact ⟨fun hr => ⟨_, _, rfl, hr⟩, fun ⟨v, h', he, hr⟩ => by cases he; exact hr⟩
    | pan v h' => simp
theorem ev_put {x : Opd} {d : Option Nat} {v : DV} (hx : ∀ t ∈ x.slots, d ≠ some t) : ev (put a d v) x = ev a x := by
 cases d with
 | none => rfl
 | some d =>
  cases x with
  | tmp t =>
   have : d ≠ t := fun e => hx t (by simp [Opd.slots]) (by rw [e])
   simp only [ev, put, List.getD_eq_getElem?_getD, List.getElem?_set_ne this]
  | _ => rfl
theorem wants_put {g : Option (Nat × Bool)} {d : Option Nat} {v : DV} (hx : ∀ t b, g = some (t, b) → d ≠ some t) : wants (put a d v) g = wants a g := by
 cases g with
 | none => rfl
 | some p =>
  obtain ⟨t, b⟩ := p
  cases d with
  | none => rfl
  | some d =>
   have : d ≠ t := fun e => hx t b rfl (by rw [e])
   simp only [wants, put, List.getElem?_set_ne this]
theorem dstep_put {o : DOper} {d : Option Nat} {v : DV} (hx : ∀ t ∈ o.looks, d ≠ some t) : dstep call o (put a d v) h = dstep call o a h := by
 have h1 : wants (put a d v) o.guard = wants a o.guard := wants_put fun t b hg => hx t (by simp [DOper.looks, hg])
 have h2 : dop call o.op (put a d v) h = dop call o.op a h := dop_congr fun x hxo => ev_put fun t ht => hx t (by
  simp only [DOper.looks, List.mem_append, List.mem_flatMap]
  exact .inl ⟨x, hxo, ht⟩)
 simp only [dstep, h1, h2]
theorem dstep_quiet {o : DOper} (hp : o.op.quiet = true) {v : DV} (hd : dstep call o a h = some (v, h')) : h' = h := by
 unfold dstep at hd
 split at hd
 ·split at hd
  ·rename_i v1 h1 hdop
   obtain ⟨v2, e⟩ := dop_quiet hp hdop
   cases e
   simp at hd
   exact hd.2.symm
  ·cases hd
 ·simp at hd; exact hd.2.symm
 ·cases hd
theorem DOp.quiet_of_pure {o : DOp} (hp : o.pure = true) : o.quiet = true := by cases o <;> simp_all [DOp.quiet, DOp.pure]
theorem dstep_pure {o : DOper} (hp : o.op.pure = true) {v : DV} {h1 : List Res} (hd : dstep call o a h = some (v, h1)) (h' : List Res) : dstep call o a h' = some (v, h') := by
 obtain rfl := dstep_quiet (DOp.quiet_of_pure hp) hd
 unfold dstep at hd ⊢
 split at hd
 ·rename_i hw
  split at hd
  ·rename_i v1 h2 hdop
   simp at hd
   obtain ⟨rfl, rfl⟩ := hd
   rw [dop_pure hp hdop h']
  ·cases hd
 ·rename_i hw
  simp at hd
  rw [← hd]
 ·cases hd
theorem put_comm {d e : Option Nat} {u v : DV} (hne : ∀ i j, d = some i → e = some j → i ≠ j) : put (put a d u) e v = put (put a e v) d u := by
 cases d with
 | none => rfl
 | some i =>
  cases e with
  | none => rfl
  | some j => simp only [put]; exact List.set_comm _ _ (hne i j rfl rfl)
theorem DOper.comm_symm {x y : DOper} (h : x.comm y = true) : y.comm x = true := by
 unfold DOper.comm at *
 simp only [Bool.and_eq_true, Bool.or_eq_true] at *
 refine ⟨⟨⟨h.1.1.2, h.1.1.1⟩, ?_⟩, ?_⟩
 ·have := h.1.2
  revert this
  cases x.dst <;> cases y.dst <;> simp
  exact fun e h => e h.symm
 ·rcases h.2 with (h | h) | h
  ·exact .inl (.inr h)
  ·exact .inl (.inl h)
  ·exact .inr ⟨h.2, h.1⟩
theorem dops_swap {x y : DOper} (hc : x.comm y = true) {l : List DOper} {r : List DV × List Res} (hr : dops call (x :: y :: l) a h = some (.normal, r)) : dops call (y :: x :: l) a h = some (.normal, r) := by
 unfold DOper.comm at hc
 simp only [Bool.and_eq_true, Bool.or_eq_true] at hc
 obtain ⟨⟨⟨c1, c2⟩, c3⟩, c4⟩ := hc
 have a1 : ∀ t ∈ y.looks, x.dst ≠ some t := fun t ht e => by simp [e] at c1; exact c1 ht
 have a2 : ∀ t ∈ x.looks, y.dst ≠ some t := fun t ht e => by simp [e] at c2; exact c2 ht
 obtain ⟨u, h1, s1, hr1⟩ := dops_cons.1 hr
 clear hr
 obtain ⟨v, h2, s2, hr⟩ := dops_cons.1 hr1
 clear hr1
 rw [dstep_put a1] at s2
 have hput : put (put a x.dst u) y.dst v = put (put a y.dst v) x.dst u := put_comm fun i j hi hj => by
  rw [hi, hj] at c3
  simpa using c3
 rw [hput] at hr
 rcases c4 with (hp | hp) | ⟨q1, q2⟩
 ·obtain rfl := dstep_quiet (DOp.quiet_of_pure hp) s1
  exact dops_cons.2 ⟨v, h2, s2, dops_cons.2 ⟨u, h2, by rw [dstep_put a2]; exact dstep_pure hp s1 _, hr⟩⟩
 ·obtain rfl := dstep_quiet (DOp.quiet_of_pure hp) s2
  exact dops_cons.2 ⟨v, h, dstep_pure hp s2 _, dops_cons.2 ⟨u, h2, by rw [dstep_put a2]; exact s1, hr⟩⟩
 ·obtain rfl := dstep_quiet q1 s1
  obtain rfl := dstep_quiet q2 s2
  exact dops_cons.2 ⟨v, h2, s2, dops_cons.2 ⟨u, h2, by rw [dstep_put a2]; exact s1, hr⟩⟩
theorem dops_front {x : DOper} {l2 : List DOper} {r : List DV × List Res} : ∀ {l1 : List DOper} {a : List DV} {h : List Res}, (∀ y ∈ l1, y.comm x = true) → dops call (l1 ++ x :: l2) a h = some (.normal, r) → dops call (x :: (l1 ++ l2)) a h = some (.normal, r)
 | [], _, _, _, hr => hr
 | y :: l1, a, h, hc, hr => by
  obtain ⟨u, h1, s1, hr⟩ := dops_cons.1 hr
  exact dops_swap (hc y (by simp)) (dops_cons.2 ⟨u, h1, s1, dops_front (fun z hz => hc z (by simp [hz])) hr⟩)
theorem idxOf_lt_iff {l2 : List Nat} {x y z : Nat} (hy : y ≠ x) (hz : z ≠ x) : ∀ {l1 : List Nat}, ((l1 ++ x :: l2).idxOf y < (l1 ++ x :: l2).idxOf z ↔ (l1 ++ l2).idxOf y < (l1 ++ l2).idxOf z)
 | [] => by
  have e1 : (x == y) = false := by simpa using Ne.symm hy
  have e2 : (x == z) = false := by simpa using Ne.symm hz
  simp [List.idxOf_cons, e1, e2]
 | w :: l1 => by
  have ih := idxOf_lt_iff (l1 := l1) (l2 := l2) hy hz
  simp only [List.cons_append, List.idxOf_cons]
  cases h1 : w == y <;> cases h2 : w == z <;> simp [ih]
theorem dops_orders {dl : List DOper} {r : List DV × List Res} : ∀ {σ τ : List Nat} {a : List DV} {h : List Res}, σ.Nodup → τ.Nodup → (∀ i, i ∈ σ ↔ i ∈ τ) →
  (∀ x ∈ σ, ∀ y ∈ σ, x ≠ y → (dl.getD x default).comm (dl.getD y default) = false → (σ.idxOf x < σ.idxOf y ↔ τ.idxOf x < τ.idxOf y)) →
  dops call (ordered dl τ) a h = some (.normal, r) → dops call (ordered dl σ) a h = some (.normal, r)
 | [], τ, a, h, _, _, hm, _, hr => by
  cases τ with
  | nil => exact hr
  | cons x τ => have := (hm x).2 (by simp); simp at this
 | x :: σ, τ, a, h, hn, hnt, hm, ho, hr => by
  obtain ⟨hx, hn⟩ := List.nodup_cons.1 hn
  obtain ⟨l1, l2, rfl⟩ := List.append_of_mem ((hm x).1 (by simp))
  have hx1 : x ∉ l1 ∧ x ∉ l2 := by
   have := List.nodup_append.1 hnt
   refine ⟨fun h1 => this.2.2 x h1 x (by simp) rfl, (List.nodup_cons.1 this.2.1).1⟩
  have hc : ∀ y ∈ l1.map (fun i => dl.getD i default), y.comm (dl.getD x default) = true := by
   intro y hy
   obtain ⟨i, hi, rfl⟩ := List.mem_map.1 hy
   have hix : i ≠ x := fun e => hx1.1 (e ▸ hi)
   cases hcm : (dl.getD i default).comm (dl.getD x default) with
   | true => rfl
   | false =>
    have hms : i ∈ x :: σ := (hm i).2 (by simp [hi])
    have := (ho i hms x (by simp) hix hcm).2 (by
     rw [List.idxOf_append, if_pos hi, List.idxOf_append, if_neg hx1.1]
     have := List.idxOf_lt_length_of_mem hi
     simp
     omega)
    simp at this
  simp only [ordered, List.map_append, List.map_cons] at hr ⊢
  obtain ⟨v, h', s, hr⟩ := dops_cons.1 (dops_front hc hr)
  refine dops_cons.2 ⟨v, h', s, ?_⟩
  have hn' : (l1 ++ l2).Nodup := by
   have := List.nodup_append.1 hnt
   exact List.nodup_append.2 ⟨this.1, (List.nodup_cons.1 this.2.1).2, fun p hp q hq => this.2.2 p hp q (by simp [hq])⟩
  refine dops_orders (τ := l1 ++ l2) hn hn' (fun i => ?_) (fun i hi j hj hij hcm => ?_) (by simpa only [ordered, List.map_append] using hr)
  ·have := hm i
   by_cases e : i = x
   ·subst e
    simp [hx, hx1.1, hx1.2]
   ·simp [e] at this
    simp [this]
  ·have hi' : i ≠ x := fun e => hx (e ▸ hi)
   have hj' : j ≠ x := fun e => hx (e ▸ hj)
   have := ho i (by simp [hi]) j (by simp [hj]) hij hcm
   rw [idxOf_lt_iff (l1 := l1) hi' hj'] at this
   rw [← this]
   have e1 : (x == i) = false := by simpa using Ne.symm hi'
   have e2 : (x == j) = false := by simpa using Ne.symm hj'
   simp [List.idxOf_cons, e1, e2]
end
end Go.Deepv
namespace Go.Deepv
section
variable {call : Cle → List DV → List Res → Option DOut} {a a' : List DV} {h h' : List Res} {ops : Array Oper}
def unl (ops : Array Oper) (listed : Array Bool) : List Nat := (List.range ops.size).filter fun i => !listed.getD i true
theorem mem_unl {listed : Array Bool} {i : Nat} : i ∈ unl ops listed ↔ i < ops.size ∧ listed.getD i true = false := by
 unfold unl
 rw [List.mem_filter, List.mem_range, Bool.not_eq_true']
theorem unl_set {listed : Array Bool} {i : Nat} (hi : i ∈ unl ops listed) : (unl ops (listed.setIfInBounds i true)).length < (unl ops listed).length := by
 have e : unl ops (listed.setIfInBounds i true) = (unl ops listed).filter (fun j => j != i) := by
  unfold unl
  rw [List.filter_filter]
  refine List.filter_congr fun j hj => ?_
  by_cases hji : i = j
  ·subst hji
   have : (listed.setIfInBounds i true).getD i true = true := by
    rcases Nat.lt_or_ge i listed.size with h | h
    ·simp [h]
    ·simp [Array.getElem?_eq_none h]
   simp [this]
  ·have e2 : (j != i) = true := by simpa using Ne.symm hji
   rw [getD_set_ne true hji, e2]
   simp
 rw [e, List.length_filter_lt_length_iff_exists]
 exact ⟨i, hi, by simp⟩
structure Lin (ops : Array Oper) (listed : Array Bool) (σ : List Nat) : Prop where
 nodup : σ.Nodup
 mem : ∀ i ∈ σ, i < ops.size ∧ listed.getD i true = false
 deps : ∀ i ∈ σ, ∀ j ∈ (depsOf ops).getD i [], listed.getD j false = true ∨ (j ∈ σ ∧ σ.idxOf j < σ.idxOf i)
 all : ∀ i, i < ops.size → listed.getD i true = false → i ∈ σ
theorem deps_at {i : Nat} {o : Oper} (ho : ops[i]? = some o) : (depsOf ops).getD i [] = edgesOf o := by
 simp only [depsOf, List.getD_eq_getElem?_getD, List.getElem?_map, Array.getElem?_toList, ho]
 rfl
theorem mem_edges {o : Oper} {j : Nat} : j ∈ edgesOf o ↔ ∃ e ∈ o.after, Region.binds .any e = true ∧ e.on = j := by
 simp [edgesOf, and_assoc]
theorem forward_spec : ∀ {l : List (List Nat)} {k : Nat}, forwardB l k = true → ∀ (i : Nat), ∀ j ∈ l.getD i [], j < k + i
 | [], _, _, i, j, hj => by simp at hj
 | d :: r, k, hf, i, j, hj => by
  simp only [forwardB, Bool.and_eq_true, List.all_eq_true, decide_eq_true_eq] at hf
  cases i with
  | zero => exact hf.1 j (by simpa using hj)
  | succ i =>
   have := forward_spec hf.2 i j (by simpa using hj)
   omega
theorem go_spec (hf : forwardB (depsOf ops) 0 = true) : ∀ (fuel t : Nat) (listed : Array Bool), listed.size = ops.size → (unl ops listed).length ≤ fuel → Lin ops listed (Region.linearise.go .any ops fuel t listed []) := by
 intro fuel
 induction fuel with
 | zero =>
  intro t listed hs hc
  have : unl ops listed = [] := by simpa using hc
  refine ⟨by simp [Region.linearise.go], fun i hi => by simp [Region.linearise.go] at hi, fun i hi => by simp [Region.linearise.go] at hi, fun i hi hl => ?_⟩
  have hm : i ∈ unl ops listed := mem_unl.2 ⟨hi, hl⟩
  rw [this] at hm
  cases hm
 | succ fuel ih =>
  intro t listed hs hc
  have eg : Region.linearise.go .any ops (fuel + 1) t listed [] = (match (Region.ready .any ops listed)[t % (Region.ready .any ops listed).length]? with
   | some i => Region.linearise.go .any ops fuel (t / (Region.ready .any ops listed).length) (listed.setIfInBounds i true) [i]
   | none => [].reverse) := rfl
  rw [eg]
  cases hi : (Region.ready .any ops listed)[t % (Region.ready .any ops listed).length]? with
  | none =>
   have hnil : Region.ready .any ops listed = [] := by
    cases hr : Region.ready .any ops listed with
    | nil => rfl
    | cons x xs =>
     rw [hr] at hi
     have hlt : t % (x :: xs).length < (x :: xs).length := Nat.mod_lt _ (by simp)
     simp at hi
     simp at hlt
     omega
   have hall : ∀ i, i < ops.size → listed.getD i true = true := by
    intro i
    induction i using Nat.strongRecOn with
    | ind i ihi =>
     intro hlt
     cases hl : listed.getD i true with
     | true => rfl
     | false =>
      have : i ∈ Region.ready .any ops listed := by
       refine mem_ready.2 ⟨hl, ops[i], by simp [hlt], fun e he hb => ?_⟩
       have hd : e.on ∈ (depsOf ops).getD i [] := by
        rw [deps_at (o := ops[i]) (by simp [hlt])]
        exact mem_edges.2 ⟨e, he, hb, rfl⟩
       have hlt2 := forward_spec hf i _ hd
       have := ihi e.on (by omega) (by omega)
       have hsz : e.on < listed.size := by omega
       simp [hsz] at this ⊢
       exact this
      rw [hnil] at this
      cases this
   simp only [List.reverse_nil]
   exact ⟨by simp, by simp, by simp, fun i hi hl => by rw [hall i hi] at hl; cases hl⟩
  | some i =>
   simp only []
   rw [linearise_go_acc, List.reverse_singleton, List.singleton_append]
   have hr := List.mem_of_getElem? hi
   obtain ⟨hun, o, ho, hdep⟩ := mem_ready.1 hr
   have hlt : i < ops.size := (Array.getElem?_eq_some_iff.1 ho).1
   have hmem : i ∈ unl ops listed := mem_unl.2 ⟨hlt, hun⟩
   have L := ih (t / (Region.ready .any ops listed).length) (listed.setIfInBounds i true) (by simp [hs]) (by have := unl_set hmem; omega)
   generalize Region.linearise.go .any ops fuel (t / (Region.ready .any ops listed).length) (listed.setIfInBounds i true) [] = σ at L
   have hni : i ∉ σ := fun hm => by
    have := (L.mem i hm).2
    have hsz : i < listed.size := by omega
    simp [hsz] at this
   refine ⟨List.nodup_cons.2 ⟨hni, L.nodup⟩, fun k hk => ?_, fun k hk j hj => ?_, fun k hk hl => ?_⟩
   ·rcases List.mem_cons.1 hk with rfl | hk
    ·exact ⟨hlt, hun⟩
    ·have hki : i ≠ k := fun e => hni (e ▸ hk)
     have := L.mem k hk
     rw [getD_set_ne true hki] at this
     exact this
   ·rcases List.mem_cons.1 hk with rfl | hk
    ·rw [deps_at ho] at hj
     obtain ⟨e, he, hb, rfl⟩ := mem_edges.1 hj
     exact .inl (hdep e he hb)
    ·have hki : (i == k) = false := by
      simp only [beq_eq_false_iff_ne]
      exact fun e => hni (e ▸ hk)
     rcases L.deps k hk j hj with hl | ⟨hm, hlt2⟩
     ·by_cases hij : i = j
      ·subst hij
       exact .inr ⟨by simp, by simp [List.idxOf_cons, hki]⟩
      ·rw [getD_set_ne false hij] at hl
       exact .inl hl
     ·have hji : (i == j) = false := by
       simp only [beq_eq_false_iff_ne]
       exact fun e => hni (e ▸ hm)
      exact .inr ⟨by simp [hm], by simp [List.idxOf_cons, hki, hji, hlt2]⟩
   ·by_cases hik : i = k
    ·subst hik; simp
    ·have := L.all k hk (by rw [getD_set_ne true hik]; exact hl)
     simp [this]
theorem lin_spec (hf : forwardB (depsOf ops) 0 = true) (t : Nat) : (Region.linearise .any ops t).Nodup ∧ (∀ i, i ∈ Region.linearise .any ops t ↔ i < ops.size) ∧
  ∀ i ∈ Region.linearise .any ops t, ∀ j ∈ (depsOf ops).getD i [], (Region.linearise .any ops t).idxOf j < (Region.linearise .any ops t).idxOf i := by
 have L := go_spec hf ops.size t (Array.replicate ops.size false) (by simp) (by
  have := List.length_filter_le (fun i => !(Array.replicate ops.size false).getD i true) (List.range ops.size)
  simpa [unl] using this)
 refine ⟨L.nodup, fun i => ⟨fun hi => (L.mem i hi).1, fun hi => L.all i hi (by simp [hi])⟩, fun i hi j hj => ?_⟩
 rcases L.deps i hi j hj with h | h
 ·have : (Array.replicate ops.size false).getD j false = false := by
   rcases Nat.lt_or_ge j ops.size with hj | hj <;> simp [hj]
  rw [this] at h
  cases h
 ·exact h.2
theorem bitsOf_spec {acc : List Nat} {j : Nat} : ∀ {d : List Nat}, (bitsOf acc d).testBit j = true → ∃ i ∈ d, i = j ∨ (acc.getD i 0).testBit j = true
 | [], hb => by simp [bitsOf] at hb
 | k :: r, hb => by
  simp only [bitsOf, Nat.testBit_or, Bool.or_eq_true] at hb
  rcases hb with (hb | hb) | hb
  ·obtain ⟨i, hi, hh⟩ := bitsOf_spec hb
   exact ⟨i, by simp [hi], hh⟩
  ·rw [Nat.shiftLeft_eq, Nat.one_mul, Nat.testBit_two_pow] at hb
   exact ⟨k, by simp, .inl (by simpa using hb)⟩
  ·exact ⟨k, by simp, .inr hb⟩
theorem closure_spec {R : Nat → Nat → Prop} (hR : ∀ i j k, R i j → R j k → R i k) : ∀ (rest : List (List Nat)) (acc : List Nat), (∀ k j, (acc.getD k 0).testBit j = true → R j k) →
  (∀ k, ∀ j ∈ rest.getD k [], R j (acc.length + k)) → ∀ k j, ((closureOf rest acc).getD k 0).testBit j = true → R j k
 | [], acc, h1, _ => h1
 | d :: r, acc, h1, h2 => by
  refine closure_spec hR r (acc ++ [bitsOf acc d]) (fun k j hb => ?_) fun k j hj => ?_
  ·rw [List.getD_eq_getElem?_getD, List.getElem?_append] at hb
   split at hb
   ·exact h1 k j (by rw [List.getD_eq_getElem?_getD]; exact hb)
   ·by_cases hk : k = acc.length
    ·subst hk
     simp at hb
     obtain ⟨i, hi, hh⟩ := bitsOf_spec hb
     have hi' := h2 0 i (by simpa using hi)
     rcases hh with rfl | hh
     ·exact hi'
     ·exact hR _ _ _ (h1 i j hh) hi'
    ·have : ([bitsOf acc d] : List Nat)[k - acc.length]? = none := List.getElem?_eq_none (by simp; omega)
     rw [this] at hb
     simp at hb
  ·have := h2 (k + 1) j (by simpa using hj)
   simp only [List.length_append, List.length_cons, List.length_nil]
   rwa [show acc.length + (0 + 1) + k = acc.length + (k + 1) from by omega]
theorem orients_mem (f : Nat × Nat → Bool) : ∀ K : List (Nat × Nat), (K.map fun p => if f p then p else (p.2, p.1)) ∈ orients K
 | [] => by simp [orients]
 | (j, i) :: r => by
  simp only [orients, List.map_cons, List.mem_flatMap]
  refine ⟨_, orients_mem f r, ?_⟩
  cases f (j, i) <;> simp
theorem idxOf_ne {σ : List Nat} {x y : Nat} (hx : x ∈ σ) (hy : y ∈ σ) (hne : x ≠ y) : σ.idxOf x ≠ σ.idxOf y := fun e => hne (by
 have h1 := List.getElem_idxOf (List.idxOf_lt_length_of_mem hx)
 have h2 := List.getElem_idxOf (List.idxOf_lt_length_of_mem hy)
 rw [← h1, ← h2]
 simp only [e])
theorem nodup_spec : ∀ {l : List Nat}, nodupB l = true → l.Nodup
 | [], _ => List.nodup_nil
 | x :: r, hb => by
  simp only [nodupB, Bool.and_eq_true, Bool.not_eq_true'] at hb
  exact List.nodup_cons.2 ⟨by simpa using hb.1, nodup_spec hb.2⟩
theorem draw_all {dl : List DOper} {alts : List (List Nat)} (hok : drawOk ops dl alts = true) (t : Nat) {r : List DV × List Res} (hr : ∀ τ ∈ List.range ops.size :: alts, dops call (ordered dl τ) a h = some (.normal, r)) :
  dops call (ordered dl (Region.linearise .any ops t)) a h = some (.normal, r) := by
 simp only [drawOk, Bool.and_eq_true, List.all_eq_true] at hok
 obtain ⟨⟨hf, hg⟩, hcov⟩ := hok
 obtain ⟨hn, hm, hd⟩ := lin_spec hf t
 generalize Region.linearise .any ops t = σ at hn hm hd
 have hnd : ∀ k, ∀ j ∈ (depsOf ops).getD k [], k < ops.size := fun k j hj => by
  rcases Nat.lt_or_ge k ops.size with h1 | h1
  ·exact h1
  ·have : (depsOf ops).getD k [] = [] := by simp [depsOf, List.getD_eq_getElem?_getD, Array.getElem?_eq_none h1]
   rw [this] at hj
   cases hj
 have clo : ∀ (τ : List Nat), (∀ i, i < ops.size → ∀ j ∈ (depsOf ops).getD i [], τ.idxOf j < τ.idxOf i) → ∀ k j, ((closureOf (depsOf ops) []).getD k 0).testBit j = true → τ.idxOf j < τ.idxOf k := fun τ hτ k j hb =>
  closure_spec (R := fun j i => τ.idxOf j < τ.idxOf i) (fun i j k h1 h2 => Nat.lt_trans h1 h2) (depsOf ops) [] (fun k j hb => by simp at hb) (fun k j hj => by
   simp only [List.length_nil, Nat.zero_add]
   exact hτ k (hnd k j hj) j hj) k j hb
 have cσ := clo σ fun i hi j hj => hd i ((hm i).2 hi) j hj
 let K := conflicts ops.size (closureOf (depsOf ops) []) dl
 let f : Nat × Nat → Bool := fun p => decide (σ.idxOf p.1 < σ.idxOf p.2)
 have hK : ∀ p ∈ K, p.1 < p.2 ∧ p.2 < ops.size := by
  intro p hp
  simp only [K, conflicts, List.mem_flatMap, List.mem_map, List.mem_filter, List.mem_range] at hp
  obtain ⟨i, hi, j, ⟨hj, _⟩, rfl⟩ := hp
  exact ⟨hj, hi⟩
 have hε : ∀ q ∈ K.map fun p => if f p then p else (p.2, p.1), σ.idxOf q.1 < σ.idxOf q.2 := by
  intro q hq
  obtain ⟨p, hp, rfl⟩ := List.mem_map.1 hq
  split
  ·rename_i hfp
   simpa [f] using hfp
  ·rename_i hfp
   have h1 := hK p hp
   have h2 : ¬ σ.idxOf p.1 < σ.idxOf p.2 := by simpa [f] using hfp
   have h3 := idxOf_ne ((hm p.1).2 (by omega)) ((hm p.2).2 h1.2) (by omega)
   show σ.idxOf p.2 < σ.idxOf p.1
   omega
 have hc := hcov _ (orients_mem f K)
 simp only [Bool.or_eq_true, List.any_eq_true] at hc
 rcases hc with hinc | ⟨τ, hτ, hag⟩
 ·exfalso
  have hl : ∀ p q : Nat × Nat, lnk (closureOf (depsOf ops) []) p q = true → σ.idxOf p.2 ≤ σ.idxOf q.1 := by
   intro p q h1
   simp only [lnk, Bool.or_eq_true, beq_iff_eq] at h1
   rcases h1 with h1 | h1
   ·rw [h1]; exact Nat.le_refl _
   ·exact Nat.le_of_lt (cσ _ _ h1)
  simp only [incons, List.any_eq_true, Bool.and_eq_true, Bool.or_eq_true] at hinc
  obtain ⟨p, hp, q, hq, h1, h2⟩ := hinc
  have e1 := hε p hp
  have e2 := hε q hq
  have e3 := hl p q h1
  rcases h2 with h2 | ⟨r, hr, h3, h4⟩
  ·have e4 := hl q p h2
   omega
  ·have e4 := hε r hr
   have e5 := hl q r h3
   have e6 := hl r p h4
   omega
 ·have hgo := hg τ hτ
  simp only [goodOrder, Bool.and_eq_true, List.all_eq_true, decide_eq_true_eq, List.mem_range, List.contains_eq_mem] at hgo
  obtain ⟨⟨⟨g1, g2⟩, g3⟩, g4⟩ := hgo
  have cτ := clo τ g4
  have hmτ : ∀ i, i ∈ τ ↔ i < ops.size := fun i => ⟨g2 i, g3 i⟩
  simp only [agrees, List.all_eq_true, decide_eq_true_eq] at hag
  have half : ∀ x y, x < y → y < ops.size → (dl.getD x default).comm (dl.getD y default) = false → (σ.idxOf x < σ.idxOf y ↔ τ.idxOf x < τ.idxOf y) := by
   intro x y hxy hy hcm
   cases hb : ((closureOf (depsOf ops) []).getD y 0).testBit x with
   | true => exact ⟨fun _ => cτ _ _ hb, fun _ => cσ _ _ hb⟩
   | false =>
    have hmem : (x, y) ∈ K := by
     simp only [K, conflicts, List.mem_flatMap, List.mem_map, List.mem_filter, List.mem_range]
     exact ⟨y, hy, x, ⟨hxy, by simp only [hb, hcm]; rfl⟩, rfl⟩
    have := hag _ (List.mem_map.2 ⟨(x, y), hmem, rfl⟩)
    have h4 := hε _ (List.mem_map.2 ⟨(x, y), hmem, rfl⟩)
    by_cases hfp : f (x, y) = true
    ·rw [if_pos hfp] at this h4
     exact ⟨fun _ => this, fun _ => h4⟩
    ·rw [if_neg hfp] at this h4
     simp only at this h4
     omega
  refine dops_orders (dl := dl) hn (nodup_spec g1) (fun i => by rw [hm, hmτ]) (fun x hx y hy hne hcm => ?_) (hr τ hτ)
  have hx' := (hm x).1 hx
  have hy' := (hm y).1 hy
  rcases Nat.lt_or_gt_of_ne hne with h1 | h1
  ·exact half x y h1 hy' hcm
  ·have hcm' : (dl.getD y default).comm (dl.getD x default) = false := by
    cases e : (dl.getD y default).comm (dl.getD x default) with
    | false => rfl
    | true => rw [DOper.comm_symm e] at hcm; cases hcm
   have hh := half y x h1 hx' hcm'
   have n1 := idxOf_ne hx hy hne
   have n2 := idxOf_ne ((hmτ x).2 hx') ((hmτ y).2 hy') hne
   omega
end
end Go.Deepv
namespace Go.Deepv
open Go.RowKit
section
variable {P : Program} {b : Frame} {a : Act} {k : List Item} {cs : List Frame} {w : World} {F : Fence} {n : Nat} {Q : Exit → Act → World → Prop}
theorem stepR_scope {c : Code} : step P (lone (b.atR a (.code (.scope c) :: k)) cs w) = .next (lone (b.atR a (.code c :: .inScope c :: k)) cs w) :=
 step_lone_go (by simp [stepG, stepG.exec, Frame.atR])
theorem stepR_inScope {c : Code} : step P (lone (b.atR a (.inScope c :: k)) cs w) = .next (lone (b.atR a k) cs w) :=
 step_lone_go (by simp [stepG, stepG.exec, Frame.atR])
def _root_.Go.Code.scopeIn (F : Fence) (n : Nat) (P : Program) (c : Code) (Q : Exit → Act → World → Prop) : Nat → Code → Act → World → Prop
 | 0, _, _, _ => False
 | m + 1, r, a, w => r.wpIn F n P (fun e a w => match e with
  | .goto l => (match findLabel c l with
   | some rest => Code.scopeIn F n P c Q m rest a w
   | none => Q (.goto l) a w)
  | e => Q e a w) a w
theorem wpIn_scope_goto {c : Code} {m : Nat} (h : Code.scopeIn F n P c Q m c a w) : (Code.scope c).wpIn F n P Q a w := by
 intro b k cs hro hb hr
 have key : ∀ m r a w, Code.scopeIn F n P c Q m r a w →
   ∃ e a' w', Q e a' w' ∧ ArrivesIn (Machine.fenced P F) P (lone (b.atR a (.code r :: .inScope c :: k)) cs w) b k cs e a' w' := by
  intro m
  induction m with
  | zero => intro r a w h; exact h.elim
  | succ m ih =>
   intro r a w h
   obtain ⟨e, a₁, w₁, hq, harr⟩ := h b (.inScope c :: k) cs hro hb hr
   cases e with
   | normal => exact ⟨.normal, a₁, w₁, hq, StepsIn.trans harr (.one (fenced_calm hb hr rfl) stepR_inScope)⟩
   | exit id' =>
    have hx : exitTo id' (.inScope c :: k) = exitTo id' k := by simp [exitTo]
    exact ⟨.exit id', a₁, w₁, hq, fun k' hk => harr.1 k' (by rw [hx]; exact hk),
     fun hr' hk => let ⟨k₁, h1, h2⟩ := harr.2 hr' (by rw [hx]; exact hk); ⟨k₁, h1, h2⟩⟩
   | goto l =>
    simp only at hq
    split at hq
    ·rename_i rest hl
     have hx : gotoIn l (.inScope c :: k) = some (.code rest :: .inScope c :: k) := by simp [gotoIn, hl]
     obtain ⟨e2, a2, w2, hq2, harr2⟩ := ih rest a₁ w₁ hq
     exact ⟨e2, a2, w2, hq2, .of_steps (harr.1 _ hx) harr2⟩
    ·rename_i hl
     have hx : gotoIn l (.inScope c :: k) = gotoIn l k := by simp [gotoIn, hl]
     exact ⟨.goto l, a₁, w₁, hq, fun k' hk => harr.1 k' (by rw [hx]; exact hk),
      fun hr' hk => let ⟨k₁, h1, h2⟩ := harr.2 hr' (by rw [hx]; exact hk); ⟨k₁, h1, h2⟩⟩
   | ret => exact ⟨_, a₁, w₁, hq, harr⟩
   | panic ch => exact ⟨_, a₁, w₁, hq, harr⟩
   | outgrown => exact ⟨_, a₁, w₁, hq, harr⟩
 have h0 : (lone (b.atR a (.code (.scope c) :: k)) cs w).fenced P F := fenced_calm hb hr rfl
 obtain ⟨e, a1, w1, hq, harr⟩ := key m c a w h
 exact ⟨e, a1, w1, hq, .of_steps (.one h0 stepR_scope) harr⟩
end
section
variable {P : Program} {G : Glob} {S S' : Settled} {ρ ρ' : List RI} {h h' : List Res} {w w' : World} {a : Act} {ad : List DV} {call : Cle → List DV → List Res → Option DOut} {out : DOut}
def LoopS (P : Program) (G : Glob) (k : Nat) (loop : LoopF) : Prop :=
 ∀ (F : Fence), Wide F → ∀ (M : Marks) (n0 : Nat) (cut : Bool) (hd ex : List Bool) (c : Code) (A : ACode), trCode P M c = some A → (F.round = none ∨ A.noRange = true) → ∀ (a : Act) (ad : List DV) (S : Settled) (ρ : List RI) (h : List Res) (w : World) (e : DExit) (ad' : List DV) (h' : List Res) (N0 : Base) (Q : Exit → Act → World → Prop),
  Inv P G S ρ h w → RepA S ρ h w a.tmps ad → Marked N0 ρ w a.defers → (N0.2.2 = false ∨ A.noRange = true) → (cut = true → h.length = n0) → loop n0 cut hd ex A ad h = some (e, ad', h') → (∀ e' a' w', Post P G N0 S ρ h w e ad' h' e' a' w' → Q e' a' w') → Code.roundsIn F 0 P c Q k a w
def unk (l : Nat) (e : DExit) : DExit := match e with
 | .exit i => if i = kid l then .normal else .exit i
 | e => e
def GotoS (P : Program) (G : Glob) (k : Nat) (loop : LoopF) : Prop :=
 ∀ (F : Fence), Wide F → ∀ (M : Marks) (n0 : Nat) (cut : Bool) (hd ex : List Bool) (c rest : Code) (l : Nat) (A : ACode), l < 1000000 → findLabel c l = some rest → (∀ l', l' ≠ l → findLabel c l' = none) → trCode P M rest = some A → (F.round = none ∨ A.noRange = true) → ∀ (a : Act) (ad : List DV) (S : Settled) (ρ : List RI) (h : List Res) (w : World) (e : DExit) (ad' : List DV) (h' : List Res) (N0 : Base) (Q : Exit → Act → World → Prop),
  Inv P G S ρ h w → RepA S ρ h w a.tmps ad → Marked N0 ρ w a.defers → (N0.2.2 = false ∨ A.noRange = true) → (cut = true → h.length = n0) → loop n0 cut hd ex (.block (gid l) (.seq A (.exit (kid l)))) ad h = some (e, ad', h') → (∀ e' a' w', Post P G N0 S ρ h w (unk l e) ad' h' e' a' w' → Q e' a' w') → Code.scopeIn F 0 P c Q k rest a w
theorem label_spec (M : Marks) : ∀ (c : Code) (A : ACode), trCode P M c = some A → ∀ l, (afind A l = none → findLabel c l = none) ∧ (∀ R, afind A l = some R → ∃ rest, findLabel c l = some rest ∧ trCode P M rest = some R) := by
 intro c
 induction c with
 | seq x y ihx ihy =>
  intro A ht l
  simp only [trCode] at ht
  split at ht
  ·rename_i X Y hX hY
   simp only [Option.some.injEq] at ht
   subst ht
   obtain ⟨x1, x2⟩ := ihx X hX l
   obtain ⟨y1, y2⟩ := ihy Y hY l
   cases hx : afind X l with
   | none =>
    have e1 := x1 hx
    refine ⟨fun h => ?_, fun R h => ?_⟩
    ·simp only [afind, hx] at h
     simp only [findLabel, e1]
     exact y1 h
    ·simp only [afind, hx] at h
     obtain ⟨rest, r1, r2⟩ := y2 R h
     exact ⟨rest, by simp only [findLabel, e1]; exact r1, r2⟩
   | some r =>
    obtain ⟨rx, r1, r2⟩ := x2 r hx
    refine ⟨fun h => ?_, fun R h => ?_⟩
    ·simp only [afind, hx] at h
     cases h
    ·simp only [afind, hx, Option.some.injEq] at h
     subst h
     exact ⟨.seq rx y, by simp only [findLabel, r1], by simp only [trCode, r2, hY]⟩
  ·cases ht
 | label l0 =>
  intro A ht l
  simp only [trCode] at ht
  split at ht
  ·simp only [Option.some.injEq] at ht
   subst ht
   simp only [afind, findLabel]
   by_cases e : l0 = l
   ·subst e
    simp [trCode]
   ·have : ¬ 3000000 + l0 = 3000000 + l := by omega
    simp [this, e]
  ·cases ht
 | block id b _ =>
  intro A ht l
  simp only [trCode] at ht
  split at ht
  ·rename_i hid
   simp only [Option.map_eq_some_iff] at ht
   obtain ⟨X, hX, rfl⟩ := ht
   have : afind (.block id X) l = none := by
    cases X <;> simp only [afind]
    rw [if_neg (by omega)]
   exact ⟨fun _ => rfl, fun R h => by rw [this] at h; cases h⟩
  ·cases ht
 | scope c _ =>
  intro A ht l
  simp only [trCode, Option.bind_eq_some_iff] at ht
  obtain ⟨X, hX, ht⟩ := ht
  have hn : ∀ (Y : ACode) (m : Nat), alabels Y = [] → afind Y m = none := by
   intro Y m
   induction Y with
   | seq p q ihp ihq =>
    intro hy
    simp only [alabels, List.append_eq_nil_iff] at hy
    simp only [afind, ihp hy.1, ihq hy.2]
   | block id q _ =>
    intro hy
    cases q <;> simp only [afind]
    simp only [alabels] at hy
    split at hy
    ·cases hy
    ·rw [if_neg (by omega)]
   | _ => intro _; rfl
  have : afind A l = none := by
   unfold scopeA at ht
   split at ht
   ·rename_i hl
    simp only [Option.some.injEq] at ht
    subst ht
    exact hn X l hl
   ·split at ht
    ·split at ht
     ·simp only [Option.some.injEq] at ht
      subst ht
      rfl
     ·simp only [Option.some.injEq] at ht
      subst ht
      rfl
    ·simp only [Option.some.injEq] at ht
     subst ht
     rfl
   ·simp only [Option.some.injEq] at ht
    subst ht
    rfl
  exact ⟨fun _ => rfl, fun R h => by rw [this] at h; cases h⟩
 | skip =>
  intro A ht l
  simp only [trCode, Option.some.injEq] at ht
  subst ht
  exact ⟨fun _ => rfl, fun R h => by cases h⟩
 | ret =>
  intro A ht l
  simp only [trCode, Option.some.injEq] at ht
  subst ht
  exact ⟨fun _ => rfl, fun R h => by cases h⟩
 | refuse why =>
  intro A ht l
  simp only [trCode, Option.some.injEq] at ht
  subst ht
  exact ⟨fun _ => rfl, fun R h => by cases h⟩
 | exit id =>
  intro A ht l
  simp only [trCode, Option.some.injEq] at ht
  subst ht
  split <;> exact ⟨fun _ => rfl, fun R h => by cases h⟩
 | goto id =>
  intro A ht l
  simp only [trCode, Option.some.injEq] at ht
  subst ht
  split <;> exact ⟨fun _ => rfl, fun R h => by cases h⟩
 | region id ops draw =>
  intro A ht l
  simp only [trCode] at ht
  split at ht
  ·cases ht
  ·split at ht
   ·split at ht <;> (simp only [Option.some.injEq] at ht; subst ht; exact ⟨fun _ => rfl, fun R h => by cases h⟩)
   ·simp only [Option.some.injEq] at ht
    subst ht
    exact ⟨fun _ => rfl, fun R h => by cases h⟩
 | cond c x y _ _ =>
  intro A ht l
  simp only [trCode] at ht
  split at ht
  ·simp only [Option.some.injEq] at ht
   subst ht
   exact ⟨fun _ => rfl, fun R h => by cases h⟩
  ·cases ht
 | loop b _ =>
  intro A ht l
  simp only [trCode, Option.map_eq_some_iff] at ht
  obtain ⟨X, hX, rfl⟩ := ht
  exact ⟨fun _ => rfl, fun R h => by cases h⟩
 | rangeFunc g ps as_ bd _ _ =>
  intro A ht l
  simp only [trCode] at ht
  split at ht
  ·split at ht
   ·simp only [Option.some.injEq] at ht
    subst ht
    exact ⟨fun _ => rfl, fun R h => by cases h⟩
   ·cases ht
  ·cases ht
theorem alabels_find {A : ACode} : ∀ {l : Nat}, l ∉ alabels A → afind A l = none := by
 induction A with
 | seq p q ihp ihq =>
  intro l hy
  simp only [alabels, List.mem_append, not_or] at hy
  simp only [afind, ihp hy.1, ihq hy.2]
 | block id q _ =>
  intro l hy
  cases q <;> simp only [afind]
  simp only [alabels] at hy
  split at hy
  ·simp only [List.mem_singleton] at hy
   rw [if_neg (by omega)]
  ·rw [if_neg (by omega)]
 | _ => intro l _; rfl
theorem wpOps_wpList {F : Fence} {ops : Array Oper} {Q : Exit → Act → World → Prop} : ∀ (σ : List Nat), (∀ i ∈ σ, i < ops.size) → wpOpsIn F 0 P ops Q σ = wpListIn F 0 P ops Q (σ.map fun i => ops.getD i default)
 | [], _ => by funext a w; simp [wpOpsIn, wpListIn]
 | i :: σ, hs => by
  have hi := hs i (by simp)
  have ih := wpOps_wpList (F := F) (Q := Q) σ fun j hj => hs j (by simp [hj])
  funext a w
  simp [wpOpsIn, wpListIn, hi, ih]
theorem mapM_at {α β : Type} {f : α → Option β} : ∀ {l : List α} {dl : List β}, l.mapM f = some dl → dl.length = l.length ∧ ∀ (i : Nat) (x : α), l[i]? = some x → ∃ y, dl[i]? = some y ∧ f x = some y
 | [], dl, h => by
  simp at h
  subst h
  exact ⟨rfl, fun i x hx => by simp at hx⟩
 | x :: l, dl, h => by
  simp only [List.mapM_cons, Option.pure_def, Option.bind_eq_bind, Option.bind_eq_some_iff, Option.some.injEq] at h
  obtain ⟨d, hd1, dl', hdl, rfl⟩ := h
  obtain ⟨h1, h2⟩ := mapM_at hdl
  refine ⟨by simp [h1], fun i y hy => ?_⟩
  cases i with
  | zero => simp at hy; subst hy; exact ⟨d, rfl, hd1⟩
  | succ i => simpa using h2 i y (by simpa using hy)
theorem mapM_ordered {f : Oper → Option DOper} {ops : Array Oper} {dl : List DOper} (h : ops.toList.mapM f = some dl) : ∀ (σ : List Nat), (∀ i ∈ σ, i < ops.size) → (σ.map fun i => ops.getD i default).mapM f = some (ordered dl σ)
 | [], _ => by simp [ordered]
 | i :: σ, hs => by
  have hi := hs i (by simp)
  have ih := mapM_ordered h σ fun j hj => hs j (by simp [hj])
  obtain ⟨y, hy, hf⟩ := (mapM_at h).2 i ops[i] (by simp [hi])
  simp only [ordered] at ih
  have e1 : ops.getD i default = ops[i] := by simp [hi]
  have e2 : dl.getD i default = y := by simp [hy]
  simp only [ordered, List.map_cons, List.mapM_cons, e1, e2, hf, ih, Option.pure_def, Option.bind_eq_bind, Option.bind_some]
theorem ordered_range {dl : List DOper} {n : Nat} (h : dl.length = n) : ordered dl (List.range n) = dl := by
 subst h
 apply List.ext_getElem?
 intro i
 simp only [ordered, List.getElem?_map]
 rcases Nat.lt_or_ge i dl.length with hi | hi
 ·simp [List.getElem?_range hi, hi]
 ·simp [List.getElem?_eq_none hi, hi]
theorem noRange_l {q : Prop} {x y : Bool} (h : q ∨ (x && y) = true) : q ∨ x = true := h.imp id fun h => (Bool.and_eq_true _ _ ▸ h).1
theorem noRange_r {q : Prop} {x y : Bool} (h : q ∨ (x && y) = true) : q ∨ y = true := h.imp id fun h => (Bool.and_eq_true _ _ ▸ h).2
theorem noRange_b {q : Prop} {x : Bool} (h : q ∨ x = true) : q ∨ x = true := h
theorem cell_put {D : Nat} {o o' : Obj} (ho : w.heap[D]? = some o) (hn : ∀ c e p, o ≠ .cells c e p) (hn' : ∀ c e p, o' ≠ .cells c e p) (b x : Nat) : (w.putObj D o').cell? ⟨b, x, none⟩ = w.cell? ⟨b, x, none⟩ := by
 unfold World.cell?
 by_cases e : b = D
 ·subst e
  simp only [ho, World.putObj_heap_same (Array.getElem?_eq_some_iff.1 ho).1]
  cases o <;> cases o' <;> first
   | rfl
   | exact absurd rfl (hn _ _ _)
   | exact absurd rfl (hn' _ _ _)
 ·simp only [World.putObj_heap_other e]
theorem rep_put {D : Nat} {o o' : Obj} (ho : w.heap[D]? = some o) (hn : ∀ c e p, o ≠ .cells c e p) (hn' : ∀ c e p, o' ≠ .cells c e p) {v : Value} {x : DV} (hx : RepD S ρ h w v x) : RepD S ρ h (w.putObj D o') v x :=
 hx.monoW (fun _ _ h => h) (fun b o _ => cell_put ho hn hn' b o) (Nat.le_refl _) (fun _ _ h => h) (fun t n' _ hn => ⟨n', hn, Nat.le_refl _, fun _ => rfl⟩)
theorem inv_put (hi : Inv P G S ρ h w) {D : Nat} {o o' : Obj} (ho : w.heap[D]? = some o) (hn : ∀ c e p, o ≠ .cells c e p) (hn' : ∀ c e p, o' ≠ .cells c e p) (hD : ∀ (i : Nat) (r : RI), ρ[i]? = some r → r.block ≠ some D) : Inv P G S ρ h (w.putObj D o') where
 len := hi.len
 bound := fun b o h => by simpa using hi.bound b o h
 glob := fun b x v g => ⟨(hi.glob b x v g).1, (cell_put ho hn hn' b x).trans (hi.glob b x v g).2⟩
 low := fun i b r h1 h2 => by simpa using hi.low i b r h1 h2
 apart := hi.apart
 box := fun i cells tag hc => by
  obtain ⟨b, c, e, g1, g2, g3, g4, g5⟩ := hi.box i cells _ hc
  have hb : b ≠ D := fun e => hD i _ g1 (by rw [← e]; rfl)
  exact ⟨b, c, e, g1, by rw [World.putObj_heap_other hb]; exact g2, g3, fun j x hx => ⟨(g4 j x hx).1, (g4 j x hx).2.1, rep_put ho hn hn' (g4 j x hx).2.2⟩, g5⟩
 nilrow := hi.nilrow
 row := fun i sz n et hc => by
  obtain ⟨b, o1, cap, c, e, g1, g2, g3⟩ := hi.row i sz n et hc
  have hb : b ≠ D := fun e => hD i _ g1 (by rw [← e]; rfl)
  exact ⟨b, o1, cap, c, e, g1, by rw [World.putObj_heap_other hb]; exact g2, g3⟩
 iter := fun i s pos hc => by
  obtain ⟨b, g1, g2⟩ := hi.iter i s pos hc
  have hb : b ≠ D := fun e => hD i _ g1 (by rw [← e]; rfl)
  exact ⟨b, g1, by rw [World.putObj_heap_other hb]; exact g2⟩
 loop := fun i ps as_ bd snap st hc => by
  obtain ⟨b, r, g1, g2, g3, g4, g5⟩ := hi.loop i ps as_ bd snap st hc
  have hb : b ≠ D := fun e => hD i _ g1 (by rw [← e]; rfl)
  exact ⟨b, r, g1, by rw [World.putObj_heap_other hb]; exact g2, g3, g4, fun j x hx => ⟨(g5 j x hx).1, rep_put ho hn hn' (g5 j x hx).2⟩⟩
 own := fun i r hc => by
  obtain ⟨ri, g1, g2⟩ := hi.own i r hc
  refine ⟨ri, g1, g2.mono (fun _ _ h => h) (fun b o _ => cell_put ho hn hn' b o) fun b hb => ⟨World.putObj_heap_other (fun e => hD i _ g1 (by rw [← e]; exact hb)), fun _ h => h⟩⟩
theorem ext_put (E : Ext S ρ h w S' ρ' h' w') {D : Nat} {o o' : Obj} (ho : w'.heap[D]? = some o) (hn : ∀ c e p, o ≠ .cells c e p) (hn' : ∀ c e p, o' ≠ .cells c e p) (hD : w.heap.size ≤ D) : Ext S ρ h w S' ρ' h' (w'.putObj D o') :=
 { E with
  cells := fun b x hx => (cell_put ho hn hn' b x).trans (E.cells b x hx)
  size := by simpa using E.size
  os := E.os, tape := E.tape, output := E.output
  frame := fun b hb hr => by rw [World.putObj_heap_other (by omega)]; exact E.frame b hb hr }
theorem marked_put {N0 : Base} {ds : List Deferred} (m : Marked N0 ρ w ds) {D : Nat} {r : Loop} {o' : Obj} (ho : w.heap[D]? = some (.loop r)) : Marked N0 ρ (w.putObj D o') ds := by
 obtain ⟨h0, l, e, hst, hn, hl⟩ := m
 refine ⟨by simpa using h0, l, e, hst, hn, fun k hk => ⟨(hl k hk).1, ?_, (hl k hk).2.2⟩⟩
 have : k ≠ D := fun e => by rw [e] at hk; have := (hl D hk).2.1; rw [ho] at this; cases this
 rw [World.putObj_heap_other this]
 exact (hl k hk).2.1
mutual
theorem low_of_at {n : Nat} : ∀ {l : List DV}, (∀ (j : Nat) (x : DV), l[j]? = some x → x.low n = true) → DV.lows n l = true
 | [], _ => rfl
 | x :: l, h => by
  simp only [DV.lows, Bool.and_eq_true]
  exact ⟨h 0 x rfl, low_of_at fun j y hy => h (j + 1) y (by simpa using hy)⟩
end
theorem RepD.low (hl : ρ.length = h.length) {v : Value} {x : DV} (hx : RepD S ρ h w v x) : x.low h.length = true := by
 have at_ : ∀ {id b : Nat}, ρ[id]? = some (.box b) → id < h.length := fun hb => by rw [← hl]; exact (List.getElem?_eq_some_iff.1 hb).1
 induction hx with
 | d v x hx => rfl
 | ptr id off b hb => simpa [DV.low] using at_ hb
 | row v sz elems t hx ht hr => simpa [DV.low] using ht
 | agg cs fs hl hh ih => simp only [DV.low]; exact low_of_at ih
 | clo fn p q fp fq hp hq h1 h2 ih1 ih2 => simp only [DV.low, low_of_at ih1, low_of_at ih2, Bool.and_self]
 | tup cs fs hl hh ih => simp only [DV.low]; exact low_of_at ih
 | iface t v x hh ih => simpa [DV.low] using ih
 | yld id b hb => simpa [DV.low] using at_ hb
 | bslc id off n cap b hc hb => simpa [DV.low] using at_ hb
 | rptr A p n cap elems t hx hp ht hr => simpa [DV.low] using ht
 | vslc b o cap id g sz off n hc ht hr => simpa [DV.low] using ht
 | eptr b o' id g k o ht hr => simpa [DV.low] using ht
 | mref id b hb => simpa [DV.low] using at_ hb
theorem RepA.low (hl : ρ.length = h.length) {a : Array Value} (ha : RepA S ρ h w a ad) : DV.lows h.length ad = true := low_of_at fun j x hx => (ha.at_ j x hx).low hl
theorem range_enter (hi : Inv P G S ρ h w) {N0 : Base} {ds : List Deferred} (hst : N0.2.2 = false) (hd : Marked N0 ρ w ds) {r : Loop} {ps : List Nat} {as_ bd : ACode} {snap : List DV} (hk : LoopOk P ps as_ bd .ready r) (ha : RepA S ρ h w r.tmps snap) :
  ∃ S', Ext S ρ h w S' (ρ ++ [.box (w.heap.size + 1)]) (h ++ [.loop ps as_ bd snap .ready]) ((w.alloc (.deferred (some []))).alloc (.loop r)) ∧ Inv P G S' (ρ ++ [.box (w.heap.size + 1)]) (h ++ [.loop ps as_ bd snap .ready]) ((w.alloc (.deferred (some []))).alloc (.loop r)) ∧
   Marked N0 (ρ ++ [.box (w.heap.size + 1)]) ((w.alloc (.deferred (some []))).alloc (.loop r)) (mark w.heap.size :: ds) := by
 have E1 := ext_alloc hi (.deferred (some [])) (fun _ => False) [] [] (fun r b hr hb => by simp at hr)
 have I1 := inv_alloc_old hi (.deferred (some [])) (fun _ => False) [] [] (fun r b hr hb => by simp at hr) rfl (fun i j b r r' hr => by simp at hr) (fun i cells tag hc => by simp at hc) (fun i hc => by simp at hc) (fun i sz n et hc => by simp at hc) (fun i s pos hc => by simp at hc)
 have ha1 := ha.mono E1
 have M1 : Marked N0 ρ (w.alloc (.deferred (some []))) (mark w.heap.size :: ds) := by
  have M0 := hd.mono E1
  rw [List.append_nil] at M0
  obtain ⟨h0, l, e, _, hn, hl⟩ := M0
  obtain ⟨h0', l', e', _, hn', hl'⟩ := hd
  refine ⟨h0, w.heap.size :: l', by rw [e']; rfl, fun hh => absurd (hst.symm.trans hh) (by decide), List.nodup_cons.2 ⟨fun hm => ?_, hn'⟩, fun D hD => ?_⟩
  ·have := (Array.getElem?_eq_some_iff.1 (hl' _ hm).2.1).1
   omega
  ·rcases List.mem_cons.1 hD with rfl | hD
   ·refine ⟨h0', heap_alloc_at _ _, fun i r hr hb => ?_⟩
    have := hi.low i _ r hr hb
    omega
   ·have e2 : l = l' := by
     have := e.symm.trans e'
     exact (List.map_inj_right (fun a b hab => by simpa [mark] using hab)).1 (List.append_cancel_right this)
    subst e2
    exact hl D hD
 simp only [List.append_nil] at E1 I1 ha1
 generalize hw1 : w.alloc (.deferred (some [])) = w1 at *
 have hsz : w1.heap.size = w.heap.size + 1 := by rw [← hw1, size_alloc]
 rw [← hsz]
 have E2 := ext_alloc I1 (.loop r) (fun _ => False) [.box w1.heap.size] [.loop ps as_ bd snap .ready] (fun r b hr hb => by simp at hr; subst hr; simpa [RI.block] using hb.symm)
 refine ⟨_, E1.trans E2, inv_alloc_old I1 (.loop r) (fun _ => False) _ _ (fun r b hr hb => by simp at hr; subst hr; simpa [RI.block] using hb.symm) rfl ?_ (fun i cells tag hc => by rcases i with _ | i <;> simp at hc) (fun i hc => by rcases i with _ | i <;> simp at hc) (fun i sz n et hc => by rcases i with _ | i <;> simp at hc) (fun i s pos hc => by rcases i with _ | i <;> simp at hc) ?_, M1.mono E2⟩
 ·intro i j b r r' hr hr' _ _
  have a1 := (List.getElem?_eq_some_iff.1 hr).1
  have a2 := (List.getElem?_eq_some_iff.1 hr').1
  simp at a1 a2
  omega
 ·intro i ps' as' bd' snap' st' hc
  rcases i with _ | i
  ·simp at hc
   obtain ⟨rfl, rfl, rfl, rfl, rfl⟩ := hc
   exact ⟨w1.heap.size, r, rfl, heap_alloc_at _ _, hk, ha1.len, fun j x hx => ⟨(ha1.at_ j x hx).low I1.len, (ha1.at_ j x hx).mono E2⟩⟩
  ·simp at hc
theorem fits_ready {s : LoopState} {p : Option Code} (h : LSt.fits .ready s p) : s = .ready ∧ p = none := by
 unfold LSt.fits at h
 split at h <;> simp_all
theorem fits_exit {i : Nat} {s : LoopState} {p : Option Code} (h : LSt.fits (.done (some i)) s p) : s = .done ∧ ((p = some (.exit i) ∧ i < 1000000) ∨ ∃ l, p = some (.goto l) ∧ i = gid l ∧ l < 1000000) := by
 unfold LSt.fits at h
 split at h
 ·rename_i he; cases he
 ·rename_i he; cases he
 ·rename_i i0 j he
  cases he
  obtain ⟨rfl, hlt⟩ := h
  exact ⟨rfl, .inl ⟨rfl, hlt⟩⟩
 ·rename_i i0 l he
  cases he
  exact ⟨rfl, .inr ⟨l, rfl, h⟩⟩
 ·rename_i he; cases he
 ·cases h
theorem fits_ret {s : LoopState} {p : Option Code} (h : LSt.fits (.done none) s p) : s = .done ∧ p = some .ret := by
 unfold LSt.fits at h
 split at h <;> simp_all
theorem code_sim {F : Fence} (hF : Wide F) (hc : CallsOk P call) (hS : CallS P G call) {k : Nat} {loop : LoopF} (hL : LoopS P G k loop) (hJ : GotoS P G k loop) (M : Marks) : ∀ (c : Code) (A : ACode), trCode P M c = some A → (F.round = none ∨ A.noRange = true) → ∀ (a : Act) (ad : List DV) (S : Settled) (ρ : List RI) (h : List Res) (w : World) (e : DExit) (ad' : List DV) (h' : List Res) (N0 : Base) (Q : Exit → Act → World → Prop),
  Inv P G S ρ h w → RepA S ρ h w a.tmps ad → Marked N0 ρ w a.defers → (N0.2.2 = false ∨ A.noRange = true) → dexec call loop A ad h = some (e, ad', h') → (∀ e' a' w', Post P G N0 S ρ h w e ad' h' e' a' w' → Q e' a' w') → c.wpIn F 0 P Q a w := by
 intro c
 induction c with
 | skip =>
  intro A ht hR a ad S ρ h w e ad' h' N0 Q hi ha hd hT hr hQ
  simp only [trCode, Option.some.injEq] at ht
  subst ht
  simp only [dexec, Option.some.injEq, Prod.mk.injEq] at hr
  obtain ⟨rfl, rfl, rfl⟩ := hr
  exact wpIn_skip (hQ _ _ _ ⟨S, ρ, ha, Ext.refl _ _ _ _, hi, hd, trivial⟩)
 | region id ops draw =>
  intro A ht hR a ad S ρ h w e ad' h' N0 Q hi ha hd hT hr hQ
  simp only [trCode] at ht
  split at ht
  ·cases ht
  ·rename_i dl hdl
   split at ht
   ·rename_i hdraw
    subst hdraw
    split at ht
    ·rename_i hok
     simp only [Bool.and_eq_true] at hok
     obtain ⟨hm, hok⟩ := hok
     simp only [Option.some.injEq] at ht
     subst ht
     simp only [dexec] at hr
     split at hr
     ·rename_i a1 h1 hmain
      split at hr
      ·rename_i hsame
       simp only [Option.some.injEq, Prod.mk.injEq] at hr
       obtain ⟨rfl, rfl, rfl⟩ := hr
       have hlen := (mapM_at hdl).1
       simp only [Array.length_toList] at hlen
       have hsame' : ∀ l ∈ (M.alts id).map (ordered dl), dops call l ad h = some (.normal, a1, h1) := by
        simp only [same, decide_eq_true_eq] at hsame
        exact hsame
       refine wpIn_region_draw fun t => ?_
       have hlin := lin_spec (ops := ops) (by simp only [drawOk, Bool.and_eq_true] at hok; exact hok.1.1) t
       have hs : ∀ i ∈ Region.linearise .any ops t, i < ops.size := fun i hi => (hlin.2.1 i).1 hi
       simp only [Region.schedule, hm, Bool.true_or, if_true]
       rw [wpOps_wpList _ hs]
       have hrun := draw_all (call := call) (a := ad) (h := h) hok t (r := (a1, h1)) fun τ hτ => by
        rcases List.mem_cons.1 hτ with rfl | hτ
        ·rw [ordered_range hlen]; exact hmain
        ·exact hsame' _ (List.mem_map.2 ⟨τ, hτ, rfl⟩)
       have E0 : Ext S ρ h w S ρ h { w with drawn := w.drawn + 1 } := by
        obtain ⟨e1, e2, e3, e4, e5, e6, e7, e8, e9, e10, e11, e12⟩ := Ext.refl S ρ h w
        exact ⟨e1, e2, e3, e4, e5, e6, e7, e8, e9, e10, e11, e12⟩
       have I0 : Inv P G S ρ h { w with drawn := w.drawn + 1 } := by
        refine ⟨hi.len, hi.bound, hi.glob, hi.low, hi.apart, ?_, hi.nilrow, hi.row, hi.iter, fun i ps as_ bd snap st h1 => by
         obtain ⟨b, r, g1, g2, g3, g4, g5⟩ := hi.loop i ps as_ bd snap st h1
         exact ⟨b, r, g1, g2, g3, g4, fun j x hx => ⟨(g5 j x hx).1, (g5 j x hx).2.mono E0⟩⟩, fun i r hc => by
         obtain ⟨ri, g1, g2⟩ := hi.own i r hc
         exact ⟨ri, g1, OwnOk.mono (w := w) (w' := { w with drawn := w.drawn + 1 }) (fun _ _ h => h) (fun _ _ _ => rfl) (fun b hb => ⟨rfl, fun _ h => h⟩) g2⟩⟩
        intro i cells tag hc
        obtain ⟨b, c, e, p1, p2, p3, p4, p5⟩ := hi.box i cells _ hc
        exact ⟨b, c, e, p1, p2, p3, fun j x hx => ⟨(p4 j x hx).1, (p4 j x hx).2.1, ((p4 j x hx).2.2).mono E0⟩, p5⟩
       refine ops_sim hF hc hS _ _ (mapM_ordered hdl _ hs) a ad S ρ h _ .normal a1 h1 N0 Q I0 (ha.mono E0) (hd.mono E0) hrun fun e' a' w' hp => ?_
       obtain ⟨S2, ρ2, q1, q2, q3, q4, q5⟩ := hp
       exact hQ _ _ _ ⟨S2, ρ2, q1, E0.trans q2, q3, q4, q5⟩
      ·cases hr
     ·cases hr
    ·simp only [Option.some.injEq] at ht
     subst ht
     cases hr
   ·rename_i hdraw
    have : draw = false := by simpa using hdraw
    subst this
    simp only [Option.some.injEq] at ht
    subst ht
    simp only [dexec] at hr
    exact wpIn_region_list (ops_sim hF hc hS ops.toList dl hdl a ad S ρ h w e ad' h' N0 Q hi ha hd hr hQ)
 | seq x y ihx ihy =>
  intro A ht hR a ad S ρ h w e ad' h' N0 Q hi ha hd hT hr hQ
  simp only [trCode] at ht
  split at ht
  ·rename_i X Y hX hY
   simp only [Option.some.injEq] at ht
   subst ht
   simp only [dexec] at hr
   refine wpIn_seq ?_
   cases hx : dexec call loop X ad h with
   | none => rw [hx] at hr; cases hr
   | some r =>
    obtain ⟨e1, ad1, h1⟩ := r
    rw [hx] at hr
    refine ihx X hX (noRange_l hR) a ad S ρ h w e1 ad1 h1 N0 _ hi ha hd (noRange_l hT) hx fun e' a' w' hp => ?_
    cases e1 with
    | normal =>
     simp only at hr
     obtain ⟨S1, ρ1, p1, p2, p3, p4, p5⟩ := hp
     cases e' <;> simp only [ExitOk] at p5
     simp only [Exit.then]
     refine ihy Y hY (noRange_r hR) a' ad1 S1 ρ1 h1 w' e ad' h' N0 Q p3 p1 p4 (noRange_r hT) hr fun e2 a2 w2 hp2 => ?_
     obtain ⟨S2, ρ2, q1, q2, q3, q4, q5⟩ := hp2
     exact hQ _ _ _ ⟨S2, ρ2, q1, p2.trans q2, q3, q4, q5⟩
    | _ =>
     simp only [Option.some.injEq, Prod.mk.injEq] at hr
     obtain ⟨rfl, rfl, rfl⟩ := hr
     have hp' := hp
     obtain ⟨S1, ρ1, p1, p2, p3, p4, p5⟩ := hp
     cases e' <;> simp only [ExitOk] at p5 <;> simp only [Exit.then] <;> exact hQ _ _ _ hp'
  ·cases ht
 | cond c x y ihx ihy =>
  intro A ht hR a ad S ρ h w e ad' h' N0 Q hi ha hd hT hr hQ
  simp only [trCode] at ht
  split at ht
  ·rename_i c' X Y hc' hX hY
   simp only [Option.some.injEq] at ht
   subst ht
   simp only [dexec] at hr
   have g := rep_opd ha hc'
   split at hr
   ·rename_i b eb
    rw [eb] at g
    have := repF_bool (repD_d g)
    refine wpIn_cond this ?_
    cases b with
    | true => exact ihx X hX (noRange_l hR) a ad S ρ h w e ad' h' N0 Q hi ha hd (noRange_l hT) (by simpa using hr) hQ
    | false => exact ihy Y hY (noRange_r hR) a ad S ρ h w e ad' h' N0 Q hi ha hd (noRange_r hT) (by simpa using hr) hQ
   ·cases hr
  ·cases ht
 | block id b ih =>
  intro A ht hR a ad S ρ h w e ad' h' N0 Q hi ha hd hT hr hQ
  simp only [trCode] at ht
  split at ht
  rotate_left
  ·cases ht
  rename_i hid
  simp only [Option.map_eq_some_iff] at ht
  obtain ⟨X, hX, rfl⟩ := ht
  simp only [dexec] at hr
  refine wpIn_block ?_
  cases hx : dexec call loop X ad h with
  | none => rw [hx] at hr; cases hr
  | some r =>
   obtain ⟨e1, ad1, h1⟩ := r
   rw [hx] at hr
   refine ih X hX (noRange_b hR) a ad S ρ h w e1 ad1 h1 N0 _ hi ha hd (noRange_b hT) hx fun e' a' w' hp => ?_
   cases e1 with
   | exit i =>
    have hp' := hp
    obtain ⟨S1, ρ1, p1, p2, p3, p4, p5⟩ := hp
    cases e' <;> simp only [ExitOk] at p5
    ·obtain ⟨rfl, hlt⟩ := p5
     simp only [Exit.inBlock]
     simp only at hr
     split
     ·rename_i heq
      rw [if_pos heq] at hr
      simp only [Option.some.injEq, Prod.mk.injEq] at hr
      obtain ⟨rfl, rfl, rfl⟩ := hr
      exact hQ _ _ _ ⟨S1, ρ1, p1, p2, p3, p4, trivial⟩
     ·rename_i heq
      rw [if_neg heq] at hr
      simp only [Option.some.injEq, Prod.mk.injEq] at hr
      obtain ⟨rfl, rfl, rfl⟩ := hr
      exact hQ _ _ _ hp'
    ·simp only [Exit.inBlock]
     simp only at hr
     have hne : ¬ i = id := by
      have := p5.1
      unfold gid at this
      omega
     rw [if_neg hne] at hr
     simp only [Option.some.injEq, Prod.mk.injEq] at hr
     obtain ⟨rfl, rfl, rfl⟩ := hr
     exact hQ _ _ _ hp'
   | _ =>
    simp only [Option.some.injEq, Prod.mk.injEq] at hr
    obtain ⟨rfl, rfl, rfl⟩ := hr
    have hp' := hp
    obtain ⟨S1, ρ1, p1, p2, p3, p4, p5⟩ := hp
    cases e' <;> simp only [ExitOk] at p5 <;> simp only [Exit.inBlock] <;> exact hQ _ _ _ hp'
 | loop b ih =>
  intro A ht hR a ad S ρ h w e ad' h' N0 Q hi ha hd hT hr hQ
  simp only [trCode, Option.map_eq_some_iff] at ht
  obtain ⟨X, hX, rfl⟩ := ht
  simp only [dexec] at hr
  exact wpIn_loop_rounds k (hL F hF M h.length _ _ _ b X hX (noRange_b hR) a _ S ρ h w e ad' h' N0 Q hi (ha.mask _) hd (noRange_b hT) (fun _ => rfl) hr hQ)
 | exit id =>
  intro A ht hR a ad S ρ h w e ad' h' N0 Q hi ha hd hT hr hQ
  simp only [trCode, Option.some.injEq] at ht
  subst ht
  split at hr
  ·rename_i hid
   simp only [dexec, Option.some.injEq, Prod.mk.injEq] at hr
   obtain ⟨rfl, rfl, rfl⟩ := hr
   exact wpIn_exit (hQ _ _ _ ⟨S, ρ, ha, Ext.refl _ _ _ _, hi, hd, rfl, hid⟩)
  ·simp [dexec] at hr
 | ret =>
  intro A ht hR a ad S ρ h w e ad' h' N0 Q hi ha hd hT hr hQ
  simp only [trCode, Option.some.injEq] at ht
  subst ht
  simp only [dexec, Option.some.injEq, Prod.mk.injEq] at hr
  obtain ⟨rfl, rfl, rfl⟩ := hr
  exact wpIn_ret (hQ _ _ _ ⟨S, ρ, ha, Ext.refl _ _ _ _, hi, hd, trivial⟩)
 | rangeFunc g ps as_ bd _ _ =>
  intro A ht hR a ad S ρ h w e ad' h' N0 Q hi ha hd hT hr hQ
  simp only [trCode] at ht
  split at ht
  ·rename_i f' A' B' hf' hA' hB'
   split at ht
   ·rename_i hno
    simp only [Option.some.injEq] at ht
    subst ht
    have hro : F.round = none := hR.elim id fun h => by simp [ACode.noRange] at h
    have hst : N0.2.2 = false := hT.elim id fun h => by simp [ACode.noRange] at h
    have g1 := rep_opd ha hf'
    simp only [dexec] at hr
    refine wpIn_rangeFunc fun fn hfn => ?_
    rw [hro]
    let r : Loop := { state := .ready, pending := none, fn, tmps := a.tmps, params := ps, assign := as_, body := bd, defers := w.heap.size }
    obtain ⟨S1, E1, I1, M1⟩ := range_enter (r := r) hi hst hd (ps := ps.toList) (as_ := A') (bd := B') (snap := Deepv.mask (M.sn (firstRegion bd)) ad) ⟨rfl, ⟨M, hA', hB'⟩, by simpa using hno, trivial⟩ (ha.mask _)
    have henter := run_enterLoop_outer (P := P) (w := w) fn a.tmps ps as_ bd
    generalize hw1 : (w.alloc (.deferred (some []))).alloc (.loop r) = w1 at *
    have hy : RepD S1 (ρ ++ [.box (w.heap.size + 1)]) (h ++ [.loop ps.toList A' B' (Deepv.mask (M.sn (firstRegion bd)) ad) .ready]) w1 (.func (.yield (w.heap.size + 1)) #[] #[]) (.yld h.length) := .yld _ _ (by rw [← hi.len]; simp)
    have g2 := g1.mono E1
    have key : ∀ (fv : DV), ev ad f' = fv → (∀ id, fv ≠ .yld id) → ∀ out, dcallV call fv [.yld h.length] (h ++ [.loop ps.toList A' B' (Deepv.mask (M.sn (firstRegion bd)) ad) .ready]) = some out →
      ∃ gf lb args1, a.eval g = .func (.func gf) args1 lb ∧ (callFunc gf (args1 ++ #[.func (.yield (w.heap.size + 1)) #[] #[]] ++ lb)).run P w1 = .ok (.enter gf (args1 ++ #[.func (.yield (w.heap.size + 1)) #[] #[]] ++ lb)) w1 ∧
       Calls P gf (args1 ++ #[.func (.yield (w.heap.size + 1)) #[] #[]] ++ lb) w1 (CallPost P G S1 (ρ ++ [.box (w.heap.size + 1)]) (h ++ [.loop ps.toList A' B' (Deepv.mask (M.sn (firstRegion bd)) ad) .ready]) w1 out) := by
     intro fv he hny out hd1
     rw [he] at g2
     have one : (#[Value.func (.yield (w.heap.size + 1)) #[] #[]] : Array Value).size = [DV.yld h.length].length := rfl
     have ryl : ∀ (j : Nat) (x : DV), [DV.yld h.length][j]? = some x → RepD S1 (ρ ++ [.box (w.heap.size + 1)]) (h ++ [.loop ps.toList A' B' (Deepv.mask (M.sn (firstRegion bd)) ad) .ready]) w1 ((#[Value.func (.yield (w.heap.size + 1)) #[] #[]] : Array Value).getD j undef) x := fun j x hx => by
      rcases j with _ | j
      ·simp at hx; subst hx; exact hy
      ·simp at hx
     simp only [dcallV] at hd1
     split at hd1
     ·rename_i gf p q
      obtain ⟨fn', f1, f2, f3⟩ := hc _ _ _ _ hd1
      have gg := repD_d g2
      generalize hv : a.eval g = vf at *
      cases gg with
      | func _ p' q' fp fq hp hq h1 h2 =>
       refine ⟨gf, q', p', rfl, run_callFunc f1 f2 f3, ?_⟩
       have s1 := rep_append (S := S1) (w := w1) (ds := p.map .d) (by simpa using hp) one (fun j x hx => by
        simp only [List.getElem?_map, Option.map_eq_some_iff] at hx
        obtain ⟨y, hy, rfl⟩ := hx
        exact .d _ _ (h1 j y hy)) ryl
       have s2 := rep_append (es := q.map .d) s1.1 (by simpa using hq) s1.2 (fun j x hx => by
        simp only [List.getElem?_map, Option.map_eq_some_iff] at hx
        obtain ⟨y, hy, rfl⟩ := hx
        exact .d _ _ (h2 j y hy))
       exact hS.fn gf _ _ S1 _ _ w1 out I1 s2.1 s2.2 hd1
     ·rename_i gf p q
      obtain ⟨fn', f1, f2, f3⟩ := hc _ _ _ _ hd1
      generalize hv : a.eval g = vf at *
      cases g2 with
      | clo _ p' q' fp fq hp hq h1 h2 =>
       refine ⟨gf, q', p', rfl, run_callFunc f1 f2 f3, ?_⟩
       have s1 := rep_append (S := S1) (w := w1) (ds := p) hp one h1 ryl
       have s2 := rep_append (es := q) s1.1 hq s1.2 h2
       exact hS.fn gf _ _ S1 _ _ w1 out I1 s2.1 s2.2 hd1
     ·exact absurd rfl (hny _)
     ·cases hd1
    split at hr
    ·cases hr
    ·rename_i hny
     split at hr
     ·rename_i v h1 hd1
      obtain ⟨gf, lb, args1, hev, hinv, hcall⟩ := key _ rfl (fun id hid => hny id hid) _ hd1
      refine ⟨w.heap.size + 1, [mark w.heap.size], w1, { target := .fn (.func gf) lb, args := args1 ++ #[.func (.yield (w.heap.size + 1)) #[] #[]] }, w1, gf, _, w1, ?_, ?_, fun f' _ => hF.fn f', ?_, (fun hh => by rw [hF.depth] at hh; cases hh), hF.calls (hcall.mono fun e1 w3 hp => ?_)⟩
      ·rw [henter]; rfl
      ·simp [resolve, rangeCall, Deferred.ofValue, hev]
       rfl
      ·simpa [invoke] using hinv
      ·obtain ⟨x, S3, ρ3, rfl, hx, E3, I3⟩ := hp
       have E13 := E1.trans E3
       have hρl : ρ3[h.length]? = some (.box (w.heap.size + 1)) := E3.boxes _ _ (by rw [← hi.len]; simp)
       have M3 := M1.mono E3
       have fin : ∀ (ps1 : List Nat) (as1 bd1 : ACode) (snap1 : List DV) (st : LSt), h1[h.length]? = some (.loop ps1 as1 bd1 snap1 st) → st ≠ .busy →
         ∃ r3, w3.heap[w.heap.size + 1]? = some (.loop r3) ∧ LSt.fits st r3.state r3.pending ∧ (Instr.endLoop (w.heap.size + 1)).run P w3 = .ok r3.pending (w3.putObj (w.heap.size + 1) (.loop { r3 with state := .exhausted })) := by
        intro ps1 as1 bd1 snap1 st hl hne
        obtain ⟨b, r3, q1, q2, q3, q4, q5⟩ := I3.loop _ _ _ _ _ _ hl
        rw [hρl] at q1
        simp only [Option.some.injEq, RI.box.injEq] at q1
        subst q1
        refine ⟨r3, q2, q3.state, run_endLoop q2 ?_⟩
        have q := q3.state
        cases st with
        | ready => rw [(fits_ready q).1]; exact fun h => by cases h
        | busy => exact absurd rfl hne
        | done j => cases j with
         | none => rw [(fits_ret q).1]; exact fun h => by cases h
         | some j => rw [(fits_exit q).1]; exact fun h => by cases h
       have post : ∀ r3 : Loop, w3.heap[w.heap.size + 1]? = some (.loop r3) → Post P G N0 S ρ h w .normal ad (h1.take h.length) .normal { a with defers := [mark w.heap.size] ++ a.defers } (w3.putObj (w.heap.size + 1) (.loop { r3 with state := .exhausted })) := by
        intro r3 h3
        have nc : ∀ (r : Loop) c e p, Obj.loop r ≠ .cells c e p := fun r c e p h => by cases h
        have hD : ∀ (i : Nat) (r : RI), (ρ3.take h.length)[i]? = some r → r.block ≠ some (w.heap.size + 1) := fun i r hir hb => by
         obtain ⟨hin, hir⟩ := take_some hir
         have := I3.apart i h.length _ _ _ hir hρl hb rfl
         omega
        have Et := E13.take hi
        refine ⟨S3, ρ3.take h.length, ?_, ext_put Et h3 (nc _) (nc _) (by omega), inv_put (I3.take _) h3 (nc _) (nc _) hD, marked_put (M3.take _) h3, trivial⟩
        have hat := (ha.mono E13).take (ha.low hi.len)
        exact ⟨hat.len, fun j x hx => rep_put h3 (nc _) (nc _) (hat.at_ j x hx)⟩
       split at hr <;> first
        | (cases hr; done)
        | skip
       ·rename_i hl
        simp only [Option.some.injEq, Prod.mk.injEq] at hr
        obtain ⟨rfl, rfl, rfl⟩ := hr
        obtain ⟨r3, h3, hfit, hend⟩ := fin _ _ _ _ _ hl (fun h => by cases h)
        have pp := post r3 h3
        generalize w3.putObj (w.heap.size + 1) (.loop { r3 with state := .exhausted }) = w4 at hend pp
        refine ⟨r3.pending, w4, hend, ?_⟩
        have : r3.pending = none := (fits_ready hfit).2
        rw [this]
        exact hQ _ _ _ pp
       ·rename_i i hl
        simp only [Option.some.injEq, Prod.mk.injEq] at hr
        obtain ⟨rfl, rfl, rfl⟩ := hr
        obtain ⟨r3, h3, hfit, hend⟩ := fin _ _ _ _ _ hl (fun h => by cases h)
        have pp := post r3 h3
        generalize w3.putObj (w.heap.size + 1) (.loop { r3 with state := .exhausted }) = w4 at hend pp
        refine ⟨r3.pending, w4, hend, ?_⟩
        obtain ⟨S4, ρ4, p1, p2, p3, p4, p5⟩ := pp
        rcases (fits_exit hfit).2 with ⟨this, hlt⟩ | ⟨lg, this, hg⟩
        ·rw [this]
         exact wpIn_exit (hQ _ _ _ ⟨S4, ρ4, p1, p2, p3, p4, rfl, hlt⟩)
        ·rw [this]
         exact wpIn_goto (hQ _ _ _ ⟨S4, ρ4, p1, p2, p3, p4, hg⟩)
       ·rename_i hl
        simp only [Option.some.injEq, Prod.mk.injEq] at hr
        obtain ⟨rfl, rfl, rfl⟩ := hr
        obtain ⟨r3, h3, hfit, hend⟩ := fin _ _ _ _ _ hl (fun h => by cases h)
        have pp := post r3 h3
        generalize w3.putObj (w.heap.size + 1) (.loop { r3 with state := .exhausted }) = w4 at hend pp
        refine ⟨r3.pending, w4, hend, ?_⟩
        have : r3.pending = some .ret := (fits_ret hfit).2
        rw [this]
        obtain ⟨S4, ρ4, p1, p2, p3, p4, p5⟩ := pp
        exact wpIn_ret (hQ _ _ _ ⟨S4, ρ4, p1, p2, p3, p4, trivial⟩)
     ·cases hr
   ·cases ht
  ·cases ht
 | refuse why =>
  intro A ht hR a ad S ρ h w e ad' h' N0 Q hi ha hd hT hr hQ
  simp only [trCode, Option.some.injEq] at ht
  subst ht
  simp [dexec] at hr
 | scope c ih =>
  intro A ht hR a ad S ρ h w e ad' h' N0 Q hi ha hd hT hr hQ
  simp only [trCode, Option.bind_eq_some_iff] at ht
  obtain ⟨X, hX, ht⟩ := ht
  unfold scopeA at ht
  split at ht
  ·rename_i hl
   simp only [Option.some.injEq] at ht
   subst ht
   refine wpIn_scope_goto (m := 1) ?_
   unfold Code.scopeIn
   refine ih X hX hR a ad S ρ h w e ad' h' N0 _ hi ha hd hT hr fun e' a' w' hp => ?_
   have hq := hQ e' a' w' hp
   cases e' with
   | goto l =>
    have : findLabel c l = none := (label_spec M c X hX l).1 (alabels_find (by rw [hl]; simp))
    simp only [this]
    exact hq
   | _ => exact hq
  ·rename_i l hl
   split at ht
   ·rename_i R hR'
    split at ht
    ·rename_i hlt
     simp only [Option.some.injEq] at ht
     subst ht
     obtain ⟨rest, f1, f2⟩ := (label_spec M c X hX l).2 R hR'
     have f3 : ∀ l', l' ≠ l → findLabel c l' = none := fun l' hne => (label_spec M c X hX l').1 (alabels_find (by rw [hl]; simpa using hne))
     have nX : F.round = none ∨ X.noRange = true := hR.imp _root_.id fun hn => by simp only [ACode.noRange, Bool.and_eq_true] at hn; exact hn.1.1
     have nR : F.round = none ∨ R.noRange = true := hR.imp _root_.id fun hn => by simp only [ACode.noRange, Bool.and_eq_true] at hn; exact hn.2.1
     have mX : N0.2.2 = false ∨ X.noRange = true := hT.imp _root_.id fun hn => by simp only [ACode.noRange, Bool.and_eq_true] at hn; exact hn.1.1
     have mR : N0.2.2 = false ∨ R.noRange = true := hT.imp _root_.id fun hn => by simp only [ACode.noRange, Bool.and_eq_true] at hn; exact hn.2.1
     have hgk : ¬ kid l = gid l := by unfold kid gid; omega
     refine wpIn_scope_goto (m := k + 1) ?_
     unfold Code.scopeIn
     simp only [dexec] at hr
     cases hx : dexec call loop X ad h with
     | none => rw [hx] at hr; cases hr
     | some r =>
      obtain ⟨e1, ad1, h1⟩ := r
      rw [hx] at hr
      refine ih X hX nX a ad S ρ h w e1 ad1 h1 N0 _ hi ha hd mX hx fun e' a' w' hp => ?_
      cases e1 with
      | normal =>
       simp only [if_neg hgk, if_true, Option.some.injEq, Prod.mk.injEq] at hr
       obtain ⟨rfl, rfl, rfl⟩ := hr
       have hp' := hp
       obtain ⟨S1, ρ1, p1, p2, p3, p4, p5⟩ := hp
       cases e' <;> simp only [ExitOk] at p5
       exact hQ _ _ _ hp'
      | ret =>
       simp only [Option.some.injEq, Prod.mk.injEq] at hr
       obtain ⟨rfl, rfl, rfl⟩ := hr
       have hp' := hp
       obtain ⟨S1, ρ1, p1, p2, p3, p4, p5⟩ := hp
       cases e' <;> simp only [ExitOk] at p5
       exact hQ _ _ _ hp'
      | pan v =>
       simp only [Option.some.injEq, Prod.mk.injEq] at hr
       obtain ⟨rfl, rfl, rfl⟩ := hr
       have hp' := hp
       obtain ⟨S1, ρ1, p1, p2, p3, p4, p5⟩ := hp
       cases e' <;> simp only [ExitOk] at p5
       exact hQ _ _ _ hp'
      | exit i =>
       have hp' := hp
       obtain ⟨S1, ρ1, p1, p2, p3, p4, p5⟩ := hp
       by_cases hg : i = gid l
       ·subst hg
        simp only [if_true] at hr
        cases e' <;> simp only [ExitOk] at p5
        ·unfold gid at p5
         omega
        rename_i l'
        have hl' : l' = l := by have := p5.1; unfold gid at this; omega
        subst hl'
        simp only [f1]
        cases hlp : loop h1.length (M.cut (5000000 + l')) (M.hd (5000000 + l')) (M.ex (5000000 + l')) (.block (gid l') (.seq R (.exit (kid l')))) (mask (M.hd (5000000 + l')) ad1) h1 with
        | none => rw [hlp] at hr; cases hr
        | some q =>
         obtain ⟨e2, ad2, h2⟩ := q
         rw [hlp] at hr
         refine hJ F hF M h1.length _ _ _ c rest l' R hlt f1 f3 f2 nR a' _ S1 ρ1 h1 w' e2 ad2 h2 N0 Q p3 (p1.mask _) p4 mR (fun _ => rfl) hlp fun e3 a3 w3 hp3 => ?_
         have fin : Post P G N0 S1 ρ1 h1 w' e ad' h' e3 a3 w3 := by
          cases e2 with
          | exit i2 =>
           simp only at hr
           by_cases hk : i2 = kid l'
           ·rw [if_pos hk] at hr
            simp only [Option.some.injEq, Prod.mk.injEq] at hr
            obtain ⟨rfl, rfl, rfl⟩ := hr
            simpa [unk, hk] using hp3
           ·rw [if_neg hk] at hr
            simp only [Option.some.injEq, Prod.mk.injEq] at hr
            obtain ⟨rfl, rfl, rfl⟩ := hr
            simpa [unk, hk] using hp3
          | _ =>
           simp only [Option.some.injEq, Prod.mk.injEq] at hr
           obtain ⟨rfl, rfl, rfl⟩ := hr
           simpa [unk] using hp3
         obtain ⟨S2, ρ2, q1, q2, q3, q4, q5⟩ := fin
         exact hQ _ _ _ ⟨S2, ρ2, q1, p2.trans q2, q3, q4, q5⟩
       ·simp only [if_neg hg] at hr
        have hk : ¬ i = kid l := by
         cases e' <;> simp only [ExitOk] at p5
         ·unfold kid; omega
         ·have := p5.1
          unfold gid at this
          unfold kid
          omega
        simp only [if_neg hk, Option.some.injEq, Prod.mk.injEq] at hr
        obtain ⟨rfl, rfl, rfl⟩ := hr
        cases e' <;> simp only [ExitOk] at p5
        ·exact hQ _ _ _ hp'
        ·rename_i l'
         have hne : l' ≠ l := by
          rintro rfl
          exact hg p5.1
         simp only [f3 l' hne]
         exact hQ _ _ _ hp'
    ·simp only [Option.some.injEq] at ht
     subst ht
     simp [dexec] at hr
   ·simp only [Option.some.injEq] at ht
    subst ht
    simp [dexec] at hr
  ·simp only [Option.some.injEq] at ht
   subst ht
   simp [dexec] at hr
 | label l =>
  intro A ht hR a ad S ρ h w e ad' h' N0 Q hi ha hd hT hr hQ
  simp only [trCode] at ht
  split at ht
  ·simp only [Option.some.injEq] at ht
   subst ht
   simp only [dexec, Option.some.injEq, Prod.mk.injEq] at hr
   obtain ⟨rfl, rfl, rfl⟩ := hr
   exact wpIn_label (hQ _ _ _ ⟨S, ρ, ha, Ext.refl _ _ _ _, hi, hd, trivial⟩)
  ·cases ht
 | goto l =>
  intro A ht hR a ad S ρ h w e ad' h' N0 Q hi ha hd hT hr hQ
  simp only [trCode, Option.some.injEq] at ht
  subst ht
  split at hr
  ·rename_i hl
   simp only [dexec, Option.some.injEq, Prod.mk.injEq] at hr
   obtain ⟨rfl, rfl, rfl⟩ := hr
   exact wpIn_goto (hQ _ _ _ ⟨S, ρ, ha, Ext.refl _ _ _ _, hi, hd, rfl, hl⟩)
  ·simp [dexec] at hr
theorem Post.cutoff (hi : Inv P G S ρ h w) {cut : Bool} {n0 : Nat} {N0 : Base} (hn : cut = true → h.length = n0) {e : DExit} {ad' : List DV} {h' : List Res} {ex : List Bool} {e' : Exit} {a' : Act} {w' : World} (ht : trims cut n0 (mask ex ad') = true) (he : ∀ v, e ≠ .pan v) (hp : Post P G N0 S ρ h w e ad' h' e' a' w') :
  Post P G N0 S ρ h w e (mask ex ad') (trim cut n0 h') e' a' w' := by
 obtain ⟨S1, ρ1, p1, p2, p3, p4, p5⟩ := hp
 have ok : ∀ (ρ2 : List RI) (h2 : List Res), ExitOk S1 ρ2 h2 w' e e' := by
  intro ρ2 h2
  cases e <;> cases e' <;> simp only [ExitOk] at p5 ⊢ <;> first
   | exact p5
   | exact absurd rfl (he _)
 cases cut with
 | false => exact ⟨S1, ρ1, p1.mask _, p2, p3, p4, ok _ _⟩
 | true =>
  obtain rfl := hn rfl
  simp only [trims, if_true] at ht
  simp only [trim, if_true]
  exact ⟨S1, ρ1.take h.length, (p1.mask _).take ht, p2.take hi, p3.take _, p4.take _, ok _ _⟩
theorem round_sim (hc : CallsOk P call) (hS : CallS P G call) {k : Nat} {loop : LoopF} (hL : LoopS P G k loop) (hJ : GotoS P G k loop) : LoopS P G (k + 1) (dround call loop) := by
 intro F hF M n0 cut hd ex c A ht hR a ad S ρ h w e ad' h' N0 Q hi ha hdf hT hn hr hQ
 rw [show Code.roundsIn F 0 P c Q (k + 1) a w = c.wpIn F 0 P (Exit.then (Code.roundsIn F 0 P c Q k) Q) a w from rfl]
 unfold dround at hr
 split at hr
 ·rename_i a1 h1 hx
  split at hr
  ·rename_i htr
   refine code_sim hF hc hS hL hJ M c A ht hR a ad S ρ h w _ _ _ N0 _ hi ha hdf hT hx fun e' a' w' hp => ?_
   have hp2 := hp.cutoff hi hn (ex := hd) htr (fun v => by simp)
   obtain ⟨S1, ρ1, p1, p2, p3, p4, p5⟩ := hp2
   cases e' <;> simp only [ExitOk] at p5
   simp only [Exit.then]
   refine hL F hF M n0 cut hd ex c A ht hR a' _ S1 ρ1 _ w' e ad' h' N0 Q p3 p1 p4 hT (fun hcut => ?_) hr fun e2 a2 w2 hp2 => ?_
   ·subst hcut
    obtain rfl := hn rfl
    have := p2.len
    simp only [trim, if_true] at this ⊢
    simp at this ⊢
    omega
   ·obtain ⟨S2, ρ2, q1, q2, q3, q4, q5⟩ := hp2
    exact hQ _ _ _ ⟨S2, ρ2, q1, p2.trans q2, q3, q4, q5⟩
  ·cases hr
 ·rename_i v a1 h1 hx
  simp only [Option.some.injEq, Prod.mk.injEq] at hr
  obtain ⟨rfl, rfl, rfl⟩ := hr
  refine code_sim hF hc hS hL hJ M c A ht hR a ad S ρ h w _ _ _ N0 _ hi ha hdf hT hx fun e' a' w' hp => ?_
  have hp' := hp
  obtain ⟨S1, ρ1, p1, p2, p3, p4, p5⟩ := hp
  cases e' <;> simp only [ExitOk] at p5 <;> simp only [Exit.then] <;> exact hQ _ _ _ hp'
 ·rename_i e1 a1 h1 hne hnp hx
  split at hr
  ·rename_i htr
   simp only [Option.some.injEq, Prod.mk.injEq] at hr
   obtain ⟨rfl, rfl, rfl⟩ := hr
   refine code_sim hF hc hS hL hJ M c A ht hR a ad S ρ h w _ _ _ N0 _ hi ha hdf hT hx fun e' a' w' hp => ?_
   have hp2 := hp.cutoff hi hn (ex := ex) htr (fun v hv => hnp v hv)
   have hp' := hp2
   obtain ⟨S1, ρ1, p1, p2, p3, p4, p5⟩ := hp2
   cases e1 <;> cases e' <;> simp only [ExitOk] at p5 <;> simp only [Exit.then] <;> first
    | exact hQ _ _ _ hp'
    | exact absurd rfl hne
  ·cases hr
 ·cases hr
theorem goto_sim (hc : CallsOk P call) (hS : CallS P G call) {k : Nat} {loop : LoopF} (hL : LoopS P G k loop) (hJ : GotoS P G k loop) : GotoS P G (k + 1) (dround call loop) := by
 intro F hF M n0 cut hd ex c rest l A hlt f1 f3 ht hR a ad S ρ h w e ad' h' N0 Q hi ha hdf hT hn hr hQ
 unfold Code.scopeIn
 unfold dround at hr
 have hgk : ¬ kid l = gid l := by unfold kid gid; omega
 simp only [dexec] at hr
 cases hx : dexec call loop A ad h with
 | none => rw [hx] at hr; cases hr
 | some r =>
  obtain ⟨e1, a1, h1⟩ := r
  rw [hx] at hr
  have done : ∀ (e2 : DExit), (∀ v, e2 ≠ .pan v) → (∀ v, e1 ≠ .pan v) → trims cut n0 (mask ex a1) = true → e = e2 → ad' = mask ex a1 → h' = trim cut n0 h1 → unk l e2 = e1 → ∀ e' a' w', Post P G N0 S ρ h w e1 a1 h1 e' a' w' → Q e' a' w' := by
   rintro e2 hn2 hn1 htr rfl rfl rfl hu e' a' w' hp
   refine hQ _ _ _ ?_
   rw [hu]
   exact hp.cutoff hi hn htr hn1
  refine code_sim hF hc hS hL hJ M rest A ht hR a ad S ρ h w e1 a1 h1 N0 _ hi ha hdf hT hx fun e' a' w' hp => ?_
  cases e1 with
  | normal =>
   simp only [if_neg hgk] at hr
   split at hr
   ·rename_i htr
    simp only [Option.some.injEq, Prod.mk.injEq] at hr
    obtain ⟨rfl, rfl, rfl⟩ := hr
    have key := done _ (fun v => by simp) (fun v => by simp) htr rfl rfl rfl (by simp [unk]) e' a' w' hp
    obtain ⟨S1, ρ1, p1, p2, p3, p4, p5⟩ := hp
    cases e' <;> simp only [ExitOk] at p5
    exact key
   ·cases hr
  | ret =>
   simp only at hr
   split at hr
   ·rename_i htr
    simp only [Option.some.injEq, Prod.mk.injEq] at hr
    obtain ⟨rfl, rfl, rfl⟩ := hr
    have key := done _ (fun v => by simp) (fun v => by simp) htr rfl rfl rfl (by simp [unk]) e' a' w' hp
    obtain ⟨S1, ρ1, p1, p2, p3, p4, p5⟩ := hp
    cases e' <;> simp only [ExitOk] at p5
    exact key
   ·cases hr
  | pan v =>
   simp only [Option.some.injEq, Prod.mk.injEq] at hr
   obtain ⟨rfl, rfl, rfl⟩ := hr
   have key := hQ e' a' w' (by simpa [unk] using hp)
   obtain ⟨S1, ρ1, p1, p2, p3, p4, p5⟩ := hp
   cases e' <;> simp only [ExitOk] at p5
   exact key
  | exit i =>
   by_cases hg : i = gid l
   ·subst hg
    simp only [if_true] at hr
    split at hr
    ·rename_i htr
     have hp2 := hp.cutoff hi hn (ex := hd) htr (fun v => by simp)
     obtain ⟨S1, ρ1, p1, p2, p3, p4, p5⟩ := hp2
     cases e' <;> simp only [ExitOk] at p5
     ·unfold gid at p5
      omega
     rename_i l'
     have hl' : l' = l := by have := p5.1; unfold gid at this; omega
     subst hl'
     simp only [f1]
     refine hJ F hF M n0 cut hd ex c rest l' A hlt f1 f3 ht hR a' _ S1 ρ1 _ w' e ad' h' N0 Q p3 p1 p4 hT (fun hcut => ?_) hr fun e2 a2 w2 hp2 => ?_
     ·subst hcut
      obtain rfl := hn rfl
      have := p2.len
      simp only [trim, if_true] at this ⊢
      simp at this ⊢
      omega
     ·obtain ⟨S2, ρ2, q1, q2, q3, q4, q5⟩ := hp2
      exact hQ _ _ _ ⟨S2, ρ2, q1, p2.trans q2, q3, q4, q5⟩
    ·cases hr
   ·simp only [if_neg hg] at hr
    split at hr
    ·rename_i htr
     simp only [Option.some.injEq, Prod.mk.injEq] at hr
     obtain ⟨rfl, rfl, rfl⟩ := hr
     have hk : ¬ i = kid l := by
      obtain ⟨S1, ρ1, p1, p2, p3, p4, p5⟩ := hp
      cases e' <;> simp only [ExitOk] at p5
      ·unfold kid; omega
      ·have := p5.1
       unfold gid at this
       unfold kid
       omega
     have key := done _ (fun v => by simp) (fun v => by simp) htr rfl rfl rfl (by simp [unk, hk]) e' a' w' hp
     obtain ⟨S1, ρ1, p1, p2, p3, p4, p5⟩ := hp
     cases e' <;> simp only [ExitOk] at p5
     ·exact key
     ·rename_i l'
      have hne : l' ≠ l := by
       rintro rfl
       exact hg p5.1
      simp only [f3 l' hne]
      exact key
    ·cases hr
theorem setAll_rep : ∀ (l : List Nat) (args : List Value) (da : List DV) (tm : Array Value) (ad : List DV), args.length = da.length → (∀ (j : Nat) (x : DV), da[j]? = some x → RepD S ρ h w (args.getD j undef) x) → RepA S ρ h w tm ad →
  RepA S ρ h w ((l.zip args).foldl (fun tmps p => tmps.setIfInBounds p.1 p.2) tm) (setAll ad l da)
 | [], args, da, tm, ad, hl, hr, ha => by simpa [setAll] using ha
 | p :: l, [], [], tm, ad, hl, hr, ha => by simpa [setAll] using ha
 | p :: l, v :: args, x :: da, tm, ad, hl, hr, ha => by
  simp only [setAll, List.zip_cons_cons, List.foldl_cons]
  have h1 := (RepA.put (a := { tmps := tm, defers := [] }) ha (by simpa using hr 0 x rfl) (some p))
  exact setAll_rep l args da _ _ (by simpa using hl) (fun j y hy => by simpa using hr (j + 1) y (by simpa using hy)) h1
 | p :: l, [], x :: da, tm, ad, hl, hr, ha => by simp at hl
 | p :: l, v :: args, [], tm, ad, hl, hr, ha => by simp at hl
theorem loop_upd (hi : Inv P G S ρ h w) {id l : Nat} {ps : List Nat} {as_ bd : ACode} {snap : List DV} {st st' : LSt} (hh : h[id]? = some (.loop ps as_ bd snap st)) (hρ : ρ[id]? = some (.box l)) {r : Loop} (hr : w.heap[l]? = some (.loop r)) (s' : LoopState) (p' : Option Code) (hf : LSt.fits st' s' p') :
  Ext S ρ h w S ρ (h.set id (.loop ps as_ bd snap st')) (w.putObj l (.loop { r with state := s', pending := p' })) ∧ Inv P G S ρ (h.set id (.loop ps as_ bd snap st')) (w.putObj l (.loop { r with state := s', pending := p' })) := by
 have hid : id < h.length := (List.getElem?_eq_some_iff.1 hh).1
 have nc : ∀ (r : Loop) c e p, Obj.loop r ≠ .cells c e p := fun r c e p h => by cases h
 have hl : l < w.heap.size := hi.low id l _ hρ rfl
 obtain ⟨b, r0, g1, g2, g3, g4, g5⟩ := hi.loop id ps as_ bd snap st hh
 rw [hρ] at g1
 simp only [Option.some.injEq, RI.box.injEq] at g1
 subst g1
 rw [hr] at g2
 simp only [Option.some.injEq, Obj.loop.injEq] at g2
 subst g2
 have tip : ∀ t, (((h.set id (.loop ps as_ bd snap st'))[t]?).bind Res.tip) = (h[t]?).bind Res.tip := fun t => by
  by_cases e : t = id
  ·subst e
   rw [List.getElem?_set_self hid, hh]
   rfl
  ·rw [List.getElem?_set_ne (Ne.symm e)]
 have E : Ext S ρ h w S ρ (h.set id (.loop ps as_ bd snap st')) (w.putObj l (.loop { r with state := s', pending := p' })) :=
  {settled := fun _ _ x => x
   cells := fun b o _ => cell_put hr (nc _) (nc _) b o
   len := by simp
   boxes := fun _ _ x => x
   rows := fun t n' _ hn => by rw [tip] at hn; exact ⟨n', hn, Nat.le_refl _, fun _ => rfl⟩
   size := by simp
   os := rfl, tape := rfl, output := rfl
   frame := fun b hb hn => World.putObj_heap_other fun e => hn id _ hρ (by rw [e]; rfl)
   blocks := fun i b r hr hb => .inr ⟨i, r, hr, hb, _root_.id⟩
   fresh := fun _ _ x => .inl x }
 have hset : ρ.set id (.box l) = ρ := set_self _ _ _ hρ
 refine ⟨E, ?_⟩
 have I := inv_upd (S' := S) (ri' := .box l) (r' := .loop ps as_ bd snap st') (w' := w.putObj l (.loop { r with state := s', pending := p' })) hi hid (by rw [hset]; exact E)
  (fun i b r hne hr hb => ⟨World.putObj_heap_other fun e => hne (hi.apart i id _ _ _ hr hρ (by rw [hb, e]) rfl), fun _ x => x⟩)
  (fun b o x => by simpa using hi.bound b o x)
  (fun b hb => ⟨by simp only [RI.block, Option.some.injEq] at hb; subst hb; simpa using hl, fun i r hne hr hb' => hne (by simp only [RI.block, Option.some.injEq] at hb; subst hb; exact hi.apart i id _ _ _ hr hρ hb' rfl)⟩)
  (fun cells tag hc => by cases hc) (fun hc => by cases hc) (fun sz n et hc => by cases hc) (fun s pos hc => by cases hc)
  (fun ps1 as1 bd1 snap1 st1 hc => by
   cases hc
   exact ⟨l, _, rfl, World.putObj_heap_same hl, ⟨g3.params, g3.code, g3.norange, hf⟩, g4, fun j x hx => ⟨(g5 j x hx).1, by rw [hset]; exact (g5 j x hx).2.mono E⟩⟩)
 rwa [hset] at I
theorem endLoop_some {id n : Nat} {st : LSt} {h2 : List Res} {out : DOut} (hh : endLoop id n st h2 = some out) : ∃ ps as_ bd snap st2, h2[id]? = some (.loop ps as_ bd snap st2) ∧ out = .val (.d (.bool st.isReady)) ((h2.set id (.loop ps as_ bd snap st)).take n) := by
 simp only [endLoop, Option.map_eq_some_iff] at hh
 obtain ⟨h3, hm, rfl⟩ := hh
 unfold markLoop at hm
 split at hm
 ·rename_i ps as_ bd snap st2 e
  simp only [Option.some.injEq] at hm
  subst hm
  exact ⟨_, _, _, _, _, e, rfl⟩
 ·cases hm
theorem yield_sim (hc : CallsOk P call) (hS : CallS P G call) {k : Nat} {loop : LoopF} (hL : LoopS P G k loop) (hJ : GotoS P G k loop) (id l : Nat) (args : Array Value) (dargs : List DV) (S : Settled) (ρ : List RI) (h : List Res) (w : World) (out : DOut) (hi : Inv P G S ρ h w) (hρ : ρ[id]? = some (.box l))
  (hl : args.size = dargs.length) (hr : ∀ (j : Nat) (x : DV), dargs[j]? = some x → RepD S ρ h w (args.getD j undef) x) (hd : dyield call loop id dargs h = some out) :
  ∃ f tmps as_ bd, (Instr.yield l args).run P w = .ok (.round l f tmps as_ bd) w ∧ ∀ F : Fence, Wide F → RoundIn F 0 P l f tmps as_ bd w (CallPost P G S ρ h w out) := by
 unfold dyield at hd
 split at hd
 ·rename_i ps A B snap hh
  obtain ⟨b, r, g1, g2, g3, g4, g5⟩ := hi.loop id ps A B snap _ hh
  rw [hρ] at g1
  simp only [Option.some.injEq, RI.box.injEq] at g1
  subst g1
  split at hd
  ·rename_i hlen
   obtain ⟨M, hA, hB⟩ := g3.code
   have hps : args.size = r.params.size := by rw [hl, hlen, ← g3.params]; simp
   refine ⟨_, _, _, _, run_yield g2 hps, fun F hF => ?_⟩
   refine roundIn_of_wpIn (hF.fn _) ?_
   have hT : RepA S ρ h w ((r.params.zip args).foldl (fun tmps p => tmps.setIfInBounds p.1 p.2) r.tmps) (setAll snap ps dargs) := by
    have := setAll_rep (S := S) (ρ := ρ) (h := h) (w := w) r.params.toList args.toList dargs r.tmps snap (by simpa using hl) (fun j x hx => by simpa [Array.getD_eq_getD_getElem?, List.getD_eq_getElem?_getD] using hr j x hx) ⟨g4, fun j x hx => (g5 j x hx).2⟩
    rw [g3.params] at this
    rw [← g3.params] at this ⊢
    simpa [← Array.toList_zip, Array.foldl_toList] using this
   split at hd
   ·rename_i a1 h1 hxa
    split at hd
    ·rename_i ps1 as1 bd1 snap1 hh1
     split at hd
     ·rename_i h1b hmark
      refine code_sim (hF.inRound l) hc hS hL hJ M _ A hA (.inr g3.norange.1) ⟨_, []⟩ _ S ρ h w _ _ _ (0, [], false) _ hi hT (.nil (Nat.zero_le _)) (.inl rfl) hxa fun e' a' w' hp => ?_
      obtain ⟨S1, ρ1, p1, p2, p3, p4, p5⟩ := hp
      cases e' <;> simp only [ExitOk] at p5
      simp only [Exit.then]
      have hρ1 := p2.boxes _ _ hρ
      obtain ⟨b, r1, q1, q2, q3, q4, q5⟩ := p3.loop _ _ _ _ _ _ hh1
      rw [hρ1] at q1
      simp only [Option.some.injEq, RI.box.injEq] at q1
      subst q1
      obtain ⟨s1, s2⟩ := fits_ready q3.state
      refine ⟨_, run_beginRound q2 s1, ?_⟩
      simp only [markLoop, hh1, Option.some.injEq] at hmark
      subst hmark
      obtain ⟨E2, I2⟩ := loop_upd p3 hh1 hρ1 q2 .busy none (st' := .busy) trivial
      have er : ({ r1 with state := .busy } : Loop) = { r1 with state := .busy, pending := none } := by rw [← s2]
      rw [er]
      generalize w'.putObj l (.loop { r1 with state := .busy, pending := none }) = w2 at E2 I2 ⊢
      generalize h1.set id (.loop ps1 as1 bd1 snap1 .busy) = h1b at hd E2 I2
      have fin : ∀ (st : LSt) (jump : Option Code) (h2 : List Res) (S3 : Settled) (ρ3 : List RI) (w3 : World), LSt.fits st (if jump.isNone then .ready else .done) jump → st.isReady = jump.isNone →
        Ext S1 ρ1 h1b w2 S3 ρ3 h2 w3 → Inv P G S3 ρ3 h2 w3 → endLoop id h.length st h2 = some out → ∃ v w4, (Instr.endRound l jump).run P w3 = .ok v w4 ∧ CallPost P G S ρ h w out (.returned v) w4 := by
       intro st jump h2 S3 ρ3 w3 hfit hb E3 I3 hend
       obtain ⟨ps2, as2, bd2, snap2, st2, hh2, rfl⟩ := endLoop_some hend
       have hρ3 := E3.boxes _ _ hρ1
       obtain ⟨b, r2, z1, z2, z3, z4, z5⟩ := I3.loop _ _ _ _ _ _ hh2
       rw [hρ3] at z1
       simp only [Option.some.injEq, RI.box.injEq] at z1
       subst z1
       obtain ⟨E4, I4⟩ := loop_upd I3 hh2 hρ3 z2 _ jump hfit
       refine ⟨_, _, run_endRound jump z2, _, S3, ρ3.take h.length, rfl, ?_, ?_, I4.take _⟩
       ·rw [hb]; exact .d _ _ (.bool _)
       ·exact (((p2.trans E2).trans E3).trans E4).take hi
      refine wpIn_mono (Q := fun e2 a2 w3 => ∃ e, (∃ ad2 h2, dexec call loop B a1 h1b = some (e, ad2, h2) ∧ Post P G (0, [], false) S1 ρ1 h1b w2 e ad2 h2 e2 a2 w3)) ?_ ?_
      ·cases hxb : dexec call loop B a1 h1b with
       | none => rw [hxb] at hd; cases hd
       | some q =>
        obtain ⟨e, ad2, h2⟩ := q
        exact code_sim (hF.inRound l) hc hS hL hJ M _ B hB (.inr g3.norange.2) a' _ S1 ρ1 h1b w2 e ad2 h2 (0, [], false) _ I2 (p1.mono E2) (p4.mono E2) (.inl rfl) hxb fun e' a' w' hp => ⟨e, ad2, h2, rfl, hp⟩
      ·rintro e2 a2 w3 ⟨e, ad2, h2, hxb, hp⟩
       rw [hxb] at hd
       obtain ⟨S3, ρ3, y1, y2, y3, y4, y5⟩ := hp
       cases e with
       | normal =>
        cases e2 <;> simp only [ExitOk] at y5
        exact fin .ready none h2 S3 ρ3 w3 trivial rfl y2 y3 hd
       | ret =>
        cases e2 <;> simp only [ExitOk] at y5
        exact fin (.done none) (some .ret) h2 S3 ρ3 w3 trivial rfl y2 y3 hd
       | exit i =>
        cases e2 <;> simp only [ExitOk] at y5
        ·obtain ⟨rfl, hlt⟩ := y5
         exact fin (.done (some i)) (some (.exit i)) h2 S3 ρ3 w3 ⟨rfl, hlt⟩ rfl y2 y3 hd
        ·rename_i lg
         exact fin (.done (some i)) (some (.goto lg)) h2 S3 ρ3 w3 y5 rfl y2 y3 hd
       | pan v => cases hd
     ·cases hd
    ·cases hd
   ·cases hd
  ·cases hd
 ·cases hd
end
end Go.Deepv
