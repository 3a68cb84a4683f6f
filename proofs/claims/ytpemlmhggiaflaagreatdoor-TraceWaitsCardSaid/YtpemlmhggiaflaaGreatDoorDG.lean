/-
  Operations that make no memory, more kinds: slices cut, tuples, structs built, least and greatest, function values, interface values.
  Conditions: none.
-/
import Derived.Test.YtpemlmhggiaflaaGreatDoorDF
set_option linter.unusedVariables false
set_option linter.unusedSimpArgs false
namespace Go.Deepv
open Go.RowKit

section
variable {P : Program} {G : Glob} {S : Settled} {ρ : List RI} {h : List Res} {w : World} {a : Act} {ad : List DV} {call : Cle → List DV → List Res → Option DOut} {out : DOut}

theorem rep_bound (ha : RepA S ρ h w a.tmps ad) {x : Option Operand} {x' : Option Opd} (ht : optOpd P x = some x') {dflt most n : Nat} (hb : bound x' ad dflt most = some n) :
    (x = none ∧ n = dflt) ∨ ∃ y k, x = some y ∧ a.eval y = .int k n ∧ n ≤ most := by
  unfold optOpd at ht
  split at ht
  · simp only [Option.some.injEq] at ht
    subst ht
    simp only [bound, Option.some.injEq] at hb
    exact .inl ⟨rfl, hb.symm⟩
  · simp only [Option.map_eq_some_iff] at ht
    obtain ⟨y, hy, rfl⟩ := ht
    have g := rep_opd ha hy
    simp only [bound] at hb
    split at hb
    · rename_i i hi
      split at hb
      · rename_i hin
        simp only [Option.some.injEq] at hb
        obtain ⟨k, hk⟩ := rep_int g hi
        refine .inr ⟨_, k, rfl, ?_, by omega⟩
        rw [hk]
        congr 1
        omega
      · cases hb
    · cases hb

theorem run_bounds {isSlice : Bool} {len cap lo hi : Nat} {x y : Option Operand} (hlc : hi ≤ cap) (hlo : lo ≤ hi) (hx : (x = none ∧ lo = 0) ∨ ∃ z k, x = some z ∧ a.eval z = .int k lo) (hy : (y = none ∧ hi = len) ∨ ∃ z k, y = some z ∧ a.eval z = .int k hi) :
    (Instr.sliceBounds isSlice len cap (x.map a.eval) (y.map a.eval) none).run P w = .ok (lo, hi, cap) w := by
  rcases hy with ⟨rfl, rfl⟩ | ⟨z, k, rfl, ez⟩
  · rcases hx with ⟨rfl, rfl⟩ | ⟨z', k', rfl, ez'⟩
    · simp [Instr.sliceBounds]
    · simp [Instr.sliceBounds, ez', Instr.sliceBound, asIntOf, hlo]
  · rcases hx with ⟨rfl, rfl⟩ | ⟨z', k', rfl, ez'⟩
    · simp [Instr.sliceBounds, ez, Instr.sliceBound, asIntOf, hlc]
    · simp [Instr.sliceBounds, ez, ez', Instr.sliceBound, asIntOf, hlc, hlo]

theorem sim_slcStr (hi : Inv P G S ρ h w) (ha : RepA S ρ h w a.tmps ad) {t t1 : TypeId} {x : Operand} {lo hi' : Option Operand} {x' : Opd} {lo' hi'' : Option Opd} (hu : P.underlying t = some .string) (h1 : trOpd P t1 x = some x') (h2 : optOpd P lo = some lo') (h3 : optOpd P hi' = some hi'')
    (hd : dop call (.slcStr x' lo' hi'') ad h = some out) : SimOut P G S ρ h w ((do pure (Next.value (← Instr.sliceAt t (a.eval x) (lo.map a.eval) (hi'.map a.eval) none)) : Sem Next).run P w) out := by
  have g1 := rep_opd ha h1
  simp only [dop] at hd
  split at hd
  · rename_i s es
    split at hd
    · rename_i n hn
      split at hd
      · rename_i m hm
        simp only [Option.some.injEq] at hd
        subst hd
        rw [es] at g1
        rw [repF_str (repD_d g1)]
        have b1 := rep_bound ha h3 hn
        have b2 := rep_bound ha h2 hm
        have hle : n ≤ s.size := by rcases b1 with ⟨_, rfl⟩ | ⟨_, _, _, _, h⟩ <;> omega
        have hle2 : m ≤ n := by rcases b2 with ⟨_, rfl⟩ | ⟨_, _, _, _, h⟩ <;> omega
        have rb := run_bounds (P := P) (w := w) (a := a) (isSlice := false) (len := s.size) (cap := s.size) hle hle2 (by rcases b2 with ⟨e, r⟩ | ⟨y, k, e1, e2, _⟩; exact .inl ⟨e, r⟩; exact .inr ⟨y, k, e1, e2⟩) (by rcases b1 with ⟨e, r⟩ | ⟨y, k, e1, e2, _⟩; exact .inl ⟨e, r⟩; exact .inr ⟨y, k, e1, e2⟩)
        have run : (Instr.sliceAt t (.string s) (lo.map a.eval) (hi'.map a.eval) none).run P w = .ok (.string (s.extract m n)) w := by
          simp [Instr.sliceAt, underlying, hu, Instr.slice, rb]
        rw [run_v run]
        exact SimOut.plain hi (.d _ _ (.str _))
      · cases hd
    · cases hd
  · cases hd

theorem sim_slc (hi : Inv P G S ρ h w) (ha : RepA S ρ h w a.tmps ad) {t t1 e : TypeId} {info : TypeInfo} {x : Operand} {lo hi' : Option Operand} {x' : Opd} {lo' hi'' : Option Opd} (hu : P.underlying t = some (.slice e)) (hinf : P.info? e = some info) (h1 : trOpd P t1 x = some x') (h2 : optOpd P lo = some lo') (h3 : optOpd P hi' = some hi'')
    (hd : dop call (.slc info.size x' lo' hi'') ad h = some out) : SimOut P G S ρ h w ((do pure (Next.value (← Instr.sliceAt t (a.eval x) (lo.map a.eval) (hi'.map a.eval) none)) : Sem Next).run P w) out := by
  have g1 := rep_opd ha h1
  simp only [dop] at hd
  split at hd
  · rename_i sz l es
    split at hd
    · rename_i hsz0
      subst hsz0
      split at hd
      · rename_i n hn
        split at hd
        · rename_i m hm
          simp only [Option.some.injEq] at hd
          subst hd
          have g := rep_elems g1 es
          have b1 := rep_bound ha h3 hn
          have b2 := rep_bound ha h2 hm
          have hle : n ≤ l.length := by rcases b1 with ⟨_, rfl⟩ | ⟨_, _, _, _, h⟩ <;> omega
          have hle2 : m ≤ n := by rcases b2 with ⟨_, rfl⟩ | ⟨_, _, _, _, h⟩ <;> omega
          have hlen : ((l.take n).drop m).length = n - m := by simp; omega
          have run : ∀ (A : Option Addr) (cap : Nat), l.length ≤ cap → (Instr.sliceAt t (.slice A l.length cap) (lo.map a.eval) (hi'.map a.eval) none).run P w = .ok (.slice (if cap = m then A else A.map (·.add (m * info.size))) (n - m) (cap - m)) w := fun A cap hc => by
            have rb := run_bounds (P := P) (w := w) (a := a) (isSlice := true) (len := l.length) (cap := cap) (show n ≤ cap by omega) hle2 (by rcases b2 with ⟨e, r⟩ | ⟨y, k, e1, e2, _⟩; exact .inl ⟨e, r⟩; exact .inr ⟨y, k, e1, e2⟩) (by rcases b1 with ⟨e, r⟩ | ⟨y, k, e1, e2, _⟩; exact .inl ⟨e, r⟩; exact .inr ⟨y, k, e1, e2⟩)
            simp [Instr.sliceAt, underlying, hu, Instr.slice, rb, sizeOf, typeInfo, hinf]
          generalize hvx : a.eval x = vx at *
          have fin : ∀ (A : Option Addr) (cap : Nat), l.length ≤ cap → vx = .slice A l.length cap → RepF S w (.slice (if cap = m then A else A.map (·.add (m * info.size))) (n - m) (cap - m)) (.slice info.size ((l.take n).drop m)) →
              SimOut P G S ρ h w ((do pure (Next.value (← Instr.sliceAt t vx (lo.map a.eval) (hi'.map a.eval) none)) : Sem Next).run P w) (.val (.d (.slice info.size ((l.take n).drop m))) h) := fun A cap hc e hr => by
            rw [e, run_v (run A cap hc)]
            exact SimOut.plain hi (.d _ _ hr)
          cases g with
          | slice0 A cap =>
            refine fin A cap (by simp) rfl ?_
            have : n - m = 0 := by simp at hle; omega
            rw [this]
            have e : (([] : List (List FV)).take n).drop m = [] := by simp
            rw [e]
            exact .slice0 _ _ _
          | slice b o n0 cap _ elems u hn0 hcap hsz hcc hr ho1 =>
            refine fin _ cap (by omega) (by rw [hn0]) ?_
            by_cases h0 : n - m = 0
            · rw [h0]
              have e : (l.take n).drop m = [] := List.eq_nil_of_length_eq_zero (by omega)
              rw [e]
              exact .slice0 _ _ _
            · rw [if_neg (show ¬ cap = m by omega)]
              simp only [Option.map_some, add_none]
              refine .slice b (o + m * info.size) (n - m) (cap - m) info.size _ (fun i j => u (m + i) j) hlen (by omega) (fun i c hc => ?_) (fun i j hi1 hj => ?_) (fun i j c y hc hy => ?_) (fun i j c y hc hy => ?_)
              · rw [List.getElem?_drop, List.getElem?_take] at hc
                split at hc
                · exact hsz _ c hc
                · cases hc
              · have := hcc (m + i) j (by omega) hj
                rwa [Nat.add_mul, ← Nat.add_assoc] at this
              · rw [List.getElem?_drop, List.getElem?_take] at hc
                split at hc
                · exact hr _ j c y hc hy
                · cases hc
              · rw [List.getElem?_drop, List.getElem?_take] at hc
                split at hc
                · exact ho1 _ j c y hc hy
                · cases hc
        · cases hd
      · cases hd
    · cases hd
  · split at hd
    · rename_i id off n0 hb
      split at hd
      · rename_i n hn
        split at hd
        · rename_i m hm
          simp only [Option.some.injEq] at hd
          subst hd
          rw [hb] at g1
          have b1 := rep_bound ha h3 hn
          have b2 := rep_bound ha h2 hm
          have hle : n ≤ n0 := by rcases b1 with ⟨_, rfl⟩ | ⟨_, _, _, _, h⟩ <;> omega
          have hle2 : m ≤ n := by rcases b2 with ⟨_, rfl⟩ | ⟨_, _, _, _, h⟩ <;> omega
          generalize a.eval x = vx at *
          cases g1 with
          | bslc id off n0 cap b hc hbb =>
            have rb := run_bounds (P := P) (w := w) (a := a) (isSlice := true) (len := n0) (cap := cap) (show n ≤ cap by omega) hle2 (by rcases b2 with ⟨e, r⟩ | ⟨y, k, e1, e2, _⟩; exact .inl ⟨e, r⟩; exact .inr ⟨y, k, e1, e2⟩) (by rcases b1 with ⟨e, r⟩ | ⟨y, k, e1, e2, _⟩; exact .inl ⟨e, r⟩; exact .inr ⟨y, k, e1, e2⟩)
            have run : (Instr.sliceAt t (.slice (some ⟨b, off, none⟩) n0 cap) (lo.map a.eval) (hi'.map a.eval) none).run P w = .ok (.slice (if cap = m then some ⟨b, off, none⟩ else (some (⟨b, off, none⟩ : Addr)).map (·.add (m * info.size))) (n - m) (cap - m)) w := by
              simp [Instr.sliceAt, underlying, hu, Instr.slice, rb, sizeOf, typeInfo, hinf]
            rw [run_v run]
            by_cases h0 : n - m = 0
            · rw [if_pos h0, h0]
              exact SimOut.plain hi (.d _ _ (.slice0 _ _ _))
            · rw [if_neg h0, if_neg (show ¬ cap = m by omega)]
              simp only [Option.map_some, add_none]
              exact SimOut.plain hi (.bslc _ _ _ _ _ (by omega) hbb)
        · cases hd
      · cases hd
    · rename_i id g s off n0 hb
      split at hd
      · rename_i hs
        subst hs
        split at hd
        · rename_i n hn
          split at hd
          · rename_i m hm
            simp only [Option.some.injEq] at hd
            subst hd
            rw [hb] at g1
            have b1 := rep_bound ha h3 hn
            have b2 := rep_bound ha h2 hm
            have hle : n ≤ n0 := by rcases b1 with ⟨_, rfl⟩ | ⟨_, _, _, _, h⟩ <;> omega
            have hle2 : m ≤ n := by rcases b2 with ⟨_, rfl⟩ | ⟨_, _, _, _, h⟩ <;> omega
            generalize a.eval x = vx at *
            cases g1 with
            | vslc b o cap _ _ _ _ _ hc ht hr =>
              have rb := run_bounds (P := P) (w := w) (a := a) (isSlice := true) (len := n0) (cap := cap) (show n ≤ cap by omega) hle2 (by rcases b2 with ⟨e, r⟩ | ⟨y, k, e1, e2, _⟩; exact .inl ⟨e, r⟩; exact .inr ⟨y, k, e1, e2⟩) (by rcases b1 with ⟨e, r⟩ | ⟨y, k, e1, e2, _⟩; exact .inl ⟨e, r⟩; exact .inr ⟨y, k, e1, e2⟩)
              have run : (Instr.sliceAt t (.slice (some ⟨b, o, none⟩) n0 cap) (lo.map a.eval) (hi'.map a.eval) none).run P w = .ok (.slice (if cap = m then some ⟨b, o, none⟩ else (some (⟨b, o, none⟩ : Addr)).map (·.add (m * info.size))) (n - m) (cap - m)) w := by
                simp [Instr.sliceAt, underlying, hu, Instr.slice, rb, sizeOf, typeInfo, hinf]
              rw [run_v run]
              by_cases h0 : n - m = 0 ∧ m ≠ 0
              · rw [if_pos h0, h0.1]
                exact SimOut.plain hi (.d _ _ (.slice0 _ _ _))
              · rw [if_neg h0]
                have hA : (if cap = m then some ⟨b, o, none⟩ else (some (⟨b, o, none⟩ : Addr)).map (·.add (m * info.size))) = some (⟨b, o + m * info.size, none⟩ : Addr) := by
                  by_cases hcm : cap = m
                  · have : m = 0 := by omega
                    subst this
                    simp [hcm]
                  · rw [if_neg hcm]
                    simp [add_none]
                rw [hA]
                refine SimOut.plain hi (.vslc _ _ _ _ _ _ _ _ (by omega) ht fun k hk => ⟨(hr k hk).1, fun e => ?_⟩)
                obtain ⟨C, q1, q2, q3, q4⟩ := (hr k hk).2 e
                exact ⟨C, q1, by rw [q2, Nat.add_mul], by omega, by omega⟩
          · cases hd
        · cases hd
      · cases hd
    · cases hd

theorem sim_slcA (hi : Inv P G S ρ h w) (ha : RepA S ρ h w a.tmps ad) {t t1 e : TypeId} {len : Nat} {info : TypeInfo} {x : Operand} {lo hi' : Option Operand} {x' : Opd} {lo' hi'' : Option Opd} (hu : P.underlying t = some (.array len e)) (hinf : P.info? e = some info) (h1 : trOpd P t1 x = some x') (h2 : optOpd P lo = some lo') (h3 : optOpd P hi' = some hi'')
    (hd : dop call (.slcA len info.size x' lo' hi'') ad h = some out) : SimOut P G S ρ h w ((do pure (Next.value (← Instr.sliceAt t (a.eval x) (lo.map a.eval) (hi'.map a.eval) none)) : Sem Next).run P w) out := by
  have g1 := rep_opd ha h1
  simp only [dop] at hd
  split at hd
  · rename_i id off hb
    split at hd
    · rename_i n hn
      split at hd
      · rename_i m hm
        simp only [Option.some.injEq] at hd
        subst hd
        rw [hb] at g1
        have b1 := rep_bound ha h3 hn
        have b2 := rep_bound ha h2 hm
        have hle : n ≤ len := by rcases b1 with ⟨_, rfl⟩ | ⟨_, _, _, _, h⟩ <;> omega
        have hle2 : m ≤ n := by rcases b2 with ⟨_, rfl⟩ | ⟨_, _, _, _, h⟩ <;> omega
        generalize a.eval x = vx at *
        cases g1 with
        | ptr id off b hbb =>
          have rb := run_bounds (P := P) (w := w) (a := a) (isSlice := false) (len := len) (cap := len) hle hle2 (by rcases b2 with ⟨e, r⟩ | ⟨y, k, e1, e2, _⟩; exact .inl ⟨e, r⟩; exact .inr ⟨y, k, e1, e2⟩) (by rcases b1 with ⟨e, r⟩ | ⟨y, k, e1, e2, _⟩; exact .inl ⟨e, r⟩; exact .inr ⟨y, k, e1, e2⟩)
          have run : (Instr.sliceAt t (.pointer (some ⟨b, off, none⟩)) (lo.map a.eval) (hi'.map a.eval) none).run P w = .ok (.slice (some (if len = m then ⟨b, off, none⟩ else (⟨b, off, none⟩ : Addr).add (m * info.size))) (n - m) (len - m)) w := by
            simp [Instr.sliceAt, underlying, hu, Instr.sureAddr, rb, sizeOf, typeInfo, hinf]
          rw [run_v run]
          by_cases h0 : n - m = 0
          · rw [if_pos h0, h0]
            exact SimOut.plain hi (.d _ _ (.slice0 _ _ _))
          · rw [if_neg h0, if_neg (show ¬ len = m by omega)]
            simp only [add_none]
            exact SimOut.plain hi (.bslc _ _ _ _ _ (by omega) hbb)
      · cases hd
    · cases hd
  · cases hd

theorem sim_ext (hi : Inv P G S ρ h w) (ha : RepA S ρ h w a.tmps ad) {t : TypeId} {i : Nat} {x : Operand} {x' : Opd} (h1 : trOpd P t x = some x') (hd : dop call (.ext i x') ad h = some out) :
    SimOut P G S ρ h w ((do pure (Next.value (← Instr.extract (a.eval x) i)) : Sem Next).run P w) out := by
  have g1 := rep_opd ha h1
  have run : ∀ cs : Array Value, i < cs.size → (Instr.extract (.tuple cs) i).run P w = .ok (cs.getD i undef) w := fun cs hl => by
    simp [Instr.extract, hl, Array.getD_eq_getD_getElem?]
  simp only [dop] at hd
  split at hd
  · rename_i vs e
    simp only [Option.map_eq_some_iff] at hd
    obtain ⟨v, hv, rfl⟩ := hd
    rw [e] at g1
    have g := repD_d g1
    generalize a.eval x = vx at *
    cases g with
    | tup cs fs hl hh =>
      rw [run_v (run cs (by have := (List.getElem?_eq_some_iff.1 hv).1; omega))]
      exact SimOut.plain hi (.d _ _ (hh i v hv))
  · rename_i vs e
    simp only [Option.map_eq_some_iff] at hd
    obtain ⟨v, hv, rfl⟩ := hd
    rw [e] at g1
    generalize a.eval x = vx at *
    cases g1 with
    | tup cs fs hl hh =>
      rw [run_v (run cs (by have := (List.getElem?_eq_some_iff.1 hv).1; omega))]
      exact SimOut.plain hi (hh i v hv)
  · cases hd

theorem sim_mki (hi : Inv P G S ρ h w) (ha : RepA S ρ h w a.tmps ad) {t t1 : TypeId} {u : TypeDesc} {x : Operand} {x' : Opd} (hu : P.underlying t = some u) (hni : ∀ m, u ≠ .interface m) (h1 : trOpd P t1 x = some x') (hd : dop call (.mki t x') ad h = some out) :
    SimOut P G S ρ h w ((do pure (Next.value (← Instr.makeInterface t (a.eval x))) : Sem Next).run P w) out := by
  have g1 := rep_opd ha h1
  have run : (Instr.makeInterface t (a.eval x)).run P w = .ok (.iface t (a.eval x)) w := by
    cases u <;> simp_all [Instr.makeInterface, underlying]
  simp only [dop] at hd
  split at hd
  · rename_i v e
    simp only [Option.some.injEq] at hd
    subst hd
    rw [e] at g1
    rw [run_v run]
    exact SimOut.plain hi (.d _ _ (.iface _ _ _ (repD_d g1)))
  · rename_i y e
    simp only [Option.some.injEq] at hd
    subst hd
    rw [run_v run]
    exact SimOut.plain hi (.iface _ _ _ g1)

theorem sim_panic (hi : Inv P G S ρ h w) (ha : RepA S ρ h w a.tmps ad) {t : TypeId} {x : Operand} {x' : Opd} (h1 : trOpd P t x = some x') (hd : dop call (.panic x') ad h = some out) :
    SimOut P G S ρ h w ((do pure (Next.value (← Instr.panic (a.eval x))) : Sem Next).run P w) out := by
  have g1 := rep_opd ha h1
  simp only [dop] at hd
  split at hd
  · rename_i t' v e
    simp only [Option.some.injEq] at hd
    subst hd
    rw [e] at g1
    have g := repD_d g1
    generalize a.eval x = vx at *
    cases g with
    | iface _ v0 _ hv =>
      refine ⟨.iface t' v0, w, S, ρ, ?_, .d _ _ (.iface _ _ _ hv), Ext.refl _ _ _ _, hi⟩
      simp [Instr.panic]
  · cases hd

theorem sim_nilchk (hi : Inv P G S ρ h w) (ha : RepA S ρ h w a.tmps ad) {o : Oper} {t : TypeId} {x : Operand} {x' : Opd} (ho : o.op = .nilCheck x) (h1 : trOpd P t x = some x') (hd : dop call (.nilchk x') ad h = some out) :
    SimOut P G S ρ h w ((execOp a.eval o).run P w) out := by
  have g1 := rep_opd ha h1
  simp only [dop] at hd
  split at hd
  · rename_i c off e
    simp only [Option.some.injEq] at hd
    subst hd
    rw [e] at g1
    have g := repD_d g1
    generalize hv : a.eval x = vx at *
    cases g with
    | ref b o' off cells u hc hr ho1 =>
      have : (execOp a.eval o).run P w = .ok (.value (.pointer (some ⟨b, o' + off, none⟩))) w := by simp [execOp, ho, hv]
      rw [this]
      exact SimOut.plain hi (.d _ _ (.ref _ _ _ _ u hc hr ho1))
  · rename_i id off e
    simp only [Option.some.injEq] at hd
    subst hd
    rw [e] at g1
    generalize hv : a.eval x = vx at *
    cases g1 with
    | ptr id off b hb =>
      have : (execOp a.eval o).run P w = .ok (.value (.pointer (some ⟨b, off, none⟩))) w := by simp [execOp, ho, hv]
      rw [this]
      exact SimOut.plain hi (.ptr _ _ _ hb)
  · rename_i g p q e
    simp only [Option.some.injEq] at hd
    subst hd
    rw [e] at g1
    have gg := repD_d g1
    generalize hv : a.eval x = vx at *
    cases gg with
    | func fn p' q' fp fq hp hq h1' h2' =>
      have : (execOp a.eval o).run P w = .ok (.value (.func (.func g) p' q')) w := by simp [execOp, ho, hv]
      rw [this]
      exact SimOut.plain hi (.d _ _ (.func _ _ _ _ _ hp hq h1' h2'))
  · rename_i g p q e
    simp only [Option.some.injEq] at hd
    subst hd
    rw [e] at g1
    generalize hv : a.eval x = vx at *
    cases g1 with
    | clo fn p' q' fp fq hp hq h1' h2' =>
      have : (execOp a.eval o).run P w = .ok (.value (.func (.func g) p' q')) w := by simp [execOp, ho, hv]
      rw [this]
      exact SimOut.plain hi (.clo _ _ _ _ _ hp hq h1' h2')
  · rename_i id e
    simp only [Option.some.injEq] at hd
    subst hd
    rw [e] at g1
    generalize hv : a.eval x = vx at *
    cases g1 with
    | yld id b hb =>
      have : (execOp a.eval o).run P w = .ok (.value (.func (.yield b) #[] #[])) w := by simp [execOp, ho, hv]
      rw [this]
      exact SimOut.plain hi (.yld _ _ hb)
  · cases hd

/-- Operands, one by one. -/
theorem rep_opds (ha : RepA S ρ h w a.tmps ad) {ts : List Operand} {ds : List Opd} {f : Operand → Option Opd} (hf : ∀ x y, f x = some y → ∃ t, trOpd P t x = some y) (ht : ts.mapM f = some ds) :
    (ts.map a.eval).length = (ds.map (ev ad)).length ∧ ∀ (j : Nat) (y : DV), (ds.map (ev ad))[j]? = some y → RepD S ρ h w ((ts.map a.eval).getD j undef) y := by
  obtain ⟨h1, h2⟩ := mapM_some ht
  refine ⟨by simp [h1], fun j y hy => ?_⟩
  simp only [List.getElem?_map, Option.map_eq_some_iff] at hy
  obtain ⟨d, hd, rfl⟩ := hy
  obtain ⟨x, hx, hfx⟩ := h2 j d hd
  obtain ⟨t, htx⟩ := hf x d hfx
  have := rep_opd ha htx
  simpa [List.getD_eq_getElem?_getD, hx] using this

theorem sim_mkf (hi : Inv P G S ρ h w) (ha : RepA S ρ h w a.tmps ad) {t : TypeId} {fn : Fn} {p q : Array Operand} {p' q' : List Opd} (h1 : p.toList.mapM (trOpd P t) = some p') (h2 : q.toList.mapM (trOpd P t) = some q') (hd : dop call (.mkf fn p' q') ad h = some out) :
    SimOut P G S ρ h w ((do pure (Next.value (← Instr.makeFunc fn (p.map a.eval) (q.map a.eval))) : Sem Next).run P w) out := by
  obtain ⟨l1, r1⟩ := rep_opds ha (fun x y e => ⟨t, e⟩) h1
  obtain ⟨l2, r2⟩ := rep_opds ha (fun x y e => ⟨t, e⟩) h2
  rw [run_v (s := Instr.makeFunc fn (p.map a.eval) (q.map a.eval)) (w' := w) rfl]
  have e1 : ∀ j, (p.map a.eval).getD j undef = (p.toList.map a.eval).getD j undef := fun j => by simp [Array.getD_eq_getD_getElem?, List.getD_eq_getElem?_getD]
  have e2 : ∀ j, (q.map a.eval).getD j undef = (q.toList.map a.eval).getD j undef := fun j => by simp [Array.getD_eq_getD_getElem?, List.getD_eq_getElem?_getD]
  simp only [dop] at hd
  split at hd
  · rename_i fp fq hp hq
    simp only [Option.some.injEq] at hd
    subst hd
    obtain ⟨m1, s1⟩ := rep_flats (u := fun j => (p.toList.map a.eval).getD j undef) r1 hp
    obtain ⟨m2, s2⟩ := rep_flats (u := fun j => (q.toList.map a.eval).getD j undef) r2 hq
    refine SimOut.plain hi (.d _ _ (.func _ _ _ _ _ ?_ ?_ (fun j x hx => by rw [e1]; exact s1 j x hx) (fun j x hx => by rw [e2]; exact s2 j x hx)))
    · simp at l1 ⊢; simp at m1; omega
    · simp at l2 ⊢; simp at m2; omega
  · simp only [Option.some.injEq] at hd
    subst hd
    refine SimOut.plain hi (.clo _ _ _ _ _ ?_ ?_ (fun j x hx => by rw [e1]; exact r1 j x hx) (fun j x hx => by rw [e2]; exact r2 j x hx))
    · simpa using l1
    · simpa using l2

theorem run_fold {mx : Bool} : ∀ (ys : List Value) (fs : List FV) (v : Value) (f r : FV), ys.length = fs.length → (∀ (j : Nat) (y : FV), fs[j]? = some y → RepF S w (ys.getD j undef) y) → RepF S w v f → fs.foldlM (mnmx2 mx) f = some r →
    ∃ v', (ys.foldlM (if mx then Builtin.max2 else Builtin.min2) v).run P w = .ok v' w ∧ RepF S w v' r
  | [], [], v, f, r, _, _, hv, hf => by
    simp at hf
    subst hf
    exact ⟨v, rfl, hv⟩
  | y :: ys, g :: fs, v, f, r, hl, hr, hv, hf => by
    simp only [List.foldlM_cons, Option.bind_eq_bind, Option.bind_eq_some_iff] at hf
    obtain ⟨m, hm, hf⟩ := hf
    have hy : RepF S w y g := by simpa using hr 0 g rfl
    unfold mnmx2 at hm
    split at hm
    · rename_i k a k' b
      split at hm
      · rename_i hk
        subst hk
        simp only [Option.some.injEq] at hm
        subst hm
        obtain rfl := repF_int hv
        obtain rfl := repF_int hy
        obtain ⟨v', e, hv'⟩ := run_fold (mx := mx) ys fs (.int k (if mx then (if a < b then b else a) else (if b < a then b else a))) _ r (by simpa using hl) (fun j z hz => by simpa using hr (j + 1) z (by simpa using hz)) (.int _ _) hf
        refine ⟨v', ?_, hv'⟩
        simp only [List.foldlM_cons, Sem.run_bind]
        have : ((if mx then Builtin.max2 else Builtin.min2) (.int k a) (.int k b)).run P w = .ok (.int k (if mx then (if a < b then b else a) else (if b < a then b else a))) w := by
          cases mx <;> rfl
        rw [this]
        exact e
      · cases hm
    · cases hm
  | [], _ :: _, _, _, _, hl, _, _, _ => by simp at hl
  | _ :: _, [], _, _, _, hl, _, _, _ => by simp at hl

theorem sim_mnmx (hi : Inv P G S ρ h w) (ha : RepA S ρ h w a.tmps ad) {mx : Bool} {vs : List Value} {xs : List Opd} (hl : vs.length = xs.length) (hr : ∀ (j : Nat) (y : DV), (xs.map (ev ad))[j]? = some y → RepD S ρ h w (vs.getD j undef) y) {ts : Array TypeId} {rt : TypeId}
    (hd : dop call (.mnmx mx xs) ad h = some out) : SimOut P G S ρ h w ((do pure (Next.value (← (if mx then Builtin.max_ ts rt vs.toArray else Builtin.min_ ts rt vs.toArray))) : Sem Next).run P w) out := by
  simp only [dop] at hd
  split at hd
  · rename_i x rest hx
    split at hd
    · rename_i ys hys
      simp only [Option.map_eq_some_iff] at hd
      obtain ⟨r, hrr, rfl⟩ := hd
      have hlen : vs.length = (DV.d x :: rest).length := by rw [← hx]; simp [hl]
      cases vs with
      | nil => simp at hlen
      | cons v vs =>
        rw [hx] at hr
        have h0 : RepF S w v x := repD_d (by simpa using hr 0 _ rfl)
        obtain ⟨m1, s1⟩ := rep_flats (u := fun j => vs.getD j undef) (fun j y hy => by simpa using hr (j + 1) y (by simpa using hy)) hys
        obtain ⟨v', e, hv'⟩ := run_fold (P := P) (mx := mx) vs ys v x r (by simp at hlen; omega) s1 h0 hrr
        have : ((if mx then Builtin.max_ ts rt (v :: vs).toArray else Builtin.min_ ts rt (v :: vs).toArray)).run P w = .ok v' w := by
          cases mx <;> simpa [Builtin.max_, Builtin.min_] using e
        rw [run_v this]
        exact SimOut.plain hi (.d _ _ hv')
    · cases hd
  · cases hd

end
end Go.Deepv
