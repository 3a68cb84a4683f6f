/-
  The deep machine is sound: a call of a function does what the deep machine says of it.
  Conditions: the functions' deep codes are those of their codes.
-/
import Derived.Test.YtoadpaaghjomnaaDL
import Derived.LoopN
set_option linter.unusedVariables false
set_option linter.unusedSimpArgs false
namespace Go.Deepv
open Go.RowKit

section
variable {P : Program} {S S' : Settled} {ρ ρ' : List RI} {h h' : List Res} {w w' : World} {a : Act} {ad : List DV} {call : FuncId → List DV → List Res → Option DOut} {out : DOut}

/-! ### Cutting off what a call or a round has made -/
theorem take_at {α : Type} {l : List α} {n i : Nat} (h : i < n) : (l.take n)[i]? = l[i]? := List.getElem?_take_of_lt h
theorem take_some {α : Type} {l : List α} {n i : Nat} {x : α} (h : (l.take n)[i]? = some x) : i < n ∧ l[i]? = some x := by
  rw [List.getElem?_take] at h
  split at h
  · exact ⟨by assumption, h⟩
  · cases h

theorem RepD.take {n : Nat} {v : Value} {x : DV} (hx : RepD S ρ h w v x) : x.low n = true → RepD S (ρ.take n) (h.take n) w v x := by
  induction hx with
  | d v x hx => exact fun _ => .d _ _ hx
  | ptr id off b hb => exact fun hl => .ptr _ _ _ (by rw [take_at (by simpa [DV.low] using hl)]; exact hb)
  | row v sz elems t hx ht hr =>
    intro hl
    have hl' : t < n := by simpa [DV.low] using hl
    refine .row _ _ _ _ hx (by simp; omega) fun k hk => ?_
    rw [take_at hl'] at hk
    obtain ⟨h1, h2⟩ := hr k hk
    exact ⟨h1, fun e => by rw [take_at hl']; exact h2 e⟩
  | agg cs fs hl hh ih => exact fun h1 => .agg _ _ hl fun j x hx => ih j x hx (DV.lows_at (by simpa [DV.low] using h1) hx)
  | clo fn p q fp fq hp hq h1 h2 ih1 ih2 =>
    intro hl
    simp only [DV.low, Bool.and_eq_true] at hl
    exact .clo _ _ _ _ _ hp hq (fun j x hx => ih1 j x hx (DV.lows_at hl.1 hx)) (fun j x hx => ih2 j x hx (DV.lows_at hl.2 hx))
  | tup cs fs hl hh ih => exact fun h1 => .tup _ _ hl fun j x hx => ih j x hx (DV.lows_at (by simpa [DV.low] using h1) hx)
  | iface t v x hh ih => exact fun hl => .iface _ _ _ (ih (by simpa [DV.low] using hl))

theorem Inv.take (hi : Inv S ρ h w) (n : Nat) : Inv S (ρ.take n) (h.take n) w where
  len := by simp [hi.len]
  bound := hi.bound
  low := fun i b r hr hb => hi.low i b r (take_some hr).2 hb
  apart := fun i j b r r' hr hr' hb hb' => hi.apart i j b r r' (take_some hr).2 (take_some hr').2 hb hb'
  box := fun i cells hc => by
    obtain ⟨hin, hc⟩ := take_some hc
    obtain ⟨b, c, e, g1, g2, g3, g4, g5⟩ := hi.box i cells hc
    exact ⟨b, c, e, by rw [take_at hin]; exact g1, g2, g3, fun j x hx => ⟨(g4 j x hx).1, (g4 j x hx).2.1, (g4 j x hx).2.2.take (DV.low_mono (by omega) _ (g4 j x hx).2.1)⟩, g5⟩
  nilrow := fun i hc => by
    obtain ⟨hin, hc⟩ := take_some hc
    rw [take_at hin]
    exact hi.nilrow i hc
  row := fun i sz k hc => by
    obtain ⟨hin, hc⟩ := take_some hc
    obtain ⟨b, o, cap, c, e, g1, g⟩ := hi.row i sz k hc
    exact ⟨b, o, cap, c, e, by rw [take_at hin]; exact g1, g⟩
  iter := fun i s pos hc => by
    obtain ⟨hin, hc⟩ := take_some hc
    obtain ⟨b, g1, g2⟩ := hi.iter i s pos hc
    exact ⟨b, by rw [take_at hin]; exact g1, g2⟩

theorem Ext.takeN {n : Nat} (hln : h.length ≤ n) (hi : Inv S ρ h w) (E : Ext S ρ h w S' ρ' h' w') : Ext S ρ h w S' (ρ'.take n) (h'.take n) w' where
  settled := E.settled
  cells := E.cells
  len := by have := E.len; simp; omega
  boxes := fun id b hb => by
    have : id < h.length := by rw [← hi.len]; exact (List.getElem?_eq_some_iff.1 hb).1
    rw [take_at (by omega)]
    exact E.boxes id b hb
  rows := fun t n' ht hn => by
    rw [take_at (by omega)] at hn
    obtain ⟨n, h1, h2, h3⟩ := E.rows t n' ht hn
    exact ⟨n, h1, h2, fun e => by rw [take_at (by omega)]; exact h3 e⟩
  size := E.size
  os := E.os
  tape := E.tape
  output := E.output
  frame := E.frame
  blocks := fun i b r hr hb => E.blocks i b r (take_some hr).2 hb
  fresh := E.fresh
theorem Ext.take (hi : Inv S ρ h w) (E : Ext S ρ h w S' ρ' h' w') : Ext S ρ h w S' (ρ'.take h.length) (h'.take h.length) w' where
  settled := E.settled
  cells := E.cells
  len := by have := E.len; simp; omega
  boxes := fun id b hb => by
    have : id < h.length := by rw [← hi.len]; exact (List.getElem?_eq_some_iff.1 hb).1
    rw [take_at this]
    exact E.boxes id b hb
  rows := fun t n' ht hn => by
    rw [take_at ht] at hn
    obtain ⟨n, h1, h2, h3⟩ := E.rows t n' ht hn
    exact ⟨n, h1, h2, fun e => by rw [take_at ht]; exact h3 e⟩
  size := E.size
  os := E.os
  tape := E.tape
  output := E.output
  frame := E.frame
  blocks := fun i b r hr hb => E.blocks i b r (take_some hr).2 hb
  fresh := E.fresh

theorem RepA.take {n : Nat} {a : Array Value} (ha : RepA S ρ h w a ad) (hl : DV.lows n ad = true) : RepA S (ρ.take n) (h.take n) w a ad :=
  ⟨ha.len, fun j x hx => (ha.at_ j x hx).take (DV.lows_at hl hx)⟩

theorem mask_spec : ∀ (m : List Bool) (ad : List DV), (mask m ad).length = ad.length ∧ ∀ (j : Nat) (x : DV), (mask m ad)[j]? = some x → x = .d .undef ∨ ad[j]? = some x
  | _, [] => by
    cases ‹List Bool› with
    | nil => exact ⟨rfl, fun j x h => by simp [mask] at h⟩
    | cons b m => cases b <;> exact ⟨rfl, fun j x h => by simp [mask] at h⟩
  | [], y :: ys => by
    obtain ⟨h1, h2⟩ := mask_spec [] ys
    simp only [mask]
    refine ⟨by simp [h1], fun j x hx => ?_⟩
    cases j with
    | zero => simp at hx; exact .inl hx.symm
    | succ j => simpa using h2 j x (by simpa using hx)
  | true :: m, y :: ys => by
    obtain ⟨h1, h2⟩ := mask_spec m ys
    simp only [mask]
    refine ⟨by simp [h1], fun j x hx => ?_⟩
    cases j with
    | zero => simp at hx; exact .inr (by simp [hx])
    | succ j => simpa using h2 j x (by simpa using hx)
  | false :: m, y :: ys => by
    obtain ⟨h1, h2⟩ := mask_spec m ys
    simp only [mask]
    refine ⟨by simp [h1], fun j x hx => ?_⟩
    cases j with
    | zero => simp at hx; exact .inl hx.symm
    | succ j => simpa using h2 j x (by simpa using hx)
theorem RepA.mask {a : Array Value} (ha : RepA S ρ h w a ad) (m : List Bool) : RepA S ρ h w a (mask m ad) := by
  obtain ⟨h1, h2⟩ := mask_spec m ad
  refine ⟨by rw [ha.len, h1], fun j x hx => ?_⟩
  rcases h2 j x hx with rfl | hx'
  · exact .d _ _ (.undef _)
  · exact ha.at_ j x hx'

theorem RepA.put (ha : RepA S ρ h w a.tmps ad) {v : Value} {x : DV} (hx : RepD S ρ h w v x) (dst : Option Nat) : RepA S ρ h w (a.put dst v).tmps (put ad dst x) := by
  cases dst with
  | none => exact ha
  | some d =>
    refine ⟨by simp [Act.put, Deepv.put, ha.len], fun j y hy => ?_⟩
    simp only [Deepv.put] at hy
    simp only [Act.put]
    by_cases e : j = d
    · subst e
      have hl : j < ad.length := by have := (List.getElem?_eq_some_iff.1 hy).1; simpa using this
      rw [List.getElem?_set_self hl] at hy
      simp at hy
      subst hy
      have hl' : j < a.tmps.size := by rw [ha.len]; exact hl
      simpa [Array.getD_eq_getD_getElem?, hl'] using hx
    · rw [List.getElem?_set_ne (Ne.symm e)] at hy
      have := ha.at_ j y hy
      simp only [Array.getD_eq_getD_getElem?] at this ⊢
      rw [Array.getElem?_setIfInBounds_ne (Ne.symm e)]
      exact this
theorem put_defers (a : Act) (dst : Option Nat) (v : Value) : (a.put dst v).defers = a.defers := by cases dst <;> rfl

/-! ### Exits -/
def ExitOk (S : Settled) (ρ : List RI) (h : List Res) (w : World) : DExit → Exit → Prop
  | .normal, .normal => True
  | .exit i, .exit j => i = j
  | .ret, .ret => True
  | .pan v, .panic ch => ∃ x, ch = [{ v := x, recovered := false }] ∧ RepD S ρ h w x v
  | _, _ => False
def Post (S : Settled) (ρ : List RI) (h : List Res) (w : World) (e : DExit) (ad' : List DV) (h' : List Res) (e' : Exit) (a' : Act) (w' : World) : Prop :=
  ∃ S' ρ', RepA S' ρ' h' w' a'.tmps ad' ∧ Ext S ρ h w S' ρ' h' w' ∧ Inv S' ρ' h' w' ∧ a'.defers = [] ∧ ExitOk S' ρ' h' w' e e'
def CallPost (S : Settled) (ρ : List RI) (h : List Res) (w : World) : DOut → Ending → World → Prop
  | .val v h', e, w' => ∃ x S' ρ', e = .returned x ∧ RepD S' ρ' h' w' x v ∧ Ext S ρ h w S' ρ' h' w' ∧ Inv S' ρ' h' w'
  | .pan v h', e, w' => ∃ x S' ρ', e = .panicked [{ v := x, recovered := false }] ∧ RepD S' ρ' h' w' x v ∧ Ext S ρ h w S' ρ' h' w' ∧ Inv S' ρ' h' w'
def CallS (P : Program) (call : FuncId → List DV → List Res → Option DOut) : Prop :=
  ∀ (g : FuncId) (args : Array Value) (dargs : List DV) (S : Settled) (ρ : List RI) (h : List Res) (w : World) (out : DOut), Inv S ρ h w → args.size = dargs.length → (∀ (j : Nat) (x : DV), dargs[j]? = some x → RepD S ρ h w (args.getD j undef) x) →
    call g dargs h = some out → Calls P g args w (CallPost S ρ h w out)

theorem wants_ok (ha : RepA S ρ h w a.tmps ad) {ops : Array Oper} {o : Oper} {g : Option (Nat × Bool)} (ht : trGuard ops o.guard = some g) {b : Bool} (hw : wants ad g = some b) : Region.wanted o (yielded ops a.tmps) = b := by
  unfold trGuard at ht
  split at ht
  · rename_i hg
    simp only [Option.some.injEq] at ht
    subst ht
    simp only [wants, Option.some.injEq] at hw
    subst hw
    simp [Region.wanted, hg]
  · rename_i j want hg
    split at ht
    · rename_i t hd
      simp only [Option.some.injEq] at ht
      subst ht
      have look : ∀ x, ad[t]? = some x → a.tmps[t]? = some (a.tmps.getD t undef) ∧ RepD S ρ h w (a.tmps.getD t undef) x := fun x hx => by
        have hl : t < a.tmps.size := by rw [ha.len]; exact (List.getElem?_eq_some_iff.1 hx).1
        exact ⟨by simp [Array.getD_eq_getD_getElem?, hl], ha.at_ t x hx⟩
      simp only [wants] at hw
      split at hw
      · rename_i c hx
        obtain ⟨l1, l2⟩ := look _ hx
        rw [repF_bool (repD_d l2)] at l1
        simp only [Option.some.injEq] at hw
        subst hw
        simp [Region.wanted, hg, yielded, hd, l1]
      · rename_i hx
        obtain ⟨l1, l2⟩ := look _ hx
        have := repD_d l2
        simp only [Option.some.injEq] at hw
        subst hw
        generalize a.tmps.getD t undef = q at *
        cases this with
        | tup cs fs hl hh => simp [Region.wanted, hg, yielded, hd, l1]
      · cases hw
    · cases ht

theorem ops_sim (hc : CallsOk P call) (hS : CallS P call) {imm : Nat → Bool} {ops : Array Oper} : ∀ (l : List Oper) (dl : List DOper), l.mapM (trOper P imm ops) = some dl →
    ∀ (a : Act) (ad : List DV) (S : Settled) (ρ : List RI) (h : List Res) (w : World) (e : DExit) (ad' : List DV) (h' : List Res) (Q : Exit → Act → World → Prop), Inv S ρ h w → RepA S ρ h w a.tmps ad → a.defers = [] →
      dops call dl ad h = some (e, ad', h') → (∀ e' a' w', Post S ρ h w e ad' h' e' a' w' → Q e' a' w') → wpList P ops Q l a w
  | [], dl, ht, a, ad, S, ρ, h, w, e, ad', h', Q, hi, ha, hd, hr, hQ => by
    simp at ht
    subst ht
    simp only [dops, Option.some.injEq, Prod.mk.injEq] at hr
    obtain ⟨rfl, rfl, rfl⟩ := hr
    exact hQ _ _ _ ⟨S, ρ, ha, Ext.refl _ _ _ _, hi, hd, trivial⟩
  | o :: l, dl, ht, a, ad, S, ρ, h, w, e, ad', h', Q, hi, ha, hd, hr, hQ => by
    simp only [List.mapM_cons, Option.pure_def, Option.bind_eq_bind, Option.bind_eq_some_iff, Option.some.injEq] at ht
    obtain ⟨d, hd1, dl', hdl, rfl⟩ := ht
    unfold trOper at hd1
    split at hd1
    · rename_i op g hop hg
      simp only [Option.some.injEq] at hd1
      subst hd1
      simp only [dops] at hr
      have ih := ops_sim hc hS (imm := imm) (ops := ops) l dl' hdl
      split at hr
      · rename_i hwant
        have hw := wants_ok ha hg hwant
        have cont : ∀ (x : Value) (v : DV) (h1 : List Res) (w1 : World) (S1 : Settled) (ρ1 : List RI), RepD S1 ρ1 h1 w1 x v → Ext S ρ h w S1 ρ1 h1 w1 → Inv S1 ρ1 h1 w1 → dops call dl' (put ad o.dst v) h1 = some (e, ad', h') → wpList P ops Q l (a.put o.dst x) w1 := by
          intro x v h1 w1 S1 ρ1 hx E I hrest
          refine ih (a.put o.dst x) (put ad o.dst v) S1 ρ1 h1 w1 e ad' h' Q I ((ha.mono E).put hx o.dst) (by rw [put_defers]; exact hd) hrest fun e' a' w' hp => ?_
          obtain ⟨S2, ρ2, p1, p2, p3, p4, p5⟩ := hp
          exact hQ e' a' w' ⟨S2, ρ2, p1, E.trans p2, p3, p4, p5⟩
        simp only [wpList, hw, if_true]
        refine .inl ?_
        unfold Oper.wp
        split at hr
        · rename_i v h1 hdop
          rcases sim_op hi ha hc hop hdop with ⟨x, w1, S1, ρ1, hrun, hx, E, I⟩ | ⟨g', args, dargs, hrun, hl, hrep, hcall⟩
          · rcases hrun with hrun | ⟨hrun, rfl⟩
            · rw [hrun, Oper.upon_value]
              exact cont x v h1 w1 S1 ρ1 hx E I hr
            · rw [hrun, Oper.upon_skip]
              exact cont undef v h1 w1 S1 ρ1 hx E I hr
          · rw [hrun, Oper.upon_enter]
            refine (hS g' args dargs S ρ h w _ hi hl hrep hcall).mono fun e1 w1 hp => ?_
            obtain ⟨x, S1, ρ1, rfl, hx, E, I⟩ := hp
            exact cont x v h1 w1 S1 ρ1 hx E I hr
        · rename_i v h1 hdop
          simp only [Option.some.injEq, Prod.mk.injEq] at hr
          obtain ⟨rfl, rfl, rfl⟩ := hr
          rcases sim_op hi ha hc hop hdop with ⟨x, w1, S1, ρ1, hrun, hx, E, I⟩ | ⟨g', args, dargs, hrun, hl, hrep, hcall⟩
          · rw [hrun, Oper.upon_panic]
            exact hQ _ _ _ ⟨S1, ρ1, ha.mono E, E, I, hd, x, rfl, hx⟩
          · rw [hrun, Oper.upon_enter]
            refine (hS g' args dargs S ρ h w _ hi hl hrep hcall).mono fun e1 w1 hp => ?_
            obtain ⟨x, S1, ρ1, rfl, hx, E, I⟩ := hp
            exact hQ _ _ _ ⟨S1, ρ1, ha.mono E, E, I, hd, x, rfl, hx⟩
        · cases hr
      · rename_i hwant
        have hw := wants_ok ha hg hwant
        simp only [wpList, hw, Bool.false_eq_true, if_false]
        refine ih (a.put o.dst undef) (put ad o.dst (.d (.tup []))) S ρ h w e ad' h' Q hi (ha.put (.d _ _ (.tup #[] [] rfl fun j y hy => by simp at hy)) o.dst) (by rw [put_defers]; exact hd) hr hQ
      · cases hr
    · cases hd1

end
end Go.Deepv
