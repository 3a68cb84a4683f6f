/-
  The deep machine is sound: a call of a function does what the deep machine says of it.
  Conditions: the functions' deep codes are those of their codes.
-/
import Derived.Test.YtpemlmhggiaflaaGreatDoorDL
import Derived.TacticsIn
import Derived.OwnWalkIn
import Derived.LoopNIn
import Derived.LoopN
import Derived.RangeFuncRecord
set_option linter.unusedVariables false
set_option linter.unusedSimpArgs false
namespace Go.Deepv
open Go.RowKit

section
variable {P : Program} {G : Glob} {S S' : Settled} {ρ ρ' : List RI} {h h' : List Res} {w w' : World} {a : Act} {ad : List DV} {call : Cle → List DV → List Res → Option DOut} {out : DOut}

theorem RepA.take {n : Nat} {a : Array Value} (ha : RepA S ρ h w a ad) (hl : DV.lows n ad = true) : RepA S (ρ.take n) (h.take n) w a ad :=
  ⟨ha.len, fun j x hx => (ha.at_ j x hx).take (DV.lows_at hl hx)⟩

theorem mask_spec : ∀ (m : List Bool) (ad : List DV), (mask m ad).length = ad.length ∧ ∀ (j : Nat) (x : DV), (mask m ad)[j]? = some x → x = .d .undef ∨ ad[j]? = some x
  | _, [] => by
    cases ‹List Bool› with
    | nil => exact ⟨rfl, fun j x h => by simp [mask] at h⟩
    | cons b m => cases b <;> exact ⟨rfl, fun j x h => by simp [mask] at h⟩
  | [], y :: ys => by
    obtain ⟨h1, h2⟩ := mask_spec [] ys
    simp only [mask]
    refine ⟨by simp [h1], fun j x hx => ?_⟩
    cases j with
    | zero => simp at hx; exact .inl hx.symm
    | succ j => simpa using h2 j x (by simpa using hx)
  | true :: m, y :: ys => by
    obtain ⟨h1, h2⟩ := mask_spec m ys
    simp only [mask]
    refine ⟨by simp [h1], fun j x hx => ?_⟩
    cases j with
    | zero => simp at hx; exact .inr (by simp [hx])
    | succ j => simpa using h2 j x (by simpa using hx)
  | false :: m, y :: ys => by
    obtain ⟨h1, h2⟩ := mask_spec m ys
    simp only [mask]
    refine ⟨by simp [h1], fun j x hx => ?_⟩
    cases j with
    | zero => simp at hx; exact .inl hx.symm
    | succ j => simpa using h2 j x (by simpa using hx)
theorem RepA.mask {a : Array Value} (ha : RepA S ρ h w a ad) (m : List Bool) : RepA S ρ h w a (mask m ad) := by
  obtain ⟨h1, h2⟩ := mask_spec m ad
  refine ⟨by rw [ha.len, h1], fun j x hx => ?_⟩
  rcases h2 j x hx with rfl | hx'
  · exact .d _ _ (.undef _)
  · exact ha.at_ j x hx'

theorem RepA.put (ha : RepA S ρ h w a.tmps ad) {v : Value} {x : DV} (hx : RepD S ρ h w v x) (dst : Option Nat) : RepA S ρ h w (a.put dst v).tmps (put ad dst x) := by
  cases dst with
  | none => exact ha
  | some d =>
    refine ⟨by simp [Act.put, Deepv.put, ha.len], fun j y hy => ?_⟩
    simp only [Deepv.put] at hy
    simp only [Act.put]
    by_cases e : j = d
    · subst e
      have hl : j < ad.length := by have := (List.getElem?_eq_some_iff.1 hy).1; simpa using this
      rw [List.getElem?_set_self hl] at hy
      simp at hy
      subst hy
      have hl' : j < a.tmps.size := by rw [ha.len]; exact hl
      simpa [Array.getD_eq_getD_getElem?, hl'] using hx
    · rw [List.getElem?_set_ne (Ne.symm e)] at hy
      have := ha.at_ j y hy
      simp only [Array.getD_eq_getD_getElem?] at this ⊢
      rw [Array.getElem?_setIfInBounds_ne (Ne.symm e)]
      exact this
theorem put_defers (a : Act) (dst : Option Nat) (v : Value) : (a.put dst v).defers = a.defers := by cases dst <;> rfl

/-! ### Marks of ranges over functions -/
def mark (D : Nat) : Deferred := { target := .collected D, args := #[] }
/-- Where an activation began: the blocks that there were, and the deferred calls behind its marks. -/
abbrev Base := Nat × List Deferred
/-- The activation's deferred calls: marks of blocks that hold none, from N0 on, and no thing of the call's own; behind them those that were told. -/
def Marked (N0 : Base) (ρ : List RI) (w : World) (ds : List Deferred) : Prop :=
  N0.1 ≤ w.heap.size ∧ ∃ l : List Nat, ds = l.map mark ++ N0.2 ∧ l.Nodup ∧ ∀ D ∈ l, N0.1 ≤ D ∧ w.heap[D]? = some (.deferred (some [])) ∧ ∀ (i : Nat) (r : RI), ρ[i]? = some r → r.block ≠ some D
theorem Marked.nil {N0 : Base} (h : N0.1 ≤ w.heap.size) : Marked N0 ρ w N0.2 := ⟨h, [], rfl, List.nodup_nil, fun D hD => by cases hD⟩
theorem Marked.mono {N0 : Base} {ds : List Deferred} (E : Ext S ρ h w S' ρ' h' w') (m : Marked N0 ρ w ds) : Marked N0 ρ' w' ds := by
  obtain ⟨h0, l, e, hn, hl⟩ := m
  refine ⟨Nat.le_trans h0 E.size, l, e, hn, fun D hD => ?_⟩
  obtain ⟨h1, h2, h3⟩ := hl D hD
  have hlt : D < w.heap.size := (Array.getElem?_eq_some_iff.1 h2).1
  refine ⟨h1, by rw [E.frame D hlt h3]; exact h2, fun i r hr hb => ?_⟩
  rcases E.blocks i D r hr hb with h4 | ⟨j, r0, hj, hb0, _⟩
  · omega
  · exact h3 j r0 hj hb0
theorem Marked.take {N0 : Base} {ds : List Deferred} (m : Marked N0 ρ w ds) (n : Nat) : Marked N0 (ρ.take n) w ds := by
  obtain ⟨h0, l, e, hn, hl⟩ := m
  exact ⟨h0, l, e, hn, fun D hD => ⟨(hl D hD).1, (hl D hD).2.1, fun i r hr => (hl D hD).2.2 i r (take_some hr).2⟩⟩

/-! ### Exits -/
def ExitOk (S : Settled) (ρ : List RI) (h : List Res) (w : World) : DExit → Exit → Prop
  | .normal, .normal => True
  | .exit i, .exit j => i = j
  | .ret, .ret => True
  | .pan v, .panic ch => ∃ x, ch = [{ v := x, recovered := false }] ∧ RepD S ρ h w x v
  | _, _ => False
def Post (P : Program) (G : Glob) (N0 : Base) (S : Settled) (ρ : List RI) (h : List Res) (w : World) (e : DExit) (ad' : List DV) (h' : List Res) (e' : Exit) (a' : Act) (w' : World) : Prop :=
  ∃ S' ρ', RepA S' ρ' h' w' a'.tmps ad' ∧ Ext S ρ h w S' ρ' h' w' ∧ Inv P G S' ρ' h' w' ∧ Marked N0 ρ' w' a'.defers ∧ ExitOk S' ρ' h' w' e e'
def CallPost (P : Program) (G : Glob) (S : Settled) (ρ : List RI) (h : List Res) (w : World) : DOut → Ending → World → Prop
  | .val v h', e, w' => ∃ x S' ρ', e = .returned x ∧ RepD S' ρ' h' w' x v ∧ Ext S ρ h w S' ρ' h' w' ∧ Inv P G S' ρ' h' w'
  | .pan v h', e, w' => ∃ x S' ρ', e = .panicked [{ v := x, recovered := false }] ∧ RepD S' ρ' h' w' x v ∧ Ext S ρ h w S' ρ' h' w' ∧ Inv P G S' ρ' h' w'
/-- A fence that lets all in. -/
structure Wide (F : Fence) : Prop where
  fn : ∀ f, F.fn f
  calls : ∀ {n : Nat} {P : Program} {f : FuncId} {args : Array Value} {w : World} {R : Ending → World → Prop}, Calls P f args w R → CallsIn F n P f args w R
  depth : F.depth = none
theorem Wide.inRound {F : Fence} (h : Wide F) (l : Nat) : Wide (F.inRound l) := ⟨fun f => h.fn f, fun {n P f args w R} hc => h.calls hc, h.depth⟩
theorem wide_wide : Wide Fence.wide := ⟨fun _ => trivial, fun h => callsIn_wide.2 h, rfl⟩

structure CallS (P : Program) (G : Glob) (call : Cle → List DV → List Res → Option DOut) : Prop where
  fn : ∀ (g : FuncId) (args : Array Value) (dargs : List DV) (S : Settled) (ρ : List RI) (h : List Res) (w : World) (out : DOut), Inv P G S ρ h w → args.size = dargs.length → (∀ (j : Nat) (x : DV), dargs[j]? = some x → RepD S ρ h w (args.getD j undef) x) →
    call (.fn g) dargs h = some out → Calls P g args w (CallPost P G S ρ h w out)
  yld : ∀ (id l : Nat) (args : Array Value) (dargs : List DV) (S : Settled) (ρ : List RI) (h : List Res) (w : World) (out : DOut), Inv P G S ρ h w → ρ[id]? = some (.box l) → args.size = dargs.length → (∀ (j : Nat) (x : DV), dargs[j]? = some x → RepD S ρ h w (args.getD j undef) x) →
    call (.yld id) dargs h = some out → ∃ f tmps as bd, (Instr.yield l args).run P w = .ok (.round l f tmps as bd) w ∧ ∀ F : Fence, Wide F → RoundIn F 0 P l f tmps as bd w (CallPost P G S ρ h w out)

theorem wants_ok (ha : RepA S ρ h w a.tmps ad) {ops : Array Oper} {o : Oper} {g : Option (Nat × Bool)} (ht : trGuard ops o.guard = some g) {b : Bool} (hw : wants ad g = some b) : Region.wanted o (yielded ops a.tmps) = b := by
  unfold trGuard at ht
  split at ht
  · rename_i hg
    simp only [Option.some.injEq] at ht
    subst ht
    simp only [wants, Option.some.injEq] at hw
    subst hw
    simp [Region.wanted, hg]
  · rename_i j want hg
    split at ht
    · rename_i t hd
      simp only [Option.some.injEq] at ht
      subst ht
      have look : ∀ x, ad[t]? = some x → a.tmps[t]? = some (a.tmps.getD t undef) ∧ RepD S ρ h w (a.tmps.getD t undef) x := fun x hx => by
        have hl : t < a.tmps.size := by rw [ha.len]; exact (List.getElem?_eq_some_iff.1 hx).1
        exact ⟨by simp [Array.getD_eq_getD_getElem?, hl], ha.at_ t x hx⟩
      simp only [wants] at hw
      split at hw
      · rename_i c hx
        obtain ⟨l1, l2⟩ := look _ hx
        rw [repF_bool (repD_d l2)] at l1
        simp only [Option.some.injEq] at hw
        subst hw
        simp [Region.wanted, hg, yielded, hd, l1]
      · rename_i hx
        obtain ⟨l1, l2⟩ := look _ hx
        have := repD_d l2
        simp only [Option.some.injEq] at hw
        subst hw
        generalize a.tmps.getD t undef = q at *
        cases this with
        | tup cs fs hl hh => simp [Region.wanted, hg, yielded, hd, l1]
      · cases hw
    · cases ht

theorem ops_sim {F : Fence} (hF : Wide F) (hc : CallsOk P call) (hS : CallS P G call) {imm : Nat → Bool} {ops : Array Oper} : ∀ (l : List Oper) (dl : List DOper), l.mapM (trOper P imm ops) = some dl →
    ∀ (a : Act) (ad : List DV) (S : Settled) (ρ : List RI) (h : List Res) (w : World) (e : DExit) (ad' : List DV) (h' : List Res) (N0 : Base) (Q : Exit → Act → World → Prop), Inv P G S ρ h w → RepA S ρ h w a.tmps ad → Marked N0 ρ w a.defers →
      dops call dl ad h = some (e, ad', h') → (∀ e' a' w', Post P G N0 S ρ h w e ad' h' e' a' w' → Q e' a' w') → wpListIn F 0 P ops Q l a w
  | [], dl, ht, a, ad, S, ρ, h, w, e, ad', h', N0, Q, hi, ha, hd, hr, hQ => by
    simp at ht
    subst ht
    simp only [dops, Option.some.injEq, Prod.mk.injEq] at hr
    obtain ⟨rfl, rfl, rfl⟩ := hr
    exact hQ _ _ _ ⟨S, ρ, ha, Ext.refl _ _ _ _, hi, hd, trivial⟩
  | o :: l, dl, ht, a, ad, S, ρ, h, w, e, ad', h', N0, Q, hi, ha, hd, hr, hQ => by
    simp only [List.mapM_cons, Option.pure_def, Option.bind_eq_bind, Option.bind_eq_some_iff, Option.some.injEq] at ht
    obtain ⟨d, hd1, dl', hdl, rfl⟩ := ht
    rcases trOper_cases P hd1 with ⟨op, g, rfl, hg, hop'⟩
    · simp only [dops] at hr
      have ih := ops_sim hF hc hS (imm := imm) (ops := ops) l dl' hdl
      split at hr
      · rename_i hwant
        have hw := wants_ok ha hg hwant
        have cont : ∀ (x : Value) (v : DV) (h1 : List Res) (w1 : World) (S1 : Settled) (ρ1 : List RI), RepD S1 ρ1 h1 w1 x v → Ext S ρ h w S1 ρ1 h1 w1 → Inv P G S1 ρ1 h1 w1 → dops call dl' (put ad o.dst v) h1 = some (e, ad', h') → wpListIn F 0 P ops Q l (a.put o.dst x) w1 := by
          intro x v h1 w1 S1 ρ1 hx E I hrest
          refine ih (a.put o.dst x) (put ad o.dst v) S1 ρ1 h1 w1 e ad' h' N0 Q I ((ha.mono E).put hx o.dst) (by rw [put_defers]; exact hd.mono E) hrest fun e' a' w' hp => ?_
          obtain ⟨S2, ρ2, p1, p2, p3, p4, p5⟩ := hp
          exact hQ e' a' w' ⟨S2, ρ2, p1, E.trans p2, p3, p4, p5⟩
        simp only [wpListIn, hw, if_true]
        refine ⟨fun f _ => hF.fn f, ?_⟩
        have hop : trOp P imm o = some op := by
          rcases hop' with hop' | rfl
          · exact hop'
          · simp [dop] at hr
        rw [Oper.semAt_plain F _ _ (fun c he => by simp [trOp, he] at hop)]
        split at hr
        · rename_i v h1 hdop
          rcases sim_op hi ha hc hop hdop with ⟨x, w1, S1, ρ1, hrun, hx, E, I⟩ | ⟨ρ0, h0, E0, I0, g', args, dargs, hrun, hl, hrep, hcall⟩ | ⟨id, l', args, dargs, hrun, hρ, hl, hrep, hcall⟩ | ⟨g', args, dargs, vd, hrun, hl, hrep, hcall, hout⟩
          · rcases hrun with hrun | ⟨hrun, rfl⟩
            · rw [hrun, Oper.uponIn_value]
              exact cont x v h1 w1 S1 ρ1 hx E I hr
            · rw [hrun, Oper.uponIn_skip]
              exact cont undef v h1 w1 S1 ρ1 hx E I hr
          · rw [hrun, Oper.uponIn_enter]
            refine ⟨(fun hh => by rw [hF.depth] at hh; cases hh), ?_⟩
            refine hF.calls ?_
            refine (hS.fn g' args dargs S ρ0 h0 w _ I0 hl hrep hcall).mono fun e1 w1 hp => ?_
            obtain ⟨x, S1, ρ1, rfl, hx, E, I⟩ := hp
            have E := E0.trans E
            exact cont x v h1 w1 S1 ρ1 hx E I hr
          · obtain ⟨f, tmps, as, bd, hy, hround⟩ := hS.yld id l' args dargs S ρ h w _ hi hρ hl hrep hcall
            rw [hrun, hy, Oper.uponIn_round]
            refine ⟨(fun hh => by rw [hF.depth] at hh; cases hh), ?_⟩
            refine (hround F hF).mono fun e1 w1 hp => ?_
            obtain ⟨x, S1, ρ1, rfl, hx, E, I⟩ := hp
            exact cont x v h1 w1 S1 ρ1 hx E I hr
          · simp only [DOut.val.injEq] at hout
            obtain ⟨rfl, rfl⟩ := hout
            rw [hrun, Oper.uponIn_enter]
            refine ⟨(fun hh => by rw [hF.depth] at hh; cases hh), ?_⟩
            refine hF.calls ?_
            refine (hS.fn g' args dargs S [] [] w _ (inv_none hi) hl hrep hcall).mono fun e1 w1 hp => ?_
            obtain ⟨x, S1, ρ1, rfl, hx, E, I⟩ := hp
            obtain ⟨E', I'⟩ := ext_lift hi E I
            exact cont x _ _ w1 S1 _ (.d _ _ (repD_d hx)) E' I' hr
        · rename_i v h1 hdop
          simp only [Option.some.injEq, Prod.mk.injEq] at hr
          obtain ⟨rfl, rfl, rfl⟩ := hr
          rcases sim_op hi ha hc hop hdop with ⟨x, w1, S1, ρ1, hrun, hx, E, I⟩ | ⟨ρ0, h0, E0, I0, g', args, dargs, hrun, hl, hrep, hcall⟩ | ⟨id, l', args, dargs, hrun, hρ, hl, hrep, hcall⟩ | ⟨g', args, dargs, vd, hrun, hl, hrep, hcall, hout⟩
          · rw [hrun, Oper.uponIn_panic]
            exact hQ _ _ _ ⟨S1, ρ1, ha.mono E, E, I, hd.mono E, x, rfl, hx⟩
          · rw [hrun, Oper.uponIn_enter]
            refine ⟨(fun hh => by rw [hF.depth] at hh; cases hh), ?_⟩
            refine hF.calls ?_
            refine (hS.fn g' args dargs S ρ0 h0 w _ I0 hl hrep hcall).mono fun e1 w1 hp => ?_
            obtain ⟨x, S1, ρ1, rfl, hx, E, I⟩ := hp
            have E := E0.trans E
            exact hQ _ _ _ ⟨S1, ρ1, ha.mono E, E, I, hd.mono E, x, rfl, hx⟩
          · obtain ⟨f, tmps, as, bd, hy, hround⟩ := hS.yld id l' args dargs S ρ h w _ hi hρ hl hrep hcall
            rw [hrun, hy, Oper.uponIn_round]
            refine ⟨(fun hh => by rw [hF.depth] at hh; cases hh), ?_⟩
            refine (hround F hF).mono fun e1 w1 hp => ?_
            obtain ⟨x, S1, ρ1, rfl, hx, E, I⟩ := hp
            exact hQ _ _ _ ⟨S1, ρ1, ha.mono E, E, I, hd.mono E, x, rfl, hx⟩
          · cases hout
        · cases hr
      · rename_i hwant
        have hw := wants_ok ha hg hwant
        simp only [wpListIn, hw, Bool.false_eq_true, if_false]
        refine ⟨fun f _ => hF.fn f, ih (a.put o.dst undef) (put ad o.dst (.d (.tup []))) S ρ h w e ad' h' N0 Q hi (ha.put (.d _ _ (.tup #[] [] rfl fun j y hy => by simp at hy)) o.dst) (by rw [put_defers]; exact hd) hr hQ⟩
      · cases hr

end
end Go.Deepv
