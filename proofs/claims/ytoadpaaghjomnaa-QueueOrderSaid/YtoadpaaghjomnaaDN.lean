/-
  The deep machine is sound: code, rounds of loops, functions; all numbers of rounds.
  Conditions: the functions' deep codes are those of their codes.
-/
import Derived.Test.YtoadpaaghjomnaaDM
import Derived.Test.YtoadpaaghjomnaaDR
set_option linter.unusedVariables false
set_option linter.unusedSimpArgs false
namespace Go.Deepv
open Go.RowKit

section
variable {P : Program} {S S' : Settled} {ρ ρ' : List RI} {h h' : List Res} {w w' : World} {a : Act} {ad : List DV} {call : FuncId → List DV → List Res → Option DOut} {out : DOut}

def LoopS (P : Program) (k : Nat) (loop : LoopF) : Prop :=
  ∀ (M : Marks) (n0 : Nat) (cut : Bool) (hd ex : List Bool) (c : Code) (A : ACode), trCode P M c = some A → ∀ (a : Act) (ad : List DV) (S : Settled) (ρ : List RI) (h : List Res) (w : World) (e : DExit) (ad' : List DV) (h' : List Res) (Q : Exit → Act → World → Prop),
    Inv S ρ h w → RepA S ρ h w a.tmps ad → a.defers = [] → (cut = true → h.length = n0) → loop n0 cut hd ex A ad h = some (e, ad', h') → (∀ e' a' w', Post S ρ h w e ad' h' e' a' w' → Q e' a' w') → Code.rounds P c Q k a w

theorem wpOps_wpList {ops : Array Oper} {Q : Exit → Act → World → Prop} : ∀ (σ : List Nat), (∀ i ∈ σ, i < ops.size) → wpOps P ops Q σ = wpList P ops Q (σ.map fun i => ops.getD i default)
  | [], _ => by funext a w; simp [wpOps, wpList]
  | i :: σ, hs => by
    have hi := hs i (by simp)
    have ih := wpOps_wpList (Q := Q) σ fun j hj => hs j (by simp [hj])
    funext a w
    simp [wpOps, wpList, hi, ih]
theorem mapM_at {α β : Type} {f : α → Option β} : ∀ {l : List α} {dl : List β}, l.mapM f = some dl → dl.length = l.length ∧ ∀ (i : Nat) (x : α), l[i]? = some x → ∃ y, dl[i]? = some y ∧ f x = some y
  | [], dl, h => by
    simp at h
    subst h
    exact ⟨rfl, fun i x hx => by simp at hx⟩
  | x :: l, dl, h => by
    simp only [List.mapM_cons, Option.pure_def, Option.bind_eq_bind, Option.bind_eq_some_iff, Option.some.injEq] at h
    obtain ⟨d, hd1, dl', hdl, rfl⟩ := h
    obtain ⟨h1, h2⟩ := mapM_at hdl
    refine ⟨by simp [h1], fun i y hy => ?_⟩
    cases i with
    | zero => simp at hy; subst hy; exact ⟨d, rfl, hd1⟩
    | succ i => simpa using h2 i y (by simpa using hy)
theorem mapM_ordered {f : Oper → Option DOper} {ops : Array Oper} {dl : List DOper} (h : ops.toList.mapM f = some dl) : ∀ (σ : List Nat), (∀ i ∈ σ, i < ops.size) → (σ.map fun i => ops.getD i default).mapM f = some (ordered dl σ)
  | [], _ => by simp [ordered]
  | i :: σ, hs => by
    have hi := hs i (by simp)
    have ih := mapM_ordered h σ fun j hj => hs j (by simp [hj])
    obtain ⟨y, hy, hf⟩ := (mapM_at h).2 i ops[i] (by simp [hi])
    simp only [ordered] at ih
    have e1 : ops.getD i default = ops[i] := by simp [hi]
    have e2 : dl.getD i default = y := by simp [hy]
    simp only [ordered, List.map_cons, List.mapM_cons, e1, e2, hf, ih, Option.pure_def, Option.bind_eq_bind, Option.bind_some]
theorem ordered_range {dl : List DOper} {n : Nat} (h : dl.length = n) : ordered dl (List.range n) = dl := by
  subst h
  apply List.ext_getElem?
  intro i
  simp only [ordered, List.getElem?_map]
  rcases Nat.lt_or_ge i dl.length with hi | hi
  · simp [List.getElem?_range hi, hi]
  · simp [List.getElem?_eq_none hi, hi]

theorem code_sim (hc : CallsOk P call) (hS : CallS P call) {k : Nat} {loop : LoopF} (hL : LoopS P k loop) (M : Marks) : ∀ (c : Code) (A : ACode), trCode P M c = some A → ∀ (a : Act) (ad : List DV) (S : Settled) (ρ : List RI) (h : List Res) (w : World) (e : DExit) (ad' : List DV) (h' : List Res) (Q : Exit → Act → World → Prop),
    Inv S ρ h w → RepA S ρ h w a.tmps ad → a.defers = [] → dexec call loop A ad h = some (e, ad', h') → (∀ e' a' w', Post S ρ h w e ad' h' e' a' w' → Q e' a' w') → c.wp P Q a w := by
  intro c
  induction c with
  | skip =>
    intro A ht a ad S ρ h w e ad' h' Q hi ha hd hr hQ
    simp only [trCode, Option.some.injEq] at ht
    subst ht
    simp only [dexec, Option.some.injEq, Prod.mk.injEq] at hr
    obtain ⟨rfl, rfl, rfl⟩ := hr
    exact wp_skip (hQ _ _ _ ⟨S, ρ, ha, Ext.refl _ _ _ _, hi, hd, trivial⟩)
  | region id ops draw =>
    intro A ht a ad S ρ h w e ad' h' Q hi ha hd hr hQ
    simp only [trCode] at ht
    split at ht
    · cases ht
    · rename_i dl hdl
      split at ht
      · rename_i hdraw
        subst hdraw
        split at ht
        · rename_i hok
          simp only [Bool.and_eq_true] at hok
          obtain ⟨hm, hok⟩ := hok
          simp only [Option.some.injEq] at ht
          subst ht
          simp only [dexec] at hr
          split at hr
          · rename_i a1 h1 hmain
            split at hr
            · rename_i hsame
              simp only [Option.some.injEq, Prod.mk.injEq] at hr
              obtain ⟨rfl, rfl, rfl⟩ := hr
              have hlen := (mapM_at hdl).1
              simp only [Array.length_toList] at hlen
              have hsame' : ∀ l ∈ (M.alts id).map (ordered dl), dops call l ad h = some (.normal, a1, h1) := by
                simp only [same, decide_eq_true_eq] at hsame
                exact hsame
              refine wp_region_draw fun t => ?_
              have hlin := lin_spec (ops := ops) (by simp only [drawOk, Bool.and_eq_true] at hok; exact hok.1.1) t
              have hs : ∀ i ∈ Region.linearise .any ops t, i < ops.size := fun i hi => (hlin.2.1 i).1 hi
              simp only [Region.schedule, hm, Bool.true_or, if_true]
              rw [wpOps_wpList _ hs]
              have hrun := draw_all (call := call) (a := ad) (h := h) hok t (r := (a1, h1)) fun τ hτ => by
                rcases List.mem_cons.1 hτ with rfl | hτ
                · rw [ordered_range hlen]; exact hmain
                · exact hsame' _ (List.mem_map.2 ⟨τ, hτ, rfl⟩)
              have E0 : Ext S ρ h w S ρ h { w with drawn := w.drawn + 1 } := by
                obtain ⟨e1, e2, e3, e4, e5, e6, e7, e8, e9, e10, e11, e12⟩ := Ext.refl S ρ h w
                exact ⟨e1, e2, e3, e4, e5, e6, e7, e8, e9, e10, e11, e12⟩
              have I0 : Inv S ρ h { w with drawn := w.drawn + 1 } := by
                refine ⟨hi.len, hi.bound, hi.low, hi.apart, ?_, hi.nilrow, hi.row, hi.iter⟩
                intro i cells hc
                obtain ⟨b, c, e, p1, p2, p3, p4, p5⟩ := hi.box i cells hc
                exact ⟨b, c, e, p1, p2, p3, fun j x hx => ⟨(p4 j x hx).1, (p4 j x hx).2.1, ((p4 j x hx).2.2).mono E0⟩, p5⟩
              refine ops_sim hc hS _ _ (mapM_ordered hdl _ hs) a ad S ρ h _ .normal a1 h1 Q I0 (ha.mono E0) hd hrun fun e' a' w' hp => ?_
              obtain ⟨S2, ρ2, q1, q2, q3, q4, q5⟩ := hp
              exact hQ _ _ _ ⟨S2, ρ2, q1, E0.trans q2, q3, q4, q5⟩
            · cases hr
          · cases hr
        · cases ht
      · rename_i hdraw
        have : draw = false := by simpa using hdraw
        subst this
        simp only [Option.some.injEq] at ht
        subst ht
        simp only [dexec] at hr
        exact wp_region_list (ops_sim hc hS ops.toList dl hdl a ad S ρ h w e ad' h' Q hi ha hd hr hQ)
  | seq x y ihx ihy =>
    intro A ht a ad S ρ h w e ad' h' Q hi ha hd hr hQ
    simp only [trCode] at ht
    split at ht
    · rename_i X Y hX hY
      simp only [Option.some.injEq] at ht
      subst ht
      simp only [dexec] at hr
      refine wp_seq ?_
      cases hx : dexec call loop X ad h with
      | none => rw [hx] at hr; cases hr
      | some r =>
        obtain ⟨e1, ad1, h1⟩ := r
        rw [hx] at hr
        refine ihx X hX a ad S ρ h w e1 ad1 h1 _ hi ha hd hx fun e' a' w' hp => ?_
        cases e1 with
        | normal =>
          simp only at hr
          obtain ⟨S1, ρ1, p1, p2, p3, p4, p5⟩ := hp
          cases e' <;> simp only [ExitOk] at p5
          simp only [Exit.then]
          refine ihy Y hY a' ad1 S1 ρ1 h1 w' e ad' h' Q p3 p1 p4 hr fun e2 a2 w2 hp2 => ?_
          obtain ⟨S2, ρ2, q1, q2, q3, q4, q5⟩ := hp2
          exact hQ _ _ _ ⟨S2, ρ2, q1, p2.trans q2, q3, q4, q5⟩
        | _ =>
          simp only [Option.some.injEq, Prod.mk.injEq] at hr
          obtain ⟨rfl, rfl, rfl⟩ := hr
          have hp' := hp
          obtain ⟨S1, ρ1, p1, p2, p3, p4, p5⟩ := hp
          cases e' <;> simp only [ExitOk] at p5 <;> simp only [Exit.then] <;> exact hQ _ _ _ hp'
    · cases ht
  | cond c x y ihx ihy =>
    intro A ht a ad S ρ h w e ad' h' Q hi ha hd hr hQ
    simp only [trCode] at ht
    split at ht
    · rename_i c' X Y hc' hX hY
      simp only [Option.some.injEq] at ht
      subst ht
      simp only [dexec] at hr
      have g := rep_opd ha hc'
      split at hr
      · rename_i b eb
        rw [eb] at g
        have := repF_bool (repD_d g)
        refine wp_cond this ?_
        cases b with
        | true => exact ihx X hX a ad S ρ h w e ad' h' Q hi ha hd (by simpa using hr) hQ
        | false => exact ihy Y hY a ad S ρ h w e ad' h' Q hi ha hd (by simpa using hr) hQ
      · cases hr
    · cases ht
  | block id b ih =>
    intro A ht a ad S ρ h w e ad' h' Q hi ha hd hr hQ
    simp only [trCode, Option.map_eq_some_iff] at ht
    obtain ⟨X, hX, rfl⟩ := ht
    simp only [dexec] at hr
    refine wp_block ?_
    cases hx : dexec call loop X ad h with
    | none => rw [hx] at hr; cases hr
    | some r =>
      obtain ⟨e1, ad1, h1⟩ := r
      rw [hx] at hr
      refine ih X hX a ad S ρ h w e1 ad1 h1 _ hi ha hd hx fun e' a' w' hp => ?_
      cases e1 with
      | exit i =>
        have hp' := hp
        obtain ⟨S1, ρ1, p1, p2, p3, p4, p5⟩ := hp
        cases e' <;> simp only [ExitOk] at p5
        subst p5
        simp only [Exit.inBlock]
        simp only at hr
        split
        · rename_i heq
          rw [if_pos heq] at hr
          simp only [Option.some.injEq, Prod.mk.injEq] at hr
          obtain ⟨rfl, rfl, rfl⟩ := hr
          exact hQ _ _ _ ⟨S1, ρ1, p1, p2, p3, p4, trivial⟩
        · rename_i heq
          rw [if_neg heq] at hr
          simp only [Option.some.injEq, Prod.mk.injEq] at hr
          obtain ⟨rfl, rfl, rfl⟩ := hr
          exact hQ _ _ _ hp'
      | _ =>
        simp only [Option.some.injEq, Prod.mk.injEq] at hr
        obtain ⟨rfl, rfl, rfl⟩ := hr
        have hp' := hp
        obtain ⟨S1, ρ1, p1, p2, p3, p4, p5⟩ := hp
        cases e' <;> simp only [ExitOk] at p5 <;> simp only [Exit.inBlock] <;> exact hQ _ _ _ hp'
  | loop b ih =>
    intro A ht a ad S ρ h w e ad' h' Q hi ha hd hr hQ
    simp only [trCode, Option.map_eq_some_iff] at ht
    obtain ⟨X, hX, rfl⟩ := ht
    simp only [dexec] at hr
    exact wp_loop_rounds k (hL M h.length _ _ _ b X hX a _ S ρ h w e ad' h' Q hi (ha.mask _) hd (fun _ => rfl) hr hQ)
  | exit id =>
    intro A ht a ad S ρ h w e ad' h' Q hi ha hd hr hQ
    simp only [trCode, Option.some.injEq] at ht
    subst ht
    simp only [dexec, Option.some.injEq, Prod.mk.injEq] at hr
    obtain ⟨rfl, rfl, rfl⟩ := hr
    exact wp_exit (hQ _ _ _ ⟨S, ρ, ha, Ext.refl _ _ _ _, hi, hd, rfl⟩)
  | ret =>
    intro A ht a ad S ρ h w e ad' h' Q hi ha hd hr hQ
    simp only [trCode, Option.some.injEq] at ht
    subst ht
    simp only [dexec, Option.some.injEq, Prod.mk.injEq] at hr
    obtain ⟨rfl, rfl, rfl⟩ := hr
    exact wp_ret (hQ _ _ _ ⟨S, ρ, ha, Ext.refl _ _ _ _, hi, hd, trivial⟩)
  | _ =>
    intro A ht
    simp [trCode] at ht

theorem Post.cutoff (hi : Inv S ρ h w) {cut : Bool} {n0 : Nat} (hn : cut = true → h.length = n0) {e : DExit} {ad' : List DV} {h' : List Res} {ex : List Bool} {e' : Exit} {a' : Act} {w' : World} (ht : trims cut n0 (mask ex ad') = true) (he : ∀ v, e ≠ .pan v) (hp : Post S ρ h w e ad' h' e' a' w') :
    Post S ρ h w e (mask ex ad') (trim cut n0 h') e' a' w' := by
  obtain ⟨S1, ρ1, p1, p2, p3, p4, p5⟩ := hp
  have ok : ∀ (ρ2 : List RI) (h2 : List Res), ExitOk S1 ρ2 h2 w' e e' := by
    intro ρ2 h2
    cases e <;> cases e' <;> simp only [ExitOk] at p5 ⊢ <;> first
      | exact p5
      | exact absurd rfl (he _)
  cases cut with
  | false => exact ⟨S1, ρ1, p1.mask _, p2, p3, p4, ok _ _⟩
  | true =>
    obtain rfl := hn rfl
    simp only [trims, if_true] at ht
    simp only [trim, if_true]
    exact ⟨S1, ρ1.take h.length, (p1.mask _).take ht, p2.take hi, p3.take _, p4, ok _ _⟩

theorem round_sim (hc : CallsOk P call) (hS : CallS P call) {k : Nat} {loop : LoopF} (hL : LoopS P k loop) : LoopS P (k + 1) (dround call loop) := by
  intro M n0 cut hd ex c A ht a ad S ρ h w e ad' h' Q hi ha hdf hn hr hQ
  rw [show Code.rounds P c Q (k + 1) a w = c.wp P (Exit.then (Code.rounds P c Q k) Q) a w from rfl]
  unfold dround at hr
  split at hr
  · rename_i a1 h1 hx
    split at hr
    · rename_i htr
      refine code_sim hc hS hL M c A ht a ad S ρ h w _ _ _ _ hi ha hdf hx fun e' a' w' hp => ?_
      have hp2 := hp.cutoff hi hn (ex := hd) htr (fun v => by simp)
      obtain ⟨S1, ρ1, p1, p2, p3, p4, p5⟩ := hp2
      cases e' <;> simp only [ExitOk] at p5
      simp only [Exit.then]
      refine hL M n0 cut hd ex c A ht a' _ S1 ρ1 _ w' e ad' h' Q p3 p1 p4 (fun hcut => ?_) hr fun e2 a2 w2 hp2 => ?_
      · subst hcut
        obtain rfl := hn rfl
        have := p2.len
        simp only [trim, if_true] at this ⊢
        simp at this ⊢
        omega
      · obtain ⟨S2, ρ2, q1, q2, q3, q4, q5⟩ := hp2
        exact hQ _ _ _ ⟨S2, ρ2, q1, p2.trans q2, q3, q4, q5⟩
    · cases hr
  · rename_i v a1 h1 hx
    simp only [Option.some.injEq, Prod.mk.injEq] at hr
    obtain ⟨rfl, rfl, rfl⟩ := hr
    refine code_sim hc hS hL M c A ht a ad S ρ h w _ _ _ _ hi ha hdf hx fun e' a' w' hp => ?_
    have hp' := hp
    obtain ⟨S1, ρ1, p1, p2, p3, p4, p5⟩ := hp
    cases e' <;> simp only [ExitOk] at p5 <;> simp only [Exit.then] <;> exact hQ _ _ _ hp'
  · rename_i e1 a1 h1 hne hnp hx
    split at hr
    · rename_i htr
      simp only [Option.some.injEq, Prod.mk.injEq] at hr
      obtain ⟨rfl, rfl, rfl⟩ := hr
      refine code_sim hc hS hL M c A ht a ad S ρ h w _ _ _ _ hi ha hdf hx fun e' a' w' hp => ?_
      have hp2 := hp.cutoff hi hn (ex := ex) htr (fun v hv => hnp v hv)
      have hp' := hp2
      obtain ⟨S1, ρ1, p1, p2, p3, p4, p5⟩ := hp2
      cases e1 <;> cases e' <;> simp only [ExitOk] at p5 <;> simp only [Exit.then] <;> first
        | exact hQ _ _ _ hp'
        | exact absurd rfl hne
    · cases hr
  · cases hr

end
end Go.Deepv
