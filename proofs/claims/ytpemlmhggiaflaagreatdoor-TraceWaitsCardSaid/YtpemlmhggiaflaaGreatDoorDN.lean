/-
  The deep machine is sound: code, rounds of loops, functions; all numbers of rounds.
  Conditions: the functions' deep codes are those of their codes.
-/
import Derived.Test.YtpemlmhggiaflaaGreatDoorDM
import Derived.Test.YtpemlmhggiaflaaGreatDoorDR
set_option linter.unusedVariables false
set_option linter.unusedSimpArgs false
namespace Go.Deepv
open Go.RowKit

/-! ### A scope of labels whose code does not jump -/
section
variable {P : Program} {b : Frame} {a : Act} {k : List Item} {cs : List Frame} {w : World} {F : Fence} {n : Nat} {Q : Exit → Act → World → Prop}
theorem stepR_scope {c : Code} : step P (lone (b.atR a (.code (.scope c) :: k)) cs w) = .next (lone (b.atR a (.code c :: .inScope c :: k)) cs w) :=
  step_lone_go (by simp [stepG, stepG.exec, Frame.atR])
theorem stepR_inScope {c : Code} : step P (lone (b.atR a (.inScope c :: k)) cs w) = .next (lone (b.atR a k) cs w) :=
  step_lone_go (by simp [stepG, stepG.exec, Frame.atR])
def NoGoto (Q : Exit → Act → World → Prop) : Exit → Act → World → Prop
  | .goto _, _, _ => False
  | e, a, w => Q e a w
theorem wpIn_scope {c : Code} (h : c.wpIn F n P (NoGoto Q) a w) : (Code.scope c).wpIn F n P Q a w := by
  intro b k cs hro hb hr
  have h0 : (lone (b.atR a (.code (.scope c) :: k)) cs w).fenced P F := fenced_calm hb hr rfl
  obtain ⟨e, a₁, w₁, hq, harr⟩ := h b (.inScope c :: k) cs hro hb hr
  cases e with
  | normal => exact ⟨.normal, a₁, w₁, hq, .head h0 stepR_scope (StepsIn.trans harr (.one (fenced_calm hb hr rfl) stepR_inScope))⟩
  | exit id' =>
    have hx : exitTo id' (.inScope c :: k) = exitTo id' k := by simp [exitTo]
    exact ⟨.exit id', a₁, w₁, hq, fun k' hk => .head h0 stepR_scope (harr.1 k' (by rw [hx]; exact hk)),
      fun hr' hk => let ⟨k₁, h1, h2⟩ := harr.2 hr' (by rw [hx]; exact hk); ⟨k₁, h1, .head h0 stepR_scope h2⟩⟩
  | goto l => exact hq.elim
  | ret => exact ⟨_, a₁, w₁, hq, .of_steps (.one h0 stepR_scope) harr⟩
  | panic ch => exact ⟨_, a₁, w₁, hq, .of_steps (.one h0 stepR_scope) harr⟩
  | outgrown => exact ⟨_, a₁, w₁, hq, .of_steps (.one h0 stepR_scope) harr⟩
end

section
variable {P : Program} {G : Glob} {S S' : Settled} {ρ ρ' : List RI} {h h' : List Res} {w w' : World} {a : Act} {ad : List DV} {call : Cle → List DV → List Res → Option DOut} {out : DOut}

def LoopS (P : Program) (G : Glob) (k : Nat) (loop : LoopF) : Prop :=
  ∀ (F : Fence), Wide F → ∀ (M : Marks) (n0 : Nat) (cut : Bool) (hd ex : List Bool) (c : Code) (A : ACode), trCode P M c = some A → (F.round = none ∨ A.noRange = true) → ∀ (a : Act) (ad : List DV) (S : Settled) (ρ : List RI) (h : List Res) (w : World) (e : DExit) (ad' : List DV) (h' : List Res) (N0 : Base) (Q : Exit → Act → World → Prop),
    Inv P G S ρ h w → RepA S ρ h w a.tmps ad → Marked N0 ρ w a.defers → (cut = true → h.length = n0) → loop n0 cut hd ex A ad h = some (e, ad', h') → (∀ e' a' w', Post P G N0 S ρ h w e ad' h' e' a' w' → Q e' a' w') → Code.roundsIn F 0 P c Q k a w

theorem wpOps_wpList {F : Fence} {ops : Array Oper} {Q : Exit → Act → World → Prop} : ∀ (σ : List Nat), (∀ i ∈ σ, i < ops.size) → wpOpsIn F 0 P ops Q σ = wpListIn F 0 P ops Q (σ.map fun i => ops.getD i default)
  | [], _ => by funext a w; simp [wpOpsIn, wpListIn]
  | i :: σ, hs => by
    have hi := hs i (by simp)
    have ih := wpOps_wpList (F := F) (Q := Q) σ fun j hj => hs j (by simp [hj])
    funext a w
    simp [wpOpsIn, wpListIn, hi, ih]
theorem mapM_at {α β : Type} {f : α → Option β} : ∀ {l : List α} {dl : List β}, l.mapM f = some dl → dl.length = l.length ∧ ∀ (i : Nat) (x : α), l[i]? = some x → ∃ y, dl[i]? = some y ∧ f x = some y
  | [], dl, h => by
    simp at h
    subst h
    exact ⟨rfl, fun i x hx => by simp at hx⟩
  | x :: l, dl, h => by
    simp only [List.mapM_cons, Option.pure_def, Option.bind_eq_bind, Option.bind_eq_some_iff, Option.some.injEq] at h
    obtain ⟨d, hd1, dl', hdl, rfl⟩ := h
    obtain ⟨h1, h2⟩ := mapM_at hdl
    refine ⟨by simp [h1], fun i y hy => ?_⟩
    cases i with
    | zero => simp at hy; subst hy; exact ⟨d, rfl, hd1⟩
    | succ i => simpa using h2 i y (by simpa using hy)
theorem mapM_ordered {f : Oper → Option DOper} {ops : Array Oper} {dl : List DOper} (h : ops.toList.mapM f = some dl) : ∀ (σ : List Nat), (∀ i ∈ σ, i < ops.size) → (σ.map fun i => ops.getD i default).mapM f = some (ordered dl σ)
  | [], _ => by simp [ordered]
  | i :: σ, hs => by
    have hi := hs i (by simp)
    have ih := mapM_ordered h σ fun j hj => hs j (by simp [hj])
    obtain ⟨y, hy, hf⟩ := (mapM_at h).2 i ops[i] (by simp [hi])
    simp only [ordered] at ih
    have e1 : ops.getD i default = ops[i] := by simp [hi]
    have e2 : dl.getD i default = y := by simp [hy]
    simp only [ordered, List.map_cons, List.mapM_cons, e1, e2, hf, ih, Option.pure_def, Option.bind_eq_bind, Option.bind_some]
theorem ordered_range {dl : List DOper} {n : Nat} (h : dl.length = n) : ordered dl (List.range n) = dl := by
  subst h
  apply List.ext_getElem?
  intro i
  simp only [ordered, List.getElem?_map]
  rcases Nat.lt_or_ge i dl.length with hi | hi
  · simp [List.getElem?_range hi, hi]
  · simp [List.getElem?_eq_none hi, hi]

theorem noRange_l {q : Prop} {x y : Bool} (h : q ∨ (x && y) = true) : q ∨ x = true := h.imp id fun h => (Bool.and_eq_true _ _ ▸ h).1
theorem noRange_r {q : Prop} {x y : Bool} (h : q ∨ (x && y) = true) : q ∨ y = true := h.imp id fun h => (Bool.and_eq_true _ _ ▸ h).2
theorem noRange_b {q : Prop} {x : Bool} (h : q ∨ x = true) : q ∨ x = true := h

/-! ### A block of no cells turns -/
theorem cell_put {D : Nat} {o o' : Obj} (ho : w.heap[D]? = some o) (hn : ∀ c e p, o ≠ .cells c e p) (hn' : ∀ c e p, o' ≠ .cells c e p) (b x : Nat) : (w.putObj D o').cell? ⟨b, x, none⟩ = w.cell? ⟨b, x, none⟩ := by
  unfold World.cell?
  by_cases e : b = D
  · subst e
    simp only [ho, World.putObj_heap_same (Array.getElem?_eq_some_iff.1 ho).1]
    cases o <;> cases o' <;> first
      | rfl
      | exact absurd rfl (hn _ _ _)
      | exact absurd rfl (hn' _ _ _)
  · simp only [World.putObj_heap_other e]
theorem rep_put {D : Nat} {o o' : Obj} (ho : w.heap[D]? = some o) (hn : ∀ c e p, o ≠ .cells c e p) (hn' : ∀ c e p, o' ≠ .cells c e p) {v : Value} {x : DV} (hx : RepD S ρ h w v x) : RepD S ρ h (w.putObj D o') v x :=
  hx.monoW (fun _ _ h => h) (fun b o _ => cell_put ho hn hn' b o) (Nat.le_refl _) (fun _ _ h => h) (fun t n' _ hn => ⟨n', hn, Nat.le_refl _, fun _ => rfl⟩)
theorem inv_put (hi : Inv P G S ρ h w) {D : Nat} {o o' : Obj} (ho : w.heap[D]? = some o) (hn : ∀ c e p, o ≠ .cells c e p) (hn' : ∀ c e p, o' ≠ .cells c e p) (hD : ∀ (i : Nat) (r : RI), ρ[i]? = some r → r.block ≠ some D) : Inv P G S ρ h (w.putObj D o') where
  len := hi.len
  bound := fun b o h => by simpa using hi.bound b o h
  glob := fun b x v g => ⟨(hi.glob b x v g).1, (cell_put ho hn hn' b x).trans (hi.glob b x v g).2⟩
  low := fun i b r h1 h2 => by simpa using hi.low i b r h1 h2
  apart := hi.apart
  box := fun i cells tag hc => by
    obtain ⟨b, c, e, g1, g2, g3, g4, g5⟩ := hi.box i cells _ hc
    have hb : b ≠ D := fun e => hD i _ g1 (by rw [← e]; rfl)
    exact ⟨b, c, e, g1, by rw [World.putObj_heap_other hb]; exact g2, g3, fun j x hx => ⟨(g4 j x hx).1, (g4 j x hx).2.1, rep_put ho hn hn' (g4 j x hx).2.2⟩, g5⟩
  nilrow := hi.nilrow
  row := fun i sz n et hc => by
    obtain ⟨b, o1, cap, c, e, g1, g2, g3⟩ := hi.row i sz n et hc
    have hb : b ≠ D := fun e => hD i _ g1 (by rw [← e]; rfl)
    exact ⟨b, o1, cap, c, e, g1, by rw [World.putObj_heap_other hb]; exact g2, g3⟩
  iter := fun i s pos hc => by
    obtain ⟨b, g1, g2⟩ := hi.iter i s pos hc
    have hb : b ≠ D := fun e => hD i _ g1 (by rw [← e]; rfl)
    exact ⟨b, g1, by rw [World.putObj_heap_other hb]; exact g2⟩
  loop := fun i ps as bd snap st hc => by
    obtain ⟨b, r, g1, g2, g3, g4, g5⟩ := hi.loop i ps as bd snap st hc
    have hb : b ≠ D := fun e => hD i _ g1 (by rw [← e]; rfl)
    exact ⟨b, r, g1, by rw [World.putObj_heap_other hb]; exact g2, g3, g4, fun j x hx => ⟨(g5 j x hx).1, rep_put ho hn hn' (g5 j x hx).2⟩⟩
  own := fun i r hc => by
    obtain ⟨ri, g1, g2⟩ := hi.own i r hc
    refine ⟨ri, g1, g2.mono (fun _ _ h => h) (fun b o _ => cell_put ho hn hn' b o) fun b hb => ⟨World.putObj_heap_other (fun e => hD i _ g1 (by rw [← e]; exact hb)), fun _ h => h⟩⟩
theorem ext_put (E : Ext S ρ h w S' ρ' h' w') {D : Nat} {o o' : Obj} (ho : w'.heap[D]? = some o) (hn : ∀ c e p, o ≠ .cells c e p) (hn' : ∀ c e p, o' ≠ .cells c e p) (hD : w.heap.size ≤ D) : Ext S ρ h w S' ρ' h' (w'.putObj D o') :=
  { E with
    cells := fun b x hx => (cell_put ho hn hn' b x).trans (E.cells b x hx)
    size := by simpa using E.size
    os := E.os, tape := E.tape, output := E.output
    frame := fun b hb hr => by rw [World.putObj_heap_other (by omega)]; exact E.frame b hb hr }
theorem marked_put {N0 : Base} {ds : List Deferred} (m : Marked N0 ρ w ds) {D : Nat} {r : Loop} {o' : Obj} (ho : w.heap[D]? = some (.loop r)) : Marked N0 ρ (w.putObj D o') ds := by
  obtain ⟨h0, l, e, hn, hl⟩ := m
  refine ⟨by simpa using h0, l, e, hn, fun k hk => ⟨(hl k hk).1, ?_, (hl k hk).2.2⟩⟩
  have : k ≠ D := fun e => by rw [e] at hk; have := (hl D hk).2.1; rw [ho] at this; cases this
  rw [World.putObj_heap_other this]
  exact (hl k hk).2.1

mutual
theorem low_of_at {n : Nat} : ∀ {l : List DV}, (∀ (j : Nat) (x : DV), l[j]? = some x → x.low n = true) → DV.lows n l = true
  | [], _ => rfl
  | x :: l, h => by
    simp only [DV.lows, Bool.and_eq_true]
    exact ⟨h 0 x rfl, low_of_at fun j y hy => h (j + 1) y (by simpa using hy)⟩
end
theorem RepD.low (hl : ρ.length = h.length) {v : Value} {x : DV} (hx : RepD S ρ h w v x) : x.low h.length = true := by
  have at_ : ∀ {id b : Nat}, ρ[id]? = some (.box b) → id < h.length := fun hb => by rw [← hl]; exact (List.getElem?_eq_some_iff.1 hb).1
  induction hx with
  | d v x hx => rfl
  | ptr id off b hb => simpa [DV.low] using at_ hb
  | row v sz elems t hx ht hr => simpa [DV.low] using ht
  | agg cs fs hl hh ih => simp only [DV.low]; exact low_of_at ih
  | clo fn p q fp fq hp hq h1 h2 ih1 ih2 => simp only [DV.low, low_of_at ih1, low_of_at ih2, Bool.and_self]
  | tup cs fs hl hh ih => simp only [DV.low]; exact low_of_at ih
  | iface t v x hh ih => simpa [DV.low] using ih
  | yld id b hb => simpa [DV.low] using at_ hb
  | bslc id off n cap b hc hb => simpa [DV.low] using at_ hb
  | rptr A p n cap elems t hx hp ht hr => simpa [DV.low] using ht
  | vslc b o cap id g sz off n hc ht hr => simpa [DV.low] using ht
  | eptr b o' id g k o ht hr => simpa [DV.low] using ht
  | mref id b hb => simpa [DV.low] using at_ hb
theorem RepA.low (hl : ρ.length = h.length) {a : Array Value} (ha : RepA S ρ h w a ad) : DV.lows h.length ad = true := low_of_at fun j x hx => (ha.at_ j x hx).low hl

/-- A range over a function is entered. -/
theorem range_enter (hi : Inv P G S ρ h w) {N0 : Base} {ds : List Deferred} (hd : Marked N0 ρ w ds) {r : Loop} {ps : List Nat} {as bd : ACode} {snap : List DV} (hk : LoopOk P ps as bd .ready r) (ha : RepA S ρ h w r.tmps snap) :
    ∃ S', Ext S ρ h w S' (ρ ++ [.box (w.heap.size + 1)]) (h ++ [.loop ps as bd snap .ready]) ((w.alloc (.deferred (some []))).alloc (.loop r)) ∧ Inv P G S' (ρ ++ [.box (w.heap.size + 1)]) (h ++ [.loop ps as bd snap .ready]) ((w.alloc (.deferred (some []))).alloc (.loop r)) ∧
      Marked N0 (ρ ++ [.box (w.heap.size + 1)]) ((w.alloc (.deferred (some []))).alloc (.loop r)) (mark w.heap.size :: ds) := by
  have E1 := ext_alloc hi (.deferred (some [])) (fun _ => False) [] [] (fun r b hr hb => by simp at hr)
  have I1 := inv_alloc_old hi (.deferred (some [])) (fun _ => False) [] [] (fun r b hr hb => by simp at hr) rfl (fun i j b r r' hr => by simp at hr) (fun i cells tag hc => by simp at hc) (fun i hc => by simp at hc) (fun i sz n et hc => by simp at hc) (fun i s pos hc => by simp at hc)
  have ha1 := ha.mono E1
  have M1 : Marked N0 ρ (w.alloc (.deferred (some []))) (mark w.heap.size :: ds) := by
    have M0 := hd.mono E1
    rw [List.append_nil] at M0
    obtain ⟨h0, l, e, hn, hl⟩ := M0
    obtain ⟨h0', l', e', hn', hl'⟩ := hd
    refine ⟨h0, w.heap.size :: l', by rw [e']; rfl, List.nodup_cons.2 ⟨fun hm => ?_, hn'⟩, fun D hD => ?_⟩
    · have := (Array.getElem?_eq_some_iff.1 (hl' _ hm).2.1).1
      omega
    · rcases List.mem_cons.1 hD with rfl | hD
      · refine ⟨h0', heap_alloc_at _ _, fun i r hr hb => ?_⟩
        have := hi.low i _ r hr hb
        omega
      · have e2 : l = l' := by
          have := e.symm.trans e'
          exact (List.map_inj_right (fun a b hab => by simpa [mark] using hab)).1 (List.append_cancel_right this)
        subst e2
        exact hl D hD
  simp only [List.append_nil] at E1 I1 ha1
  generalize hw1 : w.alloc (.deferred (some [])) = w1 at *
  have hsz : w1.heap.size = w.heap.size + 1 := by rw [← hw1, size_alloc]
  rw [← hsz]
  have E2 := ext_alloc I1 (.loop r) (fun _ => False) [.box w1.heap.size] [.loop ps as bd snap .ready] (fun r b hr hb => by simp at hr; subst hr; simpa [RI.block] using hb.symm)
  refine ⟨_, E1.trans E2, inv_alloc_old I1 (.loop r) (fun _ => False) _ _ (fun r b hr hb => by simp at hr; subst hr; simpa [RI.block] using hb.symm) rfl ?_ (fun i cells tag hc => by rcases i with _ | i <;> simp at hc) (fun i hc => by rcases i with _ | i <;> simp at hc) (fun i sz n et hc => by rcases i with _ | i <;> simp at hc) (fun i s pos hc => by rcases i with _ | i <;> simp at hc) ?_, M1.mono E2⟩
  · intro i j b r r' hr hr' _ _
    have a1 := (List.getElem?_eq_some_iff.1 hr).1
    have a2 := (List.getElem?_eq_some_iff.1 hr').1
    simp at a1 a2
    omega
  · intro i ps' as' bd' snap' st' hc
    rcases i with _ | i
    · simp at hc
      obtain ⟨rfl, rfl, rfl, rfl, rfl⟩ := hc
      exact ⟨w1.heap.size, r, rfl, heap_alloc_at _ _, hk, ha1.len, fun j x hx => ⟨(ha1.at_ j x hx).low I1.len, (ha1.at_ j x hx).mono E2⟩⟩
    · simp at hc

theorem fits_ready {s : LoopState} {p : Option Code} (h : LSt.fits .ready s p) : s = .ready ∧ p = none := by
  unfold LSt.fits at h
  split at h <;> simp_all
theorem fits_exit {i : Nat} {s : LoopState} {p : Option Code} (h : LSt.fits (.done (some i)) s p) : s = .done ∧ p = some (.exit i) := by
  unfold LSt.fits at h
  split at h <;> simp_all
theorem fits_ret {s : LoopState} {p : Option Code} (h : LSt.fits (.done none) s p) : s = .done ∧ p = some .ret := by
  unfold LSt.fits at h
  split at h <;> simp_all

theorem code_sim {F : Fence} (hF : Wide F) (hc : CallsOk P call) (hS : CallS P G call) {k : Nat} {loop : LoopF} (hL : LoopS P G k loop) (M : Marks) : ∀ (c : Code) (A : ACode), trCode P M c = some A → (F.round = none ∨ A.noRange = true) → ∀ (a : Act) (ad : List DV) (S : Settled) (ρ : List RI) (h : List Res) (w : World) (e : DExit) (ad' : List DV) (h' : List Res) (N0 : Base) (Q : Exit → Act → World → Prop),
    Inv P G S ρ h w → RepA S ρ h w a.tmps ad → Marked N0 ρ w a.defers → dexec call loop A ad h = some (e, ad', h') → (∀ e' a' w', Post P G N0 S ρ h w e ad' h' e' a' w' → Q e' a' w') → c.wpIn F 0 P Q a w := by
  intro c
  induction c with
  | skip =>
    intro A ht hR a ad S ρ h w e ad' h' N0 Q hi ha hd hr hQ
    simp only [trCode, Option.some.injEq] at ht
    subst ht
    simp only [dexec, Option.some.injEq, Prod.mk.injEq] at hr
    obtain ⟨rfl, rfl, rfl⟩ := hr
    exact wpIn_skip (hQ _ _ _ ⟨S, ρ, ha, Ext.refl _ _ _ _, hi, hd, trivial⟩)
  | region id ops draw =>
    intro A ht hR a ad S ρ h w e ad' h' N0 Q hi ha hd hr hQ
    simp only [trCode] at ht
    split at ht
    · cases ht
    · rename_i dl hdl
      split at ht
      · rename_i hdraw
        subst hdraw
        split at ht
        · rename_i hok
          simp only [Bool.and_eq_true] at hok
          obtain ⟨hm, hok⟩ := hok
          simp only [Option.some.injEq] at ht
          subst ht
          simp only [dexec] at hr
          split at hr
          · rename_i a1 h1 hmain
            split at hr
            · rename_i hsame
              simp only [Option.some.injEq, Prod.mk.injEq] at hr
              obtain ⟨rfl, rfl, rfl⟩ := hr
              have hlen := (mapM_at hdl).1
              simp only [Array.length_toList] at hlen
              have hsame' : ∀ l ∈ (M.alts id).map (ordered dl), dops call l ad h = some (.normal, a1, h1) := by
                simp only [same, decide_eq_true_eq] at hsame
                exact hsame
              refine wpIn_region_draw fun t => ?_
              have hlin := lin_spec (ops := ops) (by simp only [drawOk, Bool.and_eq_true] at hok; exact hok.1.1) t
              have hs : ∀ i ∈ Region.linearise .any ops t, i < ops.size := fun i hi => (hlin.2.1 i).1 hi
              simp only [Region.schedule, hm, Bool.true_or, if_true]
              rw [wpOps_wpList _ hs]
              have hrun := draw_all (call := call) (a := ad) (h := h) hok t (r := (a1, h1)) fun τ hτ => by
                rcases List.mem_cons.1 hτ with rfl | hτ
                · rw [ordered_range hlen]; exact hmain
                · exact hsame' _ (List.mem_map.2 ⟨τ, hτ, rfl⟩)
              have E0 : Ext S ρ h w S ρ h { w with drawn := w.drawn + 1 } := by
                obtain ⟨e1, e2, e3, e4, e5, e6, e7, e8, e9, e10, e11, e12⟩ := Ext.refl S ρ h w
                exact ⟨e1, e2, e3, e4, e5, e6, e7, e8, e9, e10, e11, e12⟩
              have I0 : Inv P G S ρ h { w with drawn := w.drawn + 1 } := by
                refine ⟨hi.len, hi.bound, hi.glob, hi.low, hi.apart, ?_, hi.nilrow, hi.row, hi.iter, fun i ps as bd snap st h1 => by
                  obtain ⟨b, r, g1, g2, g3, g4, g5⟩ := hi.loop i ps as bd snap st h1
                  exact ⟨b, r, g1, g2, g3, g4, fun j x hx => ⟨(g5 j x hx).1, (g5 j x hx).2.mono E0⟩⟩, fun i r hc => by
                  obtain ⟨ri, g1, g2⟩ := hi.own i r hc
                  exact ⟨ri, g1, OwnOk.mono (w := w) (w' := { w with drawn := w.drawn + 1 }) (fun _ _ h => h) (fun _ _ _ => rfl) (fun b hb => ⟨rfl, fun _ h => h⟩) g2⟩⟩
                intro i cells tag hc
                obtain ⟨b, c, e, p1, p2, p3, p4, p5⟩ := hi.box i cells _ hc
                exact ⟨b, c, e, p1, p2, p3, fun j x hx => ⟨(p4 j x hx).1, (p4 j x hx).2.1, ((p4 j x hx).2.2).mono E0⟩, p5⟩
              refine ops_sim hF hc hS _ _ (mapM_ordered hdl _ hs) a ad S ρ h _ .normal a1 h1 N0 Q I0 (ha.mono E0) (hd.mono E0) hrun fun e' a' w' hp => ?_
              obtain ⟨S2, ρ2, q1, q2, q3, q4, q5⟩ := hp
              exact hQ _ _ _ ⟨S2, ρ2, q1, E0.trans q2, q3, q4, q5⟩
            · cases hr
          · cases hr
        · cases ht
      · rename_i hdraw
        have : draw = false := by simpa using hdraw
        subst this
        simp only [Option.some.injEq] at ht
        subst ht
        simp only [dexec] at hr
        exact wpIn_region_list (ops_sim hF hc hS ops.toList dl hdl a ad S ρ h w e ad' h' N0 Q hi ha hd hr hQ)
  | seq x y ihx ihy =>
    intro A ht hR a ad S ρ h w e ad' h' N0 Q hi ha hd hr hQ
    simp only [trCode] at ht
    split at ht
    · rename_i X Y hX hY
      simp only [Option.some.injEq] at ht
      subst ht
      simp only [dexec] at hr
      refine wpIn_seq ?_
      cases hx : dexec call loop X ad h with
      | none => rw [hx] at hr; cases hr
      | some r =>
        obtain ⟨e1, ad1, h1⟩ := r
        rw [hx] at hr
        refine ihx X hX (noRange_l hR) a ad S ρ h w e1 ad1 h1 N0 _ hi ha hd hx fun e' a' w' hp => ?_
        cases e1 with
        | normal =>
          simp only at hr
          obtain ⟨S1, ρ1, p1, p2, p3, p4, p5⟩ := hp
          cases e' <;> simp only [ExitOk] at p5
          simp only [Exit.then]
          refine ihy Y hY (noRange_r hR) a' ad1 S1 ρ1 h1 w' e ad' h' N0 Q p3 p1 p4 hr fun e2 a2 w2 hp2 => ?_
          obtain ⟨S2, ρ2, q1, q2, q3, q4, q5⟩ := hp2
          exact hQ _ _ _ ⟨S2, ρ2, q1, p2.trans q2, q3, q4, q5⟩
        | _ =>
          simp only [Option.some.injEq, Prod.mk.injEq] at hr
          obtain ⟨rfl, rfl, rfl⟩ := hr
          have hp' := hp
          obtain ⟨S1, ρ1, p1, p2, p3, p4, p5⟩ := hp
          cases e' <;> simp only [ExitOk] at p5 <;> simp only [Exit.then] <;> exact hQ _ _ _ hp'
    · cases ht
  | cond c x y ihx ihy =>
    intro A ht hR a ad S ρ h w e ad' h' N0 Q hi ha hd hr hQ
    simp only [trCode] at ht
    split at ht
    · rename_i c' X Y hc' hX hY
      simp only [Option.some.injEq] at ht
      subst ht
      simp only [dexec] at hr
      have g := rep_opd ha hc'
      split at hr
      · rename_i b eb
        rw [eb] at g
        have := repF_bool (repD_d g)
        refine wpIn_cond this ?_
        cases b with
        | true => exact ihx X hX (noRange_l hR) a ad S ρ h w e ad' h' N0 Q hi ha hd (by simpa using hr) hQ
        | false => exact ihy Y hY (noRange_r hR) a ad S ρ h w e ad' h' N0 Q hi ha hd (by simpa using hr) hQ
      · cases hr
    · cases ht
  | block id b ih =>
    intro A ht hR a ad S ρ h w e ad' h' N0 Q hi ha hd hr hQ
    simp only [trCode, Option.map_eq_some_iff] at ht
    obtain ⟨X, hX, rfl⟩ := ht
    simp only [dexec] at hr
    refine wpIn_block ?_
    cases hx : dexec call loop X ad h with
    | none => rw [hx] at hr; cases hr
    | some r =>
      obtain ⟨e1, ad1, h1⟩ := r
      rw [hx] at hr
      refine ih X hX (noRange_b hR) a ad S ρ h w e1 ad1 h1 N0 _ hi ha hd hx fun e' a' w' hp => ?_
      cases e1 with
      | exit i =>
        have hp' := hp
        obtain ⟨S1, ρ1, p1, p2, p3, p4, p5⟩ := hp
        cases e' <;> simp only [ExitOk] at p5
        subst p5
        simp only [Exit.inBlock]
        simp only at hr
        split
        · rename_i heq
          rw [if_pos heq] at hr
          simp only [Option.some.injEq, Prod.mk.injEq] at hr
          obtain ⟨rfl, rfl, rfl⟩ := hr
          exact hQ _ _ _ ⟨S1, ρ1, p1, p2, p3, p4, trivial⟩
        · rename_i heq
          rw [if_neg heq] at hr
          simp only [Option.some.injEq, Prod.mk.injEq] at hr
          obtain ⟨rfl, rfl, rfl⟩ := hr
          exact hQ _ _ _ hp'
      | _ =>
        simp only [Option.some.injEq, Prod.mk.injEq] at hr
        obtain ⟨rfl, rfl, rfl⟩ := hr
        have hp' := hp
        obtain ⟨S1, ρ1, p1, p2, p3, p4, p5⟩ := hp
        cases e' <;> simp only [ExitOk] at p5 <;> simp only [Exit.inBlock] <;> exact hQ _ _ _ hp'
  | loop b ih =>
    intro A ht hR a ad S ρ h w e ad' h' N0 Q hi ha hd hr hQ
    simp only [trCode, Option.map_eq_some_iff] at ht
    obtain ⟨X, hX, rfl⟩ := ht
    simp only [dexec] at hr
    exact wpIn_loop_rounds k (hL F hF M h.length _ _ _ b X hX (noRange_b hR) a _ S ρ h w e ad' h' N0 Q hi (ha.mask _) hd (fun _ => rfl) hr hQ)
  | exit id =>
    intro A ht hR a ad S ρ h w e ad' h' N0 Q hi ha hd hr hQ
    simp only [trCode, Option.some.injEq] at ht
    subst ht
    simp only [dexec, Option.some.injEq, Prod.mk.injEq] at hr
    obtain ⟨rfl, rfl, rfl⟩ := hr
    exact wpIn_exit (hQ _ _ _ ⟨S, ρ, ha, Ext.refl _ _ _ _, hi, hd, rfl⟩)
  | ret =>
    intro A ht hR a ad S ρ h w e ad' h' N0 Q hi ha hd hr hQ
    simp only [trCode, Option.some.injEq] at ht
    subst ht
    simp only [dexec, Option.some.injEq, Prod.mk.injEq] at hr
    obtain ⟨rfl, rfl, rfl⟩ := hr
    exact wpIn_ret (hQ _ _ _ ⟨S, ρ, ha, Ext.refl _ _ _ _, hi, hd, trivial⟩)
  | rangeFunc g ps as bd _ _ =>
    intro A ht hR a ad S ρ h w e ad' h' N0 Q hi ha hd hr hQ
    simp only [trCode] at ht
    split at ht
    · rename_i f' A' B' hf' hA' hB'
      split at ht
      · rename_i hno
        simp only [Option.some.injEq] at ht
        subst ht
        have hro : F.round = none := hR.elim id fun h => by simp [ACode.noRange] at h
        have g1 := rep_opd ha hf'
        simp only [dexec] at hr
        refine wpIn_rangeFunc fun fn hfn => ?_
        rw [hro]
        let r : Loop := { state := .ready, pending := none, fn, tmps := a.tmps, params := ps, assign := as, body := bd, defers := w.heap.size }
        obtain ⟨S1, E1, I1, M1⟩ := range_enter (r := r) hi hd (ps := ps.toList) (as := A') (bd := B') (snap := Deepv.mask (M.sn (firstRegion bd)) ad) ⟨rfl, ⟨M, hA', hB'⟩, by simpa using hno, trivial⟩ (ha.mask _)
        have henter := run_enterLoop_outer (P := P) (w := w) fn a.tmps ps as bd
        generalize hw1 : (w.alloc (.deferred (some []))).alloc (.loop r) = w1 at *
        have hy : RepD S1 (ρ ++ [.box (w.heap.size + 1)]) (h ++ [.loop ps.toList A' B' (Deepv.mask (M.sn (firstRegion bd)) ad) .ready]) w1 (.func (.yield (w.heap.size + 1)) #[] #[]) (.yld h.length) := .yld _ _ (by rw [← hi.len]; simp)
        have g2 := g1.mono E1
        -- what is called
        have key : ∀ (fv : DV), ev ad f' = fv → (∀ id, fv ≠ .yld id) → ∀ out, dcallV call fv [.yld h.length] (h ++ [.loop ps.toList A' B' (Deepv.mask (M.sn (firstRegion bd)) ad) .ready]) = some out →
            ∃ gf lb args1, a.eval g = .func (.func gf) args1 lb ∧ (callFunc gf (args1 ++ #[.func (.yield (w.heap.size + 1)) #[] #[]] ++ lb)).run P w1 = .ok (.enter gf (args1 ++ #[.func (.yield (w.heap.size + 1)) #[] #[]] ++ lb)) w1 ∧
              Calls P gf (args1 ++ #[.func (.yield (w.heap.size + 1)) #[] #[]] ++ lb) w1 (CallPost P G S1 (ρ ++ [.box (w.heap.size + 1)]) (h ++ [.loop ps.toList A' B' (Deepv.mask (M.sn (firstRegion bd)) ad) .ready]) w1 out) := by
          intro fv he hny out hd1
          rw [he] at g2
          have one : (#[Value.func (.yield (w.heap.size + 1)) #[] #[]] : Array Value).size = [DV.yld h.length].length := rfl
          have ryl : ∀ (j : Nat) (x : DV), [DV.yld h.length][j]? = some x → RepD S1 (ρ ++ [.box (w.heap.size + 1)]) (h ++ [.loop ps.toList A' B' (Deepv.mask (M.sn (firstRegion bd)) ad) .ready]) w1 ((#[Value.func (.yield (w.heap.size + 1)) #[] #[]] : Array Value).getD j undef) x := fun j x hx => by
            rcases j with _ | j
            · simp at hx; subst hx; exact hy
            · simp at hx
          simp only [dcallV] at hd1
          split at hd1
          · rename_i gf p q
            obtain ⟨fn', f1, f2, f3⟩ := hc _ _ _ _ hd1
            have gg := repD_d g2
            generalize hv : a.eval g = vf at *
            cases gg with
            | func _ p' q' fp fq hp hq h1 h2 =>
              refine ⟨gf, q', p', rfl, run_callFunc f1 f2 f3, ?_⟩
              have s1 := rep_append (S := S1) (w := w1) (ds := p.map .d) (by simpa using hp) one (fun j x hx => by
                simp only [List.getElem?_map, Option.map_eq_some_iff] at hx
                obtain ⟨y, hy, rfl⟩ := hx
                exact .d _ _ (h1 j y hy)) ryl
              have s2 := rep_append (es := q.map .d) s1.1 (by simpa using hq) s1.2 (fun j x hx => by
                simp only [List.getElem?_map, Option.map_eq_some_iff] at hx
                obtain ⟨y, hy, rfl⟩ := hx
                exact .d _ _ (h2 j y hy))
              exact hS.fn gf _ _ S1 _ _ w1 out I1 s2.1 s2.2 hd1
          · rename_i gf p q
            obtain ⟨fn', f1, f2, f3⟩ := hc _ _ _ _ hd1
            generalize hv : a.eval g = vf at *
            cases g2 with
            | clo _ p' q' fp fq hp hq h1 h2 =>
              refine ⟨gf, q', p', rfl, run_callFunc f1 f2 f3, ?_⟩
              have s1 := rep_append (S := S1) (w := w1) (ds := p) hp one h1 ryl
              have s2 := rep_append (es := q) s1.1 hq s1.2 h2
              exact hS.fn gf _ _ S1 _ _ w1 out I1 s2.1 s2.2 hd1
          · exact absurd rfl (hny _)
          · cases hd1
        split at hr
        · cases hr
        · rename_i hny
          split at hr
          · rename_i v h1 hd1
            obtain ⟨gf, lb, args1, hev, hinv, hcall⟩ := key _ rfl (fun id hid => hny id hid) _ hd1
            refine ⟨w.heap.size + 1, [mark w.heap.size], w1, { target := .fn (.func gf) lb, args := args1 ++ #[.func (.yield (w.heap.size + 1)) #[] #[]] }, w1, gf, _, w1, ?_, ?_, fun f' _ => hF.fn f', ?_, (fun hh => by rw [hF.depth] at hh; cases hh), hF.calls (hcall.mono fun e1 w3 hp => ?_)⟩
            · rw [henter]; rfl
            · simp [resolve, rangeCall, Deferred.ofValue, hev]
              rfl
            · simpa [invoke] using hinv
            · obtain ⟨x, S3, ρ3, rfl, hx, E3, I3⟩ := hp
              have E13 := E1.trans E3
              have hρl : ρ3[h.length]? = some (.box (w.heap.size + 1)) := E3.boxes _ _ (by rw [← hi.len]; simp)
              have M3 := M1.mono E3
              -- the record
              have fin : ∀ (ps1 : List Nat) (as1 bd1 : ACode) (snap1 : List DV) (st : LSt), h1[h.length]? = some (.loop ps1 as1 bd1 snap1 st) → st ≠ .busy →
                  ∃ r3, w3.heap[w.heap.size + 1]? = some (.loop r3) ∧ LSt.fits st r3.state r3.pending ∧ (Instr.endLoop (w.heap.size + 1)).run P w3 = .ok r3.pending (w3.putObj (w.heap.size + 1) (.loop { r3 with state := .exhausted })) := by
                intro ps1 as1 bd1 snap1 st hl hne
                obtain ⟨b, r3, q1, q2, q3, q4, q5⟩ := I3.loop _ _ _ _ _ _ hl
                rw [hρl] at q1
                simp only [Option.some.injEq, RI.box.injEq] at q1
                subst q1
                refine ⟨r3, q2, q3.state, run_endLoop q2 ?_⟩
                have q := q3.state
                cases st with
                | ready => rw [(fits_ready q).1]; exact fun h => by cases h
                | busy => exact absurd rfl hne
                | done j => cases j with
                  | none => rw [(fits_ret q).1]; exact fun h => by cases h
                  | some j => rw [(fits_exit q).1]; exact fun h => by cases h
              have post : ∀ r3 : Loop, w3.heap[w.heap.size + 1]? = some (.loop r3) → Post P G N0 S ρ h w .normal ad (h1.take h.length) .normal { a with defers := [mark w.heap.size] ++ a.defers } (w3.putObj (w.heap.size + 1) (.loop { r3 with state := .exhausted })) := by
                intro r3 h3
                have nc : ∀ (r : Loop) c e p, Obj.loop r ≠ .cells c e p := fun r c e p h => by cases h
                have hD : ∀ (i : Nat) (r : RI), (ρ3.take h.length)[i]? = some r → r.block ≠ some (w.heap.size + 1) := fun i r hir hb => by
                  obtain ⟨hin, hir⟩ := take_some hir
                  have := I3.apart i h.length _ _ _ hir hρl hb rfl
                  omega
                have Et := E13.take hi
                refine ⟨S3, ρ3.take h.length, ?_, ext_put Et h3 (nc _) (nc _) (by omega), inv_put (I3.take _) h3 (nc _) (nc _) hD, marked_put (M3.take _) h3, trivial⟩
                have hat := (ha.mono E13).take (ha.low hi.len)
                exact ⟨hat.len, fun j x hx => rep_put h3 (nc _) (nc _) (hat.at_ j x hx)⟩
              split at hr <;> first
                | (cases hr; done)
                | skip
              · rename_i hl
                simp only [Option.some.injEq, Prod.mk.injEq] at hr
                obtain ⟨rfl, rfl, rfl⟩ := hr
                obtain ⟨r3, h3, hfit, hend⟩ := fin _ _ _ _ _ hl (fun h => by cases h)
                have pp := post r3 h3
                generalize w3.putObj (w.heap.size + 1) (.loop { r3 with state := .exhausted }) = w4 at hend pp
                refine ⟨r3.pending, w4, hend, ?_⟩
                have : r3.pending = none := (fits_ready hfit).2
                rw [this]
                exact hQ _ _ _ pp
              · rename_i i hl
                simp only [Option.some.injEq, Prod.mk.injEq] at hr
                obtain ⟨rfl, rfl, rfl⟩ := hr
                obtain ⟨r3, h3, hfit, hend⟩ := fin _ _ _ _ _ hl (fun h => by cases h)
                have pp := post r3 h3
                generalize w3.putObj (w.heap.size + 1) (.loop { r3 with state := .exhausted }) = w4 at hend pp
                refine ⟨r3.pending, w4, hend, ?_⟩
                have : r3.pending = some (.exit i) := (fits_exit hfit).2
                rw [this]
                obtain ⟨S4, ρ4, p1, p2, p3, p4, p5⟩ := pp
                exact wpIn_exit (hQ _ _ _ ⟨S4, ρ4, p1, p2, p3, p4, rfl⟩)
              · rename_i hl
                simp only [Option.some.injEq, Prod.mk.injEq] at hr
                obtain ⟨rfl, rfl, rfl⟩ := hr
                obtain ⟨r3, h3, hfit, hend⟩ := fin _ _ _ _ _ hl (fun h => by cases h)
                have pp := post r3 h3
                generalize w3.putObj (w.heap.size + 1) (.loop { r3 with state := .exhausted }) = w4 at hend pp
                refine ⟨r3.pending, w4, hend, ?_⟩
                have : r3.pending = some .ret := (fits_ret hfit).2
                rw [this]
                obtain ⟨S4, ρ4, p1, p2, p3, p4, p5⟩ := pp
                exact wpIn_ret (hQ _ _ _ ⟨S4, ρ4, p1, p2, p3, p4, trivial⟩)
          · cases hr
      · cases ht
    · cases ht
  | refuse why =>
    intro A ht hR a ad S ρ h w e ad' h' N0 Q hi ha hd hr hQ
    simp only [trCode, Option.some.injEq] at ht
    subst ht
    simp [dexec] at hr
  | scope c ih =>
    intro A ht hR a ad S ρ h w e ad' h' N0 Q hi ha hd hr hQ
    simp only [trCode] at ht
    refine wpIn_scope ?_
    refine ih A ht hR a ad S ρ h w e ad' h' N0 _ hi ha hd hr fun e' a' w' hp => ?_
    have hq := hQ e' a' w' hp
    cases e' with
    | goto l =>
      obtain ⟨S1, ρ1, p1, p2, p3, p4, p5⟩ := hp
      cases e <;> simp only [ExitOk] at p5
    | _ => exact hq
  | label l =>
    intro A ht hR a ad S ρ h w e ad' h' N0 Q hi ha hd hr hQ
    simp only [trCode, Option.some.injEq] at ht
    subst ht
    simp only [dexec, Option.some.injEq, Prod.mk.injEq] at hr
    obtain ⟨rfl, rfl, rfl⟩ := hr
    exact wpIn_label (hQ _ _ _ ⟨S, ρ, ha, Ext.refl _ _ _ _, hi, hd, trivial⟩)
  | goto l =>
    intro A ht hR a ad S ρ h w e ad' h' N0 Q hi ha hd hr hQ
    simp only [trCode, Option.some.injEq] at ht
    subst ht
    simp [dexec] at hr

theorem Post.cutoff (hi : Inv P G S ρ h w) {cut : Bool} {n0 : Nat} {N0 : Base} (hn : cut = true → h.length = n0) {e : DExit} {ad' : List DV} {h' : List Res} {ex : List Bool} {e' : Exit} {a' : Act} {w' : World} (ht : trims cut n0 (mask ex ad') = true) (he : ∀ v, e ≠ .pan v) (hp : Post P G N0 S ρ h w e ad' h' e' a' w') :
    Post P G N0 S ρ h w e (mask ex ad') (trim cut n0 h') e' a' w' := by
  obtain ⟨S1, ρ1, p1, p2, p3, p4, p5⟩ := hp
  have ok : ∀ (ρ2 : List RI) (h2 : List Res), ExitOk S1 ρ2 h2 w' e e' := by
    intro ρ2 h2
    cases e <;> cases e' <;> simp only [ExitOk] at p5 ⊢ <;> first
      | exact p5
      | exact absurd rfl (he _)
  cases cut with
  | false => exact ⟨S1, ρ1, p1.mask _, p2, p3, p4, ok _ _⟩
  | true =>
    obtain rfl := hn rfl
    simp only [trims, if_true] at ht
    simp only [trim, if_true]
    exact ⟨S1, ρ1.take h.length, (p1.mask _).take ht, p2.take hi, p3.take _, p4.take _, ok _ _⟩

theorem round_sim (hc : CallsOk P call) (hS : CallS P G call) {k : Nat} {loop : LoopF} (hL : LoopS P G k loop) : LoopS P G (k + 1) (dround call loop) := by
  intro F hF M n0 cut hd ex c A ht hR a ad S ρ h w e ad' h' N0 Q hi ha hdf hn hr hQ
  rw [show Code.roundsIn F 0 P c Q (k + 1) a w = c.wpIn F 0 P (Exit.then (Code.roundsIn F 0 P c Q k) Q) a w from rfl]
  unfold dround at hr
  split at hr
  · rename_i a1 h1 hx
    split at hr
    · rename_i htr
      refine code_sim hF hc hS hL M c A ht hR a ad S ρ h w _ _ _ N0 _ hi ha hdf hx fun e' a' w' hp => ?_
      have hp2 := hp.cutoff hi hn (ex := hd) htr (fun v => by simp)
      obtain ⟨S1, ρ1, p1, p2, p3, p4, p5⟩ := hp2
      cases e' <;> simp only [ExitOk] at p5
      simp only [Exit.then]
      refine hL F hF M n0 cut hd ex c A ht hR a' _ S1 ρ1 _ w' e ad' h' N0 Q p3 p1 p4 (fun hcut => ?_) hr fun e2 a2 w2 hp2 => ?_
      · subst hcut
        obtain rfl := hn rfl
        have := p2.len
        simp only [trim, if_true] at this ⊢
        simp at this ⊢
        omega
      · obtain ⟨S2, ρ2, q1, q2, q3, q4, q5⟩ := hp2
        exact hQ _ _ _ ⟨S2, ρ2, q1, p2.trans q2, q3, q4, q5⟩
    · cases hr
  · rename_i v a1 h1 hx
    simp only [Option.some.injEq, Prod.mk.injEq] at hr
    obtain ⟨rfl, rfl, rfl⟩ := hr
    refine code_sim hF hc hS hL M c A ht hR a ad S ρ h w _ _ _ N0 _ hi ha hdf hx fun e' a' w' hp => ?_
    have hp' := hp
    obtain ⟨S1, ρ1, p1, p2, p3, p4, p5⟩ := hp
    cases e' <;> simp only [ExitOk] at p5 <;> simp only [Exit.then] <;> exact hQ _ _ _ hp'
  · rename_i e1 a1 h1 hne hnp hx
    split at hr
    · rename_i htr
      simp only [Option.some.injEq, Prod.mk.injEq] at hr
      obtain ⟨rfl, rfl, rfl⟩ := hr
      refine code_sim hF hc hS hL M c A ht hR a ad S ρ h w _ _ _ N0 _ hi ha hdf hx fun e' a' w' hp => ?_
      have hp2 := hp.cutoff hi hn (ex := ex) htr (fun v hv => hnp v hv)
      have hp' := hp2
      obtain ⟨S1, ρ1, p1, p2, p3, p4, p5⟩ := hp2
      cases e1 <;> cases e' <;> simp only [ExitOk] at p5 <;> simp only [Exit.then] <;> first
        | exact hQ _ _ _ hp'
        | exact absurd rfl hne
    · cases hr
  · cases hr

/-! ### A round of a range over a function -/
theorem setAll_rep : ∀ (l : List Nat) (args : List Value) (da : List DV) (tm : Array Value) (ad : List DV), args.length = da.length → (∀ (j : Nat) (x : DV), da[j]? = some x → RepD S ρ h w (args.getD j undef) x) → RepA S ρ h w tm ad →
    RepA S ρ h w ((l.zip args).foldl (fun tmps p => tmps.setIfInBounds p.1 p.2) tm) (setAll ad l da)
  | [], args, da, tm, ad, hl, hr, ha => by simpa [setAll] using ha
  | p :: l, [], [], tm, ad, hl, hr, ha => by simpa [setAll] using ha
  | p :: l, v :: args, x :: da, tm, ad, hl, hr, ha => by
    simp only [setAll, List.zip_cons_cons, List.foldl_cons]
    have h1 := (RepA.put (a := { tmps := tm, defers := [] }) ha (by simpa using hr 0 x rfl) (some p))
    exact setAll_rep l args da _ _ (by simpa using hl) (fun j y hy => by simpa using hr (j + 1) y (by simpa using hy)) h1
  | p :: l, [], x :: da, tm, ad, hl, hr, ha => by simp at hl
  | p :: l, v :: args, [], tm, ad, hl, hr, ha => by simp at hl

/-- The record turns. -/
theorem loop_upd (hi : Inv P G S ρ h w) {id l : Nat} {ps : List Nat} {as bd : ACode} {snap : List DV} {st st' : LSt} (hh : h[id]? = some (.loop ps as bd snap st)) (hρ : ρ[id]? = some (.box l)) {r : Loop} (hr : w.heap[l]? = some (.loop r)) (s' : LoopState) (p' : Option Code) (hf : LSt.fits st' s' p') :
    Ext S ρ h w S ρ (h.set id (.loop ps as bd snap st')) (w.putObj l (.loop { r with state := s', pending := p' })) ∧ Inv P G S ρ (h.set id (.loop ps as bd snap st')) (w.putObj l (.loop { r with state := s', pending := p' })) := by
  have hid : id < h.length := (List.getElem?_eq_some_iff.1 hh).1
  have nc : ∀ (r : Loop) c e p, Obj.loop r ≠ .cells c e p := fun r c e p h => by cases h
  have hl : l < w.heap.size := hi.low id l _ hρ rfl
  obtain ⟨b, r0, g1, g2, g3, g4, g5⟩ := hi.loop id ps as bd snap st hh
  rw [hρ] at g1
  simp only [Option.some.injEq, RI.box.injEq] at g1
  subst g1
  rw [hr] at g2
  simp only [Option.some.injEq, Obj.loop.injEq] at g2
  subst g2
  have tip : ∀ t, (((h.set id (.loop ps as bd snap st'))[t]?).bind Res.tip) = (h[t]?).bind Res.tip := fun t => by
    by_cases e : t = id
    · subst e
      rw [List.getElem?_set_self hid, hh]
      rfl
    · rw [List.getElem?_set_ne (Ne.symm e)]
  have E : Ext S ρ h w S ρ (h.set id (.loop ps as bd snap st')) (w.putObj l (.loop { r with state := s', pending := p' })) :=
    { settled := fun _ _ x => x
      cells := fun b o _ => cell_put hr (nc _) (nc _) b o
      len := by simp
      boxes := fun _ _ x => x
      rows := fun t n' _ hn => by rw [tip] at hn; exact ⟨n', hn, Nat.le_refl _, fun _ => rfl⟩
      size := by simp
      os := rfl, tape := rfl, output := rfl
      frame := fun b hb hn => World.putObj_heap_other fun e => hn id _ hρ (by rw [e]; rfl)
      blocks := fun i b r hr hb => .inr ⟨i, r, hr, hb, _root_.id⟩
      fresh := fun _ _ x => .inl x }
  have hset : ρ.set id (.box l) = ρ := set_self _ _ _ hρ
  refine ⟨E, ?_⟩
  have I := inv_upd (S' := S) (ri' := .box l) (r' := .loop ps as bd snap st') (w' := w.putObj l (.loop { r with state := s', pending := p' })) hi hid (by rw [hset]; exact E)
    (fun i b r hne hr hb => ⟨World.putObj_heap_other fun e => hne (hi.apart i id _ _ _ hr hρ (by rw [hb, e]) rfl), fun _ x => x⟩)
    (fun b o x => by simpa using hi.bound b o x)
    (fun b hb => ⟨by simp only [RI.block, Option.some.injEq] at hb; subst hb; simpa using hl, fun i r hne hr hb' => hne (by simp only [RI.block, Option.some.injEq] at hb; subst hb; exact hi.apart i id _ _ _ hr hρ hb' rfl)⟩)
    (fun cells tag hc => by cases hc) (fun hc => by cases hc) (fun sz n et hc => by cases hc) (fun s pos hc => by cases hc)
    (fun ps1 as1 bd1 snap1 st1 hc => by
      cases hc
      exact ⟨l, _, rfl, World.putObj_heap_same hl, ⟨g3.params, g3.code, g3.norange, hf⟩, g4, fun j x hx => ⟨(g5 j x hx).1, by rw [hset]; exact (g5 j x hx).2.mono E⟩⟩)
  rwa [hset] at I

theorem endLoop_some {id n : Nat} {st : LSt} {h2 : List Res} {out : DOut} (hh : endLoop id n st h2 = some out) : ∃ ps as bd snap st2, h2[id]? = some (.loop ps as bd snap st2) ∧ out = .val (.d (.bool st.isReady)) ((h2.set id (.loop ps as bd snap st)).take n) := by
  simp only [endLoop, Option.map_eq_some_iff] at hh
  obtain ⟨h3, hm, rfl⟩ := hh
  unfold markLoop at hm
  split at hm
  · rename_i ps as bd snap st2 e
    simp only [Option.some.injEq] at hm
    subst hm
    exact ⟨_, _, _, _, _, e, rfl⟩
  · cases hm

theorem yield_sim (hc : CallsOk P call) (hS : CallS P G call) {k : Nat} {loop : LoopF} (hL : LoopS P G k loop) (id l : Nat) (args : Array Value) (dargs : List DV) (S : Settled) (ρ : List RI) (h : List Res) (w : World) (out : DOut) (hi : Inv P G S ρ h w) (hρ : ρ[id]? = some (.box l))
    (hl : args.size = dargs.length) (hr : ∀ (j : Nat) (x : DV), dargs[j]? = some x → RepD S ρ h w (args.getD j undef) x) (hd : dyield call loop id dargs h = some out) :
    ∃ f tmps as bd, (Instr.yield l args).run P w = .ok (.round l f tmps as bd) w ∧ ∀ F : Fence, Wide F → RoundIn F 0 P l f tmps as bd w (CallPost P G S ρ h w out) := by
  unfold dyield at hd
  split at hd
  · rename_i ps A B snap hh
    obtain ⟨b, r, g1, g2, g3, g4, g5⟩ := hi.loop id ps A B snap _ hh
    rw [hρ] at g1
    simp only [Option.some.injEq, RI.box.injEq] at g1
    subst g1
    split at hd
    · rename_i hlen
      obtain ⟨M, hA, hB⟩ := g3.code
      have hps : args.size = r.params.size := by rw [hl, hlen, ← g3.params]; simp
      refine ⟨_, _, _, _, run_yield g2 hps, fun F hF => ?_⟩
      refine roundIn_of_wpIn (hF.fn _) ?_
      have hT : RepA S ρ h w ((r.params.zip args).foldl (fun tmps p => tmps.setIfInBounds p.1 p.2) r.tmps) (setAll snap ps dargs) := by
        have := setAll_rep (S := S) (ρ := ρ) (h := h) (w := w) r.params.toList args.toList dargs r.tmps snap (by simpa using hl) (fun j x hx => by simpa [Array.getD_eq_getD_getElem?, List.getD_eq_getElem?_getD] using hr j x hx) ⟨g4, fun j x hx => (g5 j x hx).2⟩
        rw [g3.params] at this
        rw [← g3.params] at this ⊢
        simpa [← Array.toList_zip, Array.foldl_toList] using this
      split at hd
      · rename_i a1 h1 hxa
        split at hd
        · rename_i ps1 as1 bd1 snap1 hh1
          split at hd
          · rename_i h1b hmark
            refine code_sim (hF.inRound l) hc hS hL M _ A hA (.inr g3.norange.1) ⟨_, []⟩ _ S ρ h w _ _ _ (0, []) _ hi hT (.nil (Nat.zero_le _)) hxa fun e' a' w' hp => ?_
            obtain ⟨S1, ρ1, p1, p2, p3, p4, p5⟩ := hp
            cases e' <;> simp only [ExitOk] at p5
            simp only [Exit.then]
            have hρ1 := p2.boxes _ _ hρ
            obtain ⟨b, r1, q1, q2, q3, q4, q5⟩ := p3.loop _ _ _ _ _ _ hh1
            rw [hρ1] at q1
            simp only [Option.some.injEq, RI.box.injEq] at q1
            subst q1
            obtain ⟨s1, s2⟩ := fits_ready q3.state
            refine ⟨_, run_beginRound q2 s1, ?_⟩
            simp only [markLoop, hh1, Option.some.injEq] at hmark
            subst hmark
            obtain ⟨E2, I2⟩ := loop_upd p3 hh1 hρ1 q2 .busy none (st' := .busy) trivial
            have er : ({ r1 with state := .busy } : Loop) = { r1 with state := .busy, pending := none } := by rw [← s2]
            rw [er]
            generalize w'.putObj l (.loop { r1 with state := .busy, pending := none }) = w2 at E2 I2 ⊢
            generalize h1.set id (.loop ps1 as1 bd1 snap1 .busy) = h1b at hd E2 I2
            have fin : ∀ (st : LSt) (jump : Option Code) (h2 : List Res) (S3 : Settled) (ρ3 : List RI) (w3 : World), LSt.fits st (if jump.isNone then .ready else .done) jump → st.isReady = jump.isNone →
                Ext S1 ρ1 h1b w2 S3 ρ3 h2 w3 → Inv P G S3 ρ3 h2 w3 → endLoop id h.length st h2 = some out → ∃ v w4, (Instr.endRound l jump).run P w3 = .ok v w4 ∧ CallPost P G S ρ h w out (.returned v) w4 := by
              intro st jump h2 S3 ρ3 w3 hfit hb E3 I3 hend
              obtain ⟨ps2, as2, bd2, snap2, st2, hh2, rfl⟩ := endLoop_some hend
              have hρ3 := E3.boxes _ _ hρ1
              obtain ⟨b, r2, z1, z2, z3, z4, z5⟩ := I3.loop _ _ _ _ _ _ hh2
              rw [hρ3] at z1
              simp only [Option.some.injEq, RI.box.injEq] at z1
              subst z1
              obtain ⟨E4, I4⟩ := loop_upd I3 hh2 hρ3 z2 _ jump hfit
              refine ⟨_, _, run_endRound jump z2, _, S3, ρ3.take h.length, rfl, ?_, ?_, I4.take _⟩
              · rw [hb]; exact .d _ _ (.bool _)
              · exact (((p2.trans E2).trans E3).trans E4).take hi
            refine wpIn_mono (Q := fun e2 a2 w3 => ∃ e, (∃ ad2 h2, dexec call loop B a1 h1b = some (e, ad2, h2) ∧ Post P G (0, []) S1 ρ1 h1b w2 e ad2 h2 e2 a2 w3)) ?_ ?_
            · cases hxb : dexec call loop B a1 h1b with
              | none => rw [hxb] at hd; cases hd
              | some q =>
                obtain ⟨e, ad2, h2⟩ := q
                exact code_sim (hF.inRound l) hc hS hL M _ B hB (.inr g3.norange.2) a' _ S1 ρ1 h1b w2 e ad2 h2 (0, []) _ I2 (p1.mono E2) (p4.mono E2) hxb fun e' a' w' hp => ⟨e, ad2, h2, rfl, hp⟩
            · rintro e2 a2 w3 ⟨e, ad2, h2, hxb, hp⟩
              rw [hxb] at hd
              obtain ⟨S3, ρ3, y1, y2, y3, y4, y5⟩ := hp
              cases e with
              | normal =>
                cases e2 <;> simp only [ExitOk] at y5
                exact fin .ready none h2 S3 ρ3 w3 trivial rfl y2 y3 hd
              | ret =>
                cases e2 <;> simp only [ExitOk] at y5
                exact fin (.done none) (some .ret) h2 S3 ρ3 w3 trivial rfl y2 y3 hd
              | exit i =>
                cases e2 <;> simp only [ExitOk] at y5
                subst y5
                exact fin (.done (some i)) (some (.exit i)) h2 S3 ρ3 w3 rfl rfl y2 y3 hd
              | pan v => cases hd
          · cases hd
        · cases hd
      · cases hd
    · cases hd
  · cases hd

end
end Go.Deepv
