/-
  The deep machine is sound: code, rounds of loops, functions; all numbers of rounds; The deep machine over all numbers of rounds, and its soundness; The deep machine's limit: what a call comes to with enough rounds; its equations; its soundness; Contracts of the library's functions as calls of the deep machine: a result of data and fresh memory; strconv.Itoa, strings.Join, (*strings.Builder).copyCheck; Contracts of library functions: strings.Split at one byte, strconv.Atoi; From a given statement's frame to the deep machine: what the world's cells are, kept for the library's contracts; a wrap that keeps what is laid and the world's shape; The deep machine in use: what its proofs lean on; The equations by which the deep machine is stepped, in one; The deep machine stepped so that what is undecided becomes an if; everything behind it is pushed into its branches; The words by which the machine is stepped, in one theorem for each style; slices.Clone as a call of the deep machine: data goes in, the same data comes out, be it nil or not
  Conditions: none.
-/
import Derived.Test.YtnhpfocibedoeaaPB
import Derived.RecoverIn
import Derived.Lib.Strings
import Derived.Shelf.Strconv.Itoa4
import Derived.Lib.ValidU
import Derived.Shelf.Strings.OnBuilder
import Derived.Lib.ParseIntB
import Derived.Lib.SplitLaws
import Derived.Lib.AtoiAll
import Derived.HandedShaped
import Derived.Handed
import Derived.Lib.LaidTab
set_option linter.unusedVariables false
set_option linter.unusedSimpArgs false
namespace Go.Deepv
open Go.RowKit
section
variable {P : Program} {b : Frame} {a : Act} {k : List Item} {cs : List Frame} {w : World} {F : Fence} {n : Nat} {Q : Exit → Act → World → Prop}
theorem stepR_scope {c : Code} : step P (lone (b.atR a (.code (.scope c) :: k)) cs w) = .next (lone (b.atR a (.code c :: .inScope c :: k)) cs w) :=
 step_lone_go (by simp [stepG, stepG.exec, Frame.atR])
theorem stepR_inScope {c : Code} : step P (lone (b.atR a (.inScope c :: k)) cs w) = .next (lone (b.atR a k) cs w) :=
 step_lone_go (by simp [stepG, stepG.exec, Frame.atR])
def _root_.Go.Code.scopeIn (F : Fence) (n : Nat) (P : Program) (c : Code) (Q : Exit → Act → World → Prop) : Nat → Code → Act → World → Prop
 | 0, _, _, _ => False
 | m + 1, r, a, w => r.wpIn F n P (fun e a w => match e with
  | .goto l => (match findLabel c l with
   | some rest => Code.scopeIn F n P c Q m rest a w
   | none => Q (.goto l) a w)
  | e => Q e a w) a w
theorem wpIn_scope_goto {c : Code} {m : Nat} (h : Code.scopeIn F n P c Q m c a w) : (Code.scope c).wpIn F n P Q a w := by
 intro b k cs hro hb hr
 have key : ∀ m r a w, Code.scopeIn F n P c Q m r a w →
   ∃ e a' w', Q e a' w' ∧ ArrivesIn (Machine.fenced P F) P (lone (b.atR a (.code r :: .inScope c :: k)) cs w) b k cs e a' w' := by
  intro m
  induction m with
  | zero => intro r a w h; exact h.elim
  | succ m ih =>
   intro r a w h
   obtain ⟨e, a₁, w₁, hq, harr⟩ := h b (.inScope c :: k) cs hro hb hr
   cases e with
   | normal => exact ⟨.normal, a₁, w₁, hq, StepsIn.trans harr (.one (fenced_calm hb hr rfl) stepR_inScope)⟩
   | exit id' =>
    have hx : exitTo id' (.inScope c :: k) = exitTo id' k := by simp [exitTo]
    exact ⟨.exit id', a₁, w₁, hq, fun k' hk => harr.1 k' (by rw [hx]; exact hk),
     fun hr' hk => let ⟨k₁, h1, h2⟩ := harr.2 hr' (by rw [hx]; exact hk); ⟨k₁, h1, h2⟩⟩
   | goto l =>
    simp only at hq
    split at hq
    ·rename_i rest hl
     have hx : gotoIn l (.inScope c :: k) = some (.code rest :: .inScope c :: k) := by simp [gotoIn, hl]
     obtain ⟨e2, a2, w2, hq2, harr2⟩ := ih rest a₁ w₁ hq
     exact ⟨e2, a2, w2, hq2, .of_steps (harr.1 _ hx) harr2⟩
    ·rename_i hl
     have hx : gotoIn l (.inScope c :: k) = gotoIn l k := by simp [gotoIn, hl]
     exact ⟨.goto l, a₁, w₁, hq, fun k' hk => harr.1 k' (by rw [hx]; exact hk),
      fun hr' hk => let ⟨k₁, h1, h2⟩ := harr.2 hr' (by rw [hx]; exact hk); ⟨k₁, h1, h2⟩⟩
   | ret => exact ⟨_, a₁, w₁, hq, harr⟩
   | panic ch => exact ⟨_, a₁, w₁, hq, harr⟩
   | outgrown => exact ⟨_, a₁, w₁, hq, harr⟩
 have h0 : (lone (b.atR a (.code (.scope c) :: k)) cs w).fenced P F := fenced_calm hb hr rfl
 obtain ⟨e, a1, w1, hq, harr⟩ := key m c a w h
 exact ⟨e, a1, w1, hq, .of_steps (.one h0 stepR_scope) harr⟩
end
section
variable {P : Program} {G : Glob} {S S' : Settled} {ρ ρ' : List RI} {h h' : List Res} {w w' : World} {a : Act} {ad : List DV} {call : Cle → List DV → List Res → Option DOut} {out : DOut}
def LoopS (P : Program) (G : Glob) (k : Nat) (loop : LoopF) : Prop :=
 ∀ (F : Fence), Wide F → ∀ (M : Marks) (n0 : Nat) (cut : Bool) (hd ex : List Bool) (c : Code) (A : ACode), trCode P M c = some A → (F.round = none ∨ A.noRange = true) → ∀ (a : Act) (ad : List DV) (S : Settled) (ρ : List RI) (h : List Res) (w : World) (e : DExit) (ad' : List DV) (h' : List Res) (N0 : Base) (Q : Exit → Act → World → Prop),
  Inv P G S ρ h w → RepA S ρ h w a.tmps ad → Marked N0 ρ w a.defers → (N0.2.2 = false ∨ A.noRange = true) → (cut = true → h.length = n0) → loop n0 cut hd ex A ad h = some (e, ad', h') → (∀ e' a' w', Post P G N0 S ρ h w e ad' h' e' a' w' → Q e' a' w') → Code.roundsIn F 0 P c Q k a w
def unk (l : Nat) (e : DExit) : DExit := match e with
 | .exit i => if i = kid l then .normal else .exit i
 | e => e
def GotoS (P : Program) (G : Glob) (k : Nat) (loop : LoopF) : Prop :=
 ∀ (F : Fence), Wide F → ∀ (M : Marks) (n0 : Nat) (cut : Bool) (hd ex : List Bool) (c rest : Code) (l : Nat) (A : ACode), l < 1000000 → findLabel c l = some rest → (∀ l', l' ≠ l → findLabel c l' = none) → trCode P M rest = some A → (F.round = none ∨ A.noRange = true) → ∀ (a : Act) (ad : List DV) (S : Settled) (ρ : List RI) (h : List Res) (w : World) (e : DExit) (ad' : List DV) (h' : List Res) (N0 : Base) (Q : Exit → Act → World → Prop),
  Inv P G S ρ h w → RepA S ρ h w a.tmps ad → Marked N0 ρ w a.defers → (N0.2.2 = false ∨ A.noRange = true) → (cut = true → h.length = n0) → loop n0 cut hd ex (.block (gid l) (.seq A (.exit (kid l)))) ad h = some (e, ad', h') → (∀ e' a' w', Post P G N0 S ρ h w (unk l e) ad' h' e' a' w' → Q e' a' w') → Code.scopeIn F 0 P c Q k rest a w
theorem label_spec (M : Marks) : ∀ (c : Code) (A : ACode), trCode P M c = some A → ∀ l, (afind A l = none → findLabel c l = none) ∧ (∀ R, afind A l = some R → ∃ rest, findLabel c l = some rest ∧ trCode P M rest = some R) := by
 intro c
 induction c with
 | seq x y ihx ihy =>
  intro A ht l
  simp only [trCode] at ht
  split at ht
  ·rename_i X Y hX hY
   simp only [Option.some.injEq] at ht
   subst ht
   obtain ⟨x1, x2⟩ := ihx X hX l
   obtain ⟨y1, y2⟩ := ihy Y hY l
   cases hx : afind X l with
   | none =>
    have e1 := x1 hx
    refine ⟨fun h => ?_, fun R h => ?_⟩
    ·simp only [afind, hx] at h
     simp only [findLabel, e1]
     exact y1 h
    ·simp only [afind, hx] at h
     obtain ⟨rest, r1, r2⟩ := y2 R h
     exact ⟨rest, by simp only [findLabel, e1]; exact r1, r2⟩
   | some r =>
    obtain ⟨rx, r1, r2⟩ := x2 r hx
    refine ⟨fun h => ?_, fun R h => ?_⟩
    ·simp only [afind, hx] at h
     cases h
    ·simp only [afind, hx, Option.some.injEq] at h
     subst h
     exact ⟨.seq rx y, by simp only [findLabel, r1], by simp only [trCode, r2, hY]⟩
  ·cases ht
 | label l0 =>
  intro A ht l
  simp only [trCode] at ht
  split at ht
  ·simp only [Option.some.injEq] at ht
   subst ht
   simp only [afind, findLabel]
   by_cases e : l0 = l
   ·subst e
    simp [trCode]
   ·have : ¬ 3000000 + l0 = 3000000 + l := by omega
    simp [this, e]
  ·cases ht
 | block id b _ =>
  intro A ht l
  simp only [trCode] at ht
  split at ht
  ·rename_i hid
   simp only [Option.map_eq_some_iff] at ht
   obtain ⟨X, hX, rfl⟩ := ht
   have : afind (.block id X) l = none := by
    cases X <;> simp only [afind]
    rw [if_neg (by omega)]
   exact ⟨fun _ => rfl, fun R h => by rw [this] at h; cases h⟩
  ·cases ht
 | scope c _ =>
  intro A ht l
  simp only [trCode, Option.bind_eq_some_iff] at ht
  obtain ⟨X, hX, ht⟩ := ht
  have hn : ∀ (Y : ACode) (m : Nat), alabels Y = [] → afind Y m = none := by
   intro Y m
   induction Y with
   | seq p q ihp ihq =>
    intro hy
    simp only [alabels, List.append_eq_nil_iff] at hy
    simp only [afind, ihp hy.1, ihq hy.2]
   | block id q _ =>
    intro hy
    cases q <;> simp only [afind]
    simp only [alabels] at hy
    split at hy
    ·cases hy
    ·rw [if_neg (by omega)]
   | _ => intro _; rfl
  have : afind A l = none := by
   unfold scopeA at ht
   split at ht
   ·rename_i hl
    simp only [Option.some.injEq] at ht
    subst ht
    exact hn X l hl
   ·split at ht
    ·split at ht
     ·simp only [Option.some.injEq] at ht
      subst ht
      rfl
     ·simp only [Option.some.injEq] at ht
      subst ht
      rfl
    ·simp only [Option.some.injEq] at ht
     subst ht
     rfl
   ·simp only [Option.some.injEq] at ht
    subst ht
    rfl
  exact ⟨fun _ => rfl, fun R h => by rw [this] at h; cases h⟩
 | skip =>
  intro A ht l
  simp only [trCode, Option.some.injEq] at ht
  subst ht
  exact ⟨fun _ => rfl, fun R h => by cases h⟩
 | ret =>
  intro A ht l
  simp only [trCode, Option.some.injEq] at ht
  subst ht
  exact ⟨fun _ => rfl, fun R h => by cases h⟩
 | refuse why =>
  intro A ht l
  simp only [trCode, Option.some.injEq] at ht
  subst ht
  exact ⟨fun _ => rfl, fun R h => by cases h⟩
 | exit id =>
  intro A ht l
  simp only [trCode, Option.some.injEq] at ht
  subst ht
  split <;> exact ⟨fun _ => rfl, fun R h => by cases h⟩
 | goto id =>
  intro A ht l
  simp only [trCode, Option.some.injEq] at ht
  subst ht
  split <;> exact ⟨fun _ => rfl, fun R h => by cases h⟩
 | region id ops draw =>
  intro A ht l
  simp only [trCode] at ht
  split at ht
  ·cases ht
  ·split at ht
   ·split at ht <;> (simp only [Option.some.injEq] at ht; subst ht; exact ⟨fun _ => rfl, fun R h => by cases h⟩)
   ·simp only [Option.some.injEq] at ht
    subst ht
    exact ⟨fun _ => rfl, fun R h => by cases h⟩
 | cond c x y _ _ =>
  intro A ht l
  simp only [trCode] at ht
  split at ht
  ·simp only [Option.some.injEq] at ht
   subst ht
   exact ⟨fun _ => rfl, fun R h => by cases h⟩
  ·cases ht
 | loop b _ =>
  intro A ht l
  simp only [trCode, Option.map_eq_some_iff] at ht
  obtain ⟨X, hX, rfl⟩ := ht
  exact ⟨fun _ => rfl, fun R h => by cases h⟩
 | rangeFunc g ps as_ bd _ _ =>
  intro A ht l
  simp only [trCode] at ht
  split at ht
  ·split at ht
   ·simp only [Option.some.injEq] at ht
    subst ht
    exact ⟨fun _ => rfl, fun R h => by cases h⟩
   ·cases ht
  ·cases ht
theorem alabels_find {A : ACode} : ∀ {l : Nat}, l ∉ alabels A → afind A l = none := by
 induction A with
 | seq p q ihp ihq =>
  intro l hy
  simp only [alabels, List.mem_append, not_or] at hy
  simp only [afind, ihp hy.1, ihq hy.2]
 | block id q _ =>
  intro l hy
  cases q <;> simp only [afind]
  simp only [alabels] at hy
  split at hy
  ·simp only [List.mem_singleton] at hy
   rw [if_neg (by omega)]
  ·rw [if_neg (by omega)]
 | _ => intro l _; rfl
theorem wpOps_wpList {F : Fence} {ops : Array Oper} {Q : Exit → Act → World → Prop} : ∀ (σ : List Nat), (∀ i ∈ σ, i < ops.size) → wpOpsIn F 0 P ops Q σ = wpListIn F 0 P ops Q (σ.map fun i => ops.getD i default)
 | [], _ => by funext a w; simp [wpOpsIn, wpListIn]
 | i :: σ, hs => by
  have hi := hs i (by simp)
  have ih := wpOps_wpList (F := F) (Q := Q) σ fun j hj => hs j (by simp [hj])
  funext a w
  simp [wpOpsIn, wpListIn, hi, ih]
theorem mapM_at {α β : Type} {f : α → Option β} : ∀ {l : List α} {dl : List β}, l.mapM f = some dl → dl.length = l.length ∧ ∀ (i : Nat) (x : α), l[i]? = some x → ∃ y, dl[i]? = some y ∧ f x = some y
 | [], dl, h => by
  simp at h
  subst h
  exact ⟨rfl, fun i x hx => by simp at hx⟩
 | x :: l, dl, h => by
  simp only [List.mapM_cons, Option.pure_def, Option.bind_eq_bind, Option.bind_eq_some_iff, Option.some.injEq] at h
  obtain ⟨d, hd1, dl', hdl, rfl⟩ := h
  obtain ⟨h1, h2⟩ := mapM_at hdl
  refine ⟨by simp [h1], fun i y hy => ?_⟩
  cases i with
  | zero => simp at hy; subst hy; exact ⟨d, rfl, hd1⟩
  | succ i => simpa using h2 i y (by simpa using hy)
theorem mapM_ordered {f : Oper → Option DOper} {ops : Array Oper} {dl : List DOper} (h : ops.toList.mapM f = some dl) : ∀ (σ : List Nat), (∀ i ∈ σ, i < ops.size) → (σ.map fun i => ops.getD i default).mapM f = some (ordered dl σ)
 | [], _ => by simp [ordered]
 | i :: σ, hs => by
  have hi := hs i (by simp)
  have ih := mapM_ordered h σ fun j hj => hs j (by simp [hj])
  obtain ⟨y, hy, hf⟩ := (mapM_at h).2 i ops[i] (by simp [hi])
  simp only [ordered] at ih
  have e1 : ops.getD i default = ops[i] := by simp [hi]
  have e2 : dl.getD i default = y := by simp [hy]
  simp only [ordered, List.map_cons, List.mapM_cons, e1, e2, hf, ih, Option.pure_def, Option.bind_eq_bind, Option.bind_some]
theorem ordered_range {dl : List DOper} {n : Nat} (h : dl.length = n) : ordered dl (List.range n) = dl := by
 subst h
 apply List.ext_getElem?
 intro i
 simp only [ordered, List.getElem?_map]
 rcases Nat.lt_or_ge i dl.length with hi | hi
 ·simp [List.getElem?_range hi, hi]
 ·simp [List.getElem?_eq_none hi, hi]
theorem noRange_l {q : Prop} {x y : Bool} (h : q ∨ (x && y) = true) : q ∨ x = true := h.imp id fun h => (Bool.and_eq_true _ _ ▸ h).1
theorem noRange_r {q : Prop} {x y : Bool} (h : q ∨ (x && y) = true) : q ∨ y = true := h.imp id fun h => (Bool.and_eq_true _ _ ▸ h).2
theorem noRange_b {q : Prop} {x : Bool} (h : q ∨ x = true) : q ∨ x = true := h
theorem cell_put {D : Nat} {o o' : Obj} (ho : w.heap[D]? = some o) (hn : ∀ c e p, o ≠ .cells c e p) (hn' : ∀ c e p, o' ≠ .cells c e p) (b x : Nat) : (w.putObj D o').cell? ⟨b, x, none⟩ = w.cell? ⟨b, x, none⟩ := by
 unfold World.cell?
 by_cases e : b = D
 ·subst e
  simp only [ho, World.putObj_heap_same (Array.getElem?_eq_some_iff.1 ho).1]
  cases o <;> cases o' <;> first
   | rfl
   | exact absurd rfl (hn _ _ _)
   | exact absurd rfl (hn' _ _ _)
 ·simp only [World.putObj_heap_other e]
theorem rep_put {D : Nat} {o o' : Obj} (ho : w.heap[D]? = some o) (hn : ∀ c e p, o ≠ .cells c e p) (hn' : ∀ c e p, o' ≠ .cells c e p) {v : Value} {x : DV} (hx : RepD S ρ h w v x) : RepD S ρ h (w.putObj D o') v x :=
 hx.monoW (fun _ _ h => h) (fun b o _ => cell_put ho hn hn' b o) (Nat.le_refl _) (fun _ _ h => h) (fun t n' _ hn => ⟨n', hn, Nat.le_refl _, fun _ => rfl⟩)
theorem inv_put (hi : Inv P G S ρ h w) {D : Nat} {o o' : Obj} (ho : w.heap[D]? = some o) (hn : ∀ c e p, o ≠ .cells c e p) (hn' : ∀ c e p, o' ≠ .cells c e p) (hD : ∀ (i : Nat) (r : RI), ρ[i]? = some r → r.block ≠ some D) : Inv P G S ρ h (w.putObj D o') where
 len := hi.len
 bound := fun b o h => by simpa using hi.bound b o h
 glob := fun b x v g => ⟨(hi.glob b x v g).1, (cell_put ho hn hn' b x).trans (hi.glob b x v g).2⟩
 low := fun i b r h1 h2 => by simpa using hi.low i b r h1 h2
 apart := hi.apart
 box := fun i cells tag hc => by
  obtain ⟨b, c, e, g1, g2, g3, g4, g5⟩ := hi.box i cells _ hc
  have hb : b ≠ D := fun e => hD i _ g1 (by rw [← e]; rfl)
  exact ⟨b, c, e, g1, by rw [World.putObj_heap_other hb]; exact g2, g3, fun j x hx => ⟨(g4 j x hx).1, (g4 j x hx).2.1, rep_put ho hn hn' (g4 j x hx).2.2⟩, g5⟩
 nilrow := hi.nilrow
 row := fun i sz n et hc => by
  obtain ⟨b, o1, cap, c, e, g1, g2, g3⟩ := hi.row i sz n et hc
  have hb : b ≠ D := fun e => hD i _ g1 (by rw [← e]; rfl)
  exact ⟨b, o1, cap, c, e, g1, by rw [World.putObj_heap_other hb]; exact g2, g3⟩
 iter := fun i s pos hc => by
  obtain ⟨b, g1, g2⟩ := hi.iter i s pos hc
  have hb : b ≠ D := fun e => hD i _ g1 (by rw [← e]; rfl)
  exact ⟨b, g1, by rw [World.putObj_heap_other hb]; exact g2⟩
 loop := fun i ps as_ bd snap st hc => by
  obtain ⟨b, r, g1, g2, g3, g4, g5⟩ := hi.loop i ps as_ bd snap st hc
  have hb : b ≠ D := fun e => hD i _ g1 (by rw [← e]; rfl)
  exact ⟨b, r, g1, by rw [World.putObj_heap_other hb]; exact g2, g3, g4, fun j x hx => ⟨(g5 j x hx).1, rep_put ho hn hn' (g5 j x hx).2⟩⟩
 own := fun i r hc => by
  obtain ⟨ri, g1, g2⟩ := hi.own i r hc
  refine ⟨ri, g1, g2.mono (fun _ _ h => h) (fun b o _ => cell_put ho hn hn' b o) fun b hb => ⟨World.putObj_heap_other (fun e => hD i _ g1 (by rw [← e]; exact hb)), fun _ h => h⟩⟩
theorem ext_put (E : Ext S ρ h w S' ρ' h' w') {D : Nat} {o o' : Obj} (ho : w'.heap[D]? = some o) (hn : ∀ c e p, o ≠ .cells c e p) (hn' : ∀ c e p, o' ≠ .cells c e p) (hD : w.heap.size ≤ D) : Ext S ρ h w S' ρ' h' (w'.putObj D o') :=
 { E with
  cells := fun b x hx => (cell_put ho hn hn' b x).trans (E.cells b x hx)
  size := by simpa using E.size
  os := E.os, tape := E.tape, output := E.output
  frame := fun b hb hr => by rw [World.putObj_heap_other (by omega)]; exact E.frame b hb hr }
theorem marked_put {N0 : Base} {ds : List Deferred} (m : Marked N0 ρ w ds) {D : Nat} {r : Loop} {o' : Obj} (ho : w.heap[D]? = some (.loop r)) : Marked N0 ρ (w.putObj D o') ds := by
 obtain ⟨h0, l, e, hst, hn, hl⟩ := m
 refine ⟨by simpa using h0, l, e, hst, hn, fun k hk => ⟨(hl k hk).1, ?_, (hl k hk).2.2⟩⟩
 have : k ≠ D := fun e => by rw [e] at hk; have := (hl D hk).2.1; rw [ho] at this; cases this
 rw [World.putObj_heap_other this]
 exact (hl k hk).2.1
mutual
theorem low_of_at {n : Nat} : ∀ {l : List DV}, (∀ (j : Nat) (x : DV), l[j]? = some x → x.low n = true) → DV.lows n l = true
 | [], _ => rfl
 | x :: l, h => by
  simp only [DV.lows, Bool.and_eq_true]
  exact ⟨h 0 x rfl, low_of_at fun j y hy => h (j + 1) y (by simpa using hy)⟩
end
theorem RepD.low (hl : ρ.length = h.length) {v : Value} {x : DV} (hx : RepD S ρ h w v x) : x.low h.length = true := by
 have at_ : ∀ {id b : Nat}, ρ[id]? = some (.box b) → id < h.length := fun hb => by rw [← hl]; exact (List.getElem?_eq_some_iff.1 hb).1
 induction hx with
 | d v x hx => rfl
 | ptr id off b hb => simpa [DV.low] using at_ hb
 | row v sz elems t hx ht hr => simpa [DV.low] using ht
 | agg cs fs hl hh ih => simp only [DV.low]; exact low_of_at ih
 | clo fn p q fp fq hp hq h1 h2 ih1 ih2 => simp only [DV.low, low_of_at ih1, low_of_at ih2, Bool.and_self]
 | tup cs fs hl hh ih => simp only [DV.low]; exact low_of_at ih
 | iface t v x hh ih => simpa [DV.low] using ih
 | yld id b hb => simpa [DV.low] using at_ hb
 | bslc id off n cap b hc hb => simpa [DV.low] using at_ hb
 | rptr A p n cap elems t hx hp ht hr => simpa [DV.low] using ht
 | vslc b o cap id g sz off n hc ht hr => simpa [DV.low] using ht
 | eptr b o' id g k o ht hr => simpa [DV.low] using ht
 | mref id b hb => simpa [DV.low] using at_ hb
theorem RepA.low (hl : ρ.length = h.length) {a : Array Value} (ha : RepA S ρ h w a ad) : DV.lows h.length ad = true := low_of_at fun j x hx => (ha.at_ j x hx).low hl
theorem range_enter (hi : Inv P G S ρ h w) {N0 : Base} {ds : List Deferred} (hst : N0.2.2 = false) (hd : Marked N0 ρ w ds) {r : Loop} {ps : List Nat} {as_ bd : ACode} {snap : List DV} (hk : LoopOk P ps as_ bd .ready r) (ha : RepA S ρ h w r.tmps snap) :
  ∃ S', Ext S ρ h w S' (ρ ++ [.box (w.heap.size + 1)]) (h ++ [.loop ps as_ bd snap .ready]) ((w.alloc (.deferred (some []))).alloc (.loop r)) ∧ Inv P G S' (ρ ++ [.box (w.heap.size + 1)]) (h ++ [.loop ps as_ bd snap .ready]) ((w.alloc (.deferred (some []))).alloc (.loop r)) ∧
   Marked N0 (ρ ++ [.box (w.heap.size + 1)]) ((w.alloc (.deferred (some []))).alloc (.loop r)) (mark w.heap.size :: ds) := by
 have E1 := ext_alloc hi (.deferred (some [])) (fun _ => False) [] [] (fun r b hr hb => by simp at hr)
 have I1 := inv_alloc_old hi (.deferred (some [])) (fun _ => False) [] [] (fun r b hr hb => by simp at hr) rfl (fun i j b r r' hr => by simp at hr) (fun i cells tag hc => by simp at hc) (fun i hc => by simp at hc) (fun i sz n et hc => by simp at hc) (fun i s pos hc => by simp at hc)
 have ha1 := ha.mono E1
 have M1 : Marked N0 ρ (w.alloc (.deferred (some []))) (mark w.heap.size :: ds) := by
  have M0 := hd.mono E1
  rw [List.append_nil] at M0
  obtain ⟨h0, l, e, _, hn, hl⟩ := M0
  obtain ⟨h0', l', e', _, hn', hl'⟩ := hd
  refine ⟨h0, w.heap.size :: l', by rw [e']; rfl, fun hh => absurd (hst.symm.trans hh) (by decide), List.nodup_cons.2 ⟨fun hm => ?_, hn'⟩, fun D hD => ?_⟩
  ·have := (Array.getElem?_eq_some_iff.1 (hl' _ hm).2.1).1
   omega
  ·rcases List.mem_cons.1 hD with rfl | hD
   ·refine ⟨h0', heap_alloc_at _ _, fun i r hr hb => ?_⟩
    have := hi.low i _ r hr hb
    omega
   ·have e2 : l = l' := by
     have := e.symm.trans e'
     exact (List.map_inj_right (fun a b hab => by simpa [mark] using hab)).1 (List.append_cancel_right this)
    subst e2
    exact hl D hD
 simp only [List.append_nil] at E1 I1 ha1
 generalize hw1 : w.alloc (.deferred (some [])) = w1 at *
 have hsz : w1.heap.size = w.heap.size + 1 := by rw [← hw1, size_alloc]
 rw [← hsz]
 have E2 := ext_alloc I1 (.loop r) (fun _ => False) [.box w1.heap.size] [.loop ps as_ bd snap .ready] (fun r b hr hb => by simp at hr; subst hr; simpa [RI.block] using hb.symm)
 refine ⟨_, E1.trans E2, inv_alloc_old I1 (.loop r) (fun _ => False) _ _ (fun r b hr hb => by simp at hr; subst hr; simpa [RI.block] using hb.symm) rfl ?_ (fun i cells tag hc => by rcases i with _ | i <;> simp at hc) (fun i hc => by rcases i with _ | i <;> simp at hc) (fun i sz n et hc => by rcases i with _ | i <;> simp at hc) (fun i s pos hc => by rcases i with _ | i <;> simp at hc) ?_, M1.mono E2⟩
 ·intro i j b r r' hr hr' _ _
  have a1 := (List.getElem?_eq_some_iff.1 hr).1
  have a2 := (List.getElem?_eq_some_iff.1 hr').1
  simp at a1 a2
  omega
 ·intro i ps' as' bd' snap' st' hc
  rcases i with _ | i
  ·simp at hc
   obtain ⟨rfl, rfl, rfl, rfl, rfl⟩ := hc
   exact ⟨w1.heap.size, r, rfl, heap_alloc_at _ _, hk, ha1.len, fun j x hx => ⟨(ha1.at_ j x hx).low I1.len, (ha1.at_ j x hx).mono E2⟩⟩
  ·simp at hc
theorem fits_ready {s : LoopState} {p : Option Code} (h : LSt.fits .ready s p) : s = .ready ∧ p = none := by
 unfold LSt.fits at h
 split at h <;> simp_all
theorem fits_exit {i : Nat} {s : LoopState} {p : Option Code} (h : LSt.fits (.done (some i)) s p) : s = .done ∧ ((p = some (.exit i) ∧ i < 1000000) ∨ ∃ l, p = some (.goto l) ∧ i = gid l ∧ l < 1000000) := by
 unfold LSt.fits at h
 split at h
 ·rename_i he; cases he
 ·rename_i he; cases he
 ·rename_i i0 j he
  cases he
  obtain ⟨rfl, hlt⟩ := h
  exact ⟨rfl, .inl ⟨rfl, hlt⟩⟩
 ·rename_i i0 l he
  cases he
  exact ⟨rfl, .inr ⟨l, rfl, h⟩⟩
 ·rename_i he; cases he
 ·cases h
theorem fits_ret {s : LoopState} {p : Option Code} (h : LSt.fits (.done none) s p) : s = .done ∧ p = some .ret := by
 unfold LSt.fits at h
 split at h <;> simp_all
theorem code_sim {F : Fence} (hF : Wide F) (hc : CallsOk P call) (hS : CallS P G call) {k : Nat} {loop : LoopF} (hL : LoopS P G k loop) (hJ : GotoS P G k loop) (M : Marks) : ∀ (c : Code) (A : ACode), trCode P M c = some A → (F.round = none ∨ A.noRange = true) → ∀ (a : Act) (ad : List DV) (S : Settled) (ρ : List RI) (h : List Res) (w : World) (e : DExit) (ad' : List DV) (h' : List Res) (N0 : Base) (Q : Exit → Act → World → Prop),
  Inv P G S ρ h w → RepA S ρ h w a.tmps ad → Marked N0 ρ w a.defers → (N0.2.2 = false ∨ A.noRange = true) → dexec call loop A ad h = some (e, ad', h') → (∀ e' a' w', Post P G N0 S ρ h w e ad' h' e' a' w' → Q e' a' w') → c.wpIn F 0 P Q a w := by
 intro c
 induction c with
 | skip =>
  intro A ht hR a ad S ρ h w e ad' h' N0 Q hi ha hd hT hr hQ
  simp only [trCode, Option.some.injEq] at ht
  subst ht
  simp only [dexec, Option.some.injEq, Prod.mk.injEq] at hr
  obtain ⟨rfl, rfl, rfl⟩ := hr
  exact wpIn_skip (hQ _ _ _ ⟨S, ρ, ha, Ext.refl _ _ _ _, hi, hd, trivial⟩)
 | region id ops draw =>
  intro A ht hR a ad S ρ h w e ad' h' N0 Q hi ha hd hT hr hQ
  simp only [trCode] at ht
  split at ht
  ·cases ht
  ·rename_i dl hdl
   split at ht
   ·rename_i hdraw
    subst hdraw
    split at ht
    ·rename_i hok
     simp only [Bool.and_eq_true] at hok
     obtain ⟨hm, hok⟩ := hok
     simp only [Option.some.injEq] at ht
     subst ht
     simp only [dexec] at hr
     split at hr
     ·rename_i a1 h1 hmain
      split at hr
      ·rename_i hsame
       simp only [Option.some.injEq, Prod.mk.injEq] at hr
       obtain ⟨rfl, rfl, rfl⟩ := hr
       have hlen := (mapM_at hdl).1
       simp only [Array.length_toList] at hlen
       have hsame' : ∀ l ∈ (M.alts id).map (ordered dl), dops call l ad h = some (.normal, a1, h1) := by
        simp only [same, decide_eq_true_eq] at hsame
        exact hsame
       refine wpIn_region_draw fun t => ?_
       have hlin := lin_spec (ops := ops) (by simp only [drawOk, Bool.and_eq_true] at hok; exact hok.1.1) t
       have hs : ∀ i ∈ Region.linearise .any ops t, i < ops.size := fun i hi => (hlin.2.1 i).1 hi
       simp only [Region.schedule, hm, Bool.true_or, if_true]
       rw [wpOps_wpList _ hs]
       have hrun := draw_all (call := call) (a := ad) (h := h) hok t (r := (a1, h1)) fun τ hτ => by
        rcases List.mem_cons.1 hτ with rfl | hτ
        ·rw [ordered_range hlen]; exact hmain
        ·exact hsame' _ (List.mem_map.2 ⟨τ, hτ, rfl⟩)
       have E0 : Ext S ρ h w S ρ h { w with drawn := w.drawn + 1 } := by
        obtain ⟨e1, e2, e3, e4, e5, e6, e7, e8, e9, e10, e11, e12⟩ := Ext.refl S ρ h w
        exact ⟨e1, e2, e3, e4, e5, e6, e7, e8, e9, e10, e11, e12⟩
       have I0 : Inv P G S ρ h { w with drawn := w.drawn + 1 } := by
        refine ⟨hi.len, hi.bound, hi.glob, hi.low, hi.apart, ?_, hi.nilrow, hi.row, hi.iter, fun i ps as_ bd snap st h1 => by
         obtain ⟨b, r, g1, g2, g3, g4, g5⟩ := hi.loop i ps as_ bd snap st h1
         exact ⟨b, r, g1, g2, g3, g4, fun j x hx => ⟨(g5 j x hx).1, (g5 j x hx).2.mono E0⟩⟩, fun i r hc => by
         obtain ⟨ri, g1, g2⟩ := hi.own i r hc
         exact ⟨ri, g1, OwnOk.mono (w := w) (w' := { w with drawn := w.drawn + 1 }) (fun _ _ h => h) (fun _ _ _ => rfl) (fun b hb => ⟨rfl, fun _ h => h⟩) g2⟩⟩
        intro i cells tag hc
        obtain ⟨b, c, e, p1, p2, p3, p4, p5⟩ := hi.box i cells _ hc
        exact ⟨b, c, e, p1, p2, p3, fun j x hx => ⟨(p4 j x hx).1, (p4 j x hx).2.1, ((p4 j x hx).2.2).mono E0⟩, p5⟩
       refine ops_sim hF hc hS _ _ (mapM_ordered hdl _ hs) a ad S ρ h _ .normal a1 h1 N0 Q I0 (ha.mono E0) (hd.mono E0) hrun fun e' a' w' hp => ?_
       obtain ⟨S2, ρ2, q1, q2, q3, q4, q5⟩ := hp
       exact hQ _ _ _ ⟨S2, ρ2, q1, E0.trans q2, q3, q4, q5⟩
      ·cases hr
     ·cases hr
    ·simp only [Option.some.injEq] at ht
     subst ht
     cases hr
   ·rename_i hdraw
    have : draw = false := by simpa using hdraw
    subst this
    simp only [Option.some.injEq] at ht
    subst ht
    simp only [dexec] at hr
    exact wpIn_region_list (ops_sim hF hc hS ops.toList dl hdl a ad S ρ h w e ad' h' N0 Q hi ha hd hr hQ)
 | seq x y ihx ihy =>
  intro A ht hR a ad S ρ h w e ad' h' N0 Q hi ha hd hT hr hQ
  simp only [trCode] at ht
  split at ht
  ·rename_i X Y hX hY
   simp only [Option.some.injEq] at ht
   subst ht
   simp only [dexec] at hr
   refine wpIn_seq ?_
   cases hx : dexec call loop X ad h with
   | none => rw [hx] at hr; cases hr
   | some r =>
    obtain ⟨e1, ad1, h1⟩ := r
    rw [hx] at hr
    refine ihx X hX (noRange_l hR) a ad S ρ h w e1 ad1 h1 N0 _ hi ha hd (noRange_l hT) hx fun e' a' w' hp => ?_
    cases e1 with
    | normal =>
     simp only at hr
     obtain ⟨S1, ρ1, p1, p2, p3, p4, p5⟩ := hp
     cases e' <;> simp only [ExitOk] at p5
     simp only [Exit.then]
     refine ihy Y hY (noRange_r hR) a' ad1 S1 ρ1 h1 w' e ad' h' N0 Q p3 p1 p4 (noRange_r hT) hr fun e2 a2 w2 hp2 => ?_
     obtain ⟨S2, ρ2, q1, q2, q3, q4, q5⟩ := hp2
     exact hQ _ _ _ ⟨S2, ρ2, q1, p2.trans q2, q3, q4, q5⟩
    | _ =>
     simp only [Option.some.injEq, Prod.mk.injEq] at hr
     obtain ⟨rfl, rfl, rfl⟩ := hr
     have hp' := hp
     obtain ⟨S1, ρ1, p1, p2, p3, p4, p5⟩ := hp
     cases e' <;> simp only [ExitOk] at p5 <;> simp only [Exit.then] <;> exact hQ _ _ _ hp'
  ·cases ht
 | cond c x y ihx ihy =>
  intro A ht hR a ad S ρ h w e ad' h' N0 Q hi ha hd hT hr hQ
  simp only [trCode] at ht
  split at ht
  ·rename_i c' X Y hc' hX hY
   simp only [Option.some.injEq] at ht
   subst ht
   simp only [dexec] at hr
   have g := rep_opd ha hc'
   split at hr
   ·rename_i b eb
    rw [eb] at g
    have := repF_bool (repD_d g)
    refine wpIn_cond this ?_
    cases b with
    | true => exact ihx X hX (noRange_l hR) a ad S ρ h w e ad' h' N0 Q hi ha hd (noRange_l hT) (by simpa using hr) hQ
    | false => exact ihy Y hY (noRange_r hR) a ad S ρ h w e ad' h' N0 Q hi ha hd (noRange_r hT) (by simpa using hr) hQ
   ·cases hr
  ·cases ht
 | block id b ih =>
  intro A ht hR a ad S ρ h w e ad' h' N0 Q hi ha hd hT hr hQ
  simp only [trCode] at ht
  split at ht
  rotate_left
  ·cases ht
  rename_i hid
  simp only [Option.map_eq_some_iff] at ht
  obtain ⟨X, hX, rfl⟩ := ht
  simp only [dexec] at hr
  refine wpIn_block ?_
  cases hx : dexec call loop X ad h with
  | none => rw [hx] at hr; cases hr
  | some r =>
   obtain ⟨e1, ad1, h1⟩ := r
   rw [hx] at hr
   refine ih X hX (noRange_b hR) a ad S ρ h w e1 ad1 h1 N0 _ hi ha hd (noRange_b hT) hx fun e' a' w' hp => ?_
   cases e1 with
   | exit i =>
    have hp' := hp
    obtain ⟨S1, ρ1, p1, p2, p3, p4, p5⟩ := hp
    cases e' <;> simp only [ExitOk] at p5
    ·obtain ⟨rfl, hlt⟩ := p5
     simp only [Exit.inBlock]
     simp only at hr
     split
     ·rename_i heq
      rw [if_pos heq] at hr
      simp only [Option.some.injEq, Prod.mk.injEq] at hr
      obtain ⟨rfl, rfl, rfl⟩ := hr
      exact hQ _ _ _ ⟨S1, ρ1, p1, p2, p3, p4, trivial⟩
     ·rename_i heq
      rw [if_neg heq] at hr
      simp only [Option.some.injEq, Prod.mk.injEq] at hr
      obtain ⟨rfl, rfl, rfl⟩ := hr
      exact hQ _ _ _ hp'
    ·simp only [Exit.inBlock]
     simp only at hr
     have hne : ¬ i = id := by
      have := p5.1
      unfold gid at this
      omega
     rw [if_neg hne] at hr
     simp only [Option.some.injEq, Prod.mk.injEq] at hr
     obtain ⟨rfl, rfl, rfl⟩ := hr
     exact hQ _ _ _ hp'
   | _ =>
    simp only [Option.some.injEq, Prod.mk.injEq] at hr
    obtain ⟨rfl, rfl, rfl⟩ := hr
    have hp' := hp
    obtain ⟨S1, ρ1, p1, p2, p3, p4, p5⟩ := hp
    cases e' <;> simp only [ExitOk] at p5 <;> simp only [Exit.inBlock] <;> exact hQ _ _ _ hp'
 | loop b ih =>
  intro A ht hR a ad S ρ h w e ad' h' N0 Q hi ha hd hT hr hQ
  simp only [trCode, Option.map_eq_some_iff] at ht
  obtain ⟨X, hX, rfl⟩ := ht
  simp only [dexec] at hr
  exact wpIn_loop_rounds k (hL F hF M h.length _ _ _ b X hX (noRange_b hR) a _ S ρ h w e ad' h' N0 Q hi (ha.mask _) hd (noRange_b hT) (fun _ => rfl) hr hQ)
 | exit id =>
  intro A ht hR a ad S ρ h w e ad' h' N0 Q hi ha hd hT hr hQ
  simp only [trCode, Option.some.injEq] at ht
  subst ht
  split at hr
  ·rename_i hid
   simp only [dexec, Option.some.injEq, Prod.mk.injEq] at hr
   obtain ⟨rfl, rfl, rfl⟩ := hr
   exact wpIn_exit (hQ _ _ _ ⟨S, ρ, ha, Ext.refl _ _ _ _, hi, hd, rfl, hid⟩)
  ·simp [dexec] at hr
 | ret =>
  intro A ht hR a ad S ρ h w e ad' h' N0 Q hi ha hd hT hr hQ
  simp only [trCode, Option.some.injEq] at ht
  subst ht
  simp only [dexec, Option.some.injEq, Prod.mk.injEq] at hr
  obtain ⟨rfl, rfl, rfl⟩ := hr
  exact wpIn_ret (hQ _ _ _ ⟨S, ρ, ha, Ext.refl _ _ _ _, hi, hd, trivial⟩)
 | rangeFunc g ps as_ bd _ _ =>
  intro A ht hR a ad S ρ h w e ad' h' N0 Q hi ha hd hT hr hQ
  simp only [trCode] at ht
  split at ht
  ·rename_i f' A' B' hf' hA' hB'
   split at ht
   ·rename_i hno
    simp only [Option.some.injEq] at ht
    subst ht
    have hro : F.round = none := hR.elim id fun h => by simp [ACode.noRange] at h
    have hst : N0.2.2 = false := hT.elim id fun h => by simp [ACode.noRange] at h
    have g1 := rep_opd ha hf'
    simp only [dexec] at hr
    refine wpIn_rangeFunc fun fn hfn => ?_
    rw [hro]
    let r : Loop := { state := .ready, pending := none, fn, tmps := a.tmps, params := ps, assign := as_, body := bd, defers := w.heap.size }
    obtain ⟨S1, E1, I1, M1⟩ := range_enter (r := r) hi hst hd (ps := ps.toList) (as_ := A') (bd := B') (snap := Deepv.mask (M.sn (firstRegion bd)) ad) ⟨rfl, ⟨M, hA', hB'⟩, by simpa using hno, trivial⟩ (ha.mask _)
    have henter := run_enterLoop_outer (P := P) (w := w) fn a.tmps ps as_ bd
    generalize hw1 : (w.alloc (.deferred (some []))).alloc (.loop r) = w1 at *
    have hy : RepD S1 (ρ ++ [.box (w.heap.size + 1)]) (h ++ [.loop ps.toList A' B' (Deepv.mask (M.sn (firstRegion bd)) ad) .ready]) w1 (.func (.yield (w.heap.size + 1)) #[] #[]) (.yld h.length) := .yld _ _ (by rw [← hi.len]; simp)
    have g2 := g1.mono E1
    have key : ∀ (fv : DV), ev ad f' = fv → (∀ id, fv ≠ .yld id) → ∀ out, dcallV call fv [.yld h.length] (h ++ [.loop ps.toList A' B' (Deepv.mask (M.sn (firstRegion bd)) ad) .ready]) = some out →
      ∃ gf lb args1, a.eval g = .func (.func gf) args1 lb ∧ (callFunc gf (args1 ++ #[.func (.yield (w.heap.size + 1)) #[] #[]] ++ lb)).run P w1 = .ok (.enter gf (args1 ++ #[.func (.yield (w.heap.size + 1)) #[] #[]] ++ lb)) w1 ∧
       Calls P gf (args1 ++ #[.func (.yield (w.heap.size + 1)) #[] #[]] ++ lb) w1 (CallPost P G S1 (ρ ++ [.box (w.heap.size + 1)]) (h ++ [.loop ps.toList A' B' (Deepv.mask (M.sn (firstRegion bd)) ad) .ready]) w1 out) := by
     intro fv he hny out hd1
     rw [he] at g2
     have one : (#[Value.func (.yield (w.heap.size + 1)) #[] #[]] : Array Value).size = [DV.yld h.length].length := rfl
     have ryl : ∀ (j : Nat) (x : DV), [DV.yld h.length][j]? = some x → RepD S1 (ρ ++ [.box (w.heap.size + 1)]) (h ++ [.loop ps.toList A' B' (Deepv.mask (M.sn (firstRegion bd)) ad) .ready]) w1 ((#[Value.func (.yield (w.heap.size + 1)) #[] #[]] : Array Value).getD j undef) x := fun j x hx => by
      rcases j with _ | j
      ·simp at hx; subst hx; exact hy
      ·simp at hx
     simp only [dcallV] at hd1
     split at hd1
     ·rename_i gf p q
      obtain ⟨fn', f1, f2, f3⟩ := hc _ _ _ _ hd1
      have gg := repD_d g2
      generalize hv : a.eval g = vf at *
      cases gg with
      | func _ p' q' fp fq hp hq h1 h2 =>
       refine ⟨gf, q', p', rfl, run_callFunc f1 f2 f3, ?_⟩
       have s1 := rep_append (S := S1) (w := w1) (ds := p.map .d) (by simpa using hp) one (fun j x hx => by
        simp only [List.getElem?_map, Option.map_eq_some_iff] at hx
        obtain ⟨y, hy, rfl⟩ := hx
        exact .d _ _ (h1 j y hy)) ryl
       have s2 := rep_append (es := q.map .d) s1.1 (by simpa using hq) s1.2 (fun j x hx => by
        simp only [List.getElem?_map, Option.map_eq_some_iff] at hx
        obtain ⟨y, hy, rfl⟩ := hx
        exact .d _ _ (h2 j y hy))
       exact hS.fn gf _ _ S1 _ _ w1 out I1 s2.1 s2.2 hd1
     ·rename_i gf p q
      obtain ⟨fn', f1, f2, f3⟩ := hc _ _ _ _ hd1
      generalize hv : a.eval g = vf at *
      cases g2 with
      | clo _ p' q' fp fq hp hq h1 h2 =>
       refine ⟨gf, q', p', rfl, run_callFunc f1 f2 f3, ?_⟩
       have s1 := rep_append (S := S1) (w := w1) (ds := p) hp one h1 ryl
       have s2 := rep_append (es := q) s1.1 hq s1.2 h2
       exact hS.fn gf _ _ S1 _ _ w1 out I1 s2.1 s2.2 hd1
     ·exact absurd rfl (hny _)
     ·cases hd1
    split at hr
    ·cases hr
    ·rename_i hny
     split at hr
     ·rename_i v h1 hd1
      obtain ⟨gf, lb, args1, hev, hinv, hcall⟩ := key _ rfl (fun id hid => hny id hid) _ hd1
      refine ⟨w.heap.size + 1, [mark w.heap.size], w1, { target := .fn (.func gf) lb, args := args1 ++ #[.func (.yield (w.heap.size + 1)) #[] #[]] }, w1, gf, _, w1, ?_, ?_, fun f' _ => hF.fn f', ?_, (fun hh => by rw [hF.depth] at hh; cases hh), hF.calls (hcall.mono fun e1 w3 hp => ?_)⟩
      ·rw [henter]; rfl
      ·simp [resolve, rangeCall, Deferred.ofValue, hev]
       rfl
      ·simpa [invoke] using hinv
      ·obtain ⟨x, S3, ρ3, rfl, hx, E3, I3⟩ := hp
       have E13 := E1.trans E3
       have hρl : ρ3[h.length]? = some (.box (w.heap.size + 1)) := E3.boxes _ _ (by rw [← hi.len]; simp)
       have M3 := M1.mono E3
       have fin : ∀ (ps1 : List Nat) (as1 bd1 : ACode) (snap1 : List DV) (st : LSt), h1[h.length]? = some (.loop ps1 as1 bd1 snap1 st) → st ≠ .busy →
         ∃ r3, w3.heap[w.heap.size + 1]? = some (.loop r3) ∧ LSt.fits st r3.state r3.pending ∧ (Instr.endLoop (w.heap.size + 1)).run P w3 = .ok r3.pending (w3.putObj (w.heap.size + 1) (.loop { r3 with state := .exhausted })) := by
        intro ps1 as1 bd1 snap1 st hl hne
        obtain ⟨b, r3, q1, q2, q3, q4, q5⟩ := I3.loop _ _ _ _ _ _ hl
        rw [hρl] at q1
        simp only [Option.some.injEq, RI.box.injEq] at q1
        subst q1
        refine ⟨r3, q2, q3.state, run_endLoop q2 ?_⟩
        have q := q3.state
        cases st with
        | ready => rw [(fits_ready q).1]; exact fun h => by cases h
        | busy => exact absurd rfl hne
        | done j => cases j with
         | none => rw [(fits_ret q).1]; exact fun h => by cases h
         | some j => rw [(fits_exit q).1]; exact fun h => by cases h
       have post : ∀ r3 : Loop, w3.heap[w.heap.size + 1]? = some (.loop r3) → Post P G N0 S ρ h w .normal ad (h1.take h.length) .normal { a with defers := [mark w.heap.size] ++ a.defers } (w3.putObj (w.heap.size + 1) (.loop { r3 with state := .exhausted })) := by
        intro r3 h3
        have nc : ∀ (r : Loop) c e p, Obj.loop r ≠ .cells c e p := fun r c e p h => by cases h
        have hD : ∀ (i : Nat) (r : RI), (ρ3.take h.length)[i]? = some r → r.block ≠ some (w.heap.size + 1) := fun i r hir hb => by
         obtain ⟨hin, hir⟩ := take_some hir
         have := I3.apart i h.length _ _ _ hir hρl hb rfl
         omega
        have Et := E13.take hi
        refine ⟨S3, ρ3.take h.length, ?_, ext_put Et h3 (nc _) (nc _) (by omega), inv_put (I3.take _) h3 (nc _) (nc _) hD, marked_put (M3.take _) h3, trivial⟩
        have hat := (ha.mono E13).take (ha.low hi.len)
        exact ⟨hat.len, fun j x hx => rep_put h3 (nc _) (nc _) (hat.at_ j x hx)⟩
       split at hr <;> first
        | (cases hr; done)
        | skip
       ·rename_i hl
        simp only [Option.some.injEq, Prod.mk.injEq] at hr
        obtain ⟨rfl, rfl, rfl⟩ := hr
        obtain ⟨r3, h3, hfit, hend⟩ := fin _ _ _ _ _ hl (fun h => by cases h)
        have pp := post r3 h3
        generalize w3.putObj (w.heap.size + 1) (.loop { r3 with state := .exhausted }) = w4 at hend pp
        refine ⟨r3.pending, w4, hend, ?_⟩
        have : r3.pending = none := (fits_ready hfit).2
        rw [this]
        exact hQ _ _ _ pp
       ·rename_i i hl
        simp only [Option.some.injEq, Prod.mk.injEq] at hr
        obtain ⟨rfl, rfl, rfl⟩ := hr
        obtain ⟨r3, h3, hfit, hend⟩ := fin _ _ _ _ _ hl (fun h => by cases h)
        have pp := post r3 h3
        generalize w3.putObj (w.heap.size + 1) (.loop { r3 with state := .exhausted }) = w4 at hend pp
        refine ⟨r3.pending, w4, hend, ?_⟩
        obtain ⟨S4, ρ4, p1, p2, p3, p4, p5⟩ := pp
        rcases (fits_exit hfit).2 with ⟨this, hlt⟩ | ⟨lg, this, hg⟩
        ·rw [this]
         exact wpIn_exit (hQ _ _ _ ⟨S4, ρ4, p1, p2, p3, p4, rfl, hlt⟩)
        ·rw [this]
         exact wpIn_goto (hQ _ _ _ ⟨S4, ρ4, p1, p2, p3, p4, hg⟩)
       ·rename_i hl
        simp only [Option.some.injEq, Prod.mk.injEq] at hr
        obtain ⟨rfl, rfl, rfl⟩ := hr
        obtain ⟨r3, h3, hfit, hend⟩ := fin _ _ _ _ _ hl (fun h => by cases h)
        have pp := post r3 h3
        generalize w3.putObj (w.heap.size + 1) (.loop { r3 with state := .exhausted }) = w4 at hend pp
        refine ⟨r3.pending, w4, hend, ?_⟩
        have : r3.pending = some .ret := (fits_ret hfit).2
        rw [this]
        obtain ⟨S4, ρ4, p1, p2, p3, p4, p5⟩ := pp
        exact wpIn_ret (hQ _ _ _ ⟨S4, ρ4, p1, p2, p3, p4, trivial⟩)
     ·cases hr
   ·cases ht
  ·cases ht
 | refuse why =>
  intro A ht hR a ad S ρ h w e ad' h' N0 Q hi ha hd hT hr hQ
  simp only [trCode, Option.some.injEq] at ht
  subst ht
  simp [dexec] at hr
 | scope c ih =>
  intro A ht hR a ad S ρ h w e ad' h' N0 Q hi ha hd hT hr hQ
  simp only [trCode, Option.bind_eq_some_iff] at ht
  obtain ⟨X, hX, ht⟩ := ht
  unfold scopeA at ht
  split at ht
  ·rename_i hl
   simp only [Option.some.injEq] at ht
   subst ht
   refine wpIn_scope_goto (m := 1) ?_
   unfold Code.scopeIn
   refine ih X hX hR a ad S ρ h w e ad' h' N0 _ hi ha hd hT hr fun e' a' w' hp => ?_
   have hq := hQ e' a' w' hp
   cases e' with
   | goto l =>
    have : findLabel c l = none := (label_spec M c X hX l).1 (alabels_find (by rw [hl]; simp))
    simp only [this]
    exact hq
   | _ => exact hq
  ·rename_i l hl
   split at ht
   ·rename_i R hR'
    split at ht
    ·rename_i hlt
     simp only [Option.some.injEq] at ht
     subst ht
     obtain ⟨rest, f1, f2⟩ := (label_spec M c X hX l).2 R hR'
     have f3 : ∀ l', l' ≠ l → findLabel c l' = none := fun l' hne => (label_spec M c X hX l').1 (alabels_find (by rw [hl]; simpa using hne))
     have nX : F.round = none ∨ X.noRange = true := hR.imp _root_.id fun hn => by simp only [ACode.noRange, Bool.and_eq_true] at hn; exact hn.1.1
     have nR : F.round = none ∨ R.noRange = true := hR.imp _root_.id fun hn => by simp only [ACode.noRange, Bool.and_eq_true] at hn; exact hn.2.1
     have mX : N0.2.2 = false ∨ X.noRange = true := hT.imp _root_.id fun hn => by simp only [ACode.noRange, Bool.and_eq_true] at hn; exact hn.1.1
     have mR : N0.2.2 = false ∨ R.noRange = true := hT.imp _root_.id fun hn => by simp only [ACode.noRange, Bool.and_eq_true] at hn; exact hn.2.1
     have hgk : ¬ kid l = gid l := by unfold kid gid; omega
     refine wpIn_scope_goto (m := k + 1) ?_
     unfold Code.scopeIn
     simp only [dexec] at hr
     cases hx : dexec call loop X ad h with
     | none => rw [hx] at hr; cases hr
     | some r =>
      obtain ⟨e1, ad1, h1⟩ := r
      rw [hx] at hr
      refine ih X hX nX a ad S ρ h w e1 ad1 h1 N0 _ hi ha hd mX hx fun e' a' w' hp => ?_
      cases e1 with
      | normal =>
       simp only [if_neg hgk, if_true, Option.some.injEq, Prod.mk.injEq] at hr
       obtain ⟨rfl, rfl, rfl⟩ := hr
       have hp' := hp
       obtain ⟨S1, ρ1, p1, p2, p3, p4, p5⟩ := hp
       cases e' <;> simp only [ExitOk] at p5
       exact hQ _ _ _ hp'
      | ret =>
       simp only [Option.some.injEq, Prod.mk.injEq] at hr
       obtain ⟨rfl, rfl, rfl⟩ := hr
       have hp' := hp
       obtain ⟨S1, ρ1, p1, p2, p3, p4, p5⟩ := hp
       cases e' <;> simp only [ExitOk] at p5
       exact hQ _ _ _ hp'
      | pan v =>
       simp only [Option.some.injEq, Prod.mk.injEq] at hr
       obtain ⟨rfl, rfl, rfl⟩ := hr
       have hp' := hp
       obtain ⟨S1, ρ1, p1, p2, p3, p4, p5⟩ := hp
       cases e' <;> simp only [ExitOk] at p5
       exact hQ _ _ _ hp'
      | exit i =>
       have hp' := hp
       obtain ⟨S1, ρ1, p1, p2, p3, p4, p5⟩ := hp
       by_cases hg : i = gid l
       ·subst hg
        simp only [if_true] at hr
        cases e' <;> simp only [ExitOk] at p5
        ·unfold gid at p5
         omega
        rename_i l'
        have hl' : l' = l := by have := p5.1; unfold gid at this; omega
        subst hl'
        simp only [f1]
        cases hlp : loop h1.length (M.cut (5000000 + l')) (M.hd (5000000 + l')) (M.ex (5000000 + l')) (.block (gid l') (.seq R (.exit (kid l')))) (mask (M.hd (5000000 + l')) ad1) h1 with
        | none => rw [hlp] at hr; cases hr
        | some q =>
         obtain ⟨e2, ad2, h2⟩ := q
         rw [hlp] at hr
         refine hJ F hF M h1.length _ _ _ c rest l' R hlt f1 f3 f2 nR a' _ S1 ρ1 h1 w' e2 ad2 h2 N0 Q p3 (p1.mask _) p4 mR (fun _ => rfl) hlp fun e3 a3 w3 hp3 => ?_
         have fin : Post P G N0 S1 ρ1 h1 w' e ad' h' e3 a3 w3 := by
          cases e2 with
          | exit i2 =>
           simp only at hr
           by_cases hk : i2 = kid l'
           ·rw [if_pos hk] at hr
            simp only [Option.some.injEq, Prod.mk.injEq] at hr
            obtain ⟨rfl, rfl, rfl⟩ := hr
            simpa [unk, hk] using hp3
           ·rw [if_neg hk] at hr
            simp only [Option.some.injEq, Prod.mk.injEq] at hr
            obtain ⟨rfl, rfl, rfl⟩ := hr
            simpa [unk, hk] using hp3
          | _ =>
           simp only [Option.some.injEq, Prod.mk.injEq] at hr
           obtain ⟨rfl, rfl, rfl⟩ := hr
           simpa [unk] using hp3
         obtain ⟨S2, ρ2, q1, q2, q3, q4, q5⟩ := fin
         exact hQ _ _ _ ⟨S2, ρ2, q1, p2.trans q2, q3, q4, q5⟩
       ·simp only [if_neg hg] at hr
        have hk : ¬ i = kid l := by
         cases e' <;> simp only [ExitOk] at p5
         ·unfold kid; omega
         ·have := p5.1
          unfold gid at this
          unfold kid
          omega
        simp only [if_neg hk, Option.some.injEq, Prod.mk.injEq] at hr
        obtain ⟨rfl, rfl, rfl⟩ := hr
        cases e' <;> simp only [ExitOk] at p5
        ·exact hQ _ _ _ hp'
        ·rename_i l'
         have hne : l' ≠ l := by
          rintro rfl
          exact hg p5.1
         simp only [f3 l' hne]
         exact hQ _ _ _ hp'
    ·simp only [Option.some.injEq] at ht
     subst ht
     simp [dexec] at hr
   ·simp only [Option.some.injEq] at ht
    subst ht
    simp [dexec] at hr
  ·simp only [Option.some.injEq] at ht
   subst ht
   simp [dexec] at hr
 | label l =>
  intro A ht hR a ad S ρ h w e ad' h' N0 Q hi ha hd hT hr hQ
  simp only [trCode] at ht
  split at ht
  ·simp only [Option.some.injEq] at ht
   subst ht
   simp only [dexec, Option.some.injEq, Prod.mk.injEq] at hr
   obtain ⟨rfl, rfl, rfl⟩ := hr
   exact wpIn_label (hQ _ _ _ ⟨S, ρ, ha, Ext.refl _ _ _ _, hi, hd, trivial⟩)
  ·cases ht
 | goto l =>
  intro A ht hR a ad S ρ h w e ad' h' N0 Q hi ha hd hT hr hQ
  simp only [trCode, Option.some.injEq] at ht
  subst ht
  split at hr
  ·rename_i hl
   simp only [dexec, Option.some.injEq, Prod.mk.injEq] at hr
   obtain ⟨rfl, rfl, rfl⟩ := hr
   exact wpIn_goto (hQ _ _ _ ⟨S, ρ, ha, Ext.refl _ _ _ _, hi, hd, rfl, hl⟩)
  ·simp [dexec] at hr
theorem Post.cutoff (hi : Inv P G S ρ h w) {cut : Bool} {n0 : Nat} {N0 : Base} (hn : cut = true → h.length = n0) {e : DExit} {ad' : List DV} {h' : List Res} {ex : List Bool} {e' : Exit} {a' : Act} {w' : World} (ht : trims cut n0 (mask ex ad') = true) (he : ∀ v, e ≠ .pan v) (hp : Post P G N0 S ρ h w e ad' h' e' a' w') :
  Post P G N0 S ρ h w e (mask ex ad') (trim cut n0 h') e' a' w' := by
 obtain ⟨S1, ρ1, p1, p2, p3, p4, p5⟩ := hp
 have ok : ∀ (ρ2 : List RI) (h2 : List Res), ExitOk S1 ρ2 h2 w' e e' := by
  intro ρ2 h2
  cases e <;> cases e' <;> simp only [ExitOk] at p5 ⊢ <;> first
   | exact p5
   | exact absurd rfl (he _)
 cases cut with
 | false => exact ⟨S1, ρ1, p1.mask _, p2, p3, p4, ok _ _⟩
 | true =>
  obtain rfl := hn rfl
  simp only [trims, if_true] at ht
  simp only [trim, if_true]
  exact ⟨S1, ρ1.take h.length, (p1.mask _).take ht, p2.take hi, p3.take _, p4.take _, ok _ _⟩
theorem round_sim (hc : CallsOk P call) (hS : CallS P G call) {k : Nat} {loop : LoopF} (hL : LoopS P G k loop) (hJ : GotoS P G k loop) : LoopS P G (k + 1) (dround call loop) := by
 intro F hF M n0 cut hd ex c A ht hR a ad S ρ h w e ad' h' N0 Q hi ha hdf hT hn hr hQ
 rw [show Code.roundsIn F 0 P c Q (k + 1) a w = c.wpIn F 0 P (Exit.then (Code.roundsIn F 0 P c Q k) Q) a w from rfl]
 unfold dround at hr
 split at hr
 ·rename_i a1 h1 hx
  split at hr
  ·rename_i htr
   refine code_sim hF hc hS hL hJ M c A ht hR a ad S ρ h w _ _ _ N0 _ hi ha hdf hT hx fun e' a' w' hp => ?_
   have hp2 := hp.cutoff hi hn (ex := hd) htr (fun v => by simp)
   obtain ⟨S1, ρ1, p1, p2, p3, p4, p5⟩ := hp2
   cases e' <;> simp only [ExitOk] at p5
   simp only [Exit.then]
   refine hL F hF M n0 cut hd ex c A ht hR a' _ S1 ρ1 _ w' e ad' h' N0 Q p3 p1 p4 hT (fun hcut => ?_) hr fun e2 a2 w2 hp2 => ?_
   ·subst hcut
    obtain rfl := hn rfl
    have := p2.len
    simp only [trim, if_true] at this ⊢
    simp at this ⊢
    omega
   ·obtain ⟨S2, ρ2, q1, q2, q3, q4, q5⟩ := hp2
    exact hQ _ _ _ ⟨S2, ρ2, q1, p2.trans q2, q3, q4, q5⟩
  ·cases hr
 ·rename_i v a1 h1 hx
  simp only [Option.some.injEq, Prod.mk.injEq] at hr
  obtain ⟨rfl, rfl, rfl⟩ := hr
  refine code_sim hF hc hS hL hJ M c A ht hR a ad S ρ h w _ _ _ N0 _ hi ha hdf hT hx fun e' a' w' hp => ?_
  have hp' := hp
  obtain ⟨S1, ρ1, p1, p2, p3, p4, p5⟩ := hp
  cases e' <;> simp only [ExitOk] at p5 <;> simp only [Exit.then] <;> exact hQ _ _ _ hp'
 ·rename_i e1 a1 h1 hne hnp hx
  split at hr
  ·rename_i htr
   simp only [Option.some.injEq, Prod.mk.injEq] at hr
   obtain ⟨rfl, rfl, rfl⟩ := hr
   refine code_sim hF hc hS hL hJ M c A ht hR a ad S ρ h w _ _ _ N0 _ hi ha hdf hT hx fun e' a' w' hp => ?_
   have hp2 := hp.cutoff hi hn (ex := ex) htr (fun v hv => hnp v hv)
   have hp' := hp2
   obtain ⟨S1, ρ1, p1, p2, p3, p4, p5⟩ := hp2
   cases e1 <;> cases e' <;> simp only [ExitOk] at p5 <;> simp only [Exit.then] <;> first
    | exact hQ _ _ _ hp'
    | exact absurd rfl hne
  ·cases hr
 ·cases hr
theorem goto_sim (hc : CallsOk P call) (hS : CallS P G call) {k : Nat} {loop : LoopF} (hL : LoopS P G k loop) (hJ : GotoS P G k loop) : GotoS P G (k + 1) (dround call loop) := by
 intro F hF M n0 cut hd ex c rest l A hlt f1 f3 ht hR a ad S ρ h w e ad' h' N0 Q hi ha hdf hT hn hr hQ
 unfold Code.scopeIn
 unfold dround at hr
 have hgk : ¬ kid l = gid l := by unfold kid gid; omega
 simp only [dexec] at hr
 cases hx : dexec call loop A ad h with
 | none => rw [hx] at hr; cases hr
 | some r =>
  obtain ⟨e1, a1, h1⟩ := r
  rw [hx] at hr
  have done : ∀ (e2 : DExit), (∀ v, e2 ≠ .pan v) → (∀ v, e1 ≠ .pan v) → trims cut n0 (mask ex a1) = true → e = e2 → ad' = mask ex a1 → h' = trim cut n0 h1 → unk l e2 = e1 → ∀ e' a' w', Post P G N0 S ρ h w e1 a1 h1 e' a' w' → Q e' a' w' := by
   rintro e2 hn2 hn1 htr rfl rfl rfl hu e' a' w' hp
   refine hQ _ _ _ ?_
   rw [hu]
   exact hp.cutoff hi hn htr hn1
  refine code_sim hF hc hS hL hJ M rest A ht hR a ad S ρ h w e1 a1 h1 N0 _ hi ha hdf hT hx fun e' a' w' hp => ?_
  cases e1 with
  | normal =>
   simp only [if_neg hgk] at hr
   split at hr
   ·rename_i htr
    simp only [Option.some.injEq, Prod.mk.injEq] at hr
    obtain ⟨rfl, rfl, rfl⟩ := hr
    have key := done _ (fun v => by simp) (fun v => by simp) htr rfl rfl rfl (by simp [unk]) e' a' w' hp
    obtain ⟨S1, ρ1, p1, p2, p3, p4, p5⟩ := hp
    cases e' <;> simp only [ExitOk] at p5
    exact key
   ·cases hr
  | ret =>
   simp only at hr
   split at hr
   ·rename_i htr
    simp only [Option.some.injEq, Prod.mk.injEq] at hr
    obtain ⟨rfl, rfl, rfl⟩ := hr
    have key := done _ (fun v => by simp) (fun v => by simp) htr rfl rfl rfl (by simp [unk]) e' a' w' hp
    obtain ⟨S1, ρ1, p1, p2, p3, p4, p5⟩ := hp
    cases e' <;> simp only [ExitOk] at p5
    exact key
   ·cases hr
  | pan v =>
   simp only [Option.some.injEq, Prod.mk.injEq] at hr
   obtain ⟨rfl, rfl, rfl⟩ := hr
   have key := hQ e' a' w' (by simpa [unk] using hp)
   obtain ⟨S1, ρ1, p1, p2, p3, p4, p5⟩ := hp
   cases e' <;> simp only [ExitOk] at p5
   exact key
  | exit i =>
   by_cases hg : i = gid l
   ·subst hg
    simp only [if_true] at hr
    split at hr
    ·rename_i htr
     have hp2 := hp.cutoff hi hn (ex := hd) htr (fun v => by simp)
     obtain ⟨S1, ρ1, p1, p2, p3, p4, p5⟩ := hp2
     cases e' <;> simp only [ExitOk] at p5
     ·unfold gid at p5
      omega
     rename_i l'
     have hl' : l' = l := by have := p5.1; unfold gid at this; omega
     subst hl'
     simp only [f1]
     refine hJ F hF M n0 cut hd ex c rest l' A hlt f1 f3 ht hR a' _ S1 ρ1 _ w' e ad' h' N0 Q p3 p1 p4 hT (fun hcut => ?_) hr fun e2 a2 w2 hp2 => ?_
     ·subst hcut
      obtain rfl := hn rfl
      have := p2.len
      simp only [trim, if_true] at this ⊢
      simp at this ⊢
      omega
     ·obtain ⟨S2, ρ2, q1, q2, q3, q4, q5⟩ := hp2
      exact hQ _ _ _ ⟨S2, ρ2, q1, p2.trans q2, q3, q4, q5⟩
    ·cases hr
   ·simp only [if_neg hg] at hr
    split at hr
    ·rename_i htr
     simp only [Option.some.injEq, Prod.mk.injEq] at hr
     obtain ⟨rfl, rfl, rfl⟩ := hr
     have hk : ¬ i = kid l := by
      obtain ⟨S1, ρ1, p1, p2, p3, p4, p5⟩ := hp
      cases e' <;> simp only [ExitOk] at p5
      ·unfold kid; omega
      ·have := p5.1
       unfold gid at this
       unfold kid
       omega
     have key := done _ (fun v => by simp) (fun v => by simp) htr rfl rfl rfl (by simp [unk, hk]) e' a' w' hp
     obtain ⟨S1, ρ1, p1, p2, p3, p4, p5⟩ := hp
     cases e' <;> simp only [ExitOk] at p5
     ·exact key
     ·rename_i l'
      have hne : l' ≠ l := by
       rintro rfl
       exact hg p5.1
      simp only [f3 l' hne]
      exact key
    ·cases hr
theorem setAll_rep : ∀ (l : List Nat) (args : List Value) (da : List DV) (tm : Array Value) (ad : List DV), args.length = da.length → (∀ (j : Nat) (x : DV), da[j]? = some x → RepD S ρ h w (args.getD j undef) x) → RepA S ρ h w tm ad →
  RepA S ρ h w ((l.zip args).foldl (fun tmps p => tmps.setIfInBounds p.1 p.2) tm) (setAll ad l da)
 | [], args, da, tm, ad, hl, hr, ha => by simpa [setAll] using ha
 | p :: l, [], [], tm, ad, hl, hr, ha => by simpa [setAll] using ha
 | p :: l, v :: args, x :: da, tm, ad, hl, hr, ha => by
  simp only [setAll, List.zip_cons_cons, List.foldl_cons]
  have h1 := (RepA.put (a := { tmps := tm, defers := [] }) ha (by simpa using hr 0 x rfl) (some p))
  exact setAll_rep l args da _ _ (by simpa using hl) (fun j y hy => by simpa using hr (j + 1) y (by simpa using hy)) h1
 | p :: l, [], x :: da, tm, ad, hl, hr, ha => by simp at hl
 | p :: l, v :: args, [], tm, ad, hl, hr, ha => by simp at hl
theorem loop_upd (hi : Inv P G S ρ h w) {id l : Nat} {ps : List Nat} {as_ bd : ACode} {snap : List DV} {st st' : LSt} (hh : h[id]? = some (.loop ps as_ bd snap st)) (hρ : ρ[id]? = some (.box l)) {r : Loop} (hr : w.heap[l]? = some (.loop r)) (s' : LoopState) (p' : Option Code) (hf : LSt.fits st' s' p') :
  Ext S ρ h w S ρ (h.set id (.loop ps as_ bd snap st')) (w.putObj l (.loop { r with state := s', pending := p' })) ∧ Inv P G S ρ (h.set id (.loop ps as_ bd snap st')) (w.putObj l (.loop { r with state := s', pending := p' })) := by
 have hid : id < h.length := (List.getElem?_eq_some_iff.1 hh).1
 have nc : ∀ (r : Loop) c e p, Obj.loop r ≠ .cells c e p := fun r c e p h => by cases h
 have hl : l < w.heap.size := hi.low id l _ hρ rfl
 obtain ⟨b, r0, g1, g2, g3, g4, g5⟩ := hi.loop id ps as_ bd snap st hh
 rw [hρ] at g1
 simp only [Option.some.injEq, RI.box.injEq] at g1
 subst g1
 rw [hr] at g2
 simp only [Option.some.injEq, Obj.loop.injEq] at g2
 subst g2
 have tip : ∀ t, (((h.set id (.loop ps as_ bd snap st'))[t]?).bind Res.tip) = (h[t]?).bind Res.tip := fun t => by
  by_cases e : t = id
  ·subst e
   rw [List.getElem?_set_self hid, hh]
   rfl
  ·rw [List.getElem?_set_ne (Ne.symm e)]
 have E : Ext S ρ h w S ρ (h.set id (.loop ps as_ bd snap st')) (w.putObj l (.loop { r with state := s', pending := p' })) :=
  {settled := fun _ _ x => x
   cells := fun b o _ => cell_put hr (nc _) (nc _) b o
   len := by simp
   boxes := fun _ _ x => x
   rows := fun t n' _ hn => by rw [tip] at hn; exact ⟨n', hn, Nat.le_refl _, fun _ => rfl⟩
   size := by simp
   os := rfl, tape := rfl, output := rfl
   frame := fun b hb hn => World.putObj_heap_other fun e => hn id _ hρ (by rw [e]; rfl)
   blocks := fun i b r hr hb => .inr ⟨i, r, hr, hb, _root_.id⟩
   fresh := fun _ _ x => .inl x }
 have hset : ρ.set id (.box l) = ρ := set_self _ _ _ hρ
 refine ⟨E, ?_⟩
 have I := inv_upd (S' := S) (ri' := .box l) (r' := .loop ps as_ bd snap st') (w' := w.putObj l (.loop { r with state := s', pending := p' })) hi hid (by rw [hset]; exact E)
  (fun i b r hne hr hb => ⟨World.putObj_heap_other fun e => hne (hi.apart i id _ _ _ hr hρ (by rw [hb, e]) rfl), fun _ x => x⟩)
  (fun b o x => by simpa using hi.bound b o x)
  (fun b hb => ⟨by simp only [RI.block, Option.some.injEq] at hb; subst hb; simpa using hl, fun i r hne hr hb' => hne (by simp only [RI.block, Option.some.injEq] at hb; subst hb; exact hi.apart i id _ _ _ hr hρ hb' rfl)⟩)
  (fun cells tag hc => by cases hc) (fun hc => by cases hc) (fun sz n et hc => by cases hc) (fun s pos hc => by cases hc)
  (fun ps1 as1 bd1 snap1 st1 hc => by
   cases hc
   exact ⟨l, _, rfl, World.putObj_heap_same hl, ⟨g3.params, g3.code, g3.norange, hf⟩, g4, fun j x hx => ⟨(g5 j x hx).1, by rw [hset]; exact (g5 j x hx).2.mono E⟩⟩)
 rwa [hset] at I
theorem endLoop_some {id n : Nat} {st : LSt} {h2 : List Res} {out : DOut} (hh : endLoop id n st h2 = some out) : ∃ ps as_ bd snap st2, h2[id]? = some (.loop ps as_ bd snap st2) ∧ out = .val (.d (.bool st.isReady)) ((h2.set id (.loop ps as_ bd snap st)).take n) := by
 simp only [endLoop, Option.map_eq_some_iff] at hh
 obtain ⟨h3, hm, rfl⟩ := hh
 unfold markLoop at hm
 split at hm
 ·rename_i ps as_ bd snap st2 e
  simp only [Option.some.injEq] at hm
  subst hm
  exact ⟨_, _, _, _, _, e, rfl⟩
 ·cases hm
theorem yield_sim (hc : CallsOk P call) (hS : CallS P G call) {k : Nat} {loop : LoopF} (hL : LoopS P G k loop) (hJ : GotoS P G k loop) (id l : Nat) (args : Array Value) (dargs : List DV) (S : Settled) (ρ : List RI) (h : List Res) (w : World) (out : DOut) (hi : Inv P G S ρ h w) (hρ : ρ[id]? = some (.box l))
  (hl : args.size = dargs.length) (hr : ∀ (j : Nat) (x : DV), dargs[j]? = some x → RepD S ρ h w (args.getD j undef) x) (hd : dyield call loop id dargs h = some out) :
  ∃ f tmps as_ bd, (Instr.yield l args).run P w = .ok (.round l f tmps as_ bd) w ∧ ∀ F : Fence, Wide F → RoundIn F 0 P l f tmps as_ bd w (CallPost P G S ρ h w out) := by
 unfold dyield at hd
 split at hd
 ·rename_i ps A B snap hh
  obtain ⟨b, r, g1, g2, g3, g4, g5⟩ := hi.loop id ps A B snap _ hh
  rw [hρ] at g1
  simp only [Option.some.injEq, RI.box.injEq] at g1
  subst g1
  split at hd
  ·rename_i hlen
   obtain ⟨M, hA, hB⟩ := g3.code
   have hps : args.size = r.params.size := by rw [hl, hlen, ← g3.params]; simp
   refine ⟨_, _, _, _, run_yield g2 hps, fun F hF => ?_⟩
   refine roundIn_of_wpIn (hF.fn _) ?_
   have hT : RepA S ρ h w ((r.params.zip args).foldl (fun tmps p => tmps.setIfInBounds p.1 p.2) r.tmps) (setAll snap ps dargs) := by
    have := setAll_rep (S := S) (ρ := ρ) (h := h) (w := w) r.params.toList args.toList dargs r.tmps snap (by simpa using hl) (fun j x hx => by simpa [Array.getD_eq_getD_getElem?, List.getD_eq_getElem?_getD] using hr j x hx) ⟨g4, fun j x hx => (g5 j x hx).2⟩
    rw [g3.params] at this
    rw [← g3.params] at this ⊢
    simpa [← Array.toList_zip, Array.foldl_toList] using this
   split at hd
   ·rename_i a1 h1 hxa
    split at hd
    ·rename_i ps1 as1 bd1 snap1 hh1
     split at hd
     ·rename_i h1b hmark
      refine code_sim (hF.inRound l) hc hS hL hJ M _ A hA (.inr g3.norange.1) ⟨_, []⟩ _ S ρ h w _ _ _ (0, [], false) _ hi hT (.nil (Nat.zero_le _)) (.inl rfl) hxa fun e' a' w' hp => ?_
      obtain ⟨S1, ρ1, p1, p2, p3, p4, p5⟩ := hp
      cases e' <;> simp only [ExitOk] at p5
      simp only [Exit.then]
      have hρ1 := p2.boxes _ _ hρ
      obtain ⟨b, r1, q1, q2, q3, q4, q5⟩ := p3.loop _ _ _ _ _ _ hh1
      rw [hρ1] at q1
      simp only [Option.some.injEq, RI.box.injEq] at q1
      subst q1
      obtain ⟨s1, s2⟩ := fits_ready q3.state
      refine ⟨_, run_beginRound q2 s1, ?_⟩
      simp only [markLoop, hh1, Option.some.injEq] at hmark
      subst hmark
      obtain ⟨E2, I2⟩ := loop_upd p3 hh1 hρ1 q2 .busy none (st' := .busy) trivial
      have er : ({ r1 with state := .busy } : Loop) = { r1 with state := .busy, pending := none } := by rw [← s2]
      rw [er]
      generalize w'.putObj l (.loop { r1 with state := .busy, pending := none }) = w2 at E2 I2 ⊢
      generalize h1.set id (.loop ps1 as1 bd1 snap1 .busy) = h1b at hd E2 I2
      have fin : ∀ (st : LSt) (jump : Option Code) (h2 : List Res) (S3 : Settled) (ρ3 : List RI) (w3 : World), LSt.fits st (if jump.isNone then .ready else .done) jump → st.isReady = jump.isNone →
        Ext S1 ρ1 h1b w2 S3 ρ3 h2 w3 → Inv P G S3 ρ3 h2 w3 → endLoop id h.length st h2 = some out → ∃ v w4, (Instr.endRound l jump).run P w3 = .ok v w4 ∧ CallPost P G S ρ h w out (.returned v) w4 := by
       intro st jump h2 S3 ρ3 w3 hfit hb E3 I3 hend
       obtain ⟨ps2, as2, bd2, snap2, st2, hh2, rfl⟩ := endLoop_some hend
       have hρ3 := E3.boxes _ _ hρ1
       obtain ⟨b, r2, z1, z2, z3, z4, z5⟩ := I3.loop _ _ _ _ _ _ hh2
       rw [hρ3] at z1
       simp only [Option.some.injEq, RI.box.injEq] at z1
       subst z1
       obtain ⟨E4, I4⟩ := loop_upd I3 hh2 hρ3 z2 _ jump hfit
       refine ⟨_, _, run_endRound jump z2, _, S3, ρ3.take h.length, rfl, ?_, ?_, I4.take _⟩
       ·rw [hb]; exact .d _ _ (.bool _)
       ·exact (((p2.trans E2).trans E3).trans E4).take hi
      refine wpIn_mono (Q := fun e2 a2 w3 => ∃ e, (∃ ad2 h2, dexec call loop B a1 h1b = some (e, ad2, h2) ∧ Post P G (0, [], false) S1 ρ1 h1b w2 e ad2 h2 e2 a2 w3)) ?_ ?_
      ·cases hxb : dexec call loop B a1 h1b with
       | none => rw [hxb] at hd; cases hd
       | some q =>
        obtain ⟨e, ad2, h2⟩ := q
        exact code_sim (hF.inRound l) hc hS hL hJ M _ B hB (.inr g3.norange.2) a' _ S1 ρ1 h1b w2 e ad2 h2 (0, [], false) _ I2 (p1.mono E2) (p4.mono E2) (.inl rfl) hxb fun e' a' w' hp => ⟨e, ad2, h2, rfl, hp⟩
      ·rintro e2 a2 w3 ⟨e, ad2, h2, hxb, hp⟩
       rw [hxb] at hd
       obtain ⟨S3, ρ3, y1, y2, y3, y4, y5⟩ := hp
       cases e with
       | normal =>
        cases e2 <;> simp only [ExitOk] at y5
        exact fin .ready none h2 S3 ρ3 w3 trivial rfl y2 y3 hd
       | ret =>
        cases e2 <;> simp only [ExitOk] at y5
        exact fin (.done none) (some .ret) h2 S3 ρ3 w3 trivial rfl y2 y3 hd
       | exit i =>
        cases e2 <;> simp only [ExitOk] at y5
        ·obtain ⟨rfl, hlt⟩ := y5
         exact fin (.done (some i)) (some (.exit i)) h2 S3 ρ3 w3 ⟨rfl, hlt⟩ rfl y2 y3 hd
        ·rename_i lg
         exact fin (.done (some i)) (some (.goto lg)) h2 S3 ρ3 w3 y5 rfl y2 y3 hd
       | pan v => cases hd
     ·cases hd
    ·cases hd
   ·cases hd
  ·cases hd
 ·cases hd
end
end Go.Deepv
namespace Go.Deepv
open Go.RowKit
section
variable {P : Program} {G : Glob} {S S' : Settled} {ρ ρ' : List RI} {h h' : List Res} {w w' : World} {a : Act} {ad : List DV} {call : Cle → List DV → List Res → Option DOut} {out : DOut}
theorem run_mapM {α : Type} {f : α → Sem Value} : ∀ (l : List α) (u : α → Value), (∀ x ∈ l, (f x).run P w = .ok (u x) w) → (l.mapM f).run P w = .ok (l.map u) w
 | [], u, h => by simp
 | x :: l, u, h => by
  have h1 := h x (by simp)
  have h2 := run_mapM l u fun y hy => h y (by simp [hy])
  simp [List.mapM_cons, h1, h2]
def resF (tmps : Array Value) : ResultVar → Sem Value
 | .tmp t => pure (tmps.getD t undef)
 | .cell a t => do loadVar t (← asAddr (tmps.getD a undef))
theorem results_eq (fn : Func) (tmps : Array Value) : results fn tmps = (do
  let vs ← fn.results.mapM (resF tmps)
  pure (if h : vs.size = 1 then vs[0] else .tuple vs)) := by
 unfold results
 have : (fun x : ResultVar => (match x with | .tmp t => pure (tmps.getD t undef) | .cell a t => do loadVar t (← asAddr (tmps.getD a undef)) : Sem Value)) = resF tmps := by
  funext x
  cases x <;> rfl
 rw [← this]
 rfl
theorem run_res (hi : Inv P G S ρ h w) (ha : RepA S ρ h w a.tmps ad) {k : Bool} {r : ResultVar} {d : DRes} (ht : trRes P k r = some d) {x : DV} (hx : dresult ad h d = some x) :
  ∃ v, (resF a.tmps r).run P w = .ok v w ∧ RepD S ρ h w v x := by
 have get : ∀ t, RepD S ρ h w (a.tmps.getD t undef) (ad.getD t (.d .undef)) := fun t => by
  rcases Nat.lt_or_ge t ad.length with hl | hl
  ·rw [List.getD_eq_getElem?_getD, List.getElem?_eq_getElem hl, Option.getD_some]
   exact ha.at_ t _ (List.getElem?_eq_getElem hl)
  ·rw [List.getD_eq_getElem?_getD, List.getElem?_eq_none hl, Option.getD_none]
   exact .d _ _ (.undef _)
 cases r with
 | tmp t =>
  simp only [trRes, Option.some.injEq] at ht
  subst ht
  simp only [dresult, Option.some.injEq] at hx
  subst hx
  exact ⟨_, rfl, get t⟩
 | cell c t =>
  simp only [trRes, Option.map_eq_some_iff] at ht
  obtain ⟨n, hn, rfl⟩ := ht
  have g := get c
  have key : ∀ (f : DV → DV) (hf : ∀ v z, RepD S ρ h w v z → RepD S ρ h w v (f z)) (cells : List DV) (off : Nat), ((∃ fs, ad.getD c (.d .undef) = .d (.ref fs off) ∧ cells = fs.map .d) ∨ (∃ id tag, ad.getD c (.d .undef) = .ptr id off ∧ h[id]? = some (.box cells tag))) → dload n (cells.map f) off = some x →
    ∃ v, (do loadVar t (← asAddr (a.tmps.getD c undef)) : Sem Value).run P w = .ok v w ∧ RepD S ρ h w v x := by
   intro f hf cells off hp hv
   obtain ⟨b, o, u, e, hc0, hr0⟩ := rep_place hi g (hp.elim Or.inl fun x => .inr (.inl x))
   have hc : ∀ j, j < (cells.map f).length → w.cell? ⟨b, o + j, none⟩ = some (u j) := fun j hj => hc0 j (by simpa using hj)
   have hr : ∀ (j : Nat) (y : DV), (cells.map f)[j]? = some y → RepD S ρ h w (u j) y := fun j y hy => by
    simp only [List.getElem?_map, Option.map_eq_some_iff] at hy
    obtain ⟨z, hz, rfl⟩ := hy
    exact hf _ _ (hr0 j z hz)
   obtain ⟨l1, l2⟩ := rep_dload u hr hv
   have hl := run_loadVar (P := P) (w := w) hn b (o + off) (fun j => u (off + j)) (fun j hj => by rw [Nat.add_assoc]; exact hc _ (by omega))
   refine ⟨_, ?_, l2⟩
   rw [e]
   simp [asAddr, hl]
  have plain : ∀ cells off, dload n cells off = some x → dload n (cells.map id) off = some x := fun cells off hv => by rw [List.map_id]; exact hv
  cases k with
  | false =>
   simp only [Bool.false_eq_true, if_false, dresult] at hx
   split at hx
   ·rename_i id' off he
    split at hx
    ·rename_i cells tag hb
     exact key id (fun _ _ h => h) cells off (.inr ⟨_, _, he, hb⟩) (plain _ _ hx)
    ·cases hx
   ·rename_i cells off he
    exact key id (fun _ _ h => h) _ off (.inl ⟨cells, he, rfl⟩) (plain _ _ hx)
   ·cases hx
  | true =>
   simp only [if_true, dresult] at hx
   split at hx
   ·rename_i id off he
    split at hx
    ·rename_i cells tag hb
     exact key (nilC h) (fun _ _ hz => rep_nilC hi hz) cells off (.inr ⟨_, _, he, hb⟩) hx
    ·cases hx
   ·rename_i cells off he
    exact key id (fun _ _ h => h) _ off (.inl ⟨cells, he, rfl⟩) (plain _ _ hx)
   ·cases hx
theorem run_results (hi : Inv P G S ρ h w) (ha : RepA S ρ h w a.tmps ad) {k : Bool} {fn : Func} {rs : List DRes} (ht : fn.results.toList.mapM (trRes P k) = some rs) {vs : List DV} (hv : rs.mapM (dresult ad h) = some vs) :
  ∃ x, (results fn a.tmps).run P w = .ok x w ∧ ∀ co, RepD S ρ h w x (dresults co vs) := by
 have key : ∀ (l : List ResultVar) (rs : List DRes) (vs : List DV), l.mapM (trRes P k) = some rs → rs.mapM (dresult ad h) = some vs →
   ∃ us, (l.mapM (resF a.tmps)).run P w = .ok us w ∧ us.length = vs.length ∧ ∀ (j : Nat) (x : DV), vs[j]? = some x → RepD S ρ h w (us.getD j undef) x := by
  intro l
  induction l with
  | nil =>
   intro rs vs h1 h2
   simp at h1
   subst h1
   simp at h2
   subst h2
   exact ⟨[], by simp, rfl, fun j x hx => by simp at hx⟩
  | cons r l ih =>
   intro rs vs h1 h2
   simp only [List.mapM_cons, Option.pure_def, Option.bind_eq_bind, Option.bind_eq_some_iff, Option.some.injEq] at h1
   obtain ⟨d, hd, ds, hds, rfl⟩ := h1
   simp only [List.mapM_cons, Option.pure_def, Option.bind_eq_bind, Option.bind_eq_some_iff, Option.some.injEq] at h2
   obtain ⟨y, hy, ys, hys, rfl⟩ := h2
   obtain ⟨v, e1, r1⟩ := run_res hi ha hd hy
   obtain ⟨us, e2, l2, r2⟩ := ih ds ys hds hys
   refine ⟨v :: us, ?_, by simp [l2], fun j x hx => ?_⟩
   ·rw [List.mapM_cons]
    simp only [Sem.run_bind, e1, Result.andThen_ok, e2, Sem.run_pure]
   ·cases j with
    | zero => simp at hx; subst hx; exact r1
    | succ j => simpa using r2 j x (by simpa using hx)
 obtain ⟨us, e, l, r⟩ := key _ rs vs ht hv
 have hrun : (results fn a.tmps).run P w = .ok (if h : us.toArray.size = 1 then us.toArray[0] else .tuple us.toArray) w := by
  rw [results_eq, Array.mapM_eq_mapM_toList]
  simp only [Sem.run_bind, Sem.run_map]
  rw [e]
  rfl
 refine ⟨_, hrun, ?_⟩
 have many : us.length ≠ 1 → dresults true vs = (DV.tup (vs.map DV.coe)).coe → dresults false vs = .tup vs → ∀ co, RepD S ρ h w (if h : us.toArray.size = 1 then us.toArray[0] else .tuple us.toArray) (dresults co vs) := by
  intro h1 h2 h3 co
  cases co
  ·rw [h3, dif_neg (by simpa using h1)]
   exact .tup _ _ (by simp [l]) fun j x hx => by
    have := r j x hx
    simpa [Array.getD_eq_getD_getElem?, List.getD_eq_getElem?_getD] using this
  rw [h2, dif_neg (by simpa using h1)]
  refine rep_coe (.tup _ _ (by simp [l]) fun j x hx => ?_)
  simp only [List.getElem?_map, Option.map_eq_some_iff] at hx
  obtain ⟨y, hy, rfl⟩ := hx
  have := rep_coe (r j y hy)
  simpa [Array.getD_eq_getD_getElem?, List.getD_eq_getElem?_getD] using this
 match vs, l, r, many with
 | [], l, r, many => exact many (by simp at l; simp [l]) rfl rfl
 | [x], l, r, many =>
  have h1 : us.length = 1 := by simpa using l
  have := r 0 x rfl
  rw [dif_pos (by simpa using h1)]
  have e2 : us.toArray[0]'(by simp [h1]) = us.getD 0 undef := by simp [List.getD_eq_getElem?_getD, h1]
  rw [e2]
  intro co
  cases co
  ·exact this
  ·exact rep_coe this
 | x :: y :: vs, l, r, many => exact many (by simp at l; omega) rfl rfl
def shut (l : List Nat) (w : World) : World := l.foldl (fun w D => w.putObj D (.deferred none)) w
theorem leaves_marks {F : Fence} {n : Nat} {fn : Func} {tmps : Array Value} {R : Ending → World → Prop} {U : List Deferred} {u : FrameMode} (hu : u ≠ .run) : ∀ (l : List Nat) (w : World), l.Nodup → (∀ D ∈ l, w.heap[D]? = some (.deferred (some []))) → LeavesInM F n P fn tmps R U u (shut l w) → LeavesInM F n P fn tmps R (l.map mark ++ U) u w
 | [], w, _, _, h => h
 | D :: l, w, hn, hl, h => by
  refine ⟨hu, .inl ⟨D, w.putObj D (.deferred none), rfl, run_takeDeferred (hl D (by simp)), leaves_marks hu l _ (List.nodup_cons.1 hn).2 (fun k hk => ?_) h⟩⟩
  rw [World.putObj_heap_other (fun e => (List.nodup_cons.1 hn).1 (by rw [← e]; exact hk))]
  exact hl k (by simp [hk])
theorem shut_ok : ∀ (l : List Nat) (w' : World), l.Nodup → (∀ D ∈ l, w.heap.size ≤ D ∧ w'.heap[D]? = some (.deferred (some [])) ∧ ∀ (i : Nat) (r : RI), ρ'[i]? = some r → r.block ≠ some D) → Ext S ρ h w S' ρ' h' w' → Inv P G S' ρ' h' w' →
  (∀ v x, RepD S' ρ' h' w' v x → RepD S' ρ' h' (shut l w') v x) ∧ Ext S ρ h w S' ρ' h' (shut l w') ∧ Inv P G S' ρ' h' (shut l w')
 | [], w', _, _, E, I => ⟨fun _ _ h => h, E, I⟩
 | D :: l, w', hn, hl, E, I => by
  have nc : ∀ (r : Option (List Deferred)) c e p, Obj.deferred r ≠ .cells c e p := fun r c e p h => by cases h
  obtain ⟨h1, h2, h3⟩ := hl D (by simp)
  obtain ⟨k1, k2, k3⟩ := shut_ok l (w'.putObj D (.deferred none)) (List.nodup_cons.1 hn).2 (fun k hk => by
   refine ⟨(hl k (by simp [hk])).1, ?_, (hl k (by simp [hk])).2.2⟩
   rw [World.putObj_heap_other (fun e => (List.nodup_cons.1 hn).1 (by rw [← e]; exact hk))]
   exact (hl k (by simp [hk])).2.1) (ext_put E h2 (nc _) (nc _) h1) (inv_put I h2 (nc _) (nc _) h3)
  exact ⟨fun v x hx => k1 v x (rep_put h2 (nc _) (nc _) hx), k2, k3⟩
theorem shut_marksU {U ds : List Deferred} {b : Bool} (E : Ext S ρ h w S' ρ' h' w') (I : Inv P G S' ρ' h' w') (m : Marked (w.heap.size, U, b) ρ' w' ds) :
  ∃ ws, (∀ v x, RepD S' ρ' h' w' v x → RepD S' ρ' h' ws v x) ∧ Ext S ρ h w S' ρ' h' ws ∧ Inv P G S' ρ' h' ws ∧
   ∀ (u : FrameMode), u ≠ .run → ∀ (fn : Func) (tmps : Array Value) (R : Ending → World → Prop) (n : Nat), LeavesInM Fence.wide n P fn tmps R U u ws → LeavesInM Fence.wide n P fn tmps R ds u w' := by
 obtain ⟨_, l, e, _, hn, hl⟩ := m
 subst e
 obtain ⟨k1, k2, k3⟩ := shut_ok l w' hn hl E I
 exact ⟨shut l w', k1, k2, k3, fun u hu fn tmps R n hleave => leaves_marks hu l w' hn (fun D hD => (hl D hD).2.1) hleave⟩
theorem shut_marks {ds : List Deferred} (E : Ext S ρ h w S' ρ' h' w') (I : Inv P G S' ρ' h' w') (m : Marked (w.heap.size, [], false) ρ' w' ds) :
  ∃ ws, (∀ v x, RepD S' ρ' h' w' v x → RepD S' ρ' h' ws v x) ∧ Ext S ρ h w S' ρ' h' ws ∧ Inv P G S' ρ' h' ws ∧
   ∀ (u : FrameMode), u ≠ .run → ∀ (fn : Func) (tmps : Array Value) (R : Ending → World → Prop) (n : Nat), LeavesIn Fence.wide n P fn tmps R [] u ws → LeavesInM Fence.wide n P fn tmps R ds u w' := shut_marksU E I m
theorem body_sim (hc : CallsOk P call) (hS : CallS P G call) {k : Nat} {loop : LoopF} (hL : LoopS P G k loop) (hJ : GotoS P G k loop) {g : FuncId} {fn : Func} {M : Marks} {co : Bool} {F : AFunc} (hf : P.funcs[g]? = some fn) (ht : trFunc P M co fn = some F)
  (hi : Inv P G S ρ h w) {args : Array Value} {dargs : List DV} (hl : args.size = dargs.length) (hr : ∀ (j : Nat) (x : DV), dargs[j]? = some x → RepD S ρ h w (args.getD j undef) x) (hd : dbody call loop F dargs h = some out) :
  Calls P g args w (CallPost P G S ρ h w out) := by
 unfold trFunc at ht
 split at ht
 ·rename_i b rs hb hrs
  simp only [Option.map_eq_some_iff] at ht
  obtain ⟨A, hA, rfl⟩ := ht
  refine (callsIn_wide (n := 0)).1 (callsIn_of_wp_marks hf hb trivial ?_)
  have ha : RepA S ρ h w (args ++ Array.replicate (fn.ntmps - args.size) undef) (dargs ++ List.replicate (fn.ntmps - dargs.length) (.d .undef)) := by
   refine ⟨by simp [hl], fun j x hx => ?_⟩
   rw [getD_append]
   rcases Nat.lt_or_ge j dargs.length with hj | hj
   ·rw [List.getElem?_append_left hj] at hx
    rw [if_pos (by omega)]
    exact hr j x hx
   ·rw [List.getElem?_append_right hj] at hx
    have := List.mem_of_getElem? hx
    simp at this
    rw [this.2]
    exact .d _ _ (.undef _)
  unfold dbody at hd
  simp only [drun] at hd
  split at hd
  ·rename_i v a1 h1 hx
   split at hd
   ·rename_i hlow
    simp only [Option.some.injEq] at hd
    subst hd
    refine code_sim wide_wide hc hS hL hJ M b A hA (.inl rfl) ⟨_, []⟩ _ S ρ h w _ _ _ (w.heap.size, [], false) _ hi ha (.nil (Nat.le_refl _)) (.inl rfl) hx fun e' a' w' hp => ?_
    obtain ⟨S1, ρ1, p1, p2, p3, p4, p5⟩ := hp
    cases e' <;> simp only [ExitOk] at p5
    obtain ⟨x, rfl, hxr⟩ := p5
    obtain ⟨ws, w1, w2, w3, w4⟩ := shut_marks p2 p3 p4
    exact w4 _ (fun h => by cases h) _ _ _ _ ⟨x, S1, _, rfl, (w1 _ _ hxr).take hlow, w2.take hi, w3.take _⟩
   ·cases hd
  ·rename_i a1 h1 hx
   split at hd
   ·rename_i vs hvs
    split at hd
    ·rename_i hlow
     simp only [Option.some.injEq] at hd
     subst hd
     refine code_sim wide_wide hc hS hL hJ M b A hA (.inl rfl) ⟨_, []⟩ _ S ρ h w _ _ _ (w.heap.size, [], false) _ hi ha (.nil (Nat.le_refl _)) (.inl rfl) hx fun e' a' w' hp => ?_
     obtain ⟨S1, ρ1, p1, p2, p3, p4, p5⟩ := hp
     cases e' <;> simp only [ExitOk] at p5
     obtain ⟨ws, w1, w2, w3, w4⟩ := shut_marks p2 p3 p4
     obtain ⟨x, hrun, hxr⟩ := run_results w3 ⟨p1.len, fun j x hx => w1 _ _ (p1.at_ j x hx)⟩ hrs hvs
     exact w4 _ (fun h => by cases h) _ _ _ _ ⟨x, hrun, x, S1, _, rfl, (hxr _).take hlow, w2.takeN (Nat.le_add_right _ _) hi, w3.take _⟩
    ·cases hd
   ·cases hd
  ·rename_i a1 h1 hx
   split at hd
   ·rename_i vs hvs
    split at hd
    ·rename_i hlow
     simp only [Option.some.injEq] at hd
     subst hd
     refine code_sim wide_wide hc hS hL hJ M b A hA (.inl rfl) ⟨_, []⟩ _ S ρ h w _ _ _ (w.heap.size, [], false) _ hi ha (.nil (Nat.le_refl _)) (.inl rfl) hx fun e' a' w' hp => ?_
     obtain ⟨S1, ρ1, p1, p2, p3, p4, p5⟩ := hp
     cases e' <;> simp only [ExitOk] at p5
     obtain ⟨ws, w1, w2, w3, w4⟩ := shut_marks p2 p3 p4
     obtain ⟨x, hrun, hxr⟩ := run_results w3 ⟨p1.len, fun j x hx => w1 _ _ (p1.at_ j x hx)⟩ hrs hvs
     exact w4 _ (fun h => by cases h) _ _ _ _ ⟨x, hrun, x, S1, _, rfl, (hxr _).take hlow, w2.takeN (Nat.le_add_right _ _) hi, w3.take _⟩
    ·cases hd
   ·cases hd
  ·cases hd
 ·cases ht
def nestG : List Code → Code → Code
 | [], c => c
 | x :: l, c => .seq x (nestG l c)
theorem peel_nest : ∀ (b : Code) (pre : List Code) (ops : Array Oper) (rest : Code), peelG b = some (pre, ops, rest) → ∃ id, b = nestG pre (.seq (.region id ops false) rest)
 | .seq x y, pre, ops, rest, h => by
  have other : ∀ r, (peelG y).map (fun r => (x :: r.1, r.2)) = some r → r = (pre, ops, rest) → ∃ id, Code.seq x y = nestG pre (.seq (.region id ops false) rest) := by
   intro r hr he
   subst he
   simp only [Option.map_eq_some_iff] at hr
   obtain ⟨⟨p, o, t⟩, hp, hq⟩ := hr
   simp only [Prod.mk.injEq] at hq
   obtain ⟨rfl, rfl, rfl⟩ := hq
   obtain ⟨id, e⟩ := peel_nest y p o t hp
   exact ⟨id, by rw [e]; rfl⟩
  unfold peelG at h
  split at h
  ·rename_i id ops'
   split at h
   ·simp only [Option.some.injEq, Prod.mk.injEq] at h
    obtain ⟨rfl, rfl, rfl⟩ := h
    exact ⟨id, rfl⟩
   ·exact other _ h rfl
  ·exact other _ h rfl
 | .skip, _, _, _, h => by simp [peelG] at h
 | .region .., _, _, _, h => by simp [peelG] at h
 | .cond .., _, _, _, h => by simp [peelG] at h
 | .block .., _, _, _, h => by simp [peelG] at h
 | .loop .., _, _, _, h => by simp [peelG] at h
 | .rangeFunc .., _, _, _, h => by simp [peelG] at h
 | .exit .., _, _, _, h => by simp [peelG] at h
 | .ret, _, _, _, h => by simp [peelG] at h
 | .refuse .., _, _, _, h => by simp [peelG] at h
 | .scope .., _, _, _, h => by simp [peelG] at h
 | .label .., _, _, _, h => by simp [peelG] at h
 | .goto .., _, _, _, h => by simp [peelG] at h
theorem pre_sim {F : Fence} (hF : Wide F) (hro : F.round = none) (hc : CallsOk P call) (hS : CallS P G call) {k : Nat} {loop : LoopF} (hL : LoopS P G k loop) (hJ : GotoS P G k loop) {M : Marks} {c : Code} {Q : Exit → Act → World → Prop} {N0 : Base} :
  ∀ (pre : List Code) (pre' : List ACode), pre.mapM (trCode P M) = some pre' → pre'.all ACode.noRange = true → ∀ (a : Act) (ad : List DV) (S : Settled) (ρ : List RI) (h : List Res) (w : World) (e : DExit) (ad' : List DV) (h' : List Res),
   Inv P G S ρ h w → RepA S ρ h w a.tmps ad → Marked N0 ρ w a.defers → dpre call loop pre' ad h = some (e, ad', h') →
   (e = .normal → ∀ a' w', (∃ S' ρ', RepA S' ρ' h' w' a'.tmps ad' ∧ Ext S ρ h w S' ρ' h' w' ∧ Inv P G S' ρ' h' w' ∧ Marked N0 ρ' w' a'.defers) → c.wpIn F 0 P Q a' w') →
   (e ≠ .normal → ∀ e' a' w', Post P G N0 S ρ h w e ad' h' e' a' w' → Q e' a' w') → (nestG pre c).wpIn F 0 P Q a w
 | [], pre', ht, hn, a, ad, S, ρ, h, w, e, ad', h', hi, ha, hm, hr, hN, hE => by
  simp at ht
  subst ht
  simp only [dpre, Option.some.injEq, Prod.mk.injEq] at hr
  obtain ⟨rfl, rfl, rfl⟩ := hr
  exact hN rfl a w ⟨S, ρ, ha, Ext.refl _ _ _ _, hi, hm⟩
 | x :: l, pre', ht, hn, a, ad, S, ρ, h, w, e, ad', h', hi, ha, hm, hr, hN, hE => by
  simp only [List.mapM_cons, Option.pure_def, Option.bind_eq_bind, Option.bind_eq_some_iff, Option.some.injEq] at ht
  obtain ⟨X, hX, L', hL', rfl⟩ := ht
  simp only [List.all_cons, Bool.and_eq_true] at hn
  simp only [dpre] at hr
  refine wpIn_seq ?_
  cases hx : dexec call loop X ad h with
  | none => rw [hx] at hr; cases hr
  | some r =>
   obtain ⟨e1, ad1, h1⟩ := r
   rw [hx] at hr
   refine code_sim hF hc hS hL hJ M x X hX (.inl hro) a ad S ρ h w e1 ad1 h1 N0 _ hi ha hm (.inr hn.1) hx fun e' a' w' hp => ?_
   cases e1 with
   | normal =>
    simp only at hr
    obtain ⟨S1, ρ1, p1, p2, p3, p4, p5⟩ := hp
    cases e' <;> simp only [ExitOk] at p5
    simp only [Exit.then]
    refine pre_sim hF hro hc hS hL hJ l L' hL' hn.2 a' ad1 S1 ρ1 h1 w' e ad' h' p3 p1 p4 hr (fun he a2 w2 hp2 => ?_) fun he e2 a2 w2 hp2 => ?_
    ·obtain ⟨S2, ρ2, q1, q2, q3, q4⟩ := hp2
     exact hN he a2 w2 ⟨S2, ρ2, q1, p2.trans q2, q3, q4⟩
    ·obtain ⟨S2, ρ2, q1, q2, q3, q4, q5⟩ := hp2
     exact hE he _ _ _ ⟨S2, ρ2, q1, p2.trans q2, q3, q4, q5⟩
   | _ =>
    simp only [Option.some.injEq, Prod.mk.injEq] at hr
    obtain ⟨rfl, rfl, rfl⟩ := hr
    have hp' := hp
    obtain ⟨S1, ρ1, p1, p2, p3, p4, p5⟩ := hp
    cases e' <;> simp only [ExitOk] at p5 <;> simp only [Exit.then] <;> exact hE (by simp) _ _ _ hp'
theorem mv_sim {F : Fence} (hF : Wide F) {n : Nat} {ops : Array Oper} {Q : Exit → Act → List Frame → World → Prop} {cs : List Frame} : ∀ (os : List Oper) (l : List (Nat × Opd)), os.mapM (trMv P) = some l → ∀ (k : Nat), (∀ j, os[j]? = ops[k + j]?) → ∀ (a : Act) (ad : List DV),
  RepA S ρ h w a.tmps ad → (∀ a', RepA S ρ h w a'.tmps (mvs l ad) → a'.defers = a.defers → Q .normal a' cs w) → wpOpsSIn F n P ops Q (List.range' k os.length) a cs w
 | [], l, ht, k, hk, a, ad, ha, hQ => by
  simp at ht
  subst ht
  exact hQ a ha rfl
 | o :: os, l, ht, k, hk, a, ad, ha, hQ => by
  simp only [List.mapM_cons, Option.pure_def, Option.bind_eq_bind, Option.bind_eq_some_iff, Option.some.injEq] at ht
  obtain ⟨p, hp, l', hl', rfl⟩ := ht
  have h0 : ops[k]? = some o := by simpa using (hk 0).symm
  have ih := fun a ad => mv_sim hF (n := n) (Q := Q) (cs := cs) os l' hl' (k + 1) (fun j => by have := hk (j + 1); simpa [Nat.add_assoc, Nat.add_comm 1 j] using this) a ad
  simp only [List.length_cons, List.range'_succ, wpOpsSIn, h0]
  have key : ∃ d x, o.dst = some d ∧ o.guard = none ∧ p = (d, x) ∧ ∃ y, (o.op = .move y ∨ o.op = .assign y) ∧ trOpd P o.type y = some x := by
   unfold trMv at hp
   split at hp
   ·rename_i d y h1 h2 h3
    simp only [Option.map_eq_some_iff] at hp
    obtain ⟨x, hx, rfl⟩ := hp
    exact ⟨d, x, h1, h3, rfl, y, .inl h2, hx⟩
   ·rename_i d y h1 h2 h3
    simp only [Option.map_eq_some_iff] at hp
    obtain ⟨x, hx, rfl⟩ := hp
    exact ⟨d, x, h1, h3, rfl, y, .inr h2, hx⟩
   ·cases hp
  obtain ⟨d, x, h1, h2, rfl, y, h3, h4⟩ := key
  have hrun : (execOp a.eval o).run P w = .ok (.value (a.eval y)) w := by
   unfold execOp
   rcases h3 with h3 | h3 <;> rw [h3] <;> rfl
  refine ⟨fun f _ => hF.fn f, ?_⟩
  have hw : Region.wanted o (yielded ops a.tmps) = true := by simp [Region.wanted, h2]
  simp only [hw, if_true, hrun]
  have hx := rep_opd ha h4
  have ha' := RepA.put (a := a) ha hx o.dst
  rw [h1] at ha' ⊢
  exact ih (a.put (some d) (a.eval y)) _ ha' fun a' g1 g2 => hQ a' g1 (by rw [g2]; rfl)
theorem clo_sim (hc : CallsOk P call) (hS : CallS P G call) {k : Nat} {loop : LoopF} (hL : LoopS P G k loop) (hJ : GotoS P G k loop) {f : FuncId} {cl : Func} {Mc : Marks} {d : Nat} {l : List (Nat × Opd)} {A : ACode} (hf : P.funcs[f]? = some cl) (ht : trClo P Mc cl = some (d, l, A))
  (hi : Inv P G S ρ h w) {args : Array Value} {cs : List DV} (hl : args.size = cs.length) (hr : ∀ (j : Nat) (x : DV), cs[j]? = some x → RepD S ρ h w (args.getD j undef) x) {u : FrameMode} {v : Value} {x : DV}
  (hu : (u = .returning ∧ v = .nilIface) ∨ u = .panicking [{ v := v, recovered := false }]) (hx : RepD S ρ h w v x) {e : DExit} {a2 : List DV} {h' : List Res}
  (hd : dexec call loop A (mvs l ((cs ++ List.replicate (cl.ntmps - cs.length) (DV.d .undef)).set d x)) h = some (e, a2, h')) (he : e = .normal ∨ e = .ret) :
  CallsDIn Fence.wide 0 P f args u w fun e u' w' => (∃ y, e = .returned y) ∧ settle u' = .returning ∧ ∃ S' ρ', Ext S ρ h w S' ρ' h' w' ∧ Inv P G S' ρ' h' w' := by
 unfold trClo at ht
 split at ht
 ·rename_i id ops y hb
  split at ht
  ·rename_i o os hos
   split at ht
   ·rename_i d' c l' A' h1 h2 h3 h4 h5
    split at ht
    ·rename_i hcond
     simp only [Option.some.injEq, Prod.mk.injEq] at ht
     obtain ⟨rfl, rfl, rfl⟩ := ht
     obtain ⟨hrec, hres, hno⟩ := hcond
     have ha : RepA S ρ h w (args ++ Array.replicate (cl.ntmps - args.size) undef) (cs ++ List.replicate (cl.ntmps - cs.length) (.d .undef)) := by
      refine ⟨by simp [hl], fun j x hx => ?_⟩
      rw [getD_append]
      rcases Nat.lt_or_ge j cs.length with hj | hj
      ·rw [List.getElem?_append_left hj] at hx
       rw [if_pos (by omega)]
       exact hr j x hx
      ·rw [List.getElem?_append_right hj] at hx
       have := List.mem_of_getElem? hx
       simp at this
       rw [this.2]
       exact .d _ _ (.undef _)
     refine callsDIn_of_wpSIn hf hb trivial fun c₀ cs0 hmode => ?_
     refine wpSIn_seq (wpSIn_region ?_)
     have hops : ∀ j, (o :: os)[j]? = ops[0 + j]? := fun j => by rw [← hos]; simp
     have hsz : ops.size = os.length + 1 := by rw [← Array.length_toList, hos]; rfl
     have h0 : ops[0]? = some o := by simpa using (hops 0).symm
     rw [hsz, List.range_eq_range', List.range'_succ]
     simp only [wpOpsSIn, h0]
     have hrun : ∀ ev : Operand → Value, (execOp ev o).run P w = .ok .recover w := fun ev => by
      unfold execOp
      rw [h2]
      cases hcal : c.callee with
      | builtin b =>
       rw [hcal] at hrec
       cases b <;> simp [isRec] at hrec
       simp [resolve, hcal, invoke]
       rfl
      | _ => rw [hcal] at hrec; simp [isRec] at hrec
     refine ⟨fun f _ => trivial, ?_⟩
     have hw : ∀ t, Region.wanted o (yielded ops t) = true := fun t => by simp [Region.wanted, h3]
     simp only [hw, if_true, hrun]
     have rest : ∀ (cs1 : List Frame) (u1 : FrameMode), cs1 = { c₀ with mode := u1 } :: cs0 → settle u1 = .returning → ∀ a1 : Act, RepA S ρ h w a1.tmps ((cs ++ List.replicate (cl.ntmps - cs.length) (DV.d .undef)).set d' x) → a1.defers = [] →
       wpOpsSIn Fence.wide 0 P ops (Exit.thenS (y.wpSIn Fence.wide 0 P (bodyPostS P cl c₀ cs0 fun e u' w' => (∃ y, e = .returned y) ∧ settle u' = .returning ∧ ∃ S' ρ', Ext S ρ h w S' ρ' h' w' ∧ Inv P G S' ρ' h' w')) (bodyPostS P cl c₀ cs0 fun e u' w' => (∃ y, e = .returned y) ∧ settle u' = .returning ∧ ∃ S' ρ', Ext S ρ h w S' ρ' h' w' ∧ Inv P G S' ρ' h' w')) (List.range' (0 + 1) os.length) a1 cs1 w := by
      intro cs1 u1 hcs hset a1 ha1 hdf
      refine mv_sim wide_wide os l' h4 (0 + 1) (fun j => by have := hops (j + 1); simpa [Nat.add_comm 1 j] using this) a1 _ ha1 fun a' g1 g2 => ?_
      simp only [Exit.thenS]
      refine wpSIn_of_wpIn rfl ?_
      refine code_sim wide_wide hc hS hL hJ Mc y A' h5 (.inl rfl) a' _ S ρ h w e a2 h' (w.heap.size, [], true) _ hi g1 (by rw [g2, hdf]; exact .nil (Nat.le_refl _)) (.inr hno) hd fun e' a3 w' hp => ?_
      obtain ⟨S1, ρ1, p1, p2, p3, p4, p5⟩ := hp
      obtain ⟨_, lm, e1, e2, _, _⟩ := p4
      have : lm = [] := e2 rfl
      subst this
      have hd0 : a3.defers = [] := e1
      have hres' : (results cl a3.tmps).run P w' = .ok (.tuple #[]) w' := by
       have : cl.results = #[] := Array.size_eq_zero_iff.1 hres
       rw [results_eq, this]
       simp
      rcases he with rfl | rfl <;> cases e' <;> simp only [ExitOk] at p5
      ·exact ⟨hd0, u1, hcs, _, hres', ⟨_, rfl⟩, hset, S1, ρ1, p2, p3⟩
      ·exact ⟨hd0, u1, hcs, _, hres', ⟨_, rfl⟩, hset, S1, ρ1, p2, p3⟩
     have hput : ∀ vv, RepD S ρ h w vv x → RepA S ρ h w (({ tmps := args ++ Array.replicate (cl.ntmps - args.size) undef, defers := [] } : Act).put o.dst vv).tmps ((cs ++ List.replicate (cl.ntmps - cs.length) (DV.d .undef)).set d' x) := fun vv hv => by
      have := RepA.put (a := { tmps := args ++ Array.replicate (cl.ntmps - args.size) undef, defers := [] }) ha hv o.dst
      rw [h1] at this ⊢
      exact this
     rcases hu with ⟨hu, hv⟩ | hu
     ·have hrd : recoverD (c₀ :: cs0) = none := by simp [recoverD, hmode, hu]
      rw [hrd]
      simp only
      exact rest _ u (by rw [← hmode]) (by rw [hu]; rfl) _ (hput _ (by rw [← hv]; exact hx)) (by rw [h1]; rfl)
     ·have hrd : recoverD (c₀ :: cs0) = some (v, { c₀ with mode := .panicking [{ v := v, recovered := true }] } :: cs0) := by simp [recoverD, hmode, hu]
      rw [hrd]
      simp only
      exact rest _ _ rfl rfl _ (hput _ hx) (by rw [h1]; rfl)
    ·cases ht
   ·cases ht
  ·cases ht
 ·cases ht
theorem dlast_some {loop : LoopF} {g : DGuard} {cs : List DV} {v : DV} {a : List DV} {h : List Res} {r : DRun} (hr : dlast call loop g cs v a h = some r) : ∃ e a3 hR, dexec call loop g.code (mvs g.ops ((cs ++ List.replicate (g.ntmps - cs.length) (DV.d .undef)).set g.dst v)) h = some (e, a3, hR) ∧ (e = .normal ∨ e = .ret) ∧ r = (.ret, a, hR) := by
 unfold dlast at hr
 split at hr
 ·rename_i a3 hR hx
  exact ⟨_, a3, hR, hx, .inl rfl, by simpa using hr.symm⟩
 ·rename_i a3 hR hx
  exact ⟨_, a3, hR, hx, .inr rfl, by simpa using hr.symm⟩
 ·cases hr
theorem drun_some {loop : LoopF} {F : AFunc} {g : DGuard} (hg : F.guard = some g) {a : List DV} {h : List Res} {r : DRun} (hr : drun call loop F a h = some r) : ∃ e1 ad1 h1, dpre call loop g.pre a h = some (e1, ad1, h1) ∧
  ((e1 = .ret ∧ r = (.ret, ad1, h1)) ∨ (e1 = .normal ∧ g.slot < ad1.length ∧ ∃ e2 ad2 h2 x, dexec call loop F.body (ad1.set g.slot (.d .undef)) h1 = some (e2, ad2, h2) ∧ (e2 = .pan x ∨ ((e2 = .normal ∨ e2 = .ret) ∧ x = .d .nili)) ∧ dlast call loop g (g.caps.map (ev ad1)) x ad2 h2 = some r)) := by
 unfold drun at hr
 rw [hg] at hr
 simp only at hr
 split at hr
 ·rename_i a1 h1 hx
  split at hr
  ·rename_i hs
   split at hr
   ·rename_i v a2 h2 hy
    exact ⟨_, _, _, hx, .inr ⟨rfl, hs, _, _, _, v, hy, .inl rfl, hr⟩⟩
   ·rename_i a2 h2 hy
    exact ⟨_, _, _, hx, .inr ⟨rfl, hs, _, _, _, _, hy, .inr ⟨.inl rfl, rfl⟩, hr⟩⟩
   ·rename_i a2 h2 hy
    exact ⟨_, _, _, hx, .inr ⟨rfl, hs, _, _, _, _, hy, .inr ⟨.inr rfl, rfl⟩, hr⟩⟩
   ·cases hr
  ·cases hr
 ·rename_i a1 h1 hx
  exact ⟨_, _, _, hx, .inl ⟨rfl, by simpa using hr.symm⟩⟩
 ·cases hr
theorem guard_sim (hc : CallsOk P call) (hS : CallS P G call) {k : Nat} {loop : LoopF} (hL : LoopS P G k loop) (hJ : GotoS P G k loop) {g : FuncId} {fn : Func} {M Mc : Marks} {co : Bool} {F : AFunc} (hf : P.funcs[g]? = some fn) (ht : trFuncG P M Mc co fn = some F)
  (hi : Inv P G S ρ h w) {args : Array Value} {dargs : List DV} (hl : args.size = dargs.length) (hr : ∀ (j : Nat) (x : DV), dargs[j]? = some x → RepD S ρ h w (args.getD j undef) x) (hd : dbody call loop F dargs h = some out) :
  Calls P g args w (CallPost P G S ρ h w out) := by
 unfold trFuncG at ht
 split at ht
 ·rename_i b rs hb hrs
  split at ht
  ·rename_i pre ops rest hpeel
   split at ht
   ·rename_i t f caps hgd
    split at ht
    ·rename_i pre' rest' caps' cl hpre hrest hcaps hcl
     split at ht
     ·rename_i d l A hclo
      split at ht
      ·rename_i hcond
       obtain ⟨hname, hnr⟩ := hcond
       simp only [Option.some.injEq] at ht
       subst ht
       obtain ⟨id, rfl⟩ := peel_nest _ _ _ _ hpeel
       refine (callsIn_wide (n := 0)).1 (callsIn_of_wp_marks hf hb trivial ?_)
       have ha : RepA S ρ h w (args ++ Array.replicate (fn.ntmps - args.size) undef) (dargs ++ List.replicate (fn.ntmps - dargs.length) (.d .undef)) := by
        refine ⟨by simp [hl], fun j x hx => ?_⟩
        rw [getD_append]
        rcases Nat.lt_or_ge j dargs.length with hj | hj
        ·rw [List.getElem?_append_left hj] at hx
         rw [if_pos (by omega)]
         exact hr j x hx
        ·rw [List.getElem?_append_right hj] at hx
         have := List.mem_of_getElem? hx
         simp at this
         rw [this.2]
         exact .d _ _ (.undef _)
       have hgd' : ∃ o1 o2 fcaps c, ops.toList = [o1, o2] ∧ o1.dst = some t ∧ o1.op = .makeFunc (.func f) #[] fcaps ∧ o1.guard = none ∧ o2.dst = none ∧ o2.op = .defer c ∧ o2.guard = none ∧ c.args = #[] ∧ c.callee = .value (.tmp t) ∧ caps = fcaps.toList := by
        unfold isGuard at hgd
        split at hgd
        ·rename_i o1 o2 hops
         split at hgd
         ·rename_i t' f' cs fcaps c q1 q2 q3 q4 q5 q6
          split at hgd
          ·rename_i hq
           obtain ⟨z1, z2, z3⟩ := hq
           simp only [Option.some.injEq, Prod.mk.injEq] at hgd
           obtain ⟨rfl, rfl, rfl⟩ := hgd
           have y1 := Array.size_eq_zero_iff.1 z1
           have y2 := Array.size_eq_zero_iff.1 z2
           subst y1
           have y3 : c.callee = .value (.tmp t') := by
            unfold isVal at z3
            split at z3
            ·rename_i u hu
             simp only [Option.some.injEq] at z3
             rw [hu, z3]
            ·cases z3
           exact ⟨o1, o2, fcaps, c, hops, q1, q2, q3, q4, q5, q6, y2, y3, rfl⟩
          ·cases hgd
         ·cases hgd
        ·cases hgd
       obtain ⟨o1, o2, fcaps, c, hops, q1, q2, q3, q4, q5, q6, y2, y3, rfl⟩ := hgd'
       unfold dbody at hd
       generalize hF : ({ ntmps := fn.ntmps, results := rs, body := rest', coe := co, keep := M.keep, guard := some { pre := pre', caps := caps', slot := t, dst := d, ops := l, code := A, ntmps := cl.ntmps } } : AFunc) = F at hd
       have hFg : F.guard = some { pre := pre', caps := caps', slot := t, dst := d, ops := l, code := A, ntmps := cl.ntmps } := by rw [← hF]
       have hFb : F.body = rest' := by rw [← hF]
       have hFn : F.ntmps = fn.ntmps := by rw [← hF]
       have hFr : F.results = rs := by rw [← hF]
       rw [hFn] at hd
       cases hx : drun call loop F (dargs ++ List.replicate (fn.ntmps - dargs.length) (.d .undef)) h with
       | none => rw [hx] at hd; cases hd
       | some r =>
       obtain ⟨e1, ad1, h1, hpr, hcase⟩ := drun_some hFg hx
       simp only at hpr hcase
       have fin : ∀ (aR : List DV) (hR : List Res), r = (.ret, aR, hR) → ∃ vs, rs.mapM (dresult aR hR) = some vs ∧ (dresults (F.keep == 0 && F.coe) vs).low (h.length + F.keep) = true ∧ out = .val (dresults (F.keep == 0 && F.coe) vs) (hR.take (h.length + F.keep)) := by
        intro aR hR hre
        rw [hx, hre, hFr] at hd
        simp only at hd
        split at hd
        ·rename_i vs hvs
         split at hd
         ·rename_i hlow
          exact ⟨vs, hvs, hlow, by simpa using hd.symm⟩
         ·cases hd
        ·cases hd
       refine pre_sim wide_wide rfl hc hS hL hJ (N0 := (w.heap.size, [], true)) pre pre' hpre hnr ⟨_, []⟩ _ S ρ h w e1 ad1 h1 hi ha (.nil (Nat.le_refl _)) hpr (fun he a' w' hp => ?_) fun he e' a' w' hp => ?_
       ·
        subst he
        rcases hcase with ⟨h0, _⟩ | ⟨_, hslot, e2, ad2, h2, x, hbody, hex, hlast⟩
        ·cases h0
        obtain ⟨S1, ρ1, p1, p2, p3, p4⟩ := hp
        obtain ⟨p0, lm, m1, m2, _, _⟩ := p4
        have : lm = [] := m2 rfl
        subst this
        have hd0 : a'.defers = [] := m1
        have htl : t < a'.tmps.size := by rw [← p1.len] at hslot; exact hslot
        refine wpIn_seq (wpIn_region_list ?_)
        rw [hops]
        have w1 : ∀ tt, Region.wanted o1 (yielded ops tt) = true := fun tt => by simp [Region.wanted, q3]
        have w2 : ∀ tt, Region.wanted o2 (yielded ops tt) = true := fun tt => by simp [Region.wanted, q6]
        have r1 : (execOp a'.eval o1).run P w' = .ok (.value (.func (.func f) #[] (fcaps.map a'.eval))) w' := by
         unfold execOp
         rw [q2]
         have := run_v (P := P) (s := Instr.makeFunc (.func f) (#[].map a'.eval) (fcaps.map a'.eval)) (w := w') (w' := w') rfl
         simpa using this
        simp only [wpListIn, w1, w2, if_true, Oper.wpIn, Fence.wide_round, Oper.semAt_none, r1, Oper.uponIn_value]
        refine ⟨fun f _ => trivial, fun f _ => trivial, ?_⟩
        rw [q1]
        have hev : (a'.put (some t) (.func (.func f) #[] (fcaps.map a'.eval))).eval (.tmp t) = .func (.func f) #[] (fcaps.map a'.eval) := by
         simp [Act.eval, Act.put, Array.getD_eq_getD_getElem?, htl]
        have r2 : (execOp (a'.put (some t) (.func (.func f) #[] (fcaps.map a'.eval))).eval o2).run P w' = .ok (.defer { target := .fn (.func f) (fcaps.map a'.eval), args := #[] }) w' := by
         unfold execOp
         rw [q5]
         simp [resolve, y2, y3, hev, Deferred.ofValue]
        rw [r2, Oper.uponIn_defer, q4]
        simp only [Exit.then]
        have g1 := rep_opds p1 (fun x y hy => ⟨0, hy⟩) hcaps
        have hcl' : cl.body.isNone = false := by
         unfold trClo at hclo
         split at hclo
         ·rename_i hbb; rw [hbb]; rfl
         ·cases hclo
        have ra : RepA S1 ρ1 h1 w' ((({ a'.put (some t) (.func (.func f) #[] (fcaps.map a'.eval)) with defers := { target := .fn (.func f) (fcaps.map a'.eval), args := #[] } :: (a'.put (some t) (.func (.func f) #[] (fcaps.map a'.eval))).defers } : Act)).put none undef).tmps (ad1.set t (.d .undef)) :=
         RepA.put (a := a') p1 (v := .func (.func f) #[] (fcaps.map a'.eval)) (x := .d .undef) (.d _ _ (.undef _)) (some t)
        have hdd : ((({ a'.put (some t) (.func (.func f) #[] (fcaps.map a'.eval)) with defers := { target := .fn (.func f) (fcaps.map a'.eval), args := #[] } :: (a'.put (some t) (.func (.func f) #[] (fcaps.map a'.eval))).defers } : Act)).put none undef).defers = [{ target := .fn (.func f) (fcaps.map a'.eval), args := #[] }] := by
         show _ :: a'.defers = _
         rw [hd0]
        rw [hFb] at hbody
        refine code_sim wide_wide hc hS hL hJ M rest rest' hrest (.inl rfl) _ _ S1 ρ1 h1 w' e2 ad2 h2 (w'.heap.size, [{ target := .fn (.func f) (fcaps.map a'.eval), args := #[] }], false) _ p3 ra (by rw [hdd]; exact .nil (Nat.le_refl _)) (.inl rfl) hbody fun e' a2 w2 hp => ?_
        obtain ⟨S2, ρ2, s1, s2, s3, s4, s5⟩ := hp
        obtain ⟨ws, t1, t2, t3, t4⟩ := shut_marksU s2 s3 s4
        obtain ⟨e3, a3, hR, hcode, he3, hre⟩ := dlast_some hlast
        simp only at hcode
        obtain ⟨vs, hvs, hlow, rfl⟩ := fin ad2 hR hre
        have leave : ∀ (u : FrameMode) (v : Value), u ≠ .run → ((u = .returning ∧ v = .nilIface) ∨ u = .panicking [{ v := v, recovered := false }]) → RepD S2 ρ2 h2 ws v x →
          LeavesInM Fence.wide 0 P fn a2.tmps (CallPost P G S ρ h w (.val (dresults (F.keep == 0 && F.coe) vs) (hR.take (h.length + F.keep)))) a2.defers u w2 := by
         intro u v hu hm hxv
         refine t4 u hu _ _ _ _ ⟨hu, .inr ⟨(fun h => by cases h), .func f, fcaps.map a'.eval, f, fcaps.map a'.eval, rfl, ?_, fun _ _ => trivial, ?_⟩⟩
         ·simp only [invoke]
          have := run_callFunc (P := P) (w := ws) (args := fcaps.map a'.eval) hcl hname hcl'
          simpa using this
         ·have hargs : (fcaps.map a'.eval).size = (caps'.map (ev ad1)).length := by have := g1.1; simpa using this
          refine (clo_sim hc hS hL hJ hcl hclo t3 hargs (fun j y hy => ?_) hm hxv hcode he3).mono fun e u' w3 hq => ?_
          ·have := g1.2 j y hy
           have := this.mono t2
           simpa [Array.getD_eq_getD_getElem?, List.getD_eq_getElem?_getD] using this
          ·obtain ⟨⟨y, rfl⟩, hset, S3, ρ3, E3, I3⟩ := hq
           simp only
           rw [hset]
           have ra3 : RepA S3 ρ3 hR w3 a2.tmps ad2 := (show RepA S2 ρ2 h2 ws a2.tmps ad2 from ⟨s1.len, fun j x hx => t1 _ _ (s1.at_ j x hx)⟩).mono E3
           obtain ⟨xr, hrun, hxr⟩ := run_results I3 ra3 hrs hvs
           have EE : Ext S ρ h w S3 ρ3 hR w3 := (p2.trans t2).trans E3
           exact ⟨xr, hrun, xr, S3, _, rfl, (hxr _).take hlow, EE.takeN (Nat.le_add_right _ _) hi, I3.take _⟩
        cases e2 with
        | normal =>
         cases e' <;> simp only [ExitOk] at s5
         rcases hex with hex | ⟨_, rfl⟩
         ·cases hex
         exact leave .returning .nilIface (fun h => by cases h) (.inl ⟨rfl, rfl⟩) (.d _ _ .nili)
        | ret =>
         cases e' <;> simp only [ExitOk] at s5
         rcases hex with hex | ⟨_, rfl⟩
         ·cases hex
         exact leave .returning .nilIface (fun h => by cases h) (.inl ⟨rfl, rfl⟩) (.d _ _ .nili)
        | pan v =>
         cases e' <;> simp only [ExitOk] at s5
         obtain ⟨xv, rfl, hxv⟩ := s5
         rcases hex with hex | ⟨h0, _⟩
         ·cases hex
          exact leave (.panicking [{ v := xv, recovered := false }]) xv (fun h => by cases h) (.inr rfl) (t1 _ _ hxv)
         ·rcases h0 with h0 | h0 <;> cases h0
        | exit i =>
         rcases hex with hex | ⟨h0, _⟩
         ·cases hex
         ·rcases h0 with h0 | h0 <;> cases h0
       ·
        rcases hcase with ⟨rfl, hre⟩ | ⟨h0, _⟩
        rotate_left
        ·exact absurd h0 he
        obtain ⟨vs, hvs, hlow, rfl⟩ := fin ad1 h1 hre
        obtain ⟨S1, ρ1, p1, p2, p3, p4, p5⟩ := hp
        cases e' <;> simp only [ExitOk] at p5
        obtain ⟨_, lm, m1, m2, _, _⟩ := p4
        have : lm = [] := m2 rfl
        subst this
        have hd0 : a'.defers = [] := m1
        obtain ⟨xr, hrun, hxr⟩ := run_results p3 p1 hrs hvs
        show LeavesInM Fence.wide 0 P fn a'.tmps _ a'.defers .returning w'
        rw [hd0]
        exact ⟨xr, hrun, xr, S1, _, rfl, (hxr _).take hlow, p2.takeN (Nat.le_add_right _ _) hi, p3.take _⟩
      ·cases ht
     ·cases ht
    ·cases ht
   ·cases ht
  ·cases ht
 ·cases ht
structure EnvOk (P : Program) (G : Glob) (E : Env) : Prop where
 af : ∀ g F, E.af g = some F → ∃ fn M co, P.funcs[g]? = some fn ∧ (fn.name == "runtime.NumGoroutine") = false ∧ (trFunc P M co fn = some F ∨ ∃ Mc, trFuncG P M Mc co fn = some F)
 ext : ∀ g F, E.ext g = some F → (∃ fn, P.funcs[g]? = some fn ∧ (fn.name == "runtime.NumGoroutine") = false ∧ fn.body.isNone = false) ∧
  ∀ (args : Array Value) (dargs : List DV) (S : Settled) (ρ : List RI) (h : List Res) (w : World) (out : DOut), Inv P G S ρ h w → args.size = dargs.length → (∀ (j : Nat) (x : DV), dargs[j]? = some x → RepD S ρ h w (args.getD j undef) x) →
   F dargs h = some out → Calls P g args w (CallPost P G S ρ h w out)
theorem call_sim {E : Env} (EO : EnvOk P G E) (hc : CallsOk P call) (hS : CallS P G call) {k : Nat} {loop : LoopF} (hL : LoopS P G k loop) (hJ : GotoS P G k loop) : CallS P G (dcall call loop E) := by
 refine ⟨?_, fun id l args dargs S ρ h w out hi hρ hl hr hd => yield_sim hc hS hL hJ id l args dargs S ρ h w out hi hρ hl hr hd⟩
 intro g args dargs S ρ h w out hi hl hr hd
 simp only [dcall] at hd
 unfold dcallF at hd
 split at hd
 ·rename_i F hF
  exact (EO.ext g F hF).2 args dargs S ρ h w out hi hl hr hd
 ·split at hd
  ·cases hd
  ·rename_i F hF
   obtain ⟨fn, M, co, hf, hname, ht⟩ := EO.af g F hF
   generalize hda : (if F.coe then dargs.map DV.coe else dargs) = da at hd
   have hl' : args.size = da.length := by rw [← hda]; split <;> simp [hl]
   have hr' : ∀ (j : Nat) (x : DV), da[j]? = some x → RepD S ρ h w (args.getD j undef) x := fun j x hx => by
    rw [← hda] at hx
    split at hx
    ·simp only [List.getElem?_map, Option.map_eq_some_iff] at hx
     obtain ⟨y, hy, rfl⟩ := hx
     exact rep_coe (hr j y hy)
    ·exact hr j x hx
   have bs : ∀ {S : Settled} {ρ : List RI} {h : List Res} {w : World} {out : DOut}, Inv P G S ρ h w → (∀ (j : Nat) (x : DV), da[j]? = some x → RepD S ρ h w (args.getD j undef) x) → dbody call loop F da h = some out → Calls P g args w (CallPost P G S ρ h w out) := by
    intro S ρ h w out i1 i2 i3
    rcases ht with ht | ⟨Mc, ht⟩
    ·exact body_sim hc hS hL hJ hf ht i1 hl' i2 i3
    ·exact guard_sim hc hS hL hJ hf ht i1 hl' i2 i3
   simp only at hd
   split at hd
   ·rename_i hall
    simp only [Bool.and_eq_true, beq_iff_eq] at hall
    obtain ⟨hkeep, hall⟩ := hall
    simp only [Option.map_eq_some_iff] at hd
    obtain ⟨out0, h0, rfl⟩ := hd
    have hr0 : ∀ (j : Nat) (x : DV), da[j]? = some x → RepD S [] [] w (args.getD j undef) x := fun j x hx => by
     have := (List.all_eq_true.1 hall) x (List.mem_of_getElem? hx)
     cases x <;> simp [DV.isD] at this
     exact .d _ _ (repD_d (hr' j _ hx))
    refine (bs (inv_none hi) hr0 h0).mono fun e w' hp => ?_
    cases out0 with
    | val v h1 =>
     obtain ⟨x, S1, ρ1, he, hx, hE, hI⟩ := hp
     have hlow : v.low 0 = true ∧ h1 = [] := by
      unfold dbody at h0
      split at h0
      ·split at h0 <;> simp at h0
      ·split at h0
       ·split at h0
        ·rename_i hlow
         simp only [Option.some.injEq, DOut.val.injEq] at h0
         obtain ⟨rfl, rfl⟩ := h0
         rw [hkeep] at hlow ⊢
         exact ⟨hlow, by simp⟩
        ·cases h0
       ·cases h0
      ·split at h0
       ·split at h0
        ·rename_i hlow
         simp only [Option.some.injEq, DOut.val.injEq] at h0
         obtain ⟨rfl, rfl⟩ := h0
         rw [hkeep] at hlow ⊢
         exact ⟨hlow, by simp⟩
        ·cases h0
       ·cases h0
      ·cases h0
     obtain ⟨E2, I2⟩ := ext_lift hi hE hI
     have : ρ1 = [] := List.eq_nil_of_length_eq_zero (by rw [hI.len, hlow.2]; rfl)
     subst this
     rw [hlow.2] at hx
     exact ⟨x, S1, ρ, he, hx.lift, E2, I2⟩
    | pan v h1 =>
     obtain ⟨x, S1, ρ1, he, hx, hE, hI⟩ := hp
     have hlow : h1 = [] := by
      unfold dbody at h0
      split at h0
      ·split at h0
       ·simp only [Option.some.injEq, DOut.pan.injEq] at h0
        rw [← h0.2]; simp
       ·cases h0
      ·split at h0
       ·split at h0 <;> simp at h0
       ·cases h0
      ·split at h0
       ·split at h0 <;> simp at h0
       ·cases h0
      ·cases h0
     obtain ⟨E2, I2⟩ := ext_lift hi hE hI
     have : ρ1 = [] := List.eq_nil_of_length_eq_zero (by rw [hI.len, hlow]; rfl)
     subst this
     rw [hlow] at hx
     exact ⟨x, S1, ρ, he, hx.lift, E2, I2⟩
   ·exact bs hi hr' hd
noncomputable def drec (E : Env) : Nat → (Cle → List DV → List Res → Option DOut) × LoopF
 | 0 => (fun _ _ _ => none, fun _ _ _ _ _ _ _ => none)
 | k + 1 => (dcall (drec E k).1 (drec E k).2 E, dround (drec E k).1 (drec E k).2)
theorem callsOk_rec {E : Env} (EO : EnvOk P G E) : ∀ k, CallsOk P (drec E k).1
 | 0 => fun g args h out hh => by simp [drec] at hh
 | k + 1 => fun g args h out hh => by
  simp only [drec, dcall, dcallF] at hh
  split at hh
  ·rename_i F hF
   exact (EO.ext g F hF).1
  ·split at hh
   ·cases hh
   ·rename_i F hF
    obtain ⟨fn, M, co, hf, hname, ht⟩ := EO.af g F hF
    refine ⟨fn, hf, hname, ?_⟩
    rcases ht with ht | ⟨Mc, ht⟩
    ·unfold trFunc at ht
     split at ht
     ·rename_i b rs hb hrs
      simp [hb]
     ·cases ht
    ·unfold trFuncG at ht
     split at ht
     ·rename_i b rs hb hrs
      simp [hb]
     ·cases ht
theorem sound {E : Env} (EO : EnvOk P G E) : ∀ k, CallS P G (drec E k).1 ∧ LoopS P G k (drec E k).2 ∧ GotoS P G k (drec E k).2
 | 0 => ⟨⟨fun g args dargs S ρ h w out hi hl hr hd => by simp [drec] at hd, fun id l args dargs S ρ h w out hi hρ hl hr hd => by simp [drec] at hd⟩, fun F hF M n0 cut hd ex c A ht hR a ad S ρ h w e ad' h' N0 Q hi ha hdf hT hn hr hQ => by simp [drec] at hr, fun F hF M n0 cut hd ex c rest l A hlt f1 f3 ht hR a ad S ρ h w e ad' h' N0 Q hi ha hdf hT hn hr hQ => by simp [drec] at hr⟩
 | k + 1 => by
  obtain ⟨h1, h2, h3⟩ := sound EO k
  exact ⟨call_sim EO (callsOk_rec EO k) h1 h2 h3, round_sim (callsOk_rec EO k) h1 h2 h3, goto_sim (callsOk_rec EO k) h1 h2 h3⟩
end
end Go.Deepv
namespace Go.Deepv
open Go.RowKit
abbrev CallF := Cle → List DV → List Res → Option DOut
def LeC (c c' : CallF) : Prop := ∀ f a h r, c f a h = some r → c' f a h = some r
def LeL (l l' : LoopF) : Prop := ∀ n cut hd ex c a h r, l n cut hd ex c a h = some r → l' n cut hd ex c a h = some r
theorem dcallV_mono {c c' : CallF} (hc : LeC c c') {v : DV} {a : List DV} {h : List Res} {r : DOut} (hr : dcallV c v a h = some r) : dcallV c' v a h = some r := by
 simp only [dcallV] at hr ⊢
 split at hr
 ·exact hc _ _ _ _ hr
 ·exact hc _ _ _ _ hr
 ·exact hc _ _ _ _ hr
 ·cases hr
theorem dop_mono {c c' : CallF} (hc : LeC c c') {o : DOp} {a : List DV} {h : List Res} {r : DOut} (hr : dop c o a h = some r) : dop c' o a h = some r := by
 cases o
 case call f args => exact dcallV_mono hc hr
 case calln sz f args =>
  simp only [dop] at hr ⊢
  split at hr
  ·exact hc _ _ _ _ hr
  ·cases hr
 case calld f args =>
  simp only [dop] at hr ⊢
  split at hr
  ·split at hr
   ·rename_i hall
    rw [if_pos hall]
    split at hr
    ·rename_i v hv
     rw [hc _ _ _ _ hv]
     exact hr
    ·cases hr
   ·cases hr
  ·cases hr
 case len s x => cases s <;> exact hr
 all_goals exact hr
theorem dops_mono {c c' : CallF} (hc : LeC c c') : ∀ {l : List DOper} {a : List DV} {h : List Res} {r : DRun}, dops c l a h = some r → dops c' l a h = some r
 | [], a, h, r, hr => hr
 | o :: l, a, h, r, hr => by
  simp only [dops] at hr ⊢
  split at hr
  ·cases hd : dop c o.op a h with
   | none => rw [hd] at hr; cases hr
   | some out =>
    rw [hd] at hr
    rw [dop_mono hc hd]
    cases out with
    | val v h1 => exact dops_mono hc hr
    | pan v h1 => exact hr
  ·exact dops_mono hc hr
  ·cases hr
theorem same_mono {c c' : CallF} (hc : LeC c c') {l : List (List DOper)} {a : List DV} {h : List Res} {r : DRun} (hs : same c l a h r = true) : same c' l a h r = true := by
 simp only [same, decide_eq_true_eq] at hs ⊢
 exact fun x hx => dops_mono hc (hs x hx)
theorem dexec_mono {c c' : CallF} {l l' : LoopF} (hc : LeC c c') (hl : LeL l l') : ∀ {A : ACode} {a : List DV} {h : List Res} {r : DRun}, dexec c l A a h = some r → dexec c' l' A a h = some r := by
 intro A
 induction A with
 | skip => intro a h r hr; exact hr
 | region ops => intro a h r hr; exact dops_mono hc hr
 | draw ops alts =>
  intro a h r hr
  simp only [dexec] at hr ⊢
  split at hr
  ·rename_i a1 h1 hm
   rw [dops_mono hc hm]
   simp only
   split at hr
   ·rename_i hs
    rw [if_pos (same_mono hc hs)]
    exact hr
   ·cases hr
  ·cases hr
 | seq x y ihx ihy =>
  intro a h r hr
  simp only [dexec] at hr ⊢
  cases hx : dexec c l x a h with
  | none => rw [hx] at hr; cases hr
  | some q =>
   rw [hx] at hr
   rw [ihx hx]
   obtain ⟨e, a1, h1⟩ := q
   cases e with
   | normal => exact ihy hr
   | _ => exact hr
 | cond k x y ihx ihy =>
  intro a h r hr
  simp only [dexec] at hr ⊢
  split at hr
  ·rename_i b eb
   cases b with
   | true => exact ihx (by simpa using hr)
   | false => exact ihy (by simpa using hr)
  ·cases hr
 | block id b ih =>
  intro a h r hr
  simp only [dexec] at hr ⊢
  cases hx : dexec c l b a h with
  | none => rw [hx] at hr; cases hr
  | some q =>
   rw [hx] at hr
   rw [ih hx]
   exact hr
 | loop cut hd ex b ih => intro a h r hr; exact hl _ _ _ _ _ _ _ _ hr
 | rangeFn f ps sn as_ bd _ _ =>
  intro a h r hr
  simp only [dexec] at hr ⊢
  generalize ev a f = fv at hr ⊢
  cases fv
  case yld => cases hr
  all_goals
   simp only at hr ⊢
   split at hr
   ·rename_i hx
    rw [dcallV_mono hc hx]
    exact hr
   ·cases hr
 | exit id => intro a h r hr; exact hr
 | ret => intro a h r hr; exact hr
 | stuck => intro a h r hr; simp [dexec] at hr
theorem dround_mono {c c' : CallF} {l l' : LoopF} (hc : LeC c c') (hl : LeL l l') : LeL (dround c l) (dround c' l') := by
 intro n cut hd ex A a h r hr
 unfold dround at hr ⊢
 cases hx : dexec c l A a h with
 | none => rw [hx] at hr; cases hr
 | some q =>
  rw [hx] at hr
  rw [dexec_mono hc hl hx]
  obtain ⟨e, a1, h1⟩ := q
  cases e with
  | normal =>
   simp only at hr ⊢
   split at hr
   ·rename_i ht
    rw [if_pos ht]
    exact hl _ _ _ _ _ _ _ _ hr
   ·cases hr
  | _ => exact hr
theorem dpre_mono {c c' : CallF} {l l' : LoopF} (hc : LeC c c') (hl : LeL l l') : ∀ {A : List ACode} {a : List DV} {h : List Res} {r : DRun}, dpre c l A a h = some r → dpre c' l' A a h = some r
 | [], a, h, r, hr => hr
 | x :: xs, a, h, r, hr => by
  simp only [dpre] at hr ⊢
  cases hx : dexec c l x a h with
  | none => rw [hx] at hr; cases hr
  | some q =>
   rw [hx] at hr
   rw [dexec_mono hc hl hx]
   obtain ⟨e, a1, h1⟩ := q
   cases e with
   | normal => exact dpre_mono hc hl hr
   | _ => exact hr
theorem dlast_mono {c c' : CallF} {l l' : LoopF} (hc : LeC c c') (hl : LeL l l') {g : DGuard} {cs : List DV} {v : DV} {a : List DV} {h : List Res} {r : DRun} (hr : dlast c l g cs v a h = some r) : dlast c' l' g cs v a h = some r := by
 unfold dlast at hr ⊢
 cases hx : dexec c l g.code (mvs g.ops ((cs ++ List.replicate (g.ntmps - cs.length) (DV.d .undef)).set g.dst v)) h with
 | none => rw [hx] at hr; cases hr
 | some q =>
  rw [hx] at hr
  rw [dexec_mono hc hl hx]
  exact hr
theorem drun_mono {c c' : CallF} {l l' : LoopF} (hc : LeC c c') (hl : LeL l l') {F : AFunc} {a : List DV} {h : List Res} {r : DRun} (hr : drun c l F a h = some r) : drun c' l' F a h = some r := by
 unfold drun at hr ⊢
 cases hg : F.guard with
 | none =>
  rw [hg] at hr
  exact dexec_mono hc hl hr
 | some g =>
  rw [hg] at hr
  simp only at hr ⊢
  cases hx : dpre c l g.pre a h with
  | none => rw [hx] at hr; cases hr
  | some q =>
   rw [hx] at hr
   rw [dpre_mono hc hl hx]
   obtain ⟨e, a1, h1⟩ := q
   cases e with
   | normal =>
    simp only at hr ⊢
    split at hr
    ·rename_i hs
     rw [if_pos hs]
     cases hy : dexec c l F.body (a1.set g.slot (.d .undef)) h1 with
     | none => rw [hy] at hr; cases hr
     | some q2 =>
      rw [hy] at hr
      rw [dexec_mono hc hl hy]
      obtain ⟨e2, a2, h2⟩ := q2
      cases e2 with
      | exit i => cases hr
      | _ => exact dlast_mono hc hl hr
    ·cases hr
   | _ => exact hr
theorem dbody_mono {c c' : CallF} {l l' : LoopF} (hc : LeC c c') (hl : LeL l l') {F : AFunc} {a : List DV} {h : List Res} {r : DOut} (hr : dbody c l F a h = some r) : dbody c' l' F a h = some r := by
 unfold dbody at hr ⊢
 cases hx : drun c l F (a ++ List.replicate (F.ntmps - a.length) (.d .undef)) h with
 | none => rw [hx] at hr; cases hr
 | some q =>
  rw [hx] at hr
  rw [drun_mono hc hl hx]
  exact hr
theorem dcallF_mono {c c' : CallF} {l l' : LoopF} (hc : LeC c c') (hl : LeL l l') (E : Env) {f : FuncId} {a : List DV} {h : List Res} {r : DOut} (hr : dcallF c l E f a h = some r) : dcallF c' l' E f a h = some r := by
 unfold dcallF at hr ⊢
 cases hF : E.ext f with
 | some F => rw [hF] at hr; exact hr
 | none =>
  rw [hF] at hr
  cases hA : E.af f with
  | none => rw [hA] at hr; cases hr
  | some F =>
   rw [hA] at hr
   simp only at hr ⊢
   generalize (if F.coe then a.map DV.coe else a) = da at hr ⊢
   split at hr
   ·rename_i hda
    rw [if_pos hda]
    simp only [Option.map_eq_some_iff] at hr ⊢
    obtain ⟨o, ho, rfl⟩ := hr
    exact ⟨o, dbody_mono hc hl ho, rfl⟩
   ·rename_i hda
    rw [if_neg hda]
    exact dbody_mono hc hl hr
theorem dyield_mono {c c' : CallF} {l l' : LoopF} (hc : LeC c c') (hl : LeL l l') {id : Nat} {a : List DV} {h : List Res} {r : DOut} (hr : dyield c l id a h = some r) : dyield c' l' id a h = some r := by
 unfold dyield at hr ⊢
 split at hr
 ·rename_i ps A B snap hh
  split at hr
  ·rename_i hlen
   simp only [if_pos hlen]
   cases hx : dexec c l A (setAll snap ps a) h with
   | none => rw [hx] at hr; cases hr
   | some q =>
    rw [dexec_mono hc hl hx]
    rw [hx] at hr
    obtain ⟨e, a1, h1⟩ := q
    cases e with
    | normal =>
     simp only at hr ⊢
     split at hr
     ·rename_i h1'
      cases hm : markLoop id .busy h1 with
      | none => rw [hm] at hr; cases hr
      | some h1b =>
       rw [hm] at hr
       simp only at hr ⊢
       cases hb : dexec c l B a1 h1b with
       | none => rw [hb] at hr; cases hr
       | some q2 => rw [hb] at hr; rw [dexec_mono hc hl hb]; exact hr
     ·cases hr
    | _ => cases hr
  ·cases hr
 ·cases hr
theorem dcall_mono {c c' : CallF} {l l' : LoopF} (hc : LeC c c') (hl : LeL l l') (E : Env) : LeC (dcall c l E) (dcall c' l' E) := by
 intro f a h r hr
 cases f with
 | fn f => exact dcallF_mono hc hl E hr
 | yld id => exact dyield_mono hc hl hr
theorem drec_step (E : Env) : ∀ k, LeC (drec E k).1 (drec E (k + 1)).1 ∧ LeL (drec E k).2 (drec E (k + 1)).2
 | 0 => ⟨fun f a h r hr => by simp [drec] at hr, fun n cut hd ex c a h r hr => by simp [drec] at hr⟩
 | k + 1 => by
  obtain ⟨h1, h2⟩ := drec_step E k
  exact ⟨dcall_mono h1 h2 E, dround_mono h1 h2⟩
theorem drec_le (E : Env) {k k' : Nat} (hk : k ≤ k') : LeC (drec E k).1 (drec E k').1 ∧ LeL (drec E k).2 (drec E k').2 := by
 induction hk with
 | refl => exact ⟨fun _ _ _ _ h => h, fun _ _ _ _ _ _ _ _ h => h⟩
 | step _ ih => exact ⟨fun f a h r hr => (drec_step E _).1 f a h r (ih.1 f a h r hr), fun n cut hd ex c a h r hr => (drec_step E _).2 n cut hd ex c a h r (ih.2 n cut hd ex c a h r hr)⟩
open Classical in
noncomputable def Dc (E : Env) : CallF := fun f a h => if hx : ∃ k r, (drec E k).1 f a h = some r then some (Classical.choose (Classical.choose_spec hx)) else none
open Classical in
noncomputable def L (E : Env) : LoopF := fun n cut hd ex c a h => if hx : ∃ k r, (drec E k).2 n cut hd ex c a h = some r then some (Classical.choose (Classical.choose_spec hx)) else none
theorem D_iff {E : Env} {f : Cle} {a : List DV} {h : List Res} {r : DOut} : Dc E f a h = some r ↔ ∃ k, (drec E k).1 f a h = some r := by
 unfold Dc
 constructor
 ·intro hr
  split at hr
  ·rename_i hx
   simp only [Option.some.injEq] at hr
   exact ⟨_, by rw [← hr]; exact Classical.choose_spec (Classical.choose_spec hx)⟩
  ·cases hr
 ·rintro ⟨k, hk⟩
  have hx : ∃ k r, (drec E k).1 f a h = some r := ⟨k, r, hk⟩
  rw [dif_pos hx]
  have h2 := Classical.choose_spec (Classical.choose_spec hx)
  have l1 := (drec_le E (Nat.le_max_left k (Classical.choose hx))).1 f a h r hk
  have l2 := (drec_le E (Nat.le_max_right k (Classical.choose hx))).1 f a h _ h2
  rw [l1] at l2
  exact l2.symm
theorem L_iff {E : Env} {n : Nat} {cut : Bool} {hd ex : List Bool} {c : ACode} {a : List DV} {h : List Res} {r : DRun} : L E n cut hd ex c a h = some r ↔ ∃ k, (drec E k).2 n cut hd ex c a h = some r := by
 unfold L
 constructor
 ·intro hr
  split at hr
  ·rename_i hx
   simp only [Option.some.injEq] at hr
   exact ⟨_, by rw [← hr]; exact Classical.choose_spec (Classical.choose_spec hx)⟩
  ·cases hr
 ·rintro ⟨k, hk⟩
  have hx : ∃ k r, (drec E k).2 n cut hd ex c a h = some r := ⟨k, r, hk⟩
  rw [dif_pos hx]
  have h2 := Classical.choose_spec (Classical.choose_spec hx)
  have l1 := (drec_le E (Nat.le_max_left k (Classical.choose hx))).2 n cut hd ex c a h r hk
  have l2 := (drec_le E (Nat.le_max_right k (Classical.choose hx))).2 n cut hd ex c a h _ h2
  rw [l1] at l2
  exact l2.symm
theorem le_D (E : Env) (k : Nat) : LeC (drec E k).1 (Dc E) := fun f a h r hr => D_iff.2 ⟨k, hr⟩
theorem le_L (E : Env) (k : Nat) : LeL (drec E k).2 (L E) := fun n cut hd ex c a h r hr => L_iff.2 ⟨k, hr⟩
theorem dcallV_cont {E : Env} {v : DV} {a : List DV} {h : List Res} {r : DOut} (hr : dcallV (Dc E) v a h = some r) : ∃ k, dcallV (drec E k).1 v a h = some r := by
 simp only [dcallV] at hr ⊢
 split at hr
 ·obtain ⟨k, hk⟩ := D_iff.1 hr
  exact ⟨k, hk⟩
 ·obtain ⟨k, hk⟩ := D_iff.1 hr
  exact ⟨k, hk⟩
 ·obtain ⟨k, hk⟩ := D_iff.1 hr
  exact ⟨k, hk⟩
 ·cases hr
theorem dop_cont {E : Env} {o : DOp} {a : List DV} {h : List Res} {r : DOut} (hr : dop (Dc E) o a h = some r) : ∃ k, dop (drec E k).1 o a h = some r := by
 cases o
 case call f args => exact dcallV_cont hr
 case calln sz f args =>
  simp only [dop] at hr ⊢
  split at hr
  ·obtain ⟨k, hk⟩ := D_iff.1 hr
   exact ⟨k, hk⟩
  ·cases hr
 case calld f args =>
  simp only [dop] at hr ⊢
  split at hr
  ·split at hr
   ·rename_i hall
    split at hr
    ·rename_i v hv
     obtain ⟨k, hk⟩ := D_iff.1 hv
     refine ⟨k, ?_⟩
     rw [if_pos hall, hk]
     exact hr
    ·cases hr
   ·cases hr
  ·cases hr
 case len s x => cases s <;> exact ⟨0, hr⟩
 all_goals exact ⟨0, hr⟩
theorem dops_cont {E : Env} : ∀ {l : List DOper} {a : List DV} {h : List Res} {r : DRun}, dops (Dc E) l a h = some r → ∃ k, dops (drec E k).1 l a h = some r
 | [], a, h, r, hr => ⟨0, hr⟩
 | o :: l, a, h, r, hr => by
  simp only [dops] at hr ⊢
  split at hr
  ·cases hd : dop (Dc E) o.op a h with
   | none => rw [hd] at hr; cases hr
   | some out =>
    rw [hd] at hr
    obtain ⟨k1, hk1⟩ := dop_cont hd
    cases out with
    | val v h1 =>
     obtain ⟨k2, hk2⟩ := dops_cont (l := l) hr
     refine ⟨max k1 k2, ?_⟩
     rw [dop_mono (drec_le E (Nat.le_max_left k1 k2)).1 hk1]
     exact dops_mono (drec_le E (Nat.le_max_right k1 k2)).1 hk2
    | pan v h1 => exact ⟨k1, by rw [hk1]; exact hr⟩
  ·exact dops_cont hr
  ·cases hr
theorem same_cont {E : Env} {a : List DV} {h : List Res} {r : DRun} : ∀ {l : List (List DOper)}, same (Dc E) l a h r = true → ∃ k, same (drec E k).1 l a h r = true
 | [], _ => ⟨0, by simp [same]⟩
 | x :: l, hs => by
  have hs' : ∀ y ∈ x :: l, dops (Dc E) y a h = some r := by simpa only [same, decide_eq_true_eq] using hs
  obtain ⟨k1, hk1⟩ := dops_cont (hs' x (by simp))
  obtain ⟨k2, hk2⟩ := same_cont (l := l) (by simp only [same, decide_eq_true_eq]; exact fun y hy => hs' y (by simp [hy]))
  refine ⟨max k1 k2, ?_⟩
  have l1 := (drec_le E (Nat.le_max_left k1 k2)).1
  have l2 := (drec_le E (Nat.le_max_right k1 k2)).1
  have := same_mono l2 hk2
  simp only [same, decide_eq_true_eq] at this ⊢
  intro y hy
  rcases List.mem_cons.1 hy with rfl | hy
  ·exact dops_mono l1 hk1
  ·exact this y hy
theorem dexec_cont {E : Env} : ∀ {A : ACode} {a : List DV} {h : List Res} {r : DRun}, dexec (Dc E) (L E) A a h = some r → ∃ k, dexec (drec E k).1 (drec E k).2 A a h = some r := by
 intro A
 induction A with
 | skip => intro a h r hr; exact ⟨0, hr⟩
 | region ops => intro a h r hr; exact dops_cont hr
 | draw ops alts =>
  intro a h r hr
  simp only [dexec] at hr ⊢
  split at hr
  ·rename_i a1 h1 hm
   split at hr
   ·rename_i hs
    obtain ⟨k1, hk1⟩ := dops_cont hm
    obtain ⟨k2, hk2⟩ := same_cont hs
    refine ⟨max k1 k2, ?_⟩
    rw [dops_mono (drec_le E (Nat.le_max_left k1 k2)).1 hk1]
    simp only
    rw [if_pos (same_mono (drec_le E (Nat.le_max_right k1 k2)).1 hk2)]
    exact hr
   ·cases hr
  ·cases hr
 | seq x y ihx ihy =>
  intro a h r hr
  simp only [dexec] at hr ⊢
  cases hx : dexec (Dc E) (L E) x a h with
  | none => rw [hx] at hr; cases hr
  | some q =>
   rw [hx] at hr
   obtain ⟨k1, hk1⟩ := ihx hx
   obtain ⟨e, a1, h1⟩ := q
   cases e with
   | normal =>
    obtain ⟨k2, hk2⟩ := ihy hr
    refine ⟨max k1 k2, ?_⟩
    have l1 := drec_le E (Nat.le_max_left k1 k2)
    have l2 := drec_le E (Nat.le_max_right k1 k2)
    rw [dexec_mono l1.1 l1.2 hk1]
    exact dexec_mono l2.1 l2.2 hk2
   | _ => exact ⟨k1, by rw [hk1]; exact hr⟩
 | cond c x y ihx ihy =>
  intro a h r hr
  simp only [dexec] at hr ⊢
  split at hr
  ·rename_i b eb
   cases b with
   | true => obtain ⟨k, hk⟩ := ihx (by simpa using hr); exact ⟨k, by simpa using hk⟩
   | false => obtain ⟨k, hk⟩ := ihy (by simpa using hr); exact ⟨k, by simpa using hk⟩
  ·cases hr
 | block id b ih =>
  intro a h r hr
  simp only [dexec] at hr ⊢
  cases hx : dexec (Dc E) (L E) b a h with
  | none => rw [hx] at hr; cases hr
  | some q =>
   rw [hx] at hr
   obtain ⟨k, hk⟩ := ih hx
   exact ⟨k, by rw [hk]; exact hr⟩
 | loop cut hd ex b ih =>
  intro a h r hr
  obtain ⟨k, hk⟩ := L_iff.1 hr
  exact ⟨k, hk⟩
 | rangeFn f ps sn as_ bd _ _ =>
  intro a h r hr
  simp only [dexec] at hr ⊢
  generalize ev a f = fv at hr ⊢
  cases fv
  case yld => cases hr
  all_goals
   simp only at hr ⊢
   split at hr
   ·rename_i hx
    obtain ⟨k, hk⟩ := dcallV_cont hx
    refine ⟨k, ?_⟩
    rw [hk]
    exact hr
   ·cases hr
 | exit id => intro a h r hr; exact ⟨0, hr⟩
 | ret => intro a h r hr; exact ⟨0, hr⟩
 | stuck => intro a h r hr; simp [dexec] at hr
theorem dround_cont {E : Env} {n : Nat} {cut : Bool} {hd ex : List Bool} {A : ACode} {a : List DV} {h : List Res} {r : DRun} (hr : dround (Dc E) (L E) n cut hd ex A a h = some r) : ∃ k, dround (drec E k).1 (drec E k).2 n cut hd ex A a h = some r := by
 unfold dround at hr ⊢
 cases hx : dexec (Dc E) (L E) A a h with
 | none => rw [hx] at hr; cases hr
 | some q =>
  rw [hx] at hr
  obtain ⟨k1, hk1⟩ := dexec_cont hx
  obtain ⟨e, a1, h1⟩ := q
  cases e with
  | normal =>
   simp only at hr
   split at hr
   ·rename_i ht
    obtain ⟨k2, hk2⟩ := L_iff.1 hr
    refine ⟨max k1 k2, ?_⟩
    have l1 := drec_le E (Nat.le_max_left k1 k2)
    have l2 := drec_le E (Nat.le_max_right k1 k2)
    rw [dexec_mono l1.1 l1.2 hk1]
    simp only
    rw [if_pos ht]
    exact l2.2 _ _ _ _ _ _ _ _ hk2
   ·cases hr
  | _ => exact ⟨k1, by rw [hk1]; exact hr⟩
theorem dpre_cont {E : Env} : ∀ {A : List ACode} {a : List DV} {h : List Res} {r : DRun}, dpre (Dc E) (L E) A a h = some r → ∃ k, dpre (drec E k).1 (drec E k).2 A a h = some r
 | [], a, h, r, hr => ⟨0, hr⟩
 | x :: xs, a, h, r, hr => by
  simp only [dpre] at hr ⊢
  cases hx : dexec (Dc E) (L E) x a h with
  | none => rw [hx] at hr; cases hr
  | some q =>
   rw [hx] at hr
   obtain ⟨k1, hk1⟩ := dexec_cont hx
   obtain ⟨e, a1, h1⟩ := q
   cases e with
   | normal =>
    obtain ⟨k2, hk2⟩ := dpre_cont hr
    refine ⟨max k1 k2, ?_⟩
    have l1 := drec_le E (Nat.le_max_left k1 k2)
    have l2 := drec_le E (Nat.le_max_right k1 k2)
    rw [dexec_mono l1.1 l1.2 hk1]
    exact dpre_mono l2.1 l2.2 hk2
   | _ => exact ⟨k1, by rw [hk1]; exact hr⟩
theorem dlast_cont {E : Env} {g : DGuard} {cs : List DV} {v : DV} {a : List DV} {h : List Res} {r : DRun} (hr : dlast (Dc E) (L E) g cs v a h = some r) : ∃ k, dlast (drec E k).1 (drec E k).2 g cs v a h = some r := by
 unfold dlast at hr ⊢
 cases hx : dexec (Dc E) (L E) g.code (mvs g.ops ((cs ++ List.replicate (g.ntmps - cs.length) (DV.d .undef)).set g.dst v)) h with
 | none => rw [hx] at hr; cases hr
 | some q =>
  rw [hx] at hr
  obtain ⟨k, hk⟩ := dexec_cont hx
  exact ⟨k, by rw [hk]; exact hr⟩
theorem drun_cont {E : Env} {F : AFunc} {a : List DV} {h : List Res} {r : DRun} (hr : drun (Dc E) (L E) F a h = some r) : ∃ k, drun (drec E k).1 (drec E k).2 F a h = some r := by
 unfold drun at hr ⊢
 cases hg : F.guard with
 | none =>
  rw [hg] at hr
  exact dexec_cont hr
 | some g =>
  rw [hg] at hr
  simp only at hr ⊢
  cases hx : dpre (Dc E) (L E) g.pre a h with
  | none => rw [hx] at hr; cases hr
  | some q =>
   rw [hx] at hr
   obtain ⟨k1, hk1⟩ := dpre_cont hx
   obtain ⟨e, a1, h1⟩ := q
   cases e with
   | normal =>
    simp only at hr
    split at hr
    ·rename_i hs
     cases hy : dexec (Dc E) (L E) F.body (a1.set g.slot (.d .undef)) h1 with
     | none => rw [hy] at hr; cases hr
     | some q2 =>
      rw [hy] at hr
      obtain ⟨k2, hk2⟩ := dexec_cont hy
      obtain ⟨e2, a2, h2⟩ := q2
      cases e2 with
      | exit i => cases hr
      | _ =>
       obtain ⟨k3, hk3⟩ := dlast_cont hr
       refine ⟨max k1 (max k2 k3), ?_⟩
       have l1 := drec_le E (Nat.le_max_left k1 (max k2 k3))
       have l2 := drec_le E (Nat.le_trans (Nat.le_max_left k2 k3) (Nat.le_max_right k1 (max k2 k3)))
       have l3 := drec_le E (Nat.le_trans (Nat.le_max_right k2 k3) (Nat.le_max_right k1 (max k2 k3)))
       rw [dpre_mono l1.1 l1.2 hk1]
       simp only
       rw [if_pos hs, dexec_mono l2.1 l2.2 hk2]
       exact dlast_mono l3.1 l3.2 hk3
    ·cases hr
   | _ => exact ⟨k1, by rw [hk1]; exact hr⟩
theorem dbody_cont {E : Env} {F : AFunc} {a : List DV} {h : List Res} {r : DOut} (hr : dbody (Dc E) (L E) F a h = some r) : ∃ k, dbody (drec E k).1 (drec E k).2 F a h = some r := by
 unfold dbody at hr ⊢
 cases hx : drun (Dc E) (L E) F (a ++ List.replicate (F.ntmps - a.length) (.d .undef)) h with
 | none => rw [hx] at hr; cases hr
 | some q =>
  rw [hx] at hr
  obtain ⟨k, hk⟩ := drun_cont hx
  exact ⟨k, by rw [hk]; exact hr⟩
theorem dcallF_cont {E : Env} {f : FuncId} {a : List DV} {h : List Res} {r : DOut} (hr : dcallF (Dc E) (L E) E f a h = some r) : ∃ k, dcallF (drec E k).1 (drec E k).2 E f a h = some r := by
 unfold dcallF at hr ⊢
 cases hF : E.ext f with
 | some F => rw [hF] at hr; exact ⟨0, hr⟩
 | none =>
  rw [hF] at hr
  cases hA : E.af f with
  | none => rw [hA] at hr; cases hr
  | some F =>
   rw [hA] at hr
   simp only at hr ⊢
   generalize (if F.coe then a.map DV.coe else a) = da at hr ⊢
   split at hr
   ·rename_i hda
    simp only [Option.map_eq_some_iff] at hr
    obtain ⟨o, ho, rfl⟩ := hr
    obtain ⟨k, hk⟩ := dbody_cont ho
    exact ⟨k, by rw [if_pos hda, hk]; rfl⟩
   ·rename_i hda
    obtain ⟨k, hk⟩ := dbody_cont hr
    exact ⟨k, by rw [if_neg hda]; exact hk⟩
theorem dyield_cont {E : Env} {id : Nat} {a : List DV} {h : List Res} {r : DOut} (hr : dyield (Dc E) (L E) id a h = some r) : ∃ k, dyield (drec E k).1 (drec E k).2 id a h = some r := by
 unfold dyield at hr ⊢
 split at hr
 ·rename_i ps A B snap hh
  split at hr
  ·rename_i hlen
   simp only [if_pos hlen]
   cases hx : dexec (Dc E) (L E) A (setAll snap ps a) h with
   | none => rw [hx] at hr; cases hr
   | some q =>
    obtain ⟨k1, hk1⟩ := dexec_cont hx
    rw [hx] at hr
    obtain ⟨e, a1, h1⟩ := q
    cases e with
    | normal =>
     simp only at hr
     split at hr
     ·rename_i h1'
      cases hm : markLoop id .busy h1 with
      | none => rw [hm] at hr; cases hr
      | some h1b =>
       rw [hm] at hr
       simp only at hr
       cases hb : dexec (Dc E) (L E) B a1 h1b with
       | none => rw [hb] at hr; cases hr
       | some q2 =>
        obtain ⟨k2, hk2⟩ := dexec_cont hb
        have l1 := drec_le E (Nat.le_max_left k1 k2)
        have l2 := drec_le E (Nat.le_max_right k1 k2)
        refine ⟨max k1 k2, ?_⟩
        rw [dexec_mono l1.1 l1.2 hk1]
        simp only [h1', hm]
        rw [dexec_mono l2.1 l2.2 hk2]
        rw [hb] at hr
        exact hr
     ·cases hr
    | _ => cases hr
  ·cases hr
 ·cases hr
theorem dcall_cont {E : Env} {f : Cle} {a : List DV} {h : List Res} {r : DOut} (hr : dcall (Dc E) (L E) E f a h = some r) : ∃ k, dcall (drec E k).1 (drec E k).2 E f a h = some r := by
 cases f with
 | fn f => exact dcallF_cont hr
 | yld id => exact dyield_cont hr
theorem Dc_eq (E : Env) (f : Cle) (a : List DV) (h : List Res) : Dc E f a h = dcall (Dc E) (L E) E f a h := by
 apply Option.ext
 intro r
 constructor
 ·intro hr
  obtain ⟨k, hk⟩ := D_iff.1 hr
  cases k with
  | zero => simp [drec] at hk
  | succ k => exact dcall_mono (le_D E k) (le_L E k) E f a h r hk
 ·intro hr
  obtain ⟨k, hk⟩ := dcall_cont hr
  exact D_iff.2 ⟨k + 1, hk⟩
theorem L_eq (E : Env) (n : Nat) (cut : Bool) (hd ex : List Bool) (c : ACode) (a : List DV) (h : List Res) : L E n cut hd ex c a h = dround (Dc E) (L E) n cut hd ex c a h := by
 apply Option.ext
 intro r
 constructor
 ·intro hr
  obtain ⟨k, hk⟩ := L_iff.1 hr
  cases k with
  | zero => simp [drec] at hk
  | succ k => exact dround_mono (le_D E k) (le_L E k) n cut hd ex c a h r hk
 ·intro hr
  obtain ⟨k, hk⟩ := dround_cont hr
  exact L_iff.2 ⟨k + 1, hk⟩
noncomputable def D (E : Env) (f : FuncId) (a : List DV) (h : List Res) : Option DOut := Dc E (.fn f) a h
noncomputable def Y (E : Env) (id : Nat) (a : List DV) (h : List Res) : Option DOut := Dc E (.yld id) a h
theorem D_eq (E : Env) (f : FuncId) (a : List DV) (h : List Res) : D E f a h = dcallF (Dc E) (L E) E f a h := Dc_eq E (.fn f) a h
theorem Y_eq (E : Env) (id : Nat) (a : List DV) (h : List Res) : Y E id a h = dyield (Dc E) (L E) id a h := Dc_eq E (.yld id) a h
theorem D_sound {P : Program} {G : Glob} {E : Env} (EO : EnvOk P G E) : CallS P G (Dc E) := by
 refine ⟨fun g args dargs S ρ h w out hi hl hr hd => ?_, fun id l args dargs S ρ h w out hi hρ hl hr hd => ?_⟩
 ·obtain ⟨k, hk⟩ := D_iff.1 hd
  exact (sound EO k).1.fn g args dargs S ρ h w out hi hl hr hk
 ·obtain ⟨k, hk⟩ := D_iff.1 hd
  exact (sound EO k).1.yld id l args dargs S ρ h w out hi hρ hl hr hk
theorem inv_start (P : Program) (G : Glob) (w : World) (hg : ∀ b o v, G b o v → b < w.heap.size ∧ w.cell? ⟨b, o, none⟩ = v) : Inv P G (fun b _ => b < w.heap.size) [] [] w where
 len := rfl
 bound := fun b o h => h
 glob := hg
 low := fun i b r hr => by simp at hr
 apart := fun i j b r r' hr => by simp at hr
 box := fun i cells tag hc => by simp at hc
 nilrow := fun i hc => by simp at hc
 row := fun i sz n et hc => by simp at hc
 iter := fun i s pos hc => by simp at hc
 loop := fun i ps as_ bd snap st hc => by simp at hc
 own := fun i r hc => by simp at hc
theorem D_law {P : Program} {G : Glob} {E : Env} (EO : EnvOk P G E) {g : FuncId} {w : World} (hg : ∀ b o v, G b o v → b < w.heap.size ∧ w.cell? ⟨b, o, none⟩ = v) {args : Array Value} {fs : List FV} (hl : args.size = fs.length) (hr : ∀ (j : Nat) (x : FV), fs[j]? = some x → RepF (fun b _ => b < w.heap.size) w (args.getD j undef) x)
  {b : Bool} {h' : List Res} (hd : D E g (fs.map .d) [] = some (.val (.d (.bool b)) h')) : Calls P g args w fun e w' => e = .returned (.bool b) ∧ Below w.heap.size w w' := by
 refine ((D_sound EO).fn g args (fs.map .d) _ [] [] w _ (inv_start P G w hg) (by simpa using hl) (fun j x hx => ?_) hd).mono fun e w' hp => ?_
 ·simp only [List.getElem?_map, Option.map_eq_some_iff] at hx
  obtain ⟨y, hy, rfl⟩ := hx
  exact .d _ _ (hr j y hy)
 ·obtain ⟨x, S', ρ', rfl, hx, E', I⟩ := hp
  rw [repF_bool (repD_d hx)]
  exact ⟨rfl, E'.os, E'.tape, E'.output, E'.size, fun k hk => E'.frame k hk fun i r hr => by simp at hr⟩
end Go.Deepv
namespace Go.Deepv
open Go.RowKit
section
variable {P : Program} {G : Glob} {S : Settled} {ρ : List RI} {h : List Res} {w w' : World}
theorem callPost_below (hi : Inv P G S ρ h w) (hb : Below w.heap.size w w') {v : Value} {x : FV} (hx : RepF S w' v x) : CallPost P G S ρ h w (.val (.d x) h) (.returned v) w' := by
 have cells : ∀ b o, S b o → w'.cell? ⟨b, o, none⟩ = w.cell? ⟨b, o, none⟩ := fun b o hs => hb.cell (p := ⟨b, o, none⟩) (hi.bound b o hs)
 have E0 : Ext S [] [] w S [] [] w' :=
  {settled := fun _ _ hs => hs
   cells := cells
   len := Nat.le_refl _
   boxes := fun id b hh => hh
   rows := fun t n' ht => by simp at ht
   size := hb.size
   os := hb.os
   tape := hb.tape
   output := hb.output
   frame := fun b hbl _ => hb.block b hbl
   blocks := fun i b r hr => by simp at hr
   fresh := fun b o hs => .inl hs }
 have I0 : Inv P G S [] [] w' :=
  {len := rfl
   bound := fun b o hs => Nat.lt_of_lt_of_le (hi.bound b o hs) hb.size
   glob := fun b o v g => ⟨(hi.glob b o v g).1, (cells b o (hi.glob b o v g).1).trans (hi.glob b o v g).2⟩
   low := fun i b r hr => by simp at hr
   apart := fun i j b r r' hr => by simp at hr
   box := fun i c t hr => by simp at hr
   nilrow := fun i hr => by simp at hr
   row := fun i a b c hr => by simp at hr
   iter := fun i a b hr => by simp at hr
   loop := fun i a b c d e hr => by simp at hr
   own := fun i r hr => by simp at hr }
 obtain ⟨E, I⟩ := ext_lift hi E0 I0
 exact ⟨v, S, ρ, rfl, .d _ _ hx, E, I⟩
def ExtOk (P : Program) (G : Glob) (X : FuncId → Option (List DV → List Res → Option DOut)) : Prop :=
 ∀ g F, X g = some F → (∃ fn, P.funcs[g]? = some fn ∧ (fn.name == "runtime.NumGoroutine") = false ∧ fn.body.isNone = false) ∧
  ∀ (args : Array Value) (dargs : List DV) (S : Settled) (ρ : List RI) (h : List Res) (w : World) (out : DOut), Inv P G S ρ h w → args.size = dargs.length → (∀ (j : Nat) (x : DV), dargs[j]? = some x → RepD S ρ h w (args.getD j undef) x) →
   F dargs h = some out → Calls P g args w (CallPost P G S ρ h w out)
def xItoa (args : List DV) (h : List Res) : Option DOut :=
 match args with
 | [.d (.int .i64 n)] => if -9223372036854775808 ≤ n ∧ n ≤ 9223372036854775807 then some (.val (.d (.str ⟨(Lib.itoa n).toArray⟩)) h) else none
 | _ => none
theorem itoa_ext {g : FuncId} (hc : ∀ (n : Int), -9223372036854775808 ≤ n → n ≤ 9223372036854775807 → ∀ w : World, (∀ b o v, G b o v → w.cell? ⟨b, o, none⟩ = v) → Calls P g #[.int .i64 n] w fun e w' => e = .returned (.string ⟨(Lib.itoa n).toArray⟩) ∧ Below w.heap.size w w')
  (args : Array Value) (dargs : List DV) (hi : Inv P G S ρ h w) (hl : args.size = dargs.length) (hr : ∀ (j : Nat) (x : DV), dargs[j]? = some x → RepD S ρ h w (args.getD j undef) x) {out : DOut}
  (hd : xItoa dargs h = some out) : Calls P g args w (CallPost P G S ρ h w out) := by
 unfold xItoa at hd
 split at hd
 ·rename_i n
  split at hd
  ·rename_i hn
   simp only [Option.some.injEq] at hd
   subst hd
   have h0 := hr 0 _ rfl
   have hv := repF_int (repD_d h0)
   have ha : args = #[.int .i64 n] := by
    have h1 : args.size = 1 := by simpa using hl
    obtain ⟨x, rfl⟩ := Array.size_eq_one_iff.1 h1
    simp at hv
    rw [hv]
   rw [ha]
   exact (hc n hn.1 hn.2 w (fun b o v g => (hi.glob b o v g).2)).mono fun e w' ⟨he, hb⟩ => by
    subst he
    exact callPost_below hi hb (.str _)
  ·cases hd
 ·cases hd
def xFormat (args : List DV) (h : List Res) : Option DOut :=
 match args with
 | [.d (.int .i64 n), .d (.int .i64 b)] => if b = 10 ∧ -9223372036854775808 ≤ n ∧ n ≤ 9223372036854775807 then some (.val (.d (.str ⟨(Lib.itoa n).toArray⟩)) h) else none
 | _ => none
theorem format_ext {g : FuncId} (hc : ∀ (n : Int), -9223372036854775808 ≤ n → n ≤ 9223372036854775807 → ∀ w : World, (∀ b o v, G b o v → w.cell? ⟨b, o, none⟩ = v) → Calls P g #[.int .i64 n, .int .i64 10] w fun e w' => e = .returned (.string ⟨(Lib.itoa n).toArray⟩) ∧ Below w.heap.size w w')
  (args : Array Value) (dargs : List DV) (hi : Inv P G S ρ h w) (hl : args.size = dargs.length) (hr : ∀ (j : Nat) (x : DV), dargs[j]? = some x → RepD S ρ h w (args.getD j undef) x) {out : DOut}
  (hd : xFormat dargs h = some out) : Calls P g args w (CallPost P G S ρ h w out) := by
 unfold xFormat at hd
 split at hd
 ·rename_i n b
  split at hd
  ·rename_i hn
   obtain ⟨rfl, hn⟩ := hn
   simp only [Option.some.injEq] at hd
   subst hd
   have hv0 := repF_int (repD_d (hr 0 _ rfl))
   have hv1 := repF_int (repD_d (hr 1 _ rfl))
   have ha : args = #[.int .i64 n, .int .i64 10] := by
    have h1 : args.size = 2 := by simpa using hl
    obtain ⟨x, y, rfl⟩ : ∃ x y, args = #[x, y] := by
     match args, h1 with
     | ⟨[x, y]⟩, _ => exact ⟨x, y, rfl⟩
    simp at hv0 hv1
    rw [hv0, hv1]
   rw [ha]
   exact (hc n hn.1 hn.2 w (fun b o v g => (hi.glob b o v g).2)).mono fun e w' ⟨he, hb⟩ => by
    subst he
    exact callPost_below hi hb (.str _)
  ·cases hd
 ·cases hd
def xValid (args : List DV) (h : List Res) : Option DOut :=
 match args with
 | [.d (.str s)] => if s.size ≤ 9223372036854775807 then some (.val (.d (.bool (Lib.validD s.data.toList))) h) else none
 | _ => none
theorem valid_ext {g : FuncId} (hc : ∀ (s : ByteArray), s.size ≤ 9223372036854775807 → ∀ w : World, (∀ b o v, G b o v → w.cell? ⟨b, o, none⟩ = v) → Calls P g #[.string s] w fun e w' => e = .returned (.bool (Lib.validD s.data.toList)) ∧ Below w.heap.size w w')
  (args : Array Value) (dargs : List DV) (hi : Inv P G S ρ h w) (hl : args.size = dargs.length) (hr : ∀ (j : Nat) (x : DV), dargs[j]? = some x → RepD S ρ h w (args.getD j undef) x) {out : DOut}
  (hd : xValid dargs h = some out) : Calls P g args w (CallPost P G S ρ h w out) := by
 unfold xValid at hd
 split at hd
 ·rename_i s
  split at hd
  ·rename_i hn
   simp only [Option.some.injEq] at hd
   subst hd
   have hv := repF_str (repD_d (hr 0 _ rfl))
   have ha : args = #[.string s] := by
    have h1 : args.size = 1 := by simpa using hl
    obtain ⟨x, rfl⟩ := Array.size_eq_one_iff.1 h1
    simp at hv
    rw [hv]
   rw [ha]
   exact (hc s hn w (fun b o v g => (hi.glob b o v g).2)).mono fun e w' ⟨he, hb⟩ => by
    subst he
    exact callPost_below hi hb (.bool _)
  ·cases hd
 ·cases hd
def strs : List (List FV) → Option (List ByteArray)
 | [] => some []
 | [.str s] :: l => (strs l).map (s :: ·)
 | _ => none
def joined (xs : List ByteArray) (sep : ByteArray) : ByteArray := ⟨(Lib.join (xs.map (·.data.toList)) sep.data.toList).toArray⟩
def xJoin (args : List DV) (h : List Res) : Option DOut :=
 match args.map DV.coe with
 | [.d (.slice 1 es), .d (.str sep)] => match strs es with
  | some xs => if (Lib.join (xs.map (·.data.toList)) sep.data.toList).length ≤ 140737488355328 ∧ xs.length ≤ 140737488355328 then some (.val (.d (.str (joined xs sep))) h) else none
  | none => none
 | _ => none
theorem strs_at : ∀ {es : List (List FV)} {xs : List ByteArray}, strs es = some xs → es.length = xs.length ∧ ∀ (j : Nat) (x : ByteArray), xs[j]? = some x → es[j]? = some [.str x]
 | [], xs, h => by simp [strs] at h; subst h; exact ⟨rfl, fun j x hx => by simp at hx⟩
 | e :: l, xs, h => by
  unfold strs at h
  split at h
  ·rename_i hh; cases hh
  ·rename_i s l' hh
   simp only [List.cons.injEq] at hh
   obtain ⟨rfl, rfl⟩ := hh
   simp only [Option.map_eq_some_iff] at h
   obtain ⟨ys, hy, rfl⟩ := h
   obtain ⟨h1, h2⟩ := strs_at hy
   refine ⟨by simp [h1], fun j x hx => ?_⟩
   cases j with
   | zero => simpa using hx
   | succ j => exact h2 j x (by simpa using hx)
  ·cases h
theorem join_ext {g : FuncId} (hn : ∀ (a : Option Addr) (c : Nat) (sep : ByteArray) (w : World), Calls P g #[.slice a 0 c, .string sep] w fun e w' => e = .returned (.string ⟨#[]⟩) ∧ w' = w)
  (hc : ∀ (bk o c : Nat) (xs : List ByteArray) (sep : ByteArray) (w : World), (∀ (j : Nat) x, xs[j]? = some x → w.cell? ⟨bk, o + j, none⟩ = some (.string x)) → bk < w.heap.size → xs.length ≤ 140737488355328 → xs.length ≤ c →
   (Lib.join (xs.map (·.data.toList)) sep.data.toList).length ≤ 140737488355328 →
   Calls P g #[.slice (some ⟨bk, o, none⟩) xs.length c, .string sep] w fun e w' => e = .returned (.string ⟨(Lib.join (xs.map (·.data.toList)) sep.data.toList).toArray⟩) ∧ Below w.heap.size w w')
  (args : Array Value) (dargs : List DV) (hi : Inv P G S ρ h w) (hl : args.size = dargs.length) (hr : ∀ (j : Nat) (x : DV), dargs[j]? = some x → RepD S ρ h w (args.getD j undef) x) {out : DOut}
  (hd : xJoin dargs h = some out) : Calls P g args w (CallPost P G S ρ h w out) := by
 unfold xJoin at hd
 split at hd
 ·rename_i es sep hm
  split at hd
  ·rename_i xs hx
   split at hd
   ·rename_i hb
    simp only [Option.some.injEq] at hd
    subst hd
    have hr' : ∀ (j : Nat) (x : DV), (dargs.map DV.coe)[j]? = some x → RepD S ρ h w (args.getD j undef) x := fun j x hx => by
     simp only [List.getElem?_map, Option.map_eq_some_iff] at hx
     obtain ⟨y, hy, rfl⟩ := hx
     exact rep_coe (hr j y hy)
    have hl' : args.size = 2 := by
     have := congrArg List.length hm
     simp at this
     omega
    rw [hm] at hr'
    have h0 := repD_d (hr' 0 _ rfl)
    have h1 := repF_str (repD_d (hr' 1 _ rfl))
    obtain ⟨a0, a1, rfl⟩ : ∃ a0 a1, args = #[a0, a1] := by
     rcases args with ⟨l⟩
     match l, hl' with
     | [a0, a1], _ => exact ⟨a0, a1, rfl⟩
    simp at h0 h1
    subst h1
    obtain ⟨s1, s2⟩ := strs_at hx
    have empty : es = [] → ∀ (A : Option Addr) (c : Nat), Calls P g #[.slice A 0 c, .string sep] w (CallPost P G S ρ h w (.val (.d (.str (joined xs sep))) h)) := fun he A c => by
     subst he
     simp [strs] at hx
     subst hx
     refine (hn A c sep w).mono fun e w' ⟨he, hw⟩ => ?_
     subst he; subst hw
     exact callPost_below hi (Below.refl _ _) (by simpa [joined, Lib.join] using RepF.str _)
    cases h0 with
    | slice0 A cap => exact empty rfl A cap
    | slice b o n cap _ _ u hn' hcap hsz hcc hrr h1' =>
     by_cases he : es = []
     ·subst he
      simp at hn'
      subst hn'
      exact empty rfl _ _
     ·have hpos : 0 < es.length := List.length_pos_iff.2 he
      rw [← hn', s1]
      refine (hc b o cap xs sep w (fun j x hj => ?_) (hi.bound b _ (hcc 0 0 (by omega) (by omega)).1) hb.2 (by omega) hb.1).mono fun e w' ⟨he, hw⟩ => ?_
      ·have hj' : j < xs.length := (List.getElem?_eq_some_iff.1 hj).1
       have q := (hcc j 0 (by omega) (by omega)).2
       have q2 := repF_str (hrr j 0 _ (.str x) (s2 j x hj) rfl)
       rw [q2] at q
       simpa using q
      ·subst he
       exact callPost_below hi hw (.str _)
   ·cases hd
  ·cases hd
 ·cases hd
def xCopy (tag : Nat) (args : List DV) (h : List Res) : Option DOut :=
 match args with
 | [.ptr id 0] => match h[id]? with
  | some (.box [x, y] t) => if t = tag ∧ tag ≠ 0 then (match x with
   | .d .nilp => some (.val (.d (.tup [])) (h.set id (.box [.ptr id 0, y] t)))
   | .ptr k 0 => if k = id then some (.val (.d (.tup [])) h) else none
   | _ => none) else none
  | _ => none
 | _ => none
theorem heap_setCell0 {b : Nat} {c : Array Value} {e : TypeId} {fr : Nat × Nat} {u : Value} (hb : w.heap[b]? = some (.cells c e fr)) : (w.setCell ⟨b, 0, none⟩ u).heap[b]? = some (.cells (c.setIfInBounds 0 u) e fr) := by
 simp [World.setCell, Array.getElem?_modify, hb]
theorem copy_ext {g : FuncId} {tag : Nat} (hu : ∀ (b : Nat) (w : World), w.cell? ⟨b, 0, none⟩ = some (.pointer (some ⟨b, 0, none⟩)) → Calls P g #[.pointer (some ⟨b, 0, none⟩)] w fun e w' => e = .returned (.tuple #[]) ∧ w' = w)
  (hf : ∀ (b : Nat) (w : World), w.cell? ⟨b, 0, none⟩ = some (.pointer none) → w.shape? b = some (tag, 2) → w.frozen? ⟨b, 0, none⟩ = false → Calls P g #[.pointer (some ⟨b, 0, none⟩)] w fun e w' => e = .returned (.tuple #[]) ∧ w' = w.setCell ⟨b, 0, none⟩ (.pointer (some ⟨b, 0, none⟩)))
  (args : Array Value) (dargs : List DV) (hi : Inv P G S ρ h w) (hl : args.size = dargs.length) (hr : ∀ (j : Nat) (x : DV), dargs[j]? = some x → RepD S ρ h w (args.getD j undef) x) {out : DOut}
  (hd : xCopy tag dargs h = some out) : Calls P g args w (CallPost P G S ρ h w out) := by
 unfold xCopy at hd
 split at hd
 ·rename_i id
  split at hd
  ·rename_i x y t hbx
   split at hd
   ·rename_i ht
    obtain ⟨rfl, ht0⟩ := ht
    obtain ⟨b, c, e, b1, b2, ⟨b3, btag⟩, b4, b5⟩ := hi.box id _ _ hbx
    have he : e = t := by rcases btag with h0 | h0; exact absurd h0 ht0; exact h0
    subst he
    have h0 := hr 0 _ rfl
    have ha : args = #[.pointer (some ⟨b, 0, none⟩)] := by
     have h1 : args.size = 1 := by simpa using hl
     obtain ⟨v, rfl⟩ := Array.size_eq_one_iff.1 h1
     simp at h0
     cases h0 with
     | ptr _ _ b' hb' =>
      rw [b1] at hb'
      simp at hb'
      rw [hb']
    rw [ha]
    have hsz : c.size = 2 := by simpa using b3
    have hcell : w.cell? ⟨b, 0, none⟩ = some (c.getD 0 undef) := by
     simp [World.cell?, b2, Array.getD_eq_getD_getElem?]
     rw [Array.getElem?_eq_getElem (by omega)]
     simp
    have hx0 := (b4 0 x rfl).2.2
    have hidl : id < h.length := (List.getElem?_eq_some_iff.1 hbx).1
    split at hd
    ·simp only [Option.some.injEq] at hd
     subst hd
     have hnil : c.getD 0 undef = .pointer none := by
      generalize c.getD 0 undef = v0 at hx0
      cases repD_d hx0; rfl
     rw [hnil] at hcell
     refine (hf b w hcell (by simp [World.shape?, b2, hsz]) (by simp [World.frozen?, b2])).mono fun e' w' ⟨he, hw⟩ => ?_
     subst he; subst hw
     have hset : ρ.set id (.box b) = ρ := set_self _ _ _ b1
     have hbl : b < w.heap.size := (Array.getElem?_eq_some_iff.1 b2).1
     have E : Ext S ρ h w S (ρ.set id (.box b)) (h.set id (.box [.ptr id 0, y] e)) (w.setCell ⟨b, 0, none⟩ (.pointer (some ⟨b, 0, none⟩))) := by
      rw [hset]
      exact { Ext.refl S ρ h w with
       cells := fun b' o hs => World.cell?_setCell_other _ _ _ _ (by intro hh; simp at hh; exact b5 o (by rw [hh.1]; exact hs))
       len := by simp
       rows := fun t n' ht hn => by
        by_cases e : t = id
        ·subst e
         rw [List.getElem?_set_self ht] at hn
         simp [Res.tip] at hn
        ·rw [List.getElem?_set_ne (Ne.symm e)] at hn
         exact ⟨n', hn, Nat.le_refl _, fun _ => rfl⟩
       size := by simp [World.setCell]
       os := rfl
       tape := rfl
       output := rfl
       frame := fun b' hb hn => Below.heap_setCell _ _ _ _ (by rintro rfl; exact hn id _ b1 rfl) }
     have I : Inv P G S (ρ.set id (.box b)) (h.set id (.box [.ptr id 0, y] e)) (w.setCell ⟨b, 0, none⟩ (.pointer (some ⟨b, 0, none⟩))) := by
      refine inv_upd hi hidl E (fun i b' r hne hr hbk => ?_) (fun b o hs => by simpa [World.setCell] using hi.bound b o hs) (fun b' hbk => ?_) (fun cells' tag' hce => ?_) (fun hh => by cases hh) (fun _ _ _ hh => by cases hh) (fun _ _ hh => by cases hh)
      ·have : b' ≠ b := by rintro rfl; exact hne (hi.apart i id _ r _ hr b1 hbk rfl)
       exact ⟨Below.heap_setCell _ _ _ _ this, fun o ho => ho⟩
      ·simp [RI.block] at hbk
       subst hbk
       refine ⟨by simpa [World.setCell] using hbl, fun i r hne hr hbk => hne (hi.apart i id _ r _ hr b1 hbk rfl)⟩
      ·simp only [Res.box.injEq] at hce
       obtain ⟨rfl, rfl⟩ := hce
       refine ⟨b, _, e, rfl, heap_setCell0 b2, ⟨by simpa using hsz, .inr rfl⟩, fun j z hz => ?_, b5⟩
       match j, hz with
       | 0, hz =>
        simp at hz
        subst hz
        refine ⟨rfl, by simp [DV.low], ?_⟩
        have : (c.setIfInBounds 0 (.pointer (some ⟨b, 0, none⟩))).getD 0 undef = .pointer (some ⟨b, 0, none⟩) := by
         simp [Array.getD_eq_getD_getElem?, Array.getElem?_setIfInBounds, hsz]
        rw [this]
        exact .ptr id 0 b (by rw [hset]; exact b1)
       | 1, hz =>
        have g := b4 1 z (by simpa using hz)
        have : (c.setIfInBounds 0 (.pointer (some ⟨b, 0, none⟩))).getD 1 undef = c.getD 1 undef := by
         simp [Array.getD_eq_getD_getElem?, Array.getElem?_setIfInBounds]
        rw [this]
        exact ⟨g.1, g.2.1, g.2.2.mono E⟩
       | j + 2, hz => simp at hz
     rw [hset] at E I
     exact ⟨_, S, ρ, rfl, .d _ _ (.tup #[] [] rfl (fun j y hy => by simp at hy)), E, I⟩
    ·split at hd
     ·rename_i k hk
      simp only [Option.some.injEq] at hd
      subst hd
      subst hk
      have hown : c.getD 0 undef = .pointer (some ⟨b, 0, none⟩) := by
       generalize c.getD 0 undef = v0 at hx0
       cases hx0 with
       | ptr _ _ b' hb' =>
        rw [b1] at hb'
        simp at hb'
        rw [hb']
      rw [hown] at hcell
      refine (hu b w hcell).mono fun e' w' ⟨he, hw⟩ => ?_
      subst he; subst hw
      exact ⟨_, S, ρ, rfl, .d _ _ (.tup #[] [] rfl (fun j y hy => by simp at hy)), Ext.refl S ρ h _, hi⟩
     ·cases hd
    ·cases hd
   ·cases hd
  ·cases hd
 ·cases hd
end
end Go.Deepv
namespace Go.Deepv
open Go.RowKit
section
variable {P : Program} {G : Glob} {S : Settled} {ρ : List RI} {h : List Res} {w w' : World}
theorem callPost_new (hi : Inv P G S ρ h w) (hb : Below w.heap.size w w') {v : Value} {x : FV} (hx : RepF (fun b o => S b o ∨ (w.heap.size ≤ b ∧ b < w'.heap.size)) w' v x) : CallPost P G S ρ h w (.val (.d x) h) (.returned v) w' := by
 have cells : ∀ b o, S b o → w'.cell? ⟨b, o, none⟩ = w.cell? ⟨b, o, none⟩ := fun b o hs => hb.cell (p := ⟨b, o, none⟩) (hi.bound b o hs)
 have E0 : Ext S [] [] w (fun b o => S b o ∨ (w.heap.size ≤ b ∧ b < w'.heap.size)) [] [] w' :=
  {settled := fun _ _ hs => .inl hs
   cells := cells
   len := Nat.le_refl _
   boxes := fun id b hh => hh
   rows := fun t n' ht => by simp at ht
   size := hb.size
   os := hb.os
   tape := hb.tape
   output := hb.output
   frame := fun b hbl _ => hb.block b hbl
   blocks := fun i b r hr => by simp at hr
   fresh := fun b o hs => hs.elim .inl fun x => .inr (.inl x.1) }
 have I0 : Inv P G (fun b o => S b o ∨ (w.heap.size ≤ b ∧ b < w'.heap.size)) [] [] w' :=
  {len := rfl
   bound := fun b o hs => hs.elim (fun hs => Nat.lt_of_lt_of_le (hi.bound b o hs) hb.size) fun x => x.2
   glob := fun b o v g => ⟨.inl (hi.glob b o v g).1, (cells b o (hi.glob b o v g).1).trans (hi.glob b o v g).2⟩
   low := fun i b r hr => by simp at hr
   apart := fun i j b r r' hr => by simp at hr
   box := fun i c t hr => by simp at hr
   nilrow := fun i hr => by simp at hr
   row := fun i a b c hr => by simp at hr
   iter := fun i a b hr => by simp at hr
   loop := fun i a b c d e hr => by simp at hr
   own := fun i r hr => by simp at hr }
 obtain ⟨E, I⟩ := ext_lift hi E0 I0
 exact ⟨v, _, ρ, rfl, .d _ _ hx, E, I⟩
def xSplit (args : List DV) (h : List Res) : Option DOut :=
 match args with
 | [.d (.str s), .d (.str sep)] => if s.size < 4294967281 ∧ sep.size = 1 then some (.val (.d (.slice 1 ((Lib.splitB sep 0 (Lib.countB s sep) s).map fun x => [.str x]))) h) else none
 | _ => none
theorem split_ext {g : FuncId} {t : TypeId} (hc : ∀ (s sep : ByteArray), s.size < 4294967281 → sep.size = 1 → ∀ w : World, (∀ b o v, G b o v → w.cell? ⟨b, o, none⟩ = v) → Calls P g #[.string s, .string sep] w fun e w' =>
   e = .returned (.slice (some ⟨w.heap.size, 0, none⟩) (Lib.countB s sep + 1) (Lib.countB s sep + 1)) ∧ w' = w.alloc (.cells ((Lib.splitB sep 0 (Lib.countB s sep) s).map Value.string).toArray t))
  (args : Array Value) (dargs : List DV) (hi : Inv P G S ρ h w) (hl : args.size = dargs.length) (hr : ∀ (j : Nat) (x : DV), dargs[j]? = some x → RepD S ρ h w (args.getD j undef) x) {out : DOut}
  (hd : xSplit dargs h = some out) : Calls P g args w (CallPost P G S ρ h w out) := by
 unfold xSplit at hd
 split at hd
 ·rename_i s sep
  split at hd
  ·rename_i hs
   simp only [Option.some.injEq] at hd
   subst hd
   have h0 := repF_str (repD_d (hr 0 _ rfl))
   have h1 := repF_str (repD_d (hr 1 _ rfl))
   have hl' : args.size = 2 := hl
   obtain ⟨a0, a1, rfl⟩ : ∃ a0 a1, args = #[a0, a1] := by
    rcases args with ⟨l⟩
    match l, hl' with
    | [a0, a1], _ => exact ⟨a0, a1, rfl⟩
   simp at h0 h1
   subst h0
   subst h1
   refine (hc s sep hs.1 hs.2 w (fun b o v g => (hi.glob b o v g).2)).mono fun e w' ⟨he, hw⟩ => ?_
   subst he
   have hlen := Lib.splitB_all sep (by omega) 0 (Lib.countB s sep) s rfl
   generalize Lib.splitB sep 0 (Lib.countB s sep) s = L at *
   have hb : Below w.heap.size w w' := by
    rw [hw]
    exact (Below.refl _ _).alloc (Nat.le_refl _) _
   have hsz : w'.heap.size = w.heap.size + 1 := by
    rw [hw]
    simp
   refine callPost_new hi hb ?_
   refine .slice w.heap.size 0 _ _ 1 _ (fun i _ => .string (L.getD i ⟨#[]⟩)) (by simp [hlen]) (Nat.le_refl _) (fun i c hc => ?_) (fun i j hi1 hj => ?_) (fun i j c y hc hy => ?_) (fun i j c y hc hy => ?_)
   ·simp only [List.getElem?_map, Option.map_eq_some_iff] at hc
    obtain ⟨z, _, rfl⟩ := hc
    rfl
   ·refine ⟨.inr ⟨Nat.le_refl _, by omega⟩, ?_⟩
    have hj0 : j = 0 := by omega
    subst hj0
    have hi2 : i < L.length := by omega
    have hg : w'.heap[w.heap.size]? = some (.cells (L.map Value.string).toArray t) := by
     rw [hw]
     show (w.heap.push _)[w.heap.size]? = _
     simp
    simp only [Nat.zero_add, Nat.mul_one, Nat.add_zero, World.cell?, hg]
    simp [hi2, List.getD_eq_getElem?_getD]
   ·simp only [List.getElem?_map, Option.map_eq_some_iff] at hc
    obtain ⟨z, hz, rfl⟩ := hc
    cases j with
    | zero =>
     simp at hy
     subst hy
     simp only [List.getD_eq_getElem?_getD, hz, Option.getD_some]
     exact .str _
    | succ j => simp at hy
   ·simp only [List.getElem?_map, Option.map_eq_some_iff] at hc
    obtain ⟨z, hz, rfl⟩ := hc
    cases j with
    | zero =>
     simp at hy
     subst hy
     rfl
    | succ j => simp at hy
  ·cases hd
 ·cases hd
def xAtoi (T : Nat) (args : List DV) (h : List Res) : Option DOut :=
 match args with
 | [.d (.str s)] => if s.size ≤ 281474976710656 then (match Lib.atoiAll s.data.toList with
  | .ok v => some (.val (.d (.tup [.int .i64 v, .nili])) h)
  | .range => some (.val (.d (.tup [.int .i64 (Lib.atoiSat s.data.toList), .iface T .undef])) h)
  | _ => some (.val (.d (.tup [.int .i64 0, .iface T .undef])) h)) else none
 | _ => none
theorem atoi_ext {g : FuncId} {T : Nat} (hc : ∀ (s : ByteArray), s.size ≤ 281474976710656 → ∀ w : World, (∀ b o v, G b o v → w.cell? ⟨b, o, none⟩ = v) → Calls P g #[.string s] w fun e w' => Below w.heap.size w w' ∧
   (match Lib.atoiAll s.data.toList with
   | .ok v => e = .returned (.tuple #[.int .i64 v, .nilIface])
   | .range => ∃ p, e = .returned (.tuple #[.int .i64 (Lib.atoiSat s.data.toList), .iface T p])
   | _ => ∃ p, e = .returned (.tuple #[.int .i64 0, .iface T p])))
  (args : Array Value) (dargs : List DV) (hi : Inv P G S ρ h w) (hl : args.size = dargs.length) (hr : ∀ (j : Nat) (x : DV), dargs[j]? = some x → RepD S ρ h w (args.getD j undef) x) {out : DOut}
  (hd : xAtoi T dargs h = some out) : Calls P g args w (CallPost P G S ρ h w out) := by
 unfold xAtoi at hd
 split at hd
 ·rename_i s
  split at hd
  ·rename_i hs
   have h0 := repF_str (repD_d (hr 0 _ rfl))
   have hl' : args.size = 1 := hl
   obtain ⟨a0, rfl⟩ : ∃ a0, args = #[a0] := by
    rcases args with ⟨l⟩
    match l, hl' with
    | [a0], _ => exact ⟨a0, rfl⟩
   simp at h0
   subst h0
   have two : ∀ {w' : World} {a b : Value} {x y : FV}, RepF S w' a x → RepF S w' b y → RepF S w' (.tuple #[a, b]) (.tup [x, y]) := fun ha hb => .tup _ _ rfl fun j z hz => by
    match j, hz with
    | 0, hz => simp at hz; subst hz; exact ha
    | 1, hz => simp at hz; subst hz; exact hb
    | j + 2, hz => simp at hz
   refine (hc s hs w (fun b o v g => (hi.glob b o v g).2)).mono fun e w' ⟨hb, he⟩ => ?_
   generalize Lib.atoiAll s.data.toList = r at *
   cases r with
   | ok v =>
    simp only at he
    simp only [Option.some.injEq] at hd
    subst hd
    subst he
    exact callPost_below hi hb (two (.int _ _) .nili)
   | range =>
    simp only at he
    simp only [Option.some.injEq] at hd
    subst hd
    obtain ⟨p, rfl⟩ := he
    exact callPost_below hi hb (two (.int _ _) (.iface _ _ _ (.undef _)))
   | _ =>
    simp only at he
    simp only [Option.some.injEq] at hd
    subst hd
    obtain ⟨p, rfl⟩ := he
    exact callPost_below hi hb (two (.int _ _) (.iface _ _ _ (.undef _)))
  ·cases hd
 ·cases hd
def xParse (T : Nat) (args : List DV) (h : List Res) : Option DOut :=
 match args with
 | [.d (.str s), .d (.int .i64 b), .d (.int .i64 z)] => if b = 10 ∧ z = 64 then ( if s.size ≤ 281474976710656 then (match Lib.parseIntB 64 s.data.toList with
  | .ok v => some (.val (.d (.tup [.int .i64 v, .nili])) h)
  | .range => some (.val (.d (.tup [.int .i64 (Lib.intSat 64 s.data.toList), .iface T .undef])) h)
  | _ => some (.val (.d (.tup [.int .i64 0, .iface T .undef])) h)) else none) else none
 | _ => none
theorem parse_ext {g : FuncId} {T : Nat} (hc : ∀ (s : ByteArray), s.size ≤ 281474976710656 → ∀ w : World, (∀ b o v, G b o v → w.cell? ⟨b, o, none⟩ = v) → Calls P g #[.string s, .int .i64 10, .int .i64 64] w fun e w' => Below w.heap.size w w' ∧
   (match Lib.parseIntB 64 s.data.toList with
   | .ok v => e = .returned (.tuple #[.int .i64 v, .nilIface])
   | .range => ∃ p, e = .returned (.tuple #[.int .i64 (Lib.intSat 64 s.data.toList), .iface T p])
   | _ => ∃ p, e = .returned (.tuple #[.int .i64 0, .iface T p])))
  (args : Array Value) (dargs : List DV) (hi : Inv P G S ρ h w) (hl : args.size = dargs.length) (hr : ∀ (j : Nat) (x : DV), dargs[j]? = some x → RepD S ρ h w (args.getD j undef) x) {out : DOut}
  (hd : xParse T dargs h = some out) : Calls P g args w (CallPost P G S ρ h w out) := by
 unfold xParse at hd
 split at hd
 ·rename_i s b z
  split at hd
  rotate_left
  ·cases hd
  rename_i hbz
  obtain ⟨rfl, rfl⟩ := hbz
  split at hd
  ·rename_i hs
   have h0 := repF_str (repD_d (hr 0 _ rfl))
   have h1 := repF_int (repD_d (hr 1 _ rfl))
   have h2 := repF_int (repD_d (hr 2 _ rfl))
   have hl' : args.size = 3 := hl
   obtain ⟨a0, a1, a2, rfl⟩ : ∃ a0 a1 a2, args = #[a0, a1, a2] := by
    rcases args with ⟨l⟩
    match l, hl' with
    | [a0, a1, a2], _ => exact ⟨a0, a1, a2, rfl⟩
   simp at h0 h1 h2
   subst h0 h1 h2
   have two : ∀ {w' : World} {a b : Value} {x y : FV}, RepF S w' a x → RepF S w' b y → RepF S w' (.tuple #[a, b]) (.tup [x, y]) := fun ha hb => .tup _ _ rfl fun j z hz => by
    match j, hz with
    | 0, hz => simp at hz; subst hz; exact ha
    | 1, hz => simp at hz; subst hz; exact hb
    | j + 2, hz => simp at hz
   refine (hc s hs w (fun b o v g => (hi.glob b o v g).2)).mono fun e w' ⟨hb, he⟩ => ?_
   generalize Lib.parseIntB 64 s.data.toList = r at *
   cases r with
   | ok v =>
    simp only at he
    simp only [Option.some.injEq] at hd
    subst hd
    subst he
    exact callPost_below hi hb (two (.int _ _) .nili)
   | range =>
    simp only at he
    simp only [Option.some.injEq] at hd
    subst hd
    obtain ⟨p, rfl⟩ := he
    exact callPost_below hi hb (two (.int _ _) (.iface _ _ _ (.undef _)))
   | _ =>
    simp only at he
    simp only [Option.some.injEq] at hd
    subst hd
    obtain ⟨p, rfl⟩ := he
    exact callPost_below hi hb (two (.int _ _) (.iface _ _ _ (.undef _)))
  ·cases hd
 ·cases hd
end
end Go.Deepv
namespace Go.Deepv
open Go.RowKit
def GW (W : World) : Glob := fun b o v => b < W.heap.size ∧ W.cell? ⟨b, o, none⟩ = v
theorem gw_start (W : World) : ∀ b o v, GW W b o v → b < W.heap.size ∧ W.cell? ⟨b, o, none⟩ = v := fun _ _ _ h => h
theorem gw_cell {W w : World} (h : ∀ b o v, GW W b o v → w.cell? ⟨b, o, none⟩ = v) {b o : Nat} {v : Value} (hv : W.cell? ⟨b, o, none⟩ = some v) : w.cell? ⟨b, o, none⟩ = some v := by
 refine h b o _ ⟨?_, hv⟩
 unfold World.cell? at hv
 cases hb : W.heap[b]? with
 | none => simp only at hv; rw [hb] at hv; cases hv
 | some x => exact (Array.getElem?_eq_some_iff.1 hb).1
theorem gw_tab {P : Program} {W w : World} {n : String} {k : IntKind} {zs : List Int} (hz : zs ≠ []) (h : ∀ b o v, GW W b o v → w.cell? ⟨b, o, none⟩ = v) (ht : Lib.TabIs P W n k zs) : Lib.TabIs P w n k zs := by
 unfold Lib.TabIs World.var? at ht ⊢
 cases hg : P.globalNamed n with
 | none => rw [hg] at ht; cases ht
 | some b =>
  rw [hg] at ht
  simp only [Option.bind_some] at ht ⊢
  split at ht
  ·rename_i cs e f hc
   simp only [Option.some.injEq] at ht
   have hb : b < W.heap.size := (Array.getElem?_eq_some_iff.1 hc).1
   have key : ∀ o, w.cell? ⟨b, o, none⟩ = cs[o]? := fun o => by
    refine h b o _ ⟨hb, ?_⟩
    unfold World.cell?
    rw [hc]
    rfl
   have k0 := key 0
   have p0 : ∃ v, cs[0]? = some v := by
    rw [ht]
    cases zs with
    | nil => exact absurd rfl hz
    | cons z zs => exact ⟨_, rfl⟩
   obtain ⟨v, p0⟩ := p0
   rw [p0] at k0
   unfold World.cell? at key k0
   split at k0
   ·rename_i c e f hc'
    simp only [hc'] at key ⊢
    rw [← ht]
    congr 1
    refine Array.ext' (List.ext_getElem? fun o => ?_)
    have := key o
    simpa using this
   ·cases k0
  ·cases ht
theorem cell_iface {P : Program} {w : World} {g : Nat} {t : TypeId} {zero : Array Value} {ms : Array (String × TypeId)}
  (h : w.ShapedOpen P) (hg : g < P.globals.size)
  (h0 : ((begin P (fun _ _ => 0) default).world.heap[g]?).bind Obj.row? = some (zero, t)) (hz : zero.size = 1)
  (hb : P.buildable t = true) (hc : P.cellTypes P.depth t = some [t]) (hu : P.underlying t = some (.interface ms)) :
  ∃ v, w.cell? ⟨g, 0, none⟩ = some v ∧ (v = .nilIface ∨ ∃ te pe, v = .iface te pe) := by
 obtain ⟨cs, hh, hs, hr⟩ := h.1 g zero t hg h0
 obtain ⟨ts, hts, _, hall⟩ := hr hb
 rw [hc] at hts
 cases hts
 have h1 : 0 < cs.size := by omega
 obtain ⟨u, hu', hok⟩ := hall 0 cs[0] (by simp [h1])
 have : u = t := by simpa using hu'.symm
 subst this
 have hcell : w.cell? ⟨g, 0, none⟩ = some cs[0] := by simp [World.cell?, hh, h1]
 refine ⟨_, hcell, ?_⟩
 unfold Cell.ok at hok
 rw [hu] at hok
 cases hv : cs[0] <;> rw [hv] at hok <;> simp at hok
 all_goals first | exact .inl rfl | exact .inr ⟨_, _, rfl⟩
section
variable {H : Type} {enc : TypeId × Value → H}
theorem returns_all {C : Checked} {os : Os} {f : FuncId} {fn : Func} {s : ChangeSpec} {conds : List PathCond} {apart fresh handsOn again : Bool} {X : World → Array Value → Prop}
  (hX : ∀ (w w' : World) (args : Array Value), w.heap = w'.heap → X w args → X w' args)
  (own : ownKnob C.prog.godebug = none) (started : os.Started) (noInit : C.prog.inits.idxOf? f = none) (hfn : C.prog.funcs[f]? = some fn)
  (witness : ∃ (w : World) (tape : Tape) (i : Input), w.os = os ∧ (w.forCall tape i).Shaped C.prog ∧ i.vars = [] ∧ Input.okWide C.prog (w.forCall tape i) .any w.heap.size f i ∧
   ((s.pre enc C.prog fn conds apart (w.forCall tape i).memory i.args ∧ X (w.forCall tape i).memory i.args) ∧ sizedMet enc C.prog fn (OpenSpec.ofChange s) apart (w.forCall tape i).memory i.args) ∧ ({} : Assume).holds C.prog (lone (Frame.enter C.prog f i.args .normal) [] (w.forCall tape i)))
  (contract : ∀ (W : World) (base : Nat) (args : Array Value) (ds gs : List (DataW H)) (before : List MemPlace),
   (∀ (j : Nat) t v, fn.params[j]? = some t → args[j]? = some v → Value.okWide C.prog W .any base t v) →
   DataW.Whole enc C.prog fn.params.toList s.vars apart W args.toList ds gs before →
   conds.all (PathCond.test C.prog ⟨fn.params.toList, ds, s.plain.varTypes C.prog, gs⟩) = true →
   (DataW.weightsEach C.prog (fn.params.toList ++ s.plain.varTypes C.prog) (ds ++ gs)).all (· ≤ reachBytes) = true → X W args → W.ShapedOpen C.prog →
   Calls C.prog f args W fun e W' => ∃ v, e = .returned v ∧ s.post enc C.prog fn apart fresh handsOn again W args v W') :
  ReturnsInHanded {} C os f .any (fun w args => (s.pre enc C.prog fn conds apart w args ∧ X w args) ∧ sizedMet enc C.prog fn (OpenSpec.ofChange s) apart w args) (s.post enc C.prog fn apart fresh handsOn again) := by
 refine returnsInHanded_of_calls own started noInit witness ?_
 intro w tape i _ hsh _ hok hpre _
 obtain ⟨_, _, _, fn', hfn', _, _, _, _, hval⟩ := hok
 have e : fn' = fn := Option.some.inj (hfn'.symm.trans hfn)
 subst e
 obtain ⟨⟨⟨ds, gs, before, hw, hc⟩, hx⟩, hz⟩ := hpre
 have hw' := DataW.Whole.of_heap (w' := w.forCall tape i) (by rfl) hw
 refine (contract (w.forCall tape i) w.heap.size i.args ds gs before hval hw' hc (hz.weights hw) (hX _ _ _ (by rfl) hx) hsh).mono fun e W' ⟨v, he, hp⟩ => ?_
 subst he
 exact ChangeSpec.post_blind hp
end
end Go.Deepv
namespace Go.Deepv
def rr (sz n : Nat) (et : Nat := 0) : Res := if n = 0 then .nilrow else .row sz n et
theorem appRow_any {sz bytes et : Nat} {l new : List (List FV)} {t : Nat} {h : List Res} (hr : h[t]? = some (rr sz l.length et)) (h1 : (l.length + new.length) * bytes ≤ 140737488355328) (h2 : 0 < sz) (h3 : 0 < bytes) (s2 : Nat) (hs : s2 = sz) :
  appRow sz bytes (.row sz l t) (some (s2, new)) h et = some (.val (.row sz (l ++ new) t) (h.set t (rr sz (l.length + new.length) et))) := by
 subst hs
 have keep : ∀ (r : Res), h[t]? = some r → h.set t r = h := fun r hr => set_self _ _ _ hr
 simp only [appRow, hr]
 rw [if_pos ⟨.inl trivial, h1, h2, h3⟩]
 by_cases hl : l.length = 0
 ·have : l = [] := List.eq_nil_of_length_eq_zero hl
  subst this
  by_cases hn : new = []
  ·subst hn
   simp [rr]
   rw [keep]
   simpa [rr] using hr
  ·have : new.length ≠ 0 := fun h => hn (List.eq_nil_of_length_eq_zero h)
   simp [rr, hn]
 ·have : l.length + new.length ≠ 0 := by omega
  simp [rr, hl]
theorem appRow_one {sz bytes : Nat} {l : List (List FV)} {c : List FV} {t : Nat} {h : List Res} (hr : h[t]? = some (rr sz l.length)) (h1 : (l.length + 1) * bytes ≤ 140737488355328) (h2 : 0 < sz) (h3 : 0 < bytes) (s2 : Nat) (hs : s2 = sz) :
  appRow sz bytes (.row sz l t) (some (s2, [c])) h = some (.val (.row sz (l ++ [c]) t) (h.set t (rr sz (l.length + 1)))) := appRow_any hr (by simpa using h1) h2 h3 s2 hs
inductive Stp where
 | go (a : List DV) (h : List Res)
 | pan (v : DV) (a : List DV) (h : List Res)
noncomputable def ostep (call : Cle → List DV → List Res → Option DOut) (o : DOper) (a : List DV) (h : List Res) : Option Stp :=
 match wants a o.guard with
 | some true => match dop call o.op a h with
  | some (.val v h') => some (.go (put a o.dst v) h')
  | some (.pan v h') => some (.pan v a h')
  | none => none
 | some false => some (.go (put a o.dst (.d (.tup []))) h)
 | none => none
theorem dops_end (call : Cle → List DV → List Res → Option DOut) (a : List DV) (h : List Res) : dops call [] a h = some (.normal, a, h) := rfl
theorem dops_step (call : Cle → List DV → List Res → Option DOut) (o : DOper) (rest : List DOper) (a : List DV) (h : List Res) : dops call (o :: rest) a h = match ostep call o a h with
  | some (.go a' h') => dops call rest a' h'
  | some (.pan v a' h') => some (.pan v, a', h')
  | none => none := by
 rw [dops]
 unfold ostep
 cases wants a o.guard with
 | none => rfl
 | some b => cases b with
  | false => rfl
  | true => cases dop call o.op a h with
   | none => rfl
   | some r => cases r <;> rfl
theorem cast_lit (n : Nat) : (Nat.cast (no_index (OfNat.ofNat n)) : Int) = OfNat.ofNat n := rfl
theorem one_d1 (x : FV) : (DV.d x).one = x.one := rfl
theorem one_ptr (i o : Nat) : (DV.ptr i o).one = true := rfl
theorem one_bslc (i o n : Nat) : (DV.bslc i o n).one = true := rfl
theorem dc_fn (E : Env) (g : FuncId) (a : List DV) (h : List Res) : Dc E (.fn g) a h = D E g a h := rfl
theorem one_row (s : Nat) (l : List (List FV)) (t : Nat) : (DV.row s l t).one = true := rfl
theorem one_clo (f : Fn) (p q : List DV) : (DV.clo f p q).one = true := rfl
theorem one_if (t : TypeId) (v : DV) : (DV.iface t v).one = true := rfl
theorem one_int (k : IntKind) (n : Int) : (FV.int k n).one = true := rfl
theorem one_bool (b : Bool) : (FV.bool b).one = true := rfl
theorem one_str (b : ByteArray) : (FV.str b).one = true := rfl
theorem one_slice (s : Nat) (l : List (List FV)) : (FV.slice s l).one = true := rfl
theorem one_ref (c : List FV) (o : Nat) : (FV.ref c o).one = true := rfl
theorem one_nilp : FV.nilp.one = true := rfl
theorem one_iface (t : TypeId) (v : FV) : (FV.iface t v).one = true := rfl
theorem one_nili : FV.nili.one = true := rfl
theorem one_func (f : Fn) (p q : List FV) : (FV.func f p q).one = true := rfl
theorem one_nilf : FV.nilf.one = true := rfl
theorem dcallV_fn (E : Env) (g : FuncId) (args : List DV) (h : List Res) : dcallV (Dc E) (.d (.func (.func g) [] [])) args h = D E g args h := by simp [dcallV, D]
theorem dcallV_fnc (E : Env) (g : FuncId) (p q : List FV) (args : List DV) (h : List Res) : dcallV (Dc E) (.d (.func (.func g) p q)) args h = D E g (p.map .d ++ args ++ q.map .d) h := rfl
theorem dcallV_clo (E : Env) (g : FuncId) (p q args : List DV) (h : List Res) : dcallV (Dc E) (.clo (.func g) p q) args h = D E g (p ++ args ++ q) h := rfl
theorem dcallV_yld (E : Env) (id : Nat) (args : List DV) (h : List Res) : dcallV (Dc E) (.yld id) args h = Y E id args h := rfl
theorem flat_map : ∀ c : List FV, (c.map DV.d).mapM DV.flat = some c
 | [] => rfl
 | x :: c => by simp [DV.flat, flat_map c]
theorem flat_comp (c : List FV) : c.mapM (DV.flat ∘ DV.d) = some c := by
 have := flat_map c
 rwa [List.mapM_map] at this
theorem dload_all {c : List FV} {n : Nat} (h : c.length = n) : dload (some n) (c.map .d) 0 = some (.d (.agg c)) := by
 subst h
 simp only [dload, DV.mkAgg, List.drop_zero, Nat.zero_add, List.length_map, Nat.le_refl, if_true, List.take_of_length_le, flat_map]
theorem take_d {c : List FV} {n : Nat} (h : c.length = n) : (c.map DV.d).take n = c.map .d := by
 subst h
 simp [List.take_of_length_le]
theorem wrap_i64 {n : Int} (h1 : -9223372036854775808 ≤ n) (h2 : n < 9223372036854775808) : IntKind.i64.wrap n = n := by
 simp only [IntKind.wrap, IntKind.signed, IntKind.bits, Bool.true_and, Bool.false_and, decide_eq_true_eq, Bool.false_eq_true, if_false, show ((2 : Int) ^ 64) = 18446744073709551616 from rfl, show ((2 : Int) ^ (64 - 1)) = 9223372036854775808 from rfl, show ((2 : Int) ^ 8) = 256 from rfl]
 try split
 all_goals omega
theorem wrap_u8 {n : Int} (h1 : 0 ≤ n) (h2 : n < 256) : IntKind.u8.wrap n = n := by
 simp only [IntKind.wrap, IntKind.signed, IntKind.bits, Bool.true_and, Bool.false_and, decide_eq_true_eq, Bool.false_eq_true, if_false, show ((2 : Int) ^ 64) = 18446744073709551616 from rfl, show ((2 : Int) ^ (64 - 1)) = 9223372036854775808 from rfl, show ((2 : Int) ^ 8) = 256 from rfl]
 try split
 all_goals omega
theorem L_round {E : Env} {n : Nat} {hd ex : List Bool} {c : ACode} {K : List DV → List Res → Option DRun} (hK : L E n true hd ex c = K) (a : List DV) (h : List Res) :
  K a h = match dexec (Dc E) (L E) c a h with
   | some (.normal, a', h') => if DV.lows n (mask hd a') then K (mask hd a') (h'.take n) else none
   | some (.pan v, a', h') => some (.pan v, a', h')
   | some (e, a', h') => if DV.lows n (mask ex a') then some (e, mask ex a', h'.take n) else none
   | none => none := by
 rw [← hK, L_eq]
 rfl
theorem D_dat {E : Env} {f : FuncId} {F : AFunc} {args : List DV} (he : E.ext f = none) (ha : E.af f = some F) (hk : F.keep = 0) (hd : args.all DV.isD = true) (h : List Res) :
  D E f args h = (dbody (Dc E) (L E) F args []).map (withHeap h) := by
 have hm : args.map DV.coe = args := by
  clear he ha hk
  induction args with
  | nil => rfl
  | cons x xs ih =>
   simp only [List.all_cons, Bool.and_eq_true] at hd
   rw [List.map_cons, ih hd.2]
   cases x <;> simp_all [DV.isD, DV.coe]
 have hc : (if F.coe then args.map DV.coe else args) = args := by rw [hm]; split <;> rfl
 rw [D_eq]
 unfold dcallF
 rw [he, ha]
 simp only [hc, hk, hd, beq_self_eq_true, Bool.and_self, if_true]
theorem D_own {E : Env} {f : FuncId} {F : AFunc} {args : List DV} (he : E.ext f = none) (ha : E.af f = some F) (hc : F.coe = true) (hd : (F.keep == 0 && (args.map DV.coe).all DV.isD) = false) (h : List Res) :
  D E f args h = dbody (Dc E) (L E) F (args.map DV.coe) h := by
 rw [D_eq]
 unfold dcallF
 rw [he, ha]
 simp only [hc, hd, if_true, Bool.false_eq_true, if_false]
end Go.Deepv
namespace Go.Deepv
theorem stp :
  type_of% @dops_end ∧
  type_of% @dops_step ∧
  type_of% @List.length_cons.{0} ∧
  type_of% @List.length_cons.{1} ∧
  type_of% @List.length_nil.{0} ∧
  type_of% @List.length_nil.{1} ∧
  type_of% @List.cons_append.{0} ∧
  type_of% @List.cons_append.{1} ∧
  type_of% @List.nil_append.{0} ∧
  type_of% @List.nil_append.{1} ∧
  type_of% @List.append_nil.{0} ∧
  type_of% @List.append_nil.{1} ∧
  type_of% @List.set_cons_zero.{0} ∧
  type_of% @List.set_cons_zero.{1} ∧
  type_of% @List.set_cons_succ.{0} ∧
  type_of% @List.set_cons_succ.{1} ∧
  type_of% @List.set_nil.{0} ∧
  type_of% @List.set_nil.{1} ∧
  type_of% @List.getD_cons_zero.{0} ∧
  type_of% @List.getD_cons_zero.{1} ∧
  type_of% @List.getD_cons_succ.{0} ∧
  type_of% @List.getD_cons_succ.{1} ∧
  type_of% @List.getD_nil.{0} ∧
  type_of% @List.getD_nil.{1} ∧
  type_of% @List.map_cons.{0, 0} ∧
  type_of% @List.map_cons.{1, 1} ∧
  type_of% @List.map_nil.{0, 0} ∧
  type_of% @List.map_nil.{1, 1} ∧
  type_of% @List.all_cons.{0} ∧
  type_of% @List.all_cons.{1} ∧
  type_of% @List.all_nil.{0} ∧
  type_of% @List.all_nil.{1} ∧
  type_of% @one_d1 ∧
  type_of% @one_ptr ∧
  type_of% @one_row ∧
  type_of% @one_clo ∧
  type_of% @one_if ∧
  type_of% @one_int ∧
  type_of% @one_bool ∧
  type_of% @one_str ∧
  type_of% @one_slice ∧
  type_of% @one_ref ∧
  type_of% @one_nilp ∧
  type_of% @one_iface ∧
  type_of% @one_nili ∧
  type_of% @one_func ∧
  type_of% @one_nilf ∧
  type_of% @Bool.and_self ∧
  type_of% @Bool.and_true ∧
  type_of% @Bool.true_and ∧
  type_of% @Bool.and_false ∧
  type_of% @Bool.false_and ∧
  type_of% @Bool.or_true ∧
  type_of% @Bool.or_false ∧
  type_of% @Bool.true_or ∧
  type_of% @Bool.false_or ∧
  type_of% @if_true.{0} ∧
  type_of% @if_true.{1} ∧
  type_of% @flat_comp ∧
  type_of% @flat_map ∧
  type_of% @List.mapM_cons.{0, 0, 0} ∧
  type_of% @List.mapM_cons.{1, 1, 1} ∧
  type_of% @List.mapM_nil.{0, 0, 0} ∧
  type_of% @List.mapM_nil.{1, 1, 1} ∧
  type_of% @Option.pure_def.{0} ∧
  type_of% @Option.pure_def.{1} ∧
  type_of% @Option.bind_eq_bind.{0} ∧
  type_of% @Option.bind_eq_bind.{1} ∧
  type_of% @Option.bind_some.{0, 0} ∧
  type_of% @Option.bind_some.{1, 1} ∧
  type_of% @Option.bind_none.{0, 0} ∧
  type_of% @Option.bind_none.{1, 1} ∧
  type_of% @Option.map_some.{0, 0} ∧
  type_of% @Option.map_some.{1, 1} ∧
  type_of% @Option.map_none.{0, 0} ∧
  type_of% @Option.map_none.{1, 1} ∧
  type_of% @List.getElem?_cons_zero.{0} ∧
  type_of% @List.getElem?_cons_zero.{1} ∧
  type_of% @List.getElem?_cons_succ.{0} ∧
  type_of% @List.getElem?_cons_succ.{1} ∧
  type_of% @List.getElem?_nil.{0} ∧
  type_of% @List.getElem?_nil.{1} ∧
  type_of% @Nat.zero_add ∧
  type_of% @Nat.add_zero ∧
  type_of% @bne_self_eq_false.{0} ∧
  type_of% @bne_self_eq_false.{1} ∧
  type_of% @beq_self_eq_true.{0} ∧
  type_of% @beq_self_eq_true.{1} ∧
  type_of% @Bool.false_eq_true ∧
  type_of% @if_false.{0} ∧
  type_of% @if_false.{1} ∧
  type_of% @ne_eq.{0} ∧
  type_of% @ne_eq.{1} ∧
  type_of% @not_true_eq_false ∧
  type_of% @not_false_eq_true ∧
  type_of% @Bool.not_true ∧
  type_of% @Bool.not_false ∧
  type_of% @beq_iff_eq.{0} ∧
  type_of% @beq_iff_eq.{1} ∧
  type_of% @bne_iff_ne.{0} ∧
  type_of% @bne_iff_ne.{1} ∧
  type_of% @List.take_zero.{0} ∧
  type_of% @List.take_zero.{1} ∧
  type_of% @List.take_nil.{0} ∧
  type_of% @List.take_nil.{1} ∧
  type_of% @dcallV_fn ∧
  type_of% @dcallV_fnc ∧
  type_of% @dcallV_clo ∧
  type_of% @dcallV_yld ∧
  type_of% @List.drop_zero.{0} ∧
  type_of% @List.drop_zero.{1} ∧
  type_of% @List.drop_succ_cons.{0} ∧
  type_of% @List.drop_succ_cons.{1} ∧
  type_of% @List.take_succ_cons.{0} ∧
  type_of% @List.take_succ_cons.{1} ∧
  type_of% @List.not_mem_nil.{0} ∧
  type_of% @List.not_mem_nil.{1} ∧
  type_of% @false_implies ∧
  type_of% @implies_true.{0} ∧
  type_of% @implies_true.{1} ∧
  type_of% @decide_true ∧
  type_of% @decide_false ∧
  type_of% @decide_eq_true_eq ∧
  type_of% @Int.toNat_natCast ∧
  type_of% @Int.natCast_nonneg ∧
  type_of% @and_self ∧
  type_of% @and_true ∧
  type_of% @true_and ∧
  type_of% @List.foldlM_cons.{0, 0, 0} ∧
  type_of% @List.foldlM_cons.{1, 1, 1} ∧
  type_of% @List.foldlM_nil.{0, 0, 0} ∧
  type_of% @List.foldlM_nil.{1, 1, 1} ∧
  type_of% @List.length_append.{0} ∧
  type_of% @List.length_append.{1} ∧
  type_of% @List.length_map.{0, 0} ∧
  type_of% @List.length_map.{1, 1} ∧
  type_of% @Nat.le_refl ∧
  type_of% @List.all_map.{0, 0} ∧
  type_of% @List.all_map.{1, 1} ∧
  type_of% @Function.comp_def.{0, 0, 0} ∧
  type_of% @Function.comp_def.{1, 1, 1} ∧
  type_of% @Bool.false_beq ∧
  type_of% @Bool.true_beq ∧
  type_of% @gt_iff_lt.{0} ∧
  type_of% @gt_iff_lt.{1} ∧
  type_of% @ge_iff_le.{0} ∧
  type_of% @ge_iff_le.{1} ∧
  type_of% @cast_lit ∧
  type_of% @Bool.not_eq_true ∧
  type_of% @Int.toNat_zero ∧
  type_of% @Nat.zero_mul ∧
  type_of% @and_false ∧
  type_of% @false_and ∧
  type_of% @or_false ∧
  type_of% @or_true ∧
  type_of% @true_or ∧
  type_of% @false_or ∧
  type_of% @Int.le_refl ∧
  type_of% @Int.lt_irrefl ∧
  type_of% @List.mem_cons.{0} ∧
  type_of% @List.mem_cons.{1} ∧
  type_of% @forall_eq_or_imp.{0} ∧
  type_of% @forall_eq_or_imp.{1} ∧
  type_of% @forall_eq.{0} ∧
  type_of% @forall_eq.{1} ∧
  type_of% @List.append_assoc.{0} ∧
  type_of% @List.append_assoc.{1} ∧
  type_of% @List.length_set.{0} ∧
  type_of% @List.length_set.{1} ∧
  type_of% @List.set_set.{0} ∧
  type_of% @List.set_set.{1} ∧
  type_of% @DOut.val.injEq ∧
  type_of% @one_bslc ∧
  type_of% @dc_fn :=
 ⟨@dops_end, @dops_step, @List.length_cons.{0}, @List.length_cons.{1}, @List.length_nil.{0}, @List.length_nil.{1}, @List.cons_append.{0}, @List.cons_append.{1}, @List.nil_append.{0}, @List.nil_append.{1}, @List.append_nil.{0}, @List.append_nil.{1}, @List.set_cons_zero.{0}, @List.set_cons_zero.{1}, @List.set_cons_succ.{0}, @List.set_cons_succ.{1}, @List.set_nil.{0}, @List.set_nil.{1}, @List.getD_cons_zero.{0}, @List.getD_cons_zero.{1}, @List.getD_cons_succ.{0}, @List.getD_cons_succ.{1}, @List.getD_nil.{0}, @List.getD_nil.{1}, @List.map_cons.{0, 0}, @List.map_cons.{1, 1}, @List.map_nil.{0, 0}, @List.map_nil.{1, 1}, @List.all_cons.{0}, @List.all_cons.{1}, @List.all_nil.{0}, @List.all_nil.{1}, @one_d1, @one_ptr, @one_row, @one_clo, @one_if, @one_int, @one_bool, @one_str, @one_slice, @one_ref, @one_nilp, @one_iface, @one_nili, @one_func, @one_nilf, @Bool.and_self, @Bool.and_true, @Bool.true_and, @Bool.and_false, @Bool.false_and, @Bool.or_true, @Bool.or_false, @Bool.true_or, @Bool.false_or, @if_true.{0}, @if_true.{1}, @flat_comp, @flat_map, @List.mapM_cons.{0, 0, 0}, @List.mapM_cons.{1, 1, 1}, @List.mapM_nil.{0, 0, 0}, @List.mapM_nil.{1, 1, 1}, @Option.pure_def.{0}, @Option.pure_def.{1}, @Option.bind_eq_bind.{0}, @Option.bind_eq_bind.{1}, @Option.bind_some.{0, 0}, @Option.bind_some.{1, 1}, @Option.bind_none.{0, 0}, @Option.bind_none.{1, 1}, @Option.map_some.{0, 0}, @Option.map_some.{1, 1}, @Option.map_none.{0, 0}, @Option.map_none.{1, 1}, @List.getElem?_cons_zero.{0}, @List.getElem?_cons_zero.{1}, @List.getElem?_cons_succ.{0}, @List.getElem?_cons_succ.{1}, @List.getElem?_nil.{0}, @List.getElem?_nil.{1}, @Nat.zero_add, @Nat.add_zero, @bne_self_eq_false.{0}, @bne_self_eq_false.{1}, @beq_self_eq_true.{0}, @beq_self_eq_true.{1}, @Bool.false_eq_true, @if_false.{0}, @if_false.{1}, @ne_eq.{0}, @ne_eq.{1}, @not_true_eq_false, @not_false_eq_true, @Bool.not_true, @Bool.not_false, @beq_iff_eq.{0}, @beq_iff_eq.{1}, @bne_iff_ne.{0}, @bne_iff_ne.{1}, @List.take_zero.{0}, @List.take_zero.{1}, @List.take_nil.{0}, @List.take_nil.{1}, @dcallV_fn, @dcallV_fnc, @dcallV_clo, @dcallV_yld, @List.drop_zero.{0}, @List.drop_zero.{1}, @List.drop_succ_cons.{0}, @List.drop_succ_cons.{1}, @List.take_succ_cons.{0}, @List.take_succ_cons.{1}, @List.not_mem_nil.{0}, @List.not_mem_nil.{1}, @false_implies, @implies_true.{0}, @implies_true.{1}, @decide_true, @decide_false, @decide_eq_true_eq, @Int.toNat_natCast, @Int.natCast_nonneg, @and_self, @and_true, @true_and, @List.foldlM_cons.{0, 0, 0}, @List.foldlM_cons.{1, 1, 1}, @List.foldlM_nil.{0, 0, 0}, @List.foldlM_nil.{1, 1, 1}, @List.length_append.{0}, @List.length_append.{1}, @List.length_map.{0, 0}, @List.length_map.{1, 1}, @Nat.le_refl, @List.all_map.{0, 0}, @List.all_map.{1, 1}, @Function.comp_def.{0, 0, 0}, @Function.comp_def.{1, 1, 1}, @Bool.false_beq, @Bool.true_beq, @gt_iff_lt.{0}, @gt_iff_lt.{1}, @ge_iff_le.{0}, @ge_iff_le.{1}, @cast_lit, @Bool.not_eq_true, @Int.toNat_zero, @Nat.zero_mul, @and_false, @false_and, @or_false, @or_true, @true_or, @false_or, @Int.le_refl, @Int.lt_irrefl, @List.mem_cons.{0}, @List.mem_cons.{1}, @forall_eq_or_imp.{0}, @forall_eq_or_imp.{1}, @forall_eq.{0}, @forall_eq.{1}, @List.append_assoc.{0}, @List.append_assoc.{1}, @List.length_set.{0}, @List.length_set.{1}, @List.set_set.{0}, @List.set_set.{1}, @DOut.val.injEq, @one_bslc, @dc_fn⟩
end Go.Deepv
namespace Go.Deepv
abbrev CallG := Cle → List DV → List Res → Option DOut
def opK (r : Option DOut) (a : List DV) (d : Option Nat) (k : List DV → List Res → Option DRun) : Option DRun := match r with
 | some (.val v h') => k (put a d v) h'
 | some (.pan v h') => some (.pan v, a, h')
 | none => none
def seqK (r : Option DRun) (k : List DV → List Res → Option DRun) : Option DRun := match r with
 | some (.normal, a', h') => k a' h'
 | r => r
def blkK (id : Nat) (r : Option DRun) : Option DRun := match r with
 | some (.exit i, a', h') => if i = id then some (.normal, a', h') else some (.exit i, a', h')
 | r => r
def drawK (r : Option DRun) (k : DRun → Bool) : Option DRun := match r with
 | some (.normal, a', h') => if k (.normal, a', h') = true then some (.normal, a', h') else none
 | _ => none
def bodK (F : AFunc) (n : Nat) (r : Option DRun) : Option DOut := match r with
 | some (.pan v, _, h') => if v.low n then some (.pan v (h'.take n)) else none
 | some (.normal, a, h') | some (.ret, a, h') => match F.results.mapM (dresult a h') with
  | some rs => if (dresults (F.keep == 0 && F.coe) rs).low (n + F.keep) then some (.val (dresults (F.keep == 0 && F.coe) rs) (h'.take (n + F.keep))) else none
  | none => none
 | _ => none
def rndK (n : Nat) (hd ex : List Bool) (K : List DV → List Res → Option DRun) (r : Option DRun) : Option DRun := match r with
 | some (.normal, a', h') => if DV.lows n (mask hd a') then K (mask hd a') (h'.take n) else none
 | some (.pan v, a', h') => some (.pan v, a', h')
 | some (e, a', h') => if DV.lows n (mask ex a') then some (e, mask ex a', h'.take n) else none
 | none => none
def bySlot (a : List DV) (t : Nat) (x : Option DV) (P Q R : List DV → Option DRun) : Option DRun := match x with
 | some (.d (.bool b)) => if b = true then P (a.set t (.d (.bool true))) else Q (a.set t (.d (.bool false)))
 | some (.d (.tup [])) => R a
 | _ => none
def setOpd (a : List DV) (c : Opd) (v : DV) : List DV := match c with
 | .tmp t => a.set t v
 | _ => a
def byOpd (a : List DV) (c : Opd) (x : DV) (P Q : List DV → Option DRun) : Option DRun := match x with
 | .d (.bool b) => if b = true then P (setOpd a c (.d (.bool true))) else Q (setOpd a c (.d (.bool false)))
 | _ => none
def runT (call : CallG) (d : Option Nat) (o : DOp) (r : List DOper) (h : List Res) (a : List DV) : Option DRun := opK (dop call o a h) a d (dops call r)
def skipT (call : CallG) (d : Option Nat) (r : List DOper) (h : List Res) (a : List DV) : Option DRun := dops call r (put a d (.d (.tup []))) h
noncomputable def exT (call : CallG) (loop : LoopF) (c : ACode) (h : List Res) (a : List DV) : Option DRun := dexec call loop c a h
def pickT (k : List DV → List Res → Option DRun) (d : Option Nat) (x : Opd) (h : List Res) (a : List DV) : Option DRun := k (put a d (ev a x)) h
section
variable (call : CallG) (loop : LoopF)
theorem go_none (d : Option Nat) (o : DOp) (r : List DOper) (a : List DV) (h : List Res) : dops call (⟨d, o, none⟩ :: r) a h = opK (dop call o a h) a d (dops call r) := by
 simp only [dops, wants]
 cases dop call o a h with
 | none => rfl
 | some x => cases x <;> rfl
theorem set_get {a : List DV} {t : Nat} {v : DV} (h : a[t]? = some v) : a.set t v = a := by
 apply List.ext_getElem?
 intro i
 by_cases hi : t = i
 ·subst hi
  have : t < a.length := (List.getElem?_eq_some_iff.1 h).1
  rw [h, List.getElem?_set_self this]
 ·rw [List.getElem?_set_ne hi]
theorem by_eq {a : List DV} {t : Nat} {P Q R : List DV → Option DRun} : bySlot a t a[t]? P Q R = match a[t]? with
  | some (.d (.bool b)) => if b = true then P a else Q a
  | some (.d (.tup [])) => R a
  | _ => none := by
 generalize hx : a[t]? = x
 unfold bySlot
 split
 ·rename_i b
  have hs := set_get hx
  cases b <;> simp [hs]
 ·rfl
 ·rename_i h1 h2
  rfl
theorem go_true (d : Option Nat) (o : DOp) (t : Nat) (r : List DOper) (a : List DV) (h : List Res) : dops call (⟨d, o, some (t, true)⟩ :: r) a h = bySlot a t a[t]? (runT call d o r h) (skipT call d r h) (skipT call d r h) := by
 unfold runT skipT
 rw [by_eq, ← go_none]
 simp only [dops, wants]
 split
 ·rename_i h1
  split at h1
  ·rename_i b hb; rw [hb]; cases b <;> simp_all
  ·cases h1
  ·cases h1
 ·rename_i h1
  split at h1
  ·rename_i b hb; rw [hb]; cases b <;> simp_all
  ·rename_i hb; rw [hb]
  ·cases h1
 ·rename_i h1
  split at h1
  ·cases h1
  ·cases h1
  ·rename_i h2 h3
   split
   ·rename_i hb; exact absurd hb (h2 _)
   ·rename_i hb; exact absurd hb h3
   ·rfl
theorem go_false (d : Option Nat) (o : DOp) (t : Nat) (r : List DOper) (a : List DV) (h : List Res) : dops call (⟨d, o, some (t, false)⟩ :: r) a h = bySlot a t a[t]? (skipT call d r h) (runT call d o r h) (skipT call d r h) := by
 unfold runT skipT
 rw [by_eq, ← go_none]
 simp only [dops, wants]
 split
 ·rename_i h1
  split at h1
  ·rename_i b hb; rw [hb]; cases b <;> simp_all
  ·cases h1
  ·cases h1
 ·rename_i h1
  split at h1
  ·rename_i b hb; rw [hb]; cases b <;> simp_all
  ·rename_i hb; rw [hb]
  ·cases h1
 ·rename_i h1
  split at h1
  ·cases h1
  ·cases h1
  ·rename_i h2 h3
   split
   ·rename_i hb; exact absurd hb (h2 _)
   ·rename_i hb; exact absurd hb h3
   ·rfl
theorem opd_set {a : List DV} {c : Opd} {b : Bool} (h : ev a c = .d (.bool b)) : setOpd a c (.d (.bool b)) = a := by
 cases c with
 | tmp t =>
  simp only [ev] at h
  simp only [setOpd]
  cases hx : a[t]? with
  | none => exact List.set_eq_of_length_le (by simpa using hx)
  | some v =>
   have : v = .d (.bool b) := by simpa [List.getD, hx] using h
   exact set_get (this ▸ hx)
 | _ => rfl
theorem op_pick (d : Option Nat) (c x y : Opd) (k : List DV → List Res → Option DRun) (a : List DV) (h : List Res) : opK (dop call (.pick c x y) a h) a d k = byOpd a c (ev a c) (pickT k d x h) (pickT k d y h) := by
 unfold pickT
 simp only [dop]
 generalize hx : ev a c = v
 unfold byOpd
 split
 ·rename_i b
  cases b
  ·simp only [opd_set hx, opK, Bool.false_eq_true, if_false]
  ·simp only [opd_set hx, opK, if_true]
 ·rename_i h1
  cases v with
  | d v => cases v with
   | bool b => exact absurd rfl (h1 b)
   | _ => rfl
  | _ => rfl
theorem ex_seq (c d : ACode) (a : List DV) (h : List Res) : dexec call loop (.seq c d) a h = seqK (dexec call loop c a h) (dexec call loop d) := by
 rw [dexec]
 unfold seqK
 cases dexec call loop c a h with
 | none => rfl
 | some r => obtain ⟨e, a1, h1⟩ := r; cases e <;> rfl
theorem ex_blk (id : Nat) (c : ACode) (a : List DV) (h : List Res) : dexec call loop (.block id c) a h = blkK id (dexec call loop c a h) := by
 rw [dexec]
 unfold blkK
 cases dexec call loop c a h with
 | none => rfl
 | some r => obtain ⟨e, a1, h1⟩ := r; cases e <;> rfl
theorem ex_cond (c : Opd) (t e : ACode) (a : List DV) (h : List Res) : dexec call loop (.cond c t e) a h = byOpd a c (ev a c) (exT call loop t h) (exT call loop e h) := by
 unfold exT
 simp only [dexec]
 generalize hx : ev a c = v
 unfold byOpd
 split
 ·rename_i b
  cases b
  ·simp only [opd_set hx, Bool.false_eq_true, if_false]
  ·simp only [opd_set hx, if_true]
 ·rename_i h1
  cases v with
  | d v => cases v with
   | bool b => exact absurd rfl (h1 b)
   | _ => rfl
  | _ => rfl
theorem ex_draw (ops : List DOper) (alts : List (List DOper)) (a : List DV) (h : List Res) : dexec call loop (.draw ops alts) a h = drawK (dops call ops a h) (same call alts a h) := by
 rw [dexec]
 unfold drawK
 cases dops call ops a h with
 | none => rfl
 | some r => obtain ⟨e, a1, h1⟩ := r; cases e <;> rfl
theorem bod_eq (F : AFunc) (args : List DV) (h : List Res) : dbody call loop F args h = bodK F h.length (drun call loop F (args ++ List.replicate (F.ntmps - args.length) (.d .undef)) h) := rfl
theorem drun_no {F : AFunc} (hg : F.guard = none) (a : List DV) (h : List Res) : drun call loop F a h = dexec call loop F.body a h := by
 simp [drun, hg]
theorem same_nil (a : List DV) (h : List Res) (r : DRun) : same call [] a h r = true := by simp [same]
end
theorem L_rnd {E : Env} {n : Nat} {hd ex : List Bool} {c : ACode} {K : List DV → List Res → Option DRun} (hK : L E n true hd ex c = K) (a : List DV) (h : List Res) :
  K a h = rndK n hd ex K (dexec (Dc E) (L E) c a h) := L_round hK a h
section
variable (a : List DV) (h : List Res) (d : Option Nat) (k : List DV → List Res → Option DRun)
theorem opK_v (v : DV) (h' : List Res) : opK (some (.val v h')) a d k = k (put a d v) h' := rfl
theorem opK_p (v : DV) (h' : List Res) : opK (some (.pan v h')) a d k = some (.pan v, a, h') := rfl
theorem opK_n : opK none a d k = none := rfl
theorem seqK_o : seqK (some (.normal, a, h)) k = k a h := rfl
theorem seqK_r : seqK (some (.ret, a, h)) k = some (.ret, a, h) := rfl
theorem seqK_e (i : Nat) : seqK (some (.exit i, a, h)) k = some (.exit i, a, h) := rfl
theorem seqK_p (v : DV) : seqK (some (.pan v, a, h)) k = some (.pan v, a, h) := rfl
theorem seqK_n : seqK none k = none := rfl
theorem blkK_o (i : Nat) : blkK i (some (.normal, a, h)) = some (.normal, a, h) := rfl
theorem blkK_r (i : Nat) : blkK i (some (.ret, a, h)) = some (.ret, a, h) := rfl
theorem blkK_e (i j : Nat) : blkK i (some (.exit j, a, h)) = if j = i then some (.normal, a, h) else some (.exit j, a, h) := rfl
theorem blkK_p (i : Nat) (v : DV) : blkK i (some (.pan v, a, h)) = some (.pan v, a, h) := rfl
theorem blkK_n (i : Nat) : blkK i none = none := rfl
theorem drawK_o (q : DRun → Bool) : drawK (some (.normal, a, h)) q = if q (.normal, a, h) = true then some (.normal, a, h) else none := rfl
theorem drawK_p (q : DRun → Bool) (v : DV) : drawK (some (.pan v, a, h)) q = none := rfl
theorem drawK_n (q : DRun → Bool) : drawK none q = none := rfl
def outK (F : AFunc) (n : Nat) (h' : List Res) (r : Option (List DV)) : Option DOut := match r with
 | some rs => if (dresults (F.keep == 0 && F.coe) rs).low (n + F.keep) then some (.val (dresults (F.keep == 0 && F.coe) rs) (h'.take (n + F.keep))) else none
 | none => none
theorem bodK_o (F : AFunc) (n : Nat) : bodK F n (some (.normal, a, h)) = outK F n h (F.results.mapM (dresult a h)) := rfl
theorem bodK_r (F : AFunc) (n : Nat) : bodK F n (some (.ret, a, h)) = outK F n h (F.results.mapM (dresult a h)) := rfl
theorem bodK_p (F : AFunc) (n : Nat) (v : DV) : bodK F n (some (.pan v, a, h)) = if v.low n then some (.pan v (h.take n)) else none := rfl
theorem bodK_n (F : AFunc) (n : Nat) : bodK F n none = none := rfl
theorem outK_s (F : AFunc) (n : Nat) (rs : List DV) : outK F n h (some rs) = if (dresults (F.keep == 0 && F.coe) rs).low (n + F.keep) then some (.val (dresults (F.keep == 0 && F.coe) rs) (h.take (n + F.keep))) else none := rfl
theorem rndK_o (n : Nat) (hd ex : List Bool) : rndK n hd ex k (some (.normal, a, h)) = if DV.lows n (mask hd a) then k (mask hd a) (h.take n) else none := rfl
theorem rndK_r (n : Nat) (hd ex : List Bool) : rndK n hd ex k (some (.ret, a, h)) = if DV.lows n (mask ex a) then some (.ret, mask ex a, h.take n) else none := rfl
theorem rndK_e (n : Nat) (hd ex : List Bool) (i : Nat) : rndK n hd ex k (some (.exit i, a, h)) = if DV.lows n (mask ex a) then some (.exit i, mask ex a, h.take n) else none := rfl
theorem rndK_p (n : Nat) (hd ex : List Bool) (v : DV) : rndK n hd ex k (some (.pan v, a, h)) = some (.pan v, a, h) := rfl
theorem rndK_n (n : Nat) (hd ex : List Bool) : rndK n hd ex k none = none := rfl
theorem set_t (t : Nat) (v : DV) : setOpd a (.tmp t) v = a.set t v := rfl
theorem set_c (c : FV) (v : DV) : setOpd a (.con c) v = a := rfl
theorem run_eq (call : CallG) (o : DOp) (r : List DOper) : runT call d o r h a = opK (dop call o a h) a d (dops call r) := rfl
theorem skip_eq (call : CallG) (r : List DOper) : skipT call d r h a = dops call r (put a d (.d (.tup []))) h := rfl
theorem exT_eq (call : CallG) (loop : LoopF) (c : ACode) : exT call loop c h a = dexec call loop c a h := rfl
theorem pick_eq (x : Opd) : pickT k d x h a = k (put a d (ev a x)) h := rfl
end
theorem L_go (E : Env) (n : Nat) (hd ex : List Bool) (c : ACode) (a : List DV) (h : List Res) : L E n true hd ex c a h = rndK n hd ex (L E n true hd ex c) (dexec (Dc E) (L E) c a h) := L_rnd rfl a h
theorem D_ext {E : Env} {f : FuncId} {F : List DV → List Res → Option DOut} (he : E.ext f = some F) (args : List DV) (h : List Res) : D E f args h = F args h := by
 rw [D_eq]
 unfold dcallF
 rw [he]
section
variable {p : Prop} [Decidable p]
theorem opK_ite (x y : Option DOut) (a : List DV) (d : Option Nat) (k : List DV → List Res → Option DRun) : opK (if p then x else y) a d k = if p then opK x a d k else opK y a d k := by split <;> rfl
theorem seqK_ite (x y : Option DRun) (k : List DV → List Res → Option DRun) : seqK (if p then x else y) k = if p then seqK x k else seqK y k := by split <;> rfl
theorem blkK_ite (i : Nat) (x y : Option DRun) : blkK i (if p then x else y) = if p then blkK i x else blkK i y := by split <;> rfl
theorem drawK_ite (x y : Option DRun) (k : DRun → Bool) : drawK (if p then x else y) k = if p then drawK x k else drawK y k := by split <;> rfl
theorem bodK_ite (F : AFunc) (n : Nat) (x y : Option DRun) : bodK F n (if p then x else y) = if p then bodK F n x else bodK F n y := by split <;> rfl
theorem rndK_ite (n : Nat) (hd ex : List Bool) (K : List DV → List Res → Option DRun) (x y : Option DRun) : rndK n hd ex K (if p then x else y) = if p then rndK n hd ex K x else rndK n hd ex K y := by split <;> rfl
theorem omap_ite {α β : Type} (f : α → β) (x y : Option α) : Option.map f (if p then x else y) = if p then Option.map f x else Option.map f y := by split <;> rfl
end
def insD : Option Nat → List Nat → List Nat
 | some d, D => d :: D
 | none, D => D
def memD : List Nat → Nat → Bool
 | [], _ => false
 | x :: l, t => if x = t then true else memD l t
def splitG (t : Nat) (b : Bool) : List Nat → List DOper → List DOper × List DOper
 | _, [] => ([], [])
 | D, ⟨d, o, some (t', b')⟩ :: r => if d ≠ some t ∧ (t' = t ∧ b' = b ∨ t' ≠ t ∧ memD D t' = true) then (⟨d, o, some (t', b')⟩ :: (splitG t b (insD d D) r).1, (splitG t b (insD d D) r).2) else ([], ⟨d, o, some (t', b')⟩ :: r)
 | _, ⟨d, .pick (.tmp t') x y, none⟩ :: r => if t' = t then ([⟨d, .pick (.tmp t') x y, none⟩], r) else ([], ⟨d, .pick (.tmp t') x y, none⟩ :: r)
 | _, ⟨d, o, none⟩ :: r => ([], ⟨d, o, none⟩ :: r)
def onG (t : Nat) (on : Bool) : List DOper → List DOper
 | [] => []
 | ⟨d, o, some (t', b')⟩ :: r => (if t' = t then (if on = true then ⟨d, o, none⟩ else ⟨d, .mv (.con (.tup [])), none⟩) else ⟨d, o, some (t', b')⟩) :: onG t on r
 | ⟨d, o, none⟩ :: r => ⟨d, o, none⟩ :: onG t on r
def iteD (c : Bool) (x y : DV) : DV := if c = true then x else y
def zipD (c : Bool) : List DV → List DV → List DV
 | x :: xs, y :: ys => iteD c x y :: zipD c xs ys
 | xs, ys => if c = true then xs else ys
theorem zipD_eq (c : Bool) : ∀ xs ys : List DV, zipD c xs ys = if c = true then xs else ys
 | x :: xs, y :: ys => by
  simp only [zipD, zipD_eq c xs ys, iteD]
  cases c <;> rfl
 | [], _ => by simp [zipD]
 | _ :: _, [] => by simp [zipD]
def joinK (c : Bool) (r1 r2 : Option DRun) (k : List DV → List Res → Option DRun) : Option DRun := if c = true then seqK r1 k else seqK r2 k
def runG (call : CallG) (ops : List DOper) (h : List Res) (a : List DV) : Option DRun := dops call ops a h
def grpK (a : List DV) (t : Nat) (x : Option DV) (P Q R : List DV → Option DRun) (k : List DV → List Res → Option DRun) : Option DRun := match x with
 | some (.d (.bool c)) => joinK c (P (a.set t (.d (.bool true)))) (Q (a.set t (.d (.bool false)))) k
 | some (.d (.tup [])) => seqK (R a) k
 | _ => none
def grpS (call : CallG) (p : List DOper × List DOper) (t : Nat) (b : Bool) (a : List DV) (h : List Res) : Option DRun :=
 grpK a t a[t]? (runG call (onG t b p.1) h) (runG call (onG t (!b) p.1) h) (runG call (onG t false p.1) h) (dops call p.2)
theorem splitG_app (t : Nat) (b : Bool) : ∀ l D, (splitG t b D l).1 ++ (splitG t b D l).2 = l
 | [], _ => rfl
 | ⟨d, o, some (t', b')⟩ :: r, D => by
  simp only [splitG]
  split
  ·simp [splitG_app t b r]
  ·rfl
 | ⟨d, o, none⟩ :: r, D => by
  unfold splitG
  split <;> try simp_all
  split <;> simp_all
theorem dops_app (call : CallG) : ∀ (x y : List DOper) (a : List DV) (h : List Res), dops call (x ++ y) a h = seqK (dops call x a h) (dops call y)
 | [], y, a, h => rfl
 | o :: x, y, a, h => by
  simp only [List.cons_append, dops]
  cases wants a o.guard with
  | none => rfl
  | some w => cases w with
   | false => exact dops_app call x y _ _
   | true =>
    simp only
    cases dop call o.op a h with
    | none => rfl
    | some r => cases r with
     | val v h' => exact dops_app call x y _ _
     | pan v h' => rfl
theorem put_get {a : List DV} {d : Option Nat} {t : Nat} {v : DV} (hd : d ≠ some t) : (put a d v)[t]? = a[t]? := by
 cases d with
 | none => rfl
 | some d => simp only [put]; rw [List.getElem?_set_ne (fun e => hd (by rw [e]))]
theorem onG_eq (call : CallG) (t : Nat) (b c : Bool) : ∀ (l : List DOper) (D : List Nat) (a : List DV) (h : List Res), a[t]? = some (.d (.bool c)) → dops call (splitG t b D l).1 a h = dops call (onG t (c == b) (splitG t b D l).1) a h
 | [], D, a, h, ha => rfl
 | ⟨d, o, some (t', b')⟩ :: r, D, a, h, ha => by
  simp only [splitG]
  split
  ·rename_i hc
   obtain ⟨hd, hc⟩ := hc
   have ih := fun v (h' : List Res) => onG_eq call t b c r (insD d D) (put a d v) h' (by rw [put_get hd, ha])
   rcases hc with ⟨rfl, rfl⟩ | ⟨hne, _⟩
   ·simp only [onG, dops, wants, ha, if_true]
    cases hcb : c == b' with
    | true =>
     rw [hcb] at ih
     simp only [if_true, wants]
     cases dop call o a h with
     | none => rfl
     | some q => cases q with
      | val v h' => exact ih v h'
      | pan v h' => rfl
    | false =>
     rw [hcb] at ih
     simp only [Bool.false_eq_true, if_false, wants, dop, ev]
     exact ih _ _
   ·simp only [onG, hne, if_false, dops]
    split
    ·cases dop call o a h with
     | none => rfl
     | some q => cases q with
      | val v h' => exact ih v h'
      | pan v h' => rfl
    ·exact ih _ _
    ·rfl
  ·rfl
 | ⟨d, o, none⟩ :: r, D, a, h, ha => by
  unfold splitG
  split <;> try simp_all [onG]
  split <;> simp_all [onG]
theorem onG_tup (call : CallG) (t : Nat) (b : Bool) : ∀ (l : List DOper) (D : List Nat) (a : List DV) (h : List Res), a[t]? = some (.d (.tup [])) → dops call (splitG t b D l).1 a h = dops call (onG t false (splitG t b D l).1) a h
 | [], D, a, h, ha => rfl
 | ⟨d, o, some (t', b')⟩ :: r, D, a, h, ha => by
  simp only [splitG]
  split
  ·rename_i hc
   obtain ⟨hd, hc⟩ := hc
   have ih := fun v (h' : List Res) => onG_tup call t b r (insD d D) (put a d v) h' (by rw [put_get hd, ha])
   rcases hc with ⟨rfl, rfl⟩ | ⟨hne, _⟩
   ·simp only [onG, dops, wants, ha, Bool.false_eq_true, if_false, if_true, dop, ev]
    exact ih _ _
   ·simp only [onG, hne, if_false, dops]
    split
    ·cases dop call o a h with
     | none => rfl
     | some q => cases q with
      | val v h' => exact ih v h'
      | pan v h' => rfl
    ·exact ih _ _
    ·rfl
  ·rfl
 | ⟨d, o, none⟩ :: r, D, a, h, ha => by
  unfold splitG
  split <;> try simp_all [onG]
  split <;> simp_all [onG]
theorem go_grp (call : CallG) (d : Option Nat) (o : DOp) (t : Nat) (b : Bool) (r : List DOper) (a : List DV) (h : List Res) (hd : (d == some t) = false) :
  dops call (⟨d, o, some (t, b)⟩ :: r) a h = grpS call (splitG t b [] (⟨d, o, some (t, b)⟩ :: r)) t b a h := by
 conv => lhs; rw [← splitG_app t b (⟨d, o, some (t, b)⟩ :: r) [], dops_app]
 unfold grpS grpK runG
 have hd' : d ≠ some t := by simpa using hd
 generalize hx : a[t]? = x
 split
 ·rename_i c
  have hs := set_get hx
  rw [onG_eq call t b c _ [] a h hx]
  unfold joinK
  cases c <;> cases b <;> simp [hs]
 ·rw [onG_tup call t b _ [] a h hx]
 ·rename_i h1 h2
  simp only [splitG, ne_eq, hd', not_false_eq_true, and_self, true_and, true_or, if_true, dops, wants, hx]
  rfl
theorem dst_ne (x y : Nat) : ((some x : Option Nat) == some y) = (x == y) := rfl
theorem dst_no (y : Nat) : ((none : Option Nat) == some y) = false := rfl
section
variable (a : List DV) (h : List Res) (k : List DV → List Res → Option DRun) (c : Bool) (r1 r2 : Option DRun)
theorem run_g (call : CallG) (ops : List DOper) : runG call ops h a = dops call ops a h := rfl
theorem grpS_eq (call : CallG) (g r : List DOper) (t : Nat) (b : Bool) : grpS call (g, r) t b a h = grpK a t a[t]? (runG call (onG t b g) h) (runG call (onG t (!b) g) h) (runG call (onG t false g) h) (dops call r) := rfl
theorem joinK_t : joinK true r1 r2 k = seqK r1 k := rfl
theorem joinK_f : joinK false r1 r2 k = seqK r2 k := rfl
theorem joinK_oo (a1 a2 : List DV) (h1 h2 : List Res) : joinK c (some (.normal, a1, h1)) (some (.normal, a2, h2)) k = k (zipD c a1 a2) (if c = true then h1 else h2) := by
 rw [zipD_eq]; unfold joinK seqK; cases c <;> rfl
theorem joinK_n1 : joinK c none r2 k = if c = true then none else seqK r2 k := rfl
theorem joinK_n2 : joinK c r1 none k = if c = true then seqK r1 k else none := rfl
theorem joinK_p1 (v : DV) : joinK c (some (.pan v, a, h)) r2 k = if c = true then some (.pan v, a, h) else seqK r2 k := rfl
theorem joinK_p2 (v : DV) : joinK c r1 (some (.pan v, a, h)) k = if c = true then seqK r1 k else some (.pan v, a, h) := rfl
theorem joinK_i1 {p : Prop} [Decidable p] (x y : Option DRun) : joinK c (if p then x else y) r2 k = if p then joinK c x r2 k else joinK c y r2 k := by split <;> rfl
theorem joinK_i2 {p : Prop} [Decidable p] (x y : Option DRun) : joinK c r1 (if p then x else y) k = if p then joinK c r1 x k else joinK c r1 y k := by split <;> rfl
theorem zipD_c (x y : DV) (xs ys : List DV) : zipD c (x :: xs) (y :: ys) = iteD c x y :: zipD c xs ys := rfl
theorem zipD_n : zipD c [] [] = [] := by simp [zipD]
theorem iteD_s (x : DV) : iteD c x x = x := by simp [iteD]
theorem iteD_and (p : Bool) : iteD c (.d (.bool p)) (.d (.bool false)) = .d (.bool (c && p)) := by cases c <;> rfl
theorem iteD_or (p : Bool) : iteD c (.d (.bool true)) (.d (.bool p)) = .d (.bool (c || p)) := by cases c <;> rfl
theorem iteD_imp (p : Bool) : iteD c (.d (.bool p)) (.d (.bool true)) = .d (.bool (!c || p)) := by cases c <;> rfl
theorem iteD_nand (p : Bool) : iteD c (.d (.bool false)) (.d (.bool p)) = .d (.bool (!c && p)) := by cases c <;> rfl
theorem iteD_tf : iteD c (.d (.bool true)) (.d (.bool false)) = .d (.bool c) := by cases c <;> rfl
theorem iteD_ft : iteD c (.d (.bool false)) (.d (.bool true)) = .d (.bool (!c)) := by cases c <;> rfl
end
def slk : List (Nat × DV) → Nat → DV
 | [], _ => .d .undef
 | (k, v) :: r, t => if k = t then v else slk r t
def den (n : Nat) (s : List (Nat × DV)) : List DV := (List.range n).map (slk s)
def keepS : List Bool → Nat → List (Nat × DV) → List (Nat × DV)
 | [], _, _ => []
 | true :: m, k, s => (k, slk s k) :: keepS m (k + 1) s
 | false :: m, k, s => keepS m (k + 1) s
def joinS (c : Bool) : List (Nat × DV) → List (Nat × DV) → List (Nat × DV)
 | (k, x) :: r, (k', y) :: r' => if k = k' then (k, iteD c x y) :: joinS c r r' else if c = true then (k, x) :: r else (k', y) :: r'
 | s, s' => if c = true then s else s'
def idxS : Nat → List DV → List (Nat × DV)
 | _, [] => []
 | k, x :: xs => (k, x) :: idxS (k + 1) xs
def lowS (n : Nat) : List (Nat × DV) → Bool
 | [] => true
 | (_, v) :: r => v.low n && lowS n r
section
variable (n : Nat) (s : List (Nat × DV))
theorem den_len : (den n s).length = n := by simp [den]
theorem den_get (t : Nat) : (den n s)[t]? = if t < n then some (slk s t) else none := by
 simp only [den, List.getElem?_map]
 split
 ·rename_i h; rw [List.getElem?_range h]; rfl
 ·rename_i h; rw [List.getElem?_eq_none (by simpa using h)]; rfl
theorem den_getD (t : Nat) (d : DV) : (den n s).getD t d = if t < n then slk s t else d := by
 rw [List.getD_eq_getElem?_getD, den_get]
 split <;> rfl
theorem den_t (t : Nat) : ev (den n s) (.tmp t) = if t < n then slk s t else .d .undef := den_getD n s t _
theorem den_c (v : FV) : ev (den n s) (.con v) = .d v := rfl
theorem den_f (g : FuncId) : ev (den n s) (.fn g) = .d (.func (.func g) [] []) := rfl
theorem den_set (d : Nat) (v : DV) : (den n s).set d v = den n ((d, v) :: s) := by
 apply List.ext_getElem?
 intro t
 rw [den_get]
 simp only [slk]
 by_cases ht : d = t
 ·subst ht
  by_cases hd : d < n
  ·rw [List.getElem?_set_self (by rw [den_len]; exact hd)]; simp [hd]
  ·rw [List.getElem?_eq_none (by simp [den_len]; omega)]; simp [hd]
 ·rw [List.getElem?_set_ne ht, den_get]; simp [ht]
theorem den_put (d : Nat) (v : DV) : put (den n s) (some d) v = den n ((d, v) :: s) := den_set n s d v
theorem den_pno (v : DV) : put (den n s) none v = den n s := rfl
theorem look_keep (m : List Bool) : ∀ (k t : Nat), slk (keepS m k s) t = if k ≤ t ∧ m[t - k]? = some true then slk s t else .d .undef := by
 induction m with
 | nil => intro k t; simp [keepS, slk]
 | cons b m ih =>
  intro k t
  have hstep : ∀ (h : k < t), (b :: m)[t - k]? = m[t - (k + 1)]? := fun h => by
   rw [show t - k = (t - (k + 1)) + 1 from by omega, List.getElem?_cons_succ]
  cases b with
  | true =>
   simp only [keepS, slk, ih]
   by_cases h1 : k = t
   ·subst h1; simp
   ·by_cases h2 : k < t
    ·have e1 : k + 1 ≤ t := h2
     have e2 : k ≤ t := by omega
     simp only [h1, if_false, hstep h2, e1, e2, true_and]
    ·have e1 : ¬ k + 1 ≤ t := by omega
     have e2 : ¬ k ≤ t := by omega
     simp only [h1, if_false, e1, e2, false_and]
  | false =>
   simp only [keepS, ih]
   by_cases h1 : k = t
   ·subst h1; simp; omega
   ·by_cases h2 : k < t
    ·have e1 : k + 1 ≤ t := h2
     have e2 : k ≤ t := by omega
     simp only [hstep h2, e1, e2, true_and]
    ·have e1 : ¬ k + 1 ≤ t := by omega
     have e2 : ¬ k ≤ t := by omega
     simp only [e1, e2, false_and, if_false]
theorem mask_get (m : List Bool) : ∀ (a : List DV) (t : Nat), (mask m a)[t]? = (a[t]?).map fun x => if m[t]? = some true then x else .d .undef := by
 induction m with
 | nil =>
  intro a
  induction a with
  | nil => intro t; simp [mask]
  | cons x xs ih =>
   intro t
   simp only [mask]
   cases t with
   | zero => simp
   | succ t => simpa using ih t
 | cons b m ih =>
  intro a t
  cases a with
  | nil => cases b <;> simp [mask]
  | cons x xs =>
   cases b <;> cases t <;> simp [mask, ih]
theorem den_mask (m : List Bool) : mask m (den n s) = den n (keepS m 0 s) := by
 apply List.ext_getElem?
 intro t
 rw [mask_get, den_get, den_get, look_keep]
 by_cases ht : t < n
 ·simp [ht]
 ·simp [ht]
theorem look_join (c : Bool) : ∀ (s s' : List (Nat × DV)) (t : Nat), slk (joinS c s s') t = iteD c (slk s t) (slk s' t)
 | (k, x) :: r, (k', y) :: r', t => by
  simp only [joinS]
  split
  ·rename_i h
   subst h
   simp only [slk, look_join c r r' t]
   split <;> rfl
  ·cases c <;> simp [iteD]
 | [], s', t => by cases c <;> simp [joinS, iteD]
 | _ :: _, [], t => by cases c <;> simp [joinS, iteD]
theorem den_zip (c : Bool) (s' : List (Nat × DV)) : zipD c (den n s) (den n s') = den n (joinS c s s') := by
 rw [zipD_eq]
 unfold den
 rw [show slk (joinS c s s') = fun t => iteD c (slk s t) (slk s' t) from funext (look_join c s s')]
 cases c <;> rfl
theorem joinS_s (c : Bool) : joinS c s s = s := by
 induction s with
 | nil => simp [joinS]
 | cons p r ih => obtain ⟨k, x⟩ := p; simp [joinS, ih, iteD]
theorem joinS_c (c : Bool) (k k' : Nat) (x y : DV) (r r' : List (Nat × DV)) : joinS c ((k, x) :: r) ((k', y) :: r') = if k = k' then (k, iteD c x y) :: joinS c r r' else if c = true then (k, x) :: r else (k', y) :: r' := rfl
theorem look_low {m : Nat} : ∀ {s : List (Nat × DV)}, lowS m s = true → ∀ t, (slk s t).low m = true
 | [], _, t => rfl
 | (k, v) :: r, h, t => by
  simp only [lowS, Bool.and_eq_true] at h
  simp only [slk]
  split
  ·exact h.1
  ·exact look_low h.2 t
theorem lows_all {m : Nat} : ∀ {a : List DV}, (∀ x ∈ a, x.low m = true) → DV.lows m a = true
 | [], _ => rfl
 | x :: a, h => by
  simp only [DV.lows, Bool.and_eq_true]
  exact ⟨h x (by simp), lows_all fun y hy => h y (by simp [hy])⟩
theorem den_low {m : Nat} (h : lowS m s = true) : DV.lows m (den n s) = true := lows_all fun x hx => by
 simp only [den, List.mem_map] at hx
 obtain ⟨t, _, rfl⟩ := hx
 exact look_low h t
theorem look_idx : ∀ (xs : List DV) (k t : Nat), slk (idxS k xs) t = if k ≤ t then xs.getD (t - k) (.d .undef) else .d .undef
 | [], k, t => by simp [idxS, slk]
 | x :: xs, k, t => by
  simp only [idxS, slk, look_idx xs]
  by_cases h : k = t
  ·subst h; simp
  ·by_cases h2 : k < t
   ·have e1 : k + 1 ≤ t := h2
    have e2 : k ≤ t := by omega
    rw [if_neg h, if_pos e1, if_pos e2, show t - k = (t - (k + 1)) + 1 from by omega]
    rfl
   ·rw [if_neg h, if_neg (by omega), if_neg (by omega)]
theorem den_args (xs : List DV) (hn : xs.length ≤ n) : xs ++ List.replicate (n - xs.length) (.d .undef) = den n (idxS 0 xs) := by
 apply List.ext_getElem?
 intro t
 rw [den_get, look_idx]
 by_cases h : t < n
 ·simp only [h, if_true, Nat.zero_le, Nat.sub_zero]
  by_cases h2 : t < xs.length
  ·rw [List.getElem?_append_left h2, List.getElem?_eq_getElem h2]; simp [h2]
  ·rw [List.getElem?_append_right (by omega), List.getElem?_replicate]
   rw [if_pos (by omega)]
   simp [List.getD, List.getElem?_eq_none (by omega : xs.length ≤ t)]
 ·rw [List.getElem?_eq_none (by simp; omega)]; simp [h]
theorem bod_den (call : CallG) (loop : LoopF) (F : AFunc) (args : List DV) (h : List Res) (hg : F.guard = none) (hn : decide (args.length ≤ F.ntmps) = true) : dbody call loop F args h = bodK F h.length (dexec call loop F.body (den F.ntmps (idxS 0 args)) h) := by
 rw [bod_eq, drun_no call loop hg, den_args _ _ (by simpa using hn)]
theorem set_d (t : Nat) (v : DV) : setOpd (den n s) (.tmp t) v = den n ((t, v) :: s) := den_set n s t v
theorem set_dc (c : FV) (v : DV) : setOpd (den n s) (.con c) v = den n s := rfl
theorem res_t (h : List Res) (t : Nat) : dresult (den n s) h (.tmp t) = some (if t < n then slk s t else .d .undef) := by
 rw [dresult, den_getD]
end
def agreeS (s s' : List (Nat × DV)) : List Nat → Prop
 | [] => True
 | k :: r => slk s k = slk s' k ∧ agreeS s s' r
theorem slk_no : ∀ {s : List (Nat × DV)} {t : Nat}, t ∉ s.map (·.1) → slk s t = .d .undef
 | [], _, _ => rfl
 | (k, v) :: r, t, h => by
  simp only [List.map_cons, List.mem_cons, not_or] at h
  simp only [slk, if_neg (fun e => h.1 (Eq.symm e))]
  exact slk_no h.2
theorem agree_mem {s s' : List (Nat × DV)} : ∀ {l : List Nat}, agreeS s s' l → ∀ t ∈ l, slk s t = slk s' t
 | _ :: _, h, t, ht => by
  rcases List.mem_cons.1 ht with rfl | ht
  ·exact h.1
  ·exact agree_mem h.2 t ht
theorem den_eq (n : Nat) (s s' : List (Nat × DV)) (h : agreeS s s' (s.map (·.1) ++ s'.map (·.1))) : (den n s = den n s') = True := by
 refine eq_true ?_
 unfold den
 refine List.map_congr_left fun t _ => ?_
 by_cases h1 : t ∈ s.map (·.1) ++ s'.map (·.1)
 ·exact agree_mem h t h1
 ·simp only [List.mem_append, not_or] at h1
  rw [slk_no h1.1, slk_no h1.2]
section
variable {p : Prop} [Decidable p]
theorem if_some {α : Type} (x y : α) : (if p then some x else some y) = some (if p then x else y) := by split <;> rfl
theorem if_val (x y : DV) (h : List Res) : (if p then DOut.val x h else DOut.val y h) = DOut.val (if p then x else y) h := by split <;> rfl
theorem if_d (x y : FV) : (if p then DV.d x else DV.d y) = DV.d (if p then x else y) := by split <;> rfl
theorem if_int (k : IntKind) (x y : Int) : (if p then FV.int k x else FV.int k y) = FV.int k (if p then x else y) := by split <;> rfl
theorem if_bool (x y : Bool) : (if p then FV.bool x else FV.bool y) = FV.bool (if p then x else y) := by split <;> rfl
theorem if_str (x y : ByteArray) : (if p then FV.str x else FV.str y) = FV.str (if p then x else y) := by split <;> rfl
theorem if_slice (n : Nat) (x y : List (List FV)) : (if p then FV.slice n x else FV.slice n y) = FV.slice n (if p then x else y) := by split <;> rfl
theorem if_agg (x y : List FV) : (if p then FV.agg x else FV.agg y) = FV.agg (if p then x else y) := by split <;> rfl
theorem if_tup (x y : List FV) : (if p then FV.tup x else FV.tup y) = FV.tup (if p then x else y) := by split <;> rfl
theorem if_cons (x y : FV) (xs ys : List FV) : (if p then x :: xs else y :: ys) = (if p then x else y) :: (if p then xs else ys) := by split <;> rfl
end
theorem fac : type_of% @if_some ∧ type_of% @if_val ∧ type_of% @if_d ∧ type_of% @if_int ∧ type_of% @if_bool ∧ type_of% @if_str ∧ type_of% @if_slice ∧ type_of% @if_agg ∧ type_of% @if_tup ∧ type_of% @if_cons ∧ type_of% @ite_self.{1} :=
 ⟨@if_some, @if_val, @if_d, @if_int, @if_bool, @if_str, @if_slice, @if_agg, @if_tup, @if_cons, @ite_self.{1}⟩
theorem wrap_i32 {n : Int} (h1 : -2147483648 ≤ n) (h2 : n < 2147483648) : IntKind.i32.wrap n = n := by
 simp only [IntKind.wrap, IntKind.signed, IntKind.bits, Bool.true_and, Bool.false_and, decide_eq_true_eq, Bool.false_eq_true, if_false, show ((2 : Int) ^ 32) = 4294967296 from rfl, show ((2 : Int) ^ (32 - 1)) = 2147483648 from rfl]
 try split
 all_goals omega
theorem wrap_u64 {n : Int} (h1 : 0 ≤ n) (h2 : n < 18446744073709551616) : IntKind.u64.wrap n = n := by
 simp only [IntKind.wrap, IntKind.signed, IntKind.bits, Bool.true_and, Bool.false_and, decide_eq_true_eq, Bool.false_eq_true, if_false, show ((2 : Int) ^ 64) = 18446744073709551616 from rfl]
 try split
 all_goals omega
theorem wl_p (n : Nat) (h : n < 9223372036854775808) : IntKind.i64.wrap (no_index (OfNat.ofNat n)) = OfNat.ofNat n := wrap_i64 (n := (n : Int)) (by omega) (by omega)
theorem wl_n (n : Nat) (h : n < 9223372036854775808) : IntKind.i64.wrap (-(no_index (OfNat.ofNat n))) = -(OfNat.ofNat n) := wrap_i64 (n := -(n : Int)) (by omega) (by omega)
theorem wl_32 (n : Nat) (h : n < 2147483648) : IntKind.i32.wrap (no_index (OfNat.ofNat n)) = OfNat.ofNat n := wrap_i32 (n := (n : Int)) (by omega) (by omega)
theorem wl_8 (n : Nat) (h : n < 256) : IntKind.u8.wrap (no_index (OfNat.ofNat n)) = OfNat.ofNat n := wrap_u8 (n := (n : Int)) (by omega) (by omega)
theorem wl_u (n : Nat) (h : n < 18446744073709551616) : IntKind.u64.wrap (no_index (OfNat.ofNat n)) = OfNat.ofNat n := wrap_u64 (n := (n : Int)) (by omega) (by omega)
theorem one_vslc (i g s o n : Nat) : (DV.vslc i g s o n).one = true := rfl
theorem one_eptr (i g k o : Nat) : (DV.eptr i g k o).one = true := rfl
theorem one_mref (i : Nat) : (DV.mref i).one = true := rfl
set_option maxRecDepth 10000 in
theorem stq :
  type_of% @dops_end ∧
  type_of% @List.length_cons.{0} ∧
  type_of% @List.length_cons.{1} ∧
  type_of% @List.length_nil.{0} ∧
  type_of% @List.length_nil.{1} ∧
  type_of% @List.cons_append.{0} ∧
  type_of% @List.cons_append.{1} ∧
  type_of% @List.nil_append.{0} ∧
  type_of% @List.nil_append.{1} ∧
  type_of% @List.append_nil.{0} ∧
  type_of% @List.append_nil.{1} ∧
  type_of% @List.set_cons_zero.{0} ∧
  type_of% @List.set_cons_zero.{1} ∧
  type_of% @List.set_cons_succ.{0} ∧
  type_of% @List.set_cons_succ.{1} ∧
  type_of% @List.set_nil.{0} ∧
  type_of% @List.set_nil.{1} ∧
  type_of% @List.getD_cons_zero.{0} ∧
  type_of% @List.getD_cons_zero.{1} ∧
  type_of% @List.getD_cons_succ.{0} ∧
  type_of% @List.getD_cons_succ.{1} ∧
  type_of% @List.getD_nil.{0} ∧
  type_of% @List.getD_nil.{1} ∧
  type_of% @List.map_cons.{0, 0} ∧
  type_of% @List.map_cons.{1, 1} ∧
  type_of% @List.map_nil.{0, 0} ∧
  type_of% @List.map_nil.{1, 1} ∧
  type_of% @List.all_cons.{0} ∧
  type_of% @List.all_cons.{1} ∧
  type_of% @List.all_nil.{0} ∧
  type_of% @List.all_nil.{1} ∧
  type_of% @one_d1 ∧
  type_of% @one_ptr ∧
  type_of% @one_row ∧
  type_of% @one_clo ∧
  type_of% @one_if ∧
  type_of% @one_int ∧
  type_of% @one_bool ∧
  type_of% @one_str ∧
  type_of% @one_slice ∧
  type_of% @one_ref ∧
  type_of% @one_nilp ∧
  type_of% @one_iface ∧
  type_of% @one_nili ∧
  type_of% @one_func ∧
  type_of% @one_nilf ∧
  type_of% @Bool.and_self ∧
  type_of% @Bool.and_true ∧
  type_of% @Bool.true_and ∧
  type_of% @Bool.and_false ∧
  type_of% @Bool.false_and ∧
  type_of% @Bool.or_true ∧
  type_of% @Bool.or_false ∧
  type_of% @Bool.true_or ∧
  type_of% @Bool.false_or ∧
  type_of% @if_true.{0} ∧
  type_of% @if_true.{1} ∧
  type_of% @flat_comp ∧
  type_of% @flat_map ∧
  type_of% @List.mapM_cons.{0, 0, 0} ∧
  type_of% @List.mapM_cons.{1, 1, 1} ∧
  type_of% @List.mapM_nil.{0, 0, 0} ∧
  type_of% @List.mapM_nil.{1, 1, 1} ∧
  type_of% @Option.pure_def.{0} ∧
  type_of% @Option.pure_def.{1} ∧
  type_of% @Option.bind_eq_bind.{0} ∧
  type_of% @Option.bind_eq_bind.{1} ∧
  type_of% @Option.bind_some.{0, 0} ∧
  type_of% @Option.bind_some.{1, 1} ∧
  type_of% @Option.bind_none.{0, 0} ∧
  type_of% @Option.bind_none.{1, 1} ∧
  type_of% @Option.map_some.{0, 0} ∧
  type_of% @Option.map_some.{1, 1} ∧
  type_of% @Option.map_none.{0, 0} ∧
  type_of% @Option.map_none.{1, 1} ∧
  type_of% @List.getElem?_cons_zero.{0} ∧
  type_of% @List.getElem?_cons_zero.{1} ∧
  type_of% @List.getElem?_cons_succ.{0} ∧
  type_of% @List.getElem?_cons_succ.{1} ∧
  type_of% @List.getElem?_nil.{0} ∧
  type_of% @List.getElem?_nil.{1} ∧
  type_of% @Nat.zero_add ∧
  type_of% @Nat.add_zero ∧
  type_of% @bne_self_eq_false.{0} ∧
  type_of% @bne_self_eq_false.{1} ∧
  type_of% @beq_self_eq_true.{0} ∧
  type_of% @beq_self_eq_true.{1} ∧
  type_of% @Bool.false_eq_true ∧
  type_of% @if_false.{0} ∧
  type_of% @if_false.{1} ∧
  type_of% @ne_eq.{0} ∧
  type_of% @ne_eq.{1} ∧
  type_of% @not_true_eq_false ∧
  type_of% @not_false_eq_true ∧
  type_of% @Bool.not_true ∧
  type_of% @Bool.not_false ∧
  type_of% @beq_iff_eq.{0} ∧
  type_of% @beq_iff_eq.{1} ∧
  type_of% @bne_iff_ne.{0} ∧
  type_of% @bne_iff_ne.{1} ∧
  type_of% @List.take_zero.{0} ∧
  type_of% @List.take_zero.{1} ∧
  type_of% @List.take_nil.{0} ∧
  type_of% @List.take_nil.{1} ∧
  type_of% @dcallV_fn ∧
  type_of% @dcallV_fnc ∧
  type_of% @dcallV_clo ∧
  type_of% @dcallV_yld ∧
  type_of% @List.drop_zero.{0} ∧
  type_of% @List.drop_zero.{1} ∧
  type_of% @List.drop_succ_cons.{0} ∧
  type_of% @List.drop_succ_cons.{1} ∧
  type_of% @List.take_succ_cons.{0} ∧
  type_of% @List.take_succ_cons.{1} ∧
  type_of% @List.not_mem_nil.{0} ∧
  type_of% @List.not_mem_nil.{1} ∧
  type_of% @false_implies ∧
  type_of% @implies_true.{0} ∧
  type_of% @implies_true.{1} ∧
  type_of% @decide_true ∧
  type_of% @decide_false ∧
  type_of% @decide_eq_true_eq ∧
  type_of% @Int.toNat_natCast ∧
  type_of% @Int.natCast_nonneg ∧
  type_of% @and_self ∧
  type_of% @and_true ∧
  type_of% @true_and ∧
  type_of% @List.foldlM_cons.{0, 0, 0} ∧
  type_of% @List.foldlM_cons.{1, 1, 1} ∧
  type_of% @List.foldlM_nil.{0, 0, 0} ∧
  type_of% @List.foldlM_nil.{1, 1, 1} ∧
  type_of% @List.length_append.{0} ∧
  type_of% @List.length_append.{1} ∧
  type_of% @List.length_map.{0, 0} ∧
  type_of% @List.length_map.{1, 1} ∧
  type_of% @Nat.le_refl ∧
  type_of% @List.all_map.{0, 0} ∧
  type_of% @List.all_map.{1, 1} ∧
  type_of% @Function.comp_def.{0, 0, 0} ∧
  type_of% @Function.comp_def.{1, 1, 1} ∧
  type_of% @Bool.false_beq ∧
  type_of% @Bool.true_beq ∧
  type_of% @gt_iff_lt.{0} ∧
  type_of% @gt_iff_lt.{1} ∧
  type_of% @ge_iff_le.{0} ∧
  type_of% @ge_iff_le.{1} ∧
  type_of% @cast_lit ∧
  type_of% @Bool.not_eq_true ∧
  type_of% @Int.toNat_zero ∧
  type_of% @Nat.zero_mul ∧
  type_of% @and_false ∧
  type_of% @false_and ∧
  type_of% @or_false ∧
  type_of% @or_true ∧
  type_of% @true_or ∧
  type_of% @false_or ∧
  type_of% @Int.le_refl ∧
  type_of% @Int.lt_irrefl ∧
  type_of% @List.mem_cons.{0} ∧
  type_of% @List.mem_cons.{1} ∧
  type_of% @forall_eq_or_imp.{0} ∧
  type_of% @forall_eq_or_imp.{1} ∧
  type_of% @forall_eq.{0} ∧
  type_of% @forall_eq.{1} ∧
  type_of% @List.append_assoc.{0} ∧
  type_of% @List.append_assoc.{1} ∧
  type_of% @List.length_set.{0} ∧
  type_of% @List.length_set.{1} ∧
  type_of% @List.set_set.{0} ∧
  type_of% @List.set_set.{1} ∧
  type_of% @DOut.val.injEq ∧
  type_of% @one_bslc ∧
  type_of% @dc_fn ∧
  type_of% @dexec.eq_1 ∧
  type_of% @dexec.eq_2 ∧
  type_of% @dexec.eq_7 ∧
  type_of% @dexec.eq_9 ∧
  type_of% @dexec.eq_10 ∧
  type_of% @dop.eq_1 ∧
  type_of% @dop.eq_2 ∧
  type_of% @dop.eq_3 ∧
  type_of% @dop.eq_5 ∧
  type_of% @dop.eq_6 ∧
  type_of% @dop.eq_7 ∧
  type_of% @dop.eq_8 ∧
  type_of% @dop.eq_9 ∧
  type_of% @dop.eq_10 ∧
  type_of% @dop.eq_11 ∧
  type_of% @dop.eq_12 ∧
  type_of% @dop.eq_13 ∧
  type_of% @dop.eq_14 ∧
  type_of% @dop.eq_15 ∧
  type_of% @dop.eq_16 ∧
  type_of% @dop.eq_17 ∧
  type_of% @dop.eq_18 ∧
  type_of% @dop.eq_19 ∧
  type_of% @dop.eq_20 ∧
  type_of% @dop.eq_21 ∧
  type_of% @dop.eq_22 ∧
  type_of% @dop.eq_23 ∧
  type_of% @dop.eq_24 ∧
  type_of% @dop.eq_25 ∧
  type_of% @dop.eq_26 ∧
  type_of% @dop.eq_27 ∧
  type_of% @dop.eq_28 ∧
  type_of% @dop.eq_29 ∧
  type_of% @dop.eq_30 ∧
  type_of% @dop.eq_31 ∧
  type_of% @dop.eq_32 ∧
  type_of% @dop.eq_33 ∧
  type_of% @dop.eq_34 ∧
  type_of% @dop.eq_35 ∧
  type_of% @dop.eq_36 ∧
  type_of% @dop.eq_37 ∧
  type_of% @dop.eq_38 ∧
  type_of% @dop.eq_39 ∧
  type_of% @dop.eq_40 ∧
  type_of% @dop.eq_41 ∧
  type_of% @dop.eq_42 ∧
  type_of% @dop.eq_43 ∧
  type_of% @dop.eq_44 ∧
  type_of% @dop.eq_45 ∧
  type_of% @dop.eq_46 ∧
  type_of% @dop.eq_47 ∧
  type_of% @dop.eq_48 ∧
  type_of% @dop.eq_49 ∧
  type_of% @dop.eq_50 ∧
  type_of% @dop.eq_51 ∧
  type_of% @dop.eq_52 ∧
  type_of% @dop.eq_53 ∧
  type_of% @dop.eq_54 ∧
  type_of% @dop.eq_55 ∧
  type_of% @dop.eq_56 ∧
  type_of% @dop.eq_57 ∧
  type_of% @dop.eq_58 ∧
  type_of% @dop.eq_59 ∧
  type_of% @dop.eq_60 ∧
  type_of% @dop.eq_61 ∧
  type_of% @dop.eq_62 ∧
  type_of% @one_vslc ∧
  type_of% @one_eptr ∧
  type_of% @one_mref ∧
  type_of% @go_none ∧
  type_of% @go_grp ∧
  type_of% @op_pick ∧
  type_of% @ex_seq ∧
  type_of% @ex_blk ∧
  type_of% @ex_cond ∧
  type_of% @ex_draw ∧
  type_of% @bod_den ∧
  type_of% @same_nil ∧
  type_of% @opK_ite ∧
  type_of% @seqK_ite ∧
  type_of% @blkK_ite ∧
  type_of% @drawK_ite ∧
  type_of% @bodK_ite ∧
  type_of% @rndK_ite ∧
  type_of% @omap_ite ∧
  type_of% @opK_v ∧
  type_of% @opK_p ∧
  type_of% @opK_n ∧
  type_of% @seqK_o ∧
  type_of% @seqK_r ∧
  type_of% @seqK_e ∧
  type_of% @seqK_p ∧
  type_of% @seqK_n ∧
  type_of% @blkK_o ∧
  type_of% @blkK_r ∧
  type_of% @blkK_e ∧
  type_of% @blkK_p ∧
  type_of% @blkK_n ∧
  type_of% @drawK_o ∧
  type_of% @drawK_p ∧
  type_of% @drawK_n ∧
  type_of% @bodK_o ∧
  type_of% @bodK_r ∧
  type_of% @bodK_p ∧
  type_of% @bodK_n ∧
  type_of% @outK_s ∧
  type_of% @rndK_o ∧
  type_of% @rndK_r ∧
  type_of% @rndK_e ∧
  type_of% @rndK_p ∧
  type_of% @rndK_n ∧
  type_of% @den_get ∧
  type_of% @den_getD ∧
  type_of% @den_t ∧
  type_of% @den_c ∧
  type_of% @den_f ∧
  type_of% @den_set ∧
  type_of% @den_put ∧
  type_of% @den_pno ∧
  type_of% @den_mask ∧
  type_of% @den_zip ∧
  type_of% @joinS_s ∧
  type_of% @joinS_c ∧
  type_of% @den_eq ∧
  type_of% @Prod.mk.injEq.{0,0} ∧
  type_of% @den_low ∧
  type_of% @set_d ∧
  type_of% @set_dc ∧
  type_of% @run_eq ∧
  type_of% @skip_eq ∧
  type_of% @exT_eq ∧
  type_of% @pick_eq ∧
  type_of% @run_g ∧
  type_of% @grpS_eq ∧
  type_of% @grpK.eq_1 ∧
  type_of% @grpK.eq_2 ∧
  type_of% @joinK_oo ∧
  type_of% @joinK_n1 ∧
  type_of% @joinK_n2 ∧
  type_of% @joinK_p1 ∧
  type_of% @joinK_p2 ∧
  type_of% @joinK_i1 ∧
  type_of% @joinK_i2 ∧
  type_of% @iteD_s ∧
  type_of% @iteD_tf ∧
  type_of% @iteD_ft ∧
  type_of% @iteD_and ∧
  type_of% @iteD_or ∧
  type_of% @iteD_imp ∧
  type_of% @iteD_nand ∧
  type_of% @ite_self.{1} ∧
  type_of% @ite_self.{2} ∧
  type_of% @dst_ne ∧
  type_of% @dst_no ∧
  type_of% @Option.some.injEq.{0} ∧
  type_of% @List.take_length.{0} ∧
  type_of% @wl_p ∧
  type_of% @wl_n ∧
  type_of% @wl_32 ∧
  type_of% @wl_8 ∧
  type_of% @wl_u ∧
  type_of% @byOpd.eq_1 ∧
  type_of% @Bool.not_eq_true' ∧
  type_of% @Bool.not_eq_false' ∧
  type_of% @Bool.and_eq_true ∧
  type_of% @Bool.or_eq_true :=
 ⟨@dops_end, @List.length_cons.{0}, @List.length_cons.{1}, @List.length_nil.{0}, @List.length_nil.{1}, @List.cons_append.{0}, @List.cons_append.{1}, @List.nil_append.{0}, @List.nil_append.{1}, @List.append_nil.{0}, @List.append_nil.{1}, @List.set_cons_zero.{0}, @List.set_cons_zero.{1}, @List.set_cons_succ.{0}, @List.set_cons_succ.{1}, @List.set_nil.{0}, @List.set_nil.{1}, @List.getD_cons_zero.{0}, @List.getD_cons_zero.{1}, @List.getD_cons_succ.{0}, @List.getD_cons_succ.{1}, @List.getD_nil.{0}, @List.getD_nil.{1}, @List.map_cons.{0, 0}, @List.map_cons.{1, 1}, @List.map_nil.{0, 0}, @List.map_nil.{1, 1}, @List.all_cons.{0}, @List.all_cons.{1}, @List.all_nil.{0}, @List.all_nil.{1}, @one_d1, @one_ptr, @one_row, @one_clo, @one_if, @one_int, @one_bool, @one_str, @one_slice, @one_ref, @one_nilp, @one_iface, @one_nili, @one_func, @one_nilf, @Bool.and_self, @Bool.and_true, @Bool.true_and, @Bool.and_false, @Bool.false_and, @Bool.or_true, @Bool.or_false, @Bool.true_or, @Bool.false_or, @if_true.{0}, @if_true.{1}, @flat_comp, @flat_map, @List.mapM_cons.{0, 0, 0}, @List.mapM_cons.{1, 1, 1}, @List.mapM_nil.{0, 0, 0}, @List.mapM_nil.{1, 1, 1}, @Option.pure_def.{0}, @Option.pure_def.{1}, @Option.bind_eq_bind.{0}, @Option.bind_eq_bind.{1}, @Option.bind_some.{0, 0}, @Option.bind_some.{1, 1}, @Option.bind_none.{0, 0}, @Option.bind_none.{1, 1}, @Option.map_some.{0, 0}, @Option.map_some.{1, 1}, @Option.map_none.{0, 0}, @Option.map_none.{1, 1}, @List.getElem?_cons_zero.{0}, @List.getElem?_cons_zero.{1}, @List.getElem?_cons_succ.{0}, @List.getElem?_cons_succ.{1}, @List.getElem?_nil.{0}, @List.getElem?_nil.{1}, @Nat.zero_add, @Nat.add_zero, @bne_self_eq_false.{0}, @bne_self_eq_false.{1}, @beq_self_eq_true.{0}, @beq_self_eq_true.{1}, @Bool.false_eq_true, @if_false.{0}, @if_false.{1}, @ne_eq.{0}, @ne_eq.{1}, @not_true_eq_false, @not_false_eq_true, @Bool.not_true, @Bool.not_false, @beq_iff_eq.{0}, @beq_iff_eq.{1}, @bne_iff_ne.{0}, @bne_iff_ne.{1}, @List.take_zero.{0}, @List.take_zero.{1}, @List.take_nil.{0}, @List.take_nil.{1}, @dcallV_fn, @dcallV_fnc, @dcallV_clo, @dcallV_yld, @List.drop_zero.{0}, @List.drop_zero.{1}, @List.drop_succ_cons.{0}, @List.drop_succ_cons.{1}, @List.take_succ_cons.{0}, @List.take_succ_cons.{1}, @List.not_mem_nil.{0}, @List.not_mem_nil.{1}, @false_implies, @implies_true.{0}, @implies_true.{1}, @decide_true, @decide_false, @decide_eq_true_eq, @Int.toNat_natCast, @Int.natCast_nonneg, @and_self, @and_true, @true_and, @List.foldlM_cons.{0, 0, 0}, @List.foldlM_cons.{1, 1, 1}, @List.foldlM_nil.{0, 0, 0}, @List.foldlM_nil.{1, 1, 1}, @List.length_append.{0}, @List.length_append.{1}, @List.length_map.{0, 0}, @List.length_map.{1, 1}, @Nat.le_refl, @List.all_map.{0, 0}, @List.all_map.{1, 1}, @Function.comp_def.{0, 0, 0}, @Function.comp_def.{1, 1, 1}, @Bool.false_beq, @Bool.true_beq, @gt_iff_lt.{0}, @gt_iff_lt.{1}, @ge_iff_le.{0}, @ge_iff_le.{1}, @cast_lit, @Bool.not_eq_true, @Int.toNat_zero, @Nat.zero_mul, @and_false, @false_and, @or_false, @or_true, @true_or, @false_or, @Int.le_refl, @Int.lt_irrefl, @List.mem_cons.{0}, @List.mem_cons.{1}, @forall_eq_or_imp.{0}, @forall_eq_or_imp.{1}, @forall_eq.{0}, @forall_eq.{1}, @List.append_assoc.{0}, @List.append_assoc.{1}, @List.length_set.{0}, @List.length_set.{1}, @List.set_set.{0}, @List.set_set.{1}, @DOut.val.injEq, @one_bslc, @dc_fn, @dexec.eq_1, @dexec.eq_2, @dexec.eq_7, @dexec.eq_9, @dexec.eq_10, @dop.eq_1, @dop.eq_2, @dop.eq_3, @dop.eq_5, @dop.eq_6, @dop.eq_7, @dop.eq_8, @dop.eq_9, @dop.eq_10, @dop.eq_11, @dop.eq_12, @dop.eq_13, @dop.eq_14, @dop.eq_15, @dop.eq_16, @dop.eq_17, @dop.eq_18, @dop.eq_19, @dop.eq_20, @dop.eq_21, @dop.eq_22, @dop.eq_23, @dop.eq_24, @dop.eq_25, @dop.eq_26, @dop.eq_27, @dop.eq_28, @dop.eq_29, @dop.eq_30, @dop.eq_31, @dop.eq_32, @dop.eq_33, @dop.eq_34, @dop.eq_35, @dop.eq_36, @dop.eq_37, @dop.eq_38, @dop.eq_39, @dop.eq_40, @dop.eq_41, @dop.eq_42, @dop.eq_43, @dop.eq_44, @dop.eq_45, @dop.eq_46, @dop.eq_47, @dop.eq_48, @dop.eq_49, @dop.eq_50, @dop.eq_51, @dop.eq_52, @dop.eq_53, @dop.eq_54, @dop.eq_55, @dop.eq_56, @dop.eq_57, @dop.eq_58, @dop.eq_59, @dop.eq_60, @dop.eq_61, @dop.eq_62, @one_vslc, @one_eptr, @one_mref, @go_none, @go_grp, @op_pick, @ex_seq, @ex_blk, @ex_cond, @ex_draw, @bod_den, @same_nil, @opK_ite, @seqK_ite, @blkK_ite, @drawK_ite, @bodK_ite, @rndK_ite, @omap_ite, @opK_v, @opK_p, @opK_n, @seqK_o, @seqK_r, @seqK_e, @seqK_p, @seqK_n, @blkK_o, @blkK_r, @blkK_e, @blkK_p, @blkK_n, @drawK_o, @drawK_p, @drawK_n, @bodK_o, @bodK_r, @bodK_p, @bodK_n, @outK_s, @rndK_o, @rndK_r, @rndK_e, @rndK_p, @rndK_n, @den_get, @den_getD, @den_t, @den_c, @den_f, @den_set, @den_put, @den_pno, @den_mask, @den_zip, @joinS_s, @joinS_c, @den_eq, @Prod.mk.injEq.{0,0}, @den_low, @set_d, @set_dc, @run_eq, @skip_eq, @exT_eq, @pick_eq, @run_g, @grpS_eq, @grpK.eq_1, @grpK.eq_2, @joinK_oo, @joinK_n1, @joinK_n2, @joinK_p1, @joinK_p2, @joinK_i1, @joinK_i2, @iteD_s, @iteD_tf, @iteD_ft, @iteD_and, @iteD_or, @iteD_imp, @iteD_nand, @ite_self.{1}, @ite_self.{2}, @dst_ne, @dst_no, @Option.some.injEq.{0}, @List.take_length.{0}, @wl_p, @wl_n, @wl_32, @wl_8, @wl_u, @byOpd.eq_1, @Bool.not_eq_true', @Bool.not_eq_false', @Bool.and_eq_true, @Bool.or_eq_true⟩
end Go.Deepv

namespace Go.Deepv
abbrev oP (d : Nat) (x : DOp) : DOper := ⟨some d, x, none⟩
abbrev sP (x : DOp) : DOper := ⟨none, x, none⟩
abbrev gP (d g : Nat) (b : Bool) (x : DOp) : DOper := ⟨some d, x, some (g, b)⟩
abbrev tP (n : Nat) : Opd := .tmp n
abbrev iP (n : Int) : Opd := .con (.int .i64 n)
abbrev bP (b : Bool) : Opd := .con (.bool b)
set_option maxRecDepth 10000 in
theorem sS :
 type_of% @oP.eq_1 ∧
 type_of% @sP.eq_1 ∧
 type_of% @gP.eq_1 ∧
 type_of% @tP.eq_1 ∧
 type_of% @iP.eq_1 ∧
 type_of% @bP.eq_1 ∧
 type_of% @drun.eq_1 ∧
 type_of% @dpre.eq_1 ∧
 type_of% @dpre.eq_2 ∧
 type_of% @dlast.eq_1 ∧
 type_of% @mvs.eq_1 ∧
 type_of% @FV.isNils.eq_1 ∧
 type_of% @FV.isNils.eq_2 ∧
 type_of% @DV.isRow.eq_1 ∧
 type_of% @DV.isRow.eq_2 ∧
 type_of% @fillD.eq_1 ∧
 type_of% @fillD.eq_2 ∧
 type_of% @buildD.eq_1 ∧
 type_of% @nilC.eq_1 ∧
 type_of% @nilC.eq_2 ∧
 type_of% @keepNil.eq_1 ∧
 type_of% @keepNil.eq_2 ∧
 type_of% @keepNil.eq_3 ∧
 type_of% @keepNil.eq_4 ∧
 type_of% @keepNil.eq_5 ∧
 type_of% @keepNil.eq_6 ∧
 type_of% @fullOf.eq_1 ∧
 type_of% @fullOf.eq_2 ∧
 type_of% @fullOf.eq_3 ∧
 type_of% @unfull.eq_1 ∧
 type_of% @unfull.eq_2 ∧
 type_of% @mintD.eq_1 ∧
 type_of% @mintD.eq_2 ∧
 type_of% @mintD.eq_3 ∧
 type_of% @List.any_nil.{0} ∧
 type_of% @List.any_nil.{1} ∧
 type_of% @List.any_cons.{0} ∧
 type_of% @List.any_cons.{1} ∧
 type_of% @dbody.eq_1 ∧
 type_of% @dexec.eq_1 ∧
 type_of% @dexec.eq_2 ∧
 type_of% @dexec.eq_3 ∧
 type_of% @dexec.eq_4 ∧
 type_of% @dexec.eq_5 ∧
 type_of% @dexec.eq_6 ∧
 type_of% @dexec.eq_7 ∧
 type_of% @dexec.eq_8 ∧
 type_of% @dexec.eq_9 ∧
 type_of% @dexec.eq_10 ∧
 type_of% @dexec.eq_11 ∧
 type_of% @ostep.eq_1 ∧
 type_of% @dop.eq_1 ∧
 type_of% @dop.eq_2 ∧
 type_of% @dop.eq_3 ∧
 type_of% @dop.eq_4 ∧
 type_of% @dop.eq_5 ∧
 type_of% @dop.eq_6 ∧
 type_of% @dop.eq_7 ∧
 type_of% @dop.eq_8 ∧
 type_of% @dop.eq_9 ∧
 type_of% @dop.eq_10 ∧
 type_of% @dop.eq_11 ∧
 type_of% @dop.eq_12 ∧
 type_of% @dop.eq_13 ∧
 type_of% @dop.eq_14 ∧
 type_of% @dop.eq_15 ∧
 type_of% @dop.eq_16 ∧
 type_of% @dop.eq_17 ∧
 type_of% @dop.eq_18 ∧
 type_of% @dop.eq_19 ∧
 type_of% @dop.eq_20 ∧
 type_of% @dop.eq_21 ∧
 type_of% @dop.eq_22 ∧
 type_of% @dop.eq_23 ∧
 type_of% @dop.eq_24 ∧
 type_of% @dop.eq_25 ∧
 type_of% @dop.eq_26 ∧
 type_of% @dop.eq_27 ∧
 type_of% @dop.eq_28 ∧
 type_of% @dop.eq_29 ∧
 type_of% @dop.eq_30 ∧
 type_of% @dop.eq_31 ∧
 type_of% @dop.eq_32 ∧
 type_of% @dop.eq_33 ∧
 type_of% @dop.eq_34 ∧
 type_of% @dop.eq_35 ∧
 type_of% @dop.eq_36 ∧
 type_of% @dop.eq_37 ∧
 type_of% @dop.eq_38 ∧
 type_of% @dop.eq_39 ∧
 type_of% @dop.eq_40 ∧
 type_of% @dop.eq_41 ∧
 type_of% @dop.eq_42 ∧
 type_of% @dop.eq_43 ∧
 type_of% @dop.eq_44 ∧
 type_of% @dop.eq_45 ∧
 type_of% @dop.eq_46 ∧
 type_of% @dop.eq_47 ∧
 type_of% @dop.eq_48 ∧
 type_of% @dop.eq_49 ∧
 type_of% @dop.eq_50 ∧
 type_of% @dop.eq_51 ∧
 type_of% @dop.eq_52 ∧
 type_of% @dop.eq_53 ∧
 type_of% @dop.eq_54 ∧
 type_of% @dop.eq_55 ∧
 type_of% @dop.eq_56 ∧
 type_of% @dop.eq_57 ∧
 type_of% @dop.eq_58 ∧
 type_of% @dop.eq_59 ∧
 type_of% @dop.eq_60 ∧
 type_of% @dop.eq_61 ∧
 type_of% @dop.eq_62 ∧
 type_of% @ev.eq_1 ∧
 type_of% @ev.eq_2 ∧
 type_of% @ev.eq_3 ∧
 type_of% @put.eq_1 ∧
 type_of% @put.eq_2 ∧
 type_of% @wants.eq_1 ∧
 type_of% @wants.eq_2 ∧
 type_of% @dbin.eq_1 ∧
 type_of% @dbin.eq_2 ∧
 type_of% @dbin.eq_3 ∧
 type_of% @dbin.eq_4 ∧
 type_of% @dbin.eq_5 ∧
 type_of% @dbin.eq_6 ∧
 type_of% @dbin.eq_7 ∧
 type_of% @dbin.eq_8 ∧
 type_of% @dbin.eq_9 ∧
 type_of% @dbin.eq_10 ∧
 type_of% @dbin.eq_11 ∧
 type_of% @dbin.eq_12 ∧
 type_of% @dbin.eq_13 ∧
 type_of% @dbin.eq_14 ∧
 type_of% @dbin.eq_15 ∧
 type_of% @dbin.eq_16 ∧
 type_of% @dbin.eq_17 ∧
 type_of% @dbin.eq_18 ∧
 type_of% @dbin.eq_19 ∧
 type_of% @dbin.eq_20 ∧
 type_of% @dun.eq_1 ∧
 type_of% @dun.eq_2 ∧
 type_of% @dun.eq_3 ∧
 type_of% @List.replicate.eq_1.{0} ∧
 type_of% @List.replicate.eq_1.{1} ∧
 type_of% @List.replicate.eq_2.{0} ∧
 type_of% @List.replicate.eq_2.{1} ∧
 type_of% @DV.cells.eq_1 ∧
 type_of% @DV.cells.eq_2 ∧
 type_of% @DV.cells.eq_3 ∧
 type_of% @DV.flat.eq_1 ∧
 type_of% @DV.flat.eq_2 ∧
 type_of% @DV.flat.eq_3 ∧
 type_of% @dload.eq_1 ∧
 type_of% @dload.eq_2 ∧
 type_of% @DV.elems.eq_1 ∧
 type_of% @DV.elems.eq_2 ∧
 type_of% @DV.elems.eq_3 ∧
 type_of% @DV.elems.eq_4 ∧
 type_of% @DV.elems.eq_5 ∧
 type_of% @DV.elems.eq_6 ∧
 type_of% @DV.elems.eq_7 ∧
 type_of% @mask.eq_1 ∧
 type_of% @mask.eq_2 ∧
 type_of% @mask.eq_3 ∧
 type_of% @mask.eq_4 ∧
 type_of% @DV.lows.eq_1 ∧
 type_of% @DV.lows.eq_2 ∧
 type_of% @DV.low.eq_1 ∧
 type_of% @DV.low.eq_2 ∧
 type_of% @DV.low.eq_3 ∧
 type_of% @DV.low.eq_4 ∧
 type_of% @DV.low.eq_5 ∧
 type_of% @DV.low.eq_6 ∧
 type_of% @DV.low.eq_7 ∧
 type_of% @DV.low.eq_8 ∧
 type_of% @DV.low.eq_9 ∧
 type_of% @DV.low.eq_10 ∧
 type_of% @DV.low.eq_11 ∧
 type_of% @DV.low.eq_12 ∧
 type_of% @DV.low.eq_13 ∧
 type_of% @DV.coe.eq_1 ∧
 type_of% @DV.coe.eq_2 ∧
 type_of% @DV.coe.eq_3 ∧
 type_of% @DV.coe.eq_4 ∧
 type_of% @DV.isD.eq_1 ∧
 type_of% @DV.isD.eq_2 ∧
 type_of% @dresults.eq_1 ∧
 type_of% @dresults.eq_2 ∧
 type_of% @dresult.eq_1 ∧
 type_of% @dresult.eq_2 ∧
 type_of% @dresult.eq_3 ∧
 type_of% @withHeap.eq_1 ∧
 type_of% @withHeap.eq_2 ∧
 type_of% @lowCells.eq_1 ∧
 type_of% @LSt.isReady.eq_1 ∧
 type_of% @LSt.isReady.eq_2 ∧
 type_of% @srcElems.eq_1 ∧
 type_of% @srcElems.eq_2 ∧
 type_of% @DV.int.eq_1 ∧
 type_of% @DV.int.eq_2 ∧
 type_of% @DV.mkAgg.eq_1 ∧
 type_of% @same.eq_1 ∧
 type_of% @mnmx2.eq_1 ∧
 type_of% @mnmx2.eq_2 ∧
 type_of% @nilness.eq_1 ∧
 type_of% @nilness.eq_2 ∧
 type_of% @nilness.eq_3 ∧
 type_of% @nilness.eq_4 ∧
 type_of% @nilness.eq_5 ∧
 type_of% @nilness.eq_6 ∧
 type_of% @nilness.eq_7 ∧
 type_of% @nilness.eq_8 ∧
 type_of% @nilness.eq_9 ∧
 type_of% @nilness.eq_10 ∧
 type_of% @nilness.eq_11 ∧
 type_of% @nilness.eq_12 ∧
 type_of% @nilness.eq_13 ∧
 type_of% @nilness.eq_14 ∧
 type_of% @nilness.eq_15 ∧
 type_of% @nilness.eq_16 ∧
 type_of% @nilness.eq_17 ∧
 type_of% @bound.eq_1 ∧
 type_of% @bound.eq_2 ∧
 type_of% @fill.eq_1 ∧
 type_of% @fill.eq_2 ∧
 type_of% @flatCells.eq_1 ∧
 type_of% @allocCells.eq_1 ∧
 type_of% @allocCells.eq_2 ∧
 type_of% @allocCells.eq_3 ∧
 type_of% @stp :=
 ⟨@oP.eq_1, @sP.eq_1, @gP.eq_1, @tP.eq_1, @iP.eq_1, @bP.eq_1, @drun.eq_1, @dpre.eq_1, @dpre.eq_2, @dlast.eq_1, @mvs.eq_1, @FV.isNils.eq_1, @FV.isNils.eq_2, @DV.isRow.eq_1, @DV.isRow.eq_2, @fillD.eq_1, @fillD.eq_2, @buildD.eq_1, @nilC.eq_1, @nilC.eq_2, @keepNil.eq_1, @keepNil.eq_2, @keepNil.eq_3, @keepNil.eq_4, @keepNil.eq_5, @keepNil.eq_6, @fullOf.eq_1, @fullOf.eq_2, @fullOf.eq_3, @unfull.eq_1, @unfull.eq_2, @mintD.eq_1, @mintD.eq_2, @mintD.eq_3, @List.any_nil.{0}, @List.any_nil.{1}, @List.any_cons.{0}, @List.any_cons.{1}, @dbody.eq_1, @dexec.eq_1, @dexec.eq_2, @dexec.eq_3, @dexec.eq_4, @dexec.eq_5, @dexec.eq_6, @dexec.eq_7, @dexec.eq_8, @dexec.eq_9, @dexec.eq_10, @dexec.eq_11, @ostep.eq_1, @dop.eq_1, @dop.eq_2, @dop.eq_3, @dop.eq_4, @dop.eq_5, @dop.eq_6, @dop.eq_7, @dop.eq_8, @dop.eq_9, @dop.eq_10, @dop.eq_11, @dop.eq_12, @dop.eq_13, @dop.eq_14, @dop.eq_15, @dop.eq_16, @dop.eq_17, @dop.eq_18, @dop.eq_19, @dop.eq_20, @dop.eq_21, @dop.eq_22, @dop.eq_23, @dop.eq_24, @dop.eq_25, @dop.eq_26, @dop.eq_27, @dop.eq_28, @dop.eq_29, @dop.eq_30, @dop.eq_31, @dop.eq_32, @dop.eq_33, @dop.eq_34, @dop.eq_35, @dop.eq_36, @dop.eq_37, @dop.eq_38, @dop.eq_39, @dop.eq_40, @dop.eq_41, @dop.eq_42, @dop.eq_43, @dop.eq_44, @dop.eq_45, @dop.eq_46, @dop.eq_47, @dop.eq_48, @dop.eq_49, @dop.eq_50, @dop.eq_51, @dop.eq_52, @dop.eq_53, @dop.eq_54, @dop.eq_55, @dop.eq_56, @dop.eq_57, @dop.eq_58, @dop.eq_59, @dop.eq_60, @dop.eq_61, @dop.eq_62, @ev.eq_1, @ev.eq_2, @ev.eq_3, @put.eq_1, @put.eq_2, @wants.eq_1, @wants.eq_2, @dbin.eq_1, @dbin.eq_2, @dbin.eq_3, @dbin.eq_4, @dbin.eq_5, @dbin.eq_6, @dbin.eq_7, @dbin.eq_8, @dbin.eq_9, @dbin.eq_10, @dbin.eq_11, @dbin.eq_12, @dbin.eq_13, @dbin.eq_14, @dbin.eq_15, @dbin.eq_16, @dbin.eq_17, @dbin.eq_18, @dbin.eq_19, @dbin.eq_20, @dun.eq_1, @dun.eq_2, @dun.eq_3, @List.replicate.eq_1.{0}, @List.replicate.eq_1.{1}, @List.replicate.eq_2.{0}, @List.replicate.eq_2.{1}, @DV.cells.eq_1, @DV.cells.eq_2, @DV.cells.eq_3, @DV.flat.eq_1, @DV.flat.eq_2, @DV.flat.eq_3, @dload.eq_1, @dload.eq_2, @DV.elems.eq_1, @DV.elems.eq_2, @DV.elems.eq_3, @DV.elems.eq_4, @DV.elems.eq_5, @DV.elems.eq_6, @DV.elems.eq_7, @mask.eq_1, @mask.eq_2, @mask.eq_3, @mask.eq_4, @DV.lows.eq_1, @DV.lows.eq_2, @DV.low.eq_1, @DV.low.eq_2, @DV.low.eq_3, @DV.low.eq_4, @DV.low.eq_5, @DV.low.eq_6, @DV.low.eq_7, @DV.low.eq_8, @DV.low.eq_9, @DV.low.eq_10, @DV.low.eq_11, @DV.low.eq_12, @DV.low.eq_13, @DV.coe.eq_1, @DV.coe.eq_2, @DV.coe.eq_3, @DV.coe.eq_4, @DV.isD.eq_1, @DV.isD.eq_2, @dresults.eq_1, @dresults.eq_2, @dresult.eq_1, @dresult.eq_2, @dresult.eq_3, @withHeap.eq_1, @withHeap.eq_2, @lowCells.eq_1, @LSt.isReady.eq_1, @LSt.isReady.eq_2, @srcElems.eq_1, @srcElems.eq_2, @DV.int.eq_1, @DV.int.eq_2, @DV.mkAgg.eq_1, @same.eq_1, @mnmx2.eq_1, @mnmx2.eq_2, @nilness.eq_1, @nilness.eq_2, @nilness.eq_3, @nilness.eq_4, @nilness.eq_5, @nilness.eq_6, @nilness.eq_7, @nilness.eq_8, @nilness.eq_9, @nilness.eq_10, @nilness.eq_11, @nilness.eq_12, @nilness.eq_13, @nilness.eq_14, @nilness.eq_15, @nilness.eq_16, @nilness.eq_17, @bound.eq_1, @bound.eq_2, @fill.eq_1, @fill.eq_2, @flatCells.eq_1, @allocCells.eq_1, @allocCells.eq_2, @allocCells.eq_3, @stp⟩
set_option maxRecDepth 10000 in
theorem sT :
 type_of% @oP.eq_1 ∧
 type_of% @sP.eq_1 ∧
 type_of% @gP.eq_1 ∧
 type_of% @tP.eq_1 ∧
 type_of% @iP.eq_1 ∧
 type_of% @bP.eq_1 ∧
 type_of% @FV.isNils.eq_1 ∧
 type_of% @FV.isNils.eq_2 ∧
 type_of% @DV.isRow.eq_1 ∧
 type_of% @DV.isRow.eq_2 ∧
 type_of% @fillD.eq_1 ∧
 type_of% @fillD.eq_2 ∧
 type_of% @buildD.eq_1 ∧
 type_of% @nilC.eq_1 ∧
 type_of% @nilC.eq_2 ∧
 type_of% @keepNil.eq_1 ∧
 type_of% @keepNil.eq_2 ∧
 type_of% @keepNil.eq_3 ∧
 type_of% @keepNil.eq_4 ∧
 type_of% @keepNil.eq_5 ∧
 type_of% @keepNil.eq_6 ∧
 type_of% @fullOf.eq_1 ∧
 type_of% @fullOf.eq_2 ∧
 type_of% @fullOf.eq_3 ∧
 type_of% @unfull.eq_1 ∧
 type_of% @unfull.eq_2 ∧
 type_of% @mintD.eq_1 ∧
 type_of% @mintD.eq_2 ∧
 type_of% @mintD.eq_3 ∧
 type_of% @List.any_nil.{0} ∧
 type_of% @List.any_nil.{1} ∧
 type_of% @List.any_cons.{0} ∧
 type_of% @List.any_cons.{1} ∧
 type_of% @unnil.eq_1 ∧
 type_of% @unnil.eq_2 ∧
 type_of% @unnil.eq_3 ∧
 type_of% @unnil.eq_4 ∧
 type_of% @unnil.eq_5 ∧
 type_of% @keyOk.eq_1 ∧
 type_of% @keyOk.eq_2 ∧
 type_of% @keyOk.eq_3 ∧
 type_of% @keyOk.eq_4 ∧
 type_of% @keyEq.eq_1 ∧
 type_of% @keyEq.eq_2 ∧
 type_of% @keyEq.eq_3 ∧
 type_of% @keyEq.eq_4 ∧
 type_of% @findE.eq_1 ∧
 type_of% @findE.eq_2 ∧
 type_of% @appVec.eq_1 ∧
 type_of% @appVec.eq_2 ∧
 type_of% @appVec.eq_3 ∧
 type_of% @slk.eq_1 ∧
 type_of% @slk.eq_2 ∧
 type_of% @agreeS.eq_1 ∧
 type_of% @agreeS.eq_2 ∧
 type_of% @idxS.eq_1 ∧
 type_of% @idxS.eq_2 ∧
 type_of% @keepS.eq_1 ∧
 type_of% @keepS.eq_2 ∧
 type_of% @keepS.eq_3 ∧
 type_of% @lowS.eq_1 ∧
 type_of% @lowS.eq_2 ∧
 type_of% @dbin.eq_1 ∧
 type_of% @dbin.eq_2 ∧
 type_of% @dbin.eq_3 ∧
 type_of% @dbin.eq_4 ∧
 type_of% @dbin.eq_5 ∧
 type_of% @dbin.eq_6 ∧
 type_of% @dbin.eq_7 ∧
 type_of% @dbin.eq_8 ∧
 type_of% @dbin.eq_9 ∧
 type_of% @dbin.eq_10 ∧
 type_of% @dbin.eq_11 ∧
 type_of% @dbin.eq_12 ∧
 type_of% @dbin.eq_13 ∧
 type_of% @dbin.eq_14 ∧
 type_of% @dbin.eq_15 ∧
 type_of% @dbin.eq_16 ∧
 type_of% @dbin.eq_17 ∧
 type_of% @dbin.eq_18 ∧
 type_of% @dbin.eq_19 ∧
 type_of% @dbin.eq_20 ∧
 type_of% @dun.eq_1 ∧
 type_of% @dun.eq_2 ∧
 type_of% @dun.eq_3 ∧
 type_of% @List.replicate.eq_1.{0} ∧
 type_of% @List.replicate.eq_1.{1} ∧
 type_of% @List.replicate.eq_2.{0} ∧
 type_of% @List.replicate.eq_2.{1} ∧
 type_of% @DV.cells.eq_1 ∧
 type_of% @DV.cells.eq_2 ∧
 type_of% @DV.cells.eq_3 ∧
 type_of% @DV.flat.eq_1 ∧
 type_of% @DV.flat.eq_2 ∧
 type_of% @DV.flat.eq_3 ∧
 type_of% @dload.eq_1 ∧
 type_of% @dload.eq_2 ∧
 type_of% @DV.elems.eq_1 ∧
 type_of% @DV.elems.eq_2 ∧
 type_of% @DV.elems.eq_3 ∧
 type_of% @DV.elems.eq_4 ∧
 type_of% @DV.elems.eq_5 ∧
 type_of% @DV.elems.eq_6 ∧
 type_of% @DV.elems.eq_7 ∧
 type_of% @DV.lows.eq_1 ∧
 type_of% @DV.lows.eq_2 ∧
 type_of% @DV.low.eq_1 ∧
 type_of% @DV.low.eq_2 ∧
 type_of% @DV.low.eq_3 ∧
 type_of% @DV.low.eq_4 ∧
 type_of% @DV.low.eq_5 ∧
 type_of% @DV.low.eq_6 ∧
 type_of% @DV.low.eq_7 ∧
 type_of% @DV.low.eq_8 ∧
 type_of% @DV.low.eq_9 ∧
 type_of% @DV.low.eq_10 ∧
 type_of% @DV.low.eq_11 ∧
 type_of% @DV.low.eq_12 ∧
 type_of% @DV.low.eq_13 ∧
 type_of% @DV.coe.eq_1 ∧
 type_of% @DV.coe.eq_2 ∧
 type_of% @DV.coe.eq_3 ∧
 type_of% @DV.coe.eq_4 ∧
 type_of% @DV.isD.eq_1 ∧
 type_of% @DV.isD.eq_2 ∧
 type_of% @dresults.eq_1 ∧
 type_of% @dresults.eq_2 ∧
 type_of% @dresult.eq_1 ∧
 type_of% @dresult.eq_2 ∧
 type_of% @dresult.eq_3 ∧
 type_of% @withHeap.eq_1 ∧
 type_of% @withHeap.eq_2 ∧
 type_of% @lowCells.eq_1 ∧
 type_of% @LSt.isReady.eq_1 ∧
 type_of% @LSt.isReady.eq_2 ∧
 type_of% @srcElems.eq_1 ∧
 type_of% @srcElems.eq_2 ∧
 type_of% @DV.int.eq_1 ∧
 type_of% @DV.int.eq_2 ∧
 type_of% @DV.mkAgg.eq_1 ∧
 type_of% @same.eq_1 ∧
 type_of% @mnmx2.eq_1 ∧
 type_of% @mnmx2.eq_2 ∧
 type_of% @nilness.eq_1 ∧
 type_of% @nilness.eq_2 ∧
 type_of% @nilness.eq_3 ∧
 type_of% @nilness.eq_4 ∧
 type_of% @nilness.eq_5 ∧
 type_of% @nilness.eq_6 ∧
 type_of% @nilness.eq_7 ∧
 type_of% @nilness.eq_8 ∧
 type_of% @nilness.eq_9 ∧
 type_of% @nilness.eq_10 ∧
 type_of% @nilness.eq_11 ∧
 type_of% @nilness.eq_12 ∧
 type_of% @nilness.eq_13 ∧
 type_of% @nilness.eq_14 ∧
 type_of% @nilness.eq_15 ∧
 type_of% @nilness.eq_16 ∧
 type_of% @nilness.eq_17 ∧
 type_of% @bound.eq_1 ∧
 type_of% @bound.eq_2 ∧
 type_of% @fill.eq_1 ∧
 type_of% @fill.eq_2 ∧
 type_of% @flatCells.eq_1 ∧
 type_of% @allocCells.eq_1 ∧
 type_of% @allocCells.eq_2 ∧
 type_of% @allocCells.eq_3 ∧
 type_of% @putCells.eq_1 ∧
 type_of% @splitG.eq_1 ∧
 type_of% @splitG.eq_2 ∧
 type_of% @splitG.eq_3 ∧
 type_of% @splitG.eq_4 ∧
 type_of% @onG.eq_1 ∧
 type_of% @onG.eq_2 ∧
 type_of% @onG.eq_3 ∧
 type_of% @insD.eq_1 ∧
 type_of% @insD.eq_2 ∧
 type_of% @memD.eq_1 ∧
 type_of% @memD.eq_2 ∧
 type_of% @stq :=
 ⟨@oP.eq_1, @sP.eq_1, @gP.eq_1, @tP.eq_1, @iP.eq_1, @bP.eq_1, @FV.isNils.eq_1, @FV.isNils.eq_2, @DV.isRow.eq_1, @DV.isRow.eq_2, @fillD.eq_1, @fillD.eq_2, @buildD.eq_1, @nilC.eq_1, @nilC.eq_2, @keepNil.eq_1, @keepNil.eq_2, @keepNil.eq_3, @keepNil.eq_4, @keepNil.eq_5, @keepNil.eq_6, @fullOf.eq_1, @fullOf.eq_2, @fullOf.eq_3, @unfull.eq_1, @unfull.eq_2, @mintD.eq_1, @mintD.eq_2, @mintD.eq_3, @List.any_nil.{0}, @List.any_nil.{1}, @List.any_cons.{0}, @List.any_cons.{1}, @unnil.eq_1, @unnil.eq_2, @unnil.eq_3, @unnil.eq_4, @unnil.eq_5, @keyOk.eq_1, @keyOk.eq_2, @keyOk.eq_3, @keyOk.eq_4, @keyEq.eq_1, @keyEq.eq_2, @keyEq.eq_3, @keyEq.eq_4, @findE.eq_1, @findE.eq_2, @appVec.eq_1, @appVec.eq_2, @appVec.eq_3, @slk.eq_1, @slk.eq_2, @agreeS.eq_1, @agreeS.eq_2, @idxS.eq_1, @idxS.eq_2, @keepS.eq_1, @keepS.eq_2, @keepS.eq_3, @lowS.eq_1, @lowS.eq_2, @dbin.eq_1, @dbin.eq_2, @dbin.eq_3, @dbin.eq_4, @dbin.eq_5, @dbin.eq_6, @dbin.eq_7, @dbin.eq_8, @dbin.eq_9, @dbin.eq_10, @dbin.eq_11, @dbin.eq_12, @dbin.eq_13, @dbin.eq_14, @dbin.eq_15, @dbin.eq_16, @dbin.eq_17, @dbin.eq_18, @dbin.eq_19, @dbin.eq_20, @dun.eq_1, @dun.eq_2, @dun.eq_3, @List.replicate.eq_1.{0}, @List.replicate.eq_1.{1}, @List.replicate.eq_2.{0}, @List.replicate.eq_2.{1}, @DV.cells.eq_1, @DV.cells.eq_2, @DV.cells.eq_3, @DV.flat.eq_1, @DV.flat.eq_2, @DV.flat.eq_3, @dload.eq_1, @dload.eq_2, @DV.elems.eq_1, @DV.elems.eq_2, @DV.elems.eq_3, @DV.elems.eq_4, @DV.elems.eq_5, @DV.elems.eq_6, @DV.elems.eq_7, @DV.lows.eq_1, @DV.lows.eq_2, @DV.low.eq_1, @DV.low.eq_2, @DV.low.eq_3, @DV.low.eq_4, @DV.low.eq_5, @DV.low.eq_6, @DV.low.eq_7, @DV.low.eq_8, @DV.low.eq_9, @DV.low.eq_10, @DV.low.eq_11, @DV.low.eq_12, @DV.low.eq_13, @DV.coe.eq_1, @DV.coe.eq_2, @DV.coe.eq_3, @DV.coe.eq_4, @DV.isD.eq_1, @DV.isD.eq_2, @dresults.eq_1, @dresults.eq_2, @dresult.eq_1, @dresult.eq_2, @dresult.eq_3, @withHeap.eq_1, @withHeap.eq_2, @lowCells.eq_1, @LSt.isReady.eq_1, @LSt.isReady.eq_2, @srcElems.eq_1, @srcElems.eq_2, @DV.int.eq_1, @DV.int.eq_2, @DV.mkAgg.eq_1, @same.eq_1, @mnmx2.eq_1, @mnmx2.eq_2, @nilness.eq_1, @nilness.eq_2, @nilness.eq_3, @nilness.eq_4, @nilness.eq_5, @nilness.eq_6, @nilness.eq_7, @nilness.eq_8, @nilness.eq_9, @nilness.eq_10, @nilness.eq_11, @nilness.eq_12, @nilness.eq_13, @nilness.eq_14, @nilness.eq_15, @nilness.eq_16, @nilness.eq_17, @bound.eq_1, @bound.eq_2, @fill.eq_1, @fill.eq_2, @flatCells.eq_1, @allocCells.eq_1, @allocCells.eq_2, @allocCells.eq_3, @putCells.eq_1, @splitG.eq_1, @splitG.eq_2, @splitG.eq_3, @splitG.eq_4, @onG.eq_1, @onG.eq_2, @onG.eq_3, @insD.eq_1, @insD.eq_2, @memD.eq_1, @memD.eq_2, @stq⟩
end Go.Deepv
namespace Go.Deepv
section
variable {P : Program} {G : Glob} {S : Settled} {ρ : List RI} {h : List Res} {w w' : World}
def xClone (sz bytes : Nat) (args : List DV) (h : List Res) : Option DOut :=
 match args.map DV.coe with
 | [x] => match x.elems with
  | some (s, l) => if s = sz ∧ l.length * bytes ≤ 140737488355328 then some (.val (.d (.slice sz l)) h) else none
  | none => none
 | _ => none
structure CloneOk (E : Env) (g : FuncId) (sz bytes : Nat) : Prop where
 nil : D E g [.d (.nilx sz)] [] = some (.val (.d (.slice sz [])) [])
 non : D E g [.d (.nonn sz)] [] = some (.val (.d (.slice sz [])) [])
 row : ∀ (c : List FV) (l : List (List FV)), (l.length + 1) * bytes ≤ 140737488355328 → D E g [.d (.slice sz (c :: l))] [] = some (.val (.d (.slice sz (c :: l))) [])
theorem clone_ext {E : Env} (EO : EnvOk P G E) {g : FuncId} {sz bytes : Nat} (hC : CloneOk E g sz bytes) (args : Array Value) (dargs : List DV) (hi : Inv P G S ρ h w) (hl : args.size = dargs.length) (hr : ∀ (j : Nat) (x : DV), dargs[j]? = some x → RepD S ρ h w (args.getD j undef) x) {out : DOut}
  (hd : xClone sz bytes dargs h = some out) : Calls P g args w (CallPost P G S ρ h w out) := by
 unfold xClone at hd
 split at hd
 ·rename_i x hm
  split at hd
  ·rename_i s l he
   split at hd
   ·rename_i hb
    obtain ⟨rfl, hb⟩ := hb
    simp only [Option.some.injEq] at hd
    subst hd
    have hr' : ∀ (j : Nat) (x : DV), (dargs.map DV.coe)[j]? = some x → RepD S ρ h w (args.getD j undef) x := fun j x hx => by
     simp only [List.getElem?_map, Option.map_eq_some_iff] at hx
     obtain ⟨y, hy, rfl⟩ := hx
     exact rep_coe (hr j y hy)
    rw [hm] at hr'
    have h0 := rep_elems (hr' 0 x rfl) he
    have hl' : args.size = 1 := by
     have := congrArg List.length hm
     simp at this
     omega
    obtain ⟨a0, rfl⟩ := Array.size_eq_one_iff.1 hl'
    simp at h0
    have key : ∀ (v : FV) (r : List (List FV)), RepF S w a0 v → D E g [.d v] [] = some (.val (.d (.slice s r)) []) → Calls P g #[a0] w (CallPost P G S ρ h w (.val (.d (.slice s r)) h)) := fun v r hv hD => by
     have I0 : Inv P G S [] [] w := by
      have := hi.take 0
      simpa using this
     refine ((D_sound EO).fn g #[a0] [.d v] S [] [] w _ I0 rfl (fun j x hx => ?_) hD).mono fun e w' hp => ?_
     ·rcases j with _ | j
      ·simp at hx; subst hx; exact .d _ _ hv
      ·simp at hx
     ·obtain ⟨y, S', ρ', rfl, hy, E', I'⟩ := hp
      have e0 : ρ' = [] := List.eq_nil_of_length_eq_zero (by rw [I'.len]; rfl)
      subst e0
      obtain ⟨E2, I2⟩ := ext_lift hi E' I'
      exact ⟨y, S', ρ, rfl, .d _ _ (repD_d hy), E2, I2⟩
    cases l with
    | nil =>
     cases h0 with
     | slice0 A cap =>
      cases A with
      | none => exact key (.nilx s) [] (.nilx _ _) hC.nil
      | some A => exact key (.nonn s) [] (.nonn _ _ _) hC.non
     | slice b o n cap _ _ u hn =>
      simp at hn
      subst hn
      exact key (.nonn s) [] (.nonn _ _ _) hC.non
    | cons c l => exact key _ _ h0 (hC.row c l (by simpa using hb))
   ·cases hd
  ·cases hd
 ·cases hd
end
end Go.Deepv
