/-
  From a given statement's frame to the deep machine: what the world's cells are, kept for the library's contracts; a wrap that keeps what is laid and the world's shape.
  Conditions: none.
-/
import Derived.Test.YtpemlmhggiaflaaGreatDoorDY
import Derived.HandedShaped
import Derived.Handed
import Derived.Lib.LaidTab
set_option linter.unusedVariables false
namespace Go.Deepv
open Go.RowKit

/-- All that a world holds, as it stands. -/
def GW (W : World) : Glob := fun b o v => b < W.heap.size ∧ W.cell? ⟨b, o, none⟩ = v
theorem gw_start (W : World) : ∀ b o v, GW W b o v → b < W.heap.size ∧ W.cell? ⟨b, o, none⟩ = v := fun _ _ _ h => h
theorem gw_cell {W w : World} (h : ∀ b o v, GW W b o v → w.cell? ⟨b, o, none⟩ = v) {b o : Nat} {v : Value} (hv : W.cell? ⟨b, o, none⟩ = some v) : w.cell? ⟨b, o, none⟩ = some v := by
  refine h b o _ ⟨?_, hv⟩
  unfold World.cell? at hv
  cases hb : W.heap[b]? with
  | none => simp only at hv; rw [hb] at hv; cases hv
  | some x => exact (Array.getElem?_eq_some_iff.1 hb).1
theorem gw_tab {P : Program} {W w : World} {n : String} {k : IntKind} {zs : List Int} (hz : zs ≠ []) (h : ∀ b o v, GW W b o v → w.cell? ⟨b, o, none⟩ = v) (ht : Lib.TabIs P W n k zs) : Lib.TabIs P w n k zs := by
  unfold Lib.TabIs World.var? at ht ⊢
  cases hg : P.globalNamed n with
  | none => rw [hg] at ht; cases ht
  | some b =>
    rw [hg] at ht
    simp only [Option.bind_some] at ht ⊢
    split at ht
    · rename_i cs e f hc
      simp only [Option.some.injEq] at ht
      have hb : b < W.heap.size := (Array.getElem?_eq_some_iff.1 hc).1
      have key : ∀ o, w.cell? ⟨b, o, none⟩ = cs[o]? := fun o => by
        refine h b o _ ⟨hb, ?_⟩
        unfold World.cell?
        rw [hc]
        rfl
      have k0 := key 0
      have p0 : ∃ v, cs[0]? = some v := by
        rw [ht]
        cases zs with
        | nil => exact absurd rfl hz
        | cons z zs => exact ⟨_, rfl⟩
      obtain ⟨v, p0⟩ := p0
      rw [p0] at k0
      unfold World.cell? at key k0
      split at k0
      · rename_i c e f hc'
        simp only [hc'] at key ⊢
        rw [← ht]
        congr 1
        refine Array.ext' (List.ext_getElem? fun o => ?_)
        have := key o
        simpa using this
      · cases k0
    · cases ht

/-- A variable of an interface's type holds nil or some value. -/
theorem cell_iface {P : Program} {w : World} {g : Nat} {t : TypeId} {zero : Array Value} {ms : Array (String × TypeId)}
    (h : w.ShapedOpen P) (hg : g < P.globals.size)
    (h0 : ((begin P (fun _ _ => 0) default).world.heap[g]?).bind Obj.row? = some (zero, t)) (hz : zero.size = 1)
    (hb : P.buildable t = true) (hc : P.cellTypes P.depth t = some [t]) (hu : P.underlying t = some (.interface ms)) :
    ∃ v, w.cell? ⟨g, 0, none⟩ = some v ∧ (v = .nilIface ∨ ∃ te pe, v = .iface te pe) := by
  obtain ⟨cs, hh, hs, hr⟩ := h.1 g zero t hg h0
  obtain ⟨ts, hts, _, hall⟩ := hr hb
  rw [hc] at hts
  cases hts
  have h1 : 0 < cs.size := by omega
  obtain ⟨u, hu', hok⟩ := hall 0 cs[0] (by simp [h1])
  have : u = t := by simpa using hu'.symm
  subst this
  have hcell : w.cell? ⟨g, 0, none⟩ = some cs[0] := by simp [World.cell?, hh, h1]
  refine ⟨_, hcell, ?_⟩
  unfold Cell.ok at hok
  rw [hu] at hok
  cases hv : cs[0] <;> rw [hv] at hok <;> simp at hok
  all_goals first | exact .inl rfl | exact .inr ⟨_, _, rfl⟩

section
variable {H : Type} {enc : TypeId × Value → H}
/-- The wrap that keeps both what is laid and the world's shape. -/
theorem returns_all {C : Checked} {os : Os} {f : FuncId} {fn : Func} {s : ChangeSpec} {conds : List PathCond} {apart fresh handsOn again : Bool} {X : World → Array Value → Prop}
    (hX : ∀ (w w' : World) (args : Array Value), w.heap = w'.heap → X w args → X w' args)
    (own : ownKnob C.prog.godebug = none) (started : os.Started) (noInit : C.prog.inits.idxOf? f = none) (hfn : C.prog.funcs[f]? = some fn)
    (witness : ∃ (w : World) (tape : Tape) (i : Input), w.os = os ∧ (w.forCall tape i).Shaped C.prog ∧ i.vars = [] ∧ Input.okWide C.prog (w.forCall tape i) .any w.heap.size f i ∧
      ((s.pre enc C.prog fn conds apart (w.forCall tape i).memory i.args ∧ X (w.forCall tape i).memory i.args) ∧ sizedMet enc C.prog fn (OpenSpec.ofChange s) apart (w.forCall tape i).memory i.args) ∧ ({} : Assume).holds C.prog (lone (Frame.enter C.prog f i.args .normal) [] (w.forCall tape i)))
    (contract : ∀ (W : World) (base : Nat) (args : Array Value) (ds gs : List (DataW H)) (before : List MemPlace),
      (∀ (j : Nat) t v, fn.params[j]? = some t → args[j]? = some v → Value.okWide C.prog W .any base t v) →
      DataW.Whole enc C.prog fn.params.toList s.vars apart W args.toList ds gs before →
      conds.all (PathCond.test C.prog ⟨fn.params.toList, ds, s.plain.varTypes C.prog, gs⟩) = true →
      (DataW.weightsEach C.prog (fn.params.toList ++ s.plain.varTypes C.prog) (ds ++ gs)).all (· ≤ reachBytes) = true → X W args → W.ShapedOpen C.prog →
      Calls C.prog f args W fun e W' => ∃ v, e = .returned v ∧ s.post enc C.prog fn apart fresh handsOn again W args v W') :
    ReturnsInHanded {} C os f .any (fun w args => (s.pre enc C.prog fn conds apart w args ∧ X w args) ∧ sizedMet enc C.prog fn (OpenSpec.ofChange s) apart w args) (s.post enc C.prog fn apart fresh handsOn again) := by
  refine returnsInHanded_of_calls own started noInit witness ?_
  intro w tape i _ hsh _ hok hpre _
  obtain ⟨_, _, _, fn', hfn', _, _, _, _, hval⟩ := hok
  have e : fn' = fn := Option.some.inj (hfn'.symm.trans hfn)
  subst e
  obtain ⟨⟨⟨ds, gs, before, hw, hc⟩, hx⟩, hz⟩ := hpre
  have hw' := DataW.Whole.of_heap (w' := w.forCall tape i) (by rfl) hw
  refine (contract (w.forCall tape i) w.heap.size i.args ds gs before hval hw' hc (hz.weights hw) (hX _ _ _ (by rfl) hx) hsh).mono fun e W' ⟨v, he, hp⟩ => ?_
  subst he
  exact ChangeSpec.post_blind hp
end
end Go.Deepv
