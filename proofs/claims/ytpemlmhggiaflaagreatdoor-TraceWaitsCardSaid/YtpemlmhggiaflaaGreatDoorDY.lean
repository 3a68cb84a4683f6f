/-
  Contracts of library functions: strings.Split at one byte, strconv.Atoi.
  Conditions: the functions' contracts.
-/
import Derived.Test.YtpemlmhggiaflaaGreatDoorDV
import Derived.Lib.SplitLaws
import Derived.Lib.AtoiAll
set_option linter.unusedVariables false
set_option linter.unusedSimpArgs false
namespace Go.Deepv
open Go.RowKit

section
variable {P : Program} {G : Glob} {S : Settled} {ρ : List RI} {h : List Res} {w w' : World}

/-- A call that leaves all that was as it was, and what is new settled. -/
theorem callPost_new (hi : Inv P G S ρ h w) (hb : Below w.heap.size w w') {v : Value} {x : FV} (hx : RepF (fun b o => S b o ∨ (w.heap.size ≤ b ∧ b < w'.heap.size)) w' v x) : CallPost P G S ρ h w (.val (.d x) h) (.returned v) w' := by
  have cells : ∀ b o, S b o → w'.cell? ⟨b, o, none⟩ = w.cell? ⟨b, o, none⟩ := fun b o hs => hb.cell (p := ⟨b, o, none⟩) (hi.bound b o hs)
  have E0 : Ext S [] [] w (fun b o => S b o ∨ (w.heap.size ≤ b ∧ b < w'.heap.size)) [] [] w' :=
    { settled := fun _ _ hs => .inl hs
      cells := cells
      len := Nat.le_refl _
      boxes := fun id b hh => hh
      rows := fun t n' ht => by simp at ht
      size := hb.size
      os := hb.os
      tape := hb.tape
      output := hb.output
      frame := fun b hbl _ => hb.block b hbl
      blocks := fun i b r hr => by simp at hr
      fresh := fun b o hs => hs.elim .inl fun x => .inr (.inl x.1) }
  have I0 : Inv P G (fun b o => S b o ∨ (w.heap.size ≤ b ∧ b < w'.heap.size)) [] [] w' :=
    { len := rfl
      bound := fun b o hs => hs.elim (fun hs => Nat.lt_of_lt_of_le (hi.bound b o hs) hb.size) fun x => x.2
      glob := fun b o v g => ⟨.inl (hi.glob b o v g).1, (cells b o (hi.glob b o v g).1).trans (hi.glob b o v g).2⟩
      low := fun i b r hr => by simp at hr
      apart := fun i j b r r' hr => by simp at hr
      box := fun i c t hr => by simp at hr
      nilrow := fun i hr => by simp at hr
      row := fun i a b c hr => by simp at hr
      iter := fun i a b hr => by simp at hr
      loop := fun i a b c d e hr => by simp at hr
      own := fun i r hr => by simp at hr }
  obtain ⟨E, I⟩ := ext_lift hi E0 I0
  exact ⟨v, _, ρ, rfl, .d _ _ hx, E, I⟩

/-- strings.Split at a separator of one byte. -/
def xSplit (args : List DV) (h : List Res) : Option DOut :=
  match args with
  | [.d (.str s), .d (.str sep)] => if s.size < 4294967281 ∧ sep.size = 1 then some (.val (.d (.slice 1 ((Lib.splitB sep 0 (Lib.countB s sep) s).map fun x => [.str x]))) h) else none
  | _ => none
theorem split_ext {g : FuncId} {t : TypeId} (hc : ∀ (s sep : ByteArray), s.size < 4294967281 → sep.size = 1 → ∀ w : World, (∀ b o v, G b o v → w.cell? ⟨b, o, none⟩ = v) → Calls P g #[.string s, .string sep] w fun e w' =>
      e = .returned (.slice (some ⟨w.heap.size, 0, none⟩) (Lib.countB s sep + 1) (Lib.countB s sep + 1)) ∧ w' = w.alloc (.cells ((Lib.splitB sep 0 (Lib.countB s sep) s).map Value.string).toArray t))
    (args : Array Value) (dargs : List DV) (hi : Inv P G S ρ h w) (hl : args.size = dargs.length) (hr : ∀ (j : Nat) (x : DV), dargs[j]? = some x → RepD S ρ h w (args.getD j undef) x) {out : DOut}
    (hd : xSplit dargs h = some out) : Calls P g args w (CallPost P G S ρ h w out) := by
  unfold xSplit at hd
  split at hd
  · rename_i s sep
    split at hd
    · rename_i hs
      simp only [Option.some.injEq] at hd
      subst hd
      have h0 := repF_str (repD_d (hr 0 _ rfl))
      have h1 := repF_str (repD_d (hr 1 _ rfl))
      have hl' : args.size = 2 := hl
      obtain ⟨a0, a1, rfl⟩ : ∃ a0 a1, args = #[a0, a1] := by
        rcases args with ⟨l⟩
        match l, hl' with
        | [a0, a1], _ => exact ⟨a0, a1, rfl⟩
      simp at h0 h1
      subst h0
      subst h1
      refine (hc s sep hs.1 hs.2 w (fun b o v g => (hi.glob b o v g).2)).mono fun e w' ⟨he, hw⟩ => ?_
      subst he
      have hlen := Lib.splitB_all sep (by omega) 0 (Lib.countB s sep) s rfl
      generalize Lib.splitB sep 0 (Lib.countB s sep) s = L at *
      have hb : Below w.heap.size w w' := by
        rw [hw]
        exact (Below.refl _ _).alloc (Nat.le_refl _) _
      have hsz : w'.heap.size = w.heap.size + 1 := by
        rw [hw]
        simp
      refine callPost_new hi hb ?_
      refine .slice w.heap.size 0 _ _ 1 _ (fun i _ => .string (L.getD i ⟨#[]⟩)) (by simp [hlen]) (Nat.le_refl _) (fun i c hc => ?_) (fun i j hi1 hj => ?_) (fun i j c y hc hy => ?_) (fun i j c y hc hy => ?_)
      · simp only [List.getElem?_map, Option.map_eq_some_iff] at hc
        obtain ⟨z, _, rfl⟩ := hc
        rfl
      · refine ⟨.inr ⟨Nat.le_refl _, by omega⟩, ?_⟩
        have hj0 : j = 0 := by omega
        subst hj0
        have hi2 : i < L.length := by omega
        have hg : w'.heap[w.heap.size]? = some (.cells (L.map Value.string).toArray t) := by
          rw [hw]
          show (w.heap.push _)[w.heap.size]? = _
          simp
        simp only [Nat.zero_add, Nat.mul_one, Nat.add_zero, World.cell?, hg]
        simp [hi2, List.getD_eq_getElem?_getD]
      · simp only [List.getElem?_map, Option.map_eq_some_iff] at hc
        obtain ⟨z, hz, rfl⟩ := hc
        cases j with
        | zero =>
          simp at hy
          subst hy
          simp only [List.getD_eq_getElem?_getD, hz, Option.getD_some]
          exact .str _
        | succ j => simp at hy
      · simp only [List.getElem?_map, Option.map_eq_some_iff] at hc
        obtain ⟨z, hz, rfl⟩ := hc
        cases j with
        | zero =>
          simp at hy
          subst hy
          rfl
        | succ j => simp at hy
    · cases hd
  · cases hd

/-- strconv.Atoi: the number, and an error of type T, or nil. -/
def xAtoi (T : Nat) (args : List DV) (h : List Res) : Option DOut :=
  match args with
  | [.d (.str s)] => if s.size ≤ 281474976710656 then (match Lib.atoiAll s.data.toList with
    | .ok v => some (.val (.d (.tup [.int .i64 v, .nili])) h)
    | .range => some (.val (.d (.tup [.int .i64 (Lib.atoiSat s.data.toList), .iface T .undef])) h)
    | _ => some (.val (.d (.tup [.int .i64 0, .iface T .undef])) h)) else none
  | _ => none
theorem atoi_ext {g : FuncId} {T : Nat} (hc : ∀ (s : ByteArray), s.size ≤ 281474976710656 → ∀ w : World, (∀ b o v, G b o v → w.cell? ⟨b, o, none⟩ = v) → Calls P g #[.string s] w fun e w' => Below w.heap.size w w' ∧
      (match Lib.atoiAll s.data.toList with
      | .ok v => e = .returned (.tuple #[.int .i64 v, .nilIface])
      | .range => ∃ p, e = .returned (.tuple #[.int .i64 (Lib.atoiSat s.data.toList), .iface T p])
      | _ => ∃ p, e = .returned (.tuple #[.int .i64 0, .iface T p])))
    (args : Array Value) (dargs : List DV) (hi : Inv P G S ρ h w) (hl : args.size = dargs.length) (hr : ∀ (j : Nat) (x : DV), dargs[j]? = some x → RepD S ρ h w (args.getD j undef) x) {out : DOut}
    (hd : xAtoi T dargs h = some out) : Calls P g args w (CallPost P G S ρ h w out) := by
  unfold xAtoi at hd
  split at hd
  · rename_i s
    split at hd
    · rename_i hs
      have h0 := repF_str (repD_d (hr 0 _ rfl))
      have hl' : args.size = 1 := hl
      obtain ⟨a0, rfl⟩ : ∃ a0, args = #[a0] := by
        rcases args with ⟨l⟩
        match l, hl' with
        | [a0], _ => exact ⟨a0, rfl⟩
      simp at h0
      subst h0
      have two : ∀ {w' : World} {a b : Value} {x y : FV}, RepF S w' a x → RepF S w' b y → RepF S w' (.tuple #[a, b]) (.tup [x, y]) := fun ha hb => .tup _ _ rfl fun j z hz => by
        match j, hz with
        | 0, hz => simp at hz; subst hz; exact ha
        | 1, hz => simp at hz; subst hz; exact hb
        | j + 2, hz => simp at hz
      refine (hc s hs w (fun b o v g => (hi.glob b o v g).2)).mono fun e w' ⟨hb, he⟩ => ?_
      generalize Lib.atoiAll s.data.toList = r at *
      cases r with
      | ok v =>
        simp only at he
        simp only [Option.some.injEq] at hd
        subst hd
        subst he
        exact callPost_below hi hb (two (.int _ _) .nili)
      | range =>
        simp only at he
        simp only [Option.some.injEq] at hd
        subst hd
        obtain ⟨p, rfl⟩ := he
        exact callPost_below hi hb (two (.int _ _) (.iface _ _ _ (.undef _)))
      | _ =>
        simp only at he
        simp only [Option.some.injEq] at hd
        subst hd
        obtain ⟨p, rfl⟩ := he
        exact callPost_below hi hb (two (.int _ _) (.iface _ _ _ (.undef _)))
    · cases hd
  · cases hd
end
end Go.Deepv
