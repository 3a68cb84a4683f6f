/-
  Contracts of the library's functions as calls of the deep machine: a result of data and fresh memory; strconv.Itoa,
  strings.Join, (*strings.Builder).copyCheck.
  Conditions: none.
-/
import Derived.Test.YtpemlmhggiaflaaGreatDoorDP
import Derived.Lib.Strings
import Derived.Shelf.Strconv.Itoa4
import Derived.Lib.ValidU
import Derived.Shelf.Strings.OnBuilder
set_option linter.unusedVariables false
set_option linter.unusedSimpArgs false
namespace Go.Deepv
open Go.RowKit

section
variable {P : Program} {G : Glob} {S : Settled} {ρ : List RI} {h : List Res} {w w' : World}

theorem callPost_below (hi : Inv P G S ρ h w) (hb : Below w.heap.size w w') {v : Value} {x : FV} (hx : RepF S w' v x) : CallPost P G S ρ h w (.val (.d x) h) (.returned v) w' := by
  have cells : ∀ b o, S b o → w'.cell? ⟨b, o, none⟩ = w.cell? ⟨b, o, none⟩ := fun b o hs => hb.cell (p := ⟨b, o, none⟩) (hi.bound b o hs)
  have E0 : Ext S [] [] w S [] [] w' :=
    { settled := fun _ _ hs => hs
      cells := cells
      len := Nat.le_refl _
      boxes := fun id b hh => hh
      rows := fun t n' ht => by simp at ht
      size := hb.size
      os := hb.os
      tape := hb.tape
      output := hb.output
      frame := fun b hbl _ => hb.block b hbl
      blocks := fun i b r hr => by simp at hr
      fresh := fun b o hs => .inl hs }
  have I0 : Inv P G S [] [] w' :=
    { len := rfl
      bound := fun b o hs => Nat.lt_of_lt_of_le (hi.bound b o hs) hb.size
      glob := fun b o v g => ⟨(hi.glob b o v g).1, (cells b o (hi.glob b o v g).1).trans (hi.glob b o v g).2⟩
      low := fun i b r hr => by simp at hr
      apart := fun i j b r r' hr => by simp at hr
      box := fun i c t hr => by simp at hr
      nilrow := fun i hr => by simp at hr
      row := fun i a b c hr => by simp at hr
      iter := fun i a b hr => by simp at hr
      loop := fun i a b c d e hr => by simp at hr
      own := fun i r hr => by simp at hr }
  obtain ⟨E, I⟩ := ext_lift hi E0 I0
  exact ⟨v, S, ρ, rfl, .d _ _ hx, E, I⟩

/-- The contracts of an environment's functions without code. -/
def ExtOk (P : Program) (G : Glob) (X : FuncId → Option (List DV → List Res → Option DOut)) : Prop :=
  ∀ g F, X g = some F → (∃ fn, P.funcs[g]? = some fn ∧ (fn.name == "runtime.NumGoroutine") = false ∧ fn.body.isNone = false) ∧
    ∀ (args : Array Value) (dargs : List DV) (S : Settled) (ρ : List RI) (h : List Res) (w : World) (out : DOut), Inv P G S ρ h w → args.size = dargs.length → (∀ (j : Nat) (x : DV), dargs[j]? = some x → RepD S ρ h w (args.getD j undef) x) →
      F dargs h = some out → Calls P g args w (CallPost P G S ρ h w out)

/-! ### strconv.Itoa -/
def xItoa (args : List DV) (h : List Res) : Option DOut :=
  match args with
  | [.d (.int .i64 n)] => if -9223372036854775808 ≤ n ∧ n ≤ 9223372036854775807 then some (.val (.d (.str ⟨(Lib.itoa n).toArray⟩)) h) else none
  | _ => none

theorem itoa_ext {g : FuncId} (hc : ∀ (n : Int), -9223372036854775808 ≤ n → n ≤ 9223372036854775807 → ∀ w : World, (∀ b o v, G b o v → w.cell? ⟨b, o, none⟩ = v) → Calls P g #[.int .i64 n] w fun e w' => e = .returned (.string ⟨(Lib.itoa n).toArray⟩) ∧ Below w.heap.size w w')
    (args : Array Value) (dargs : List DV) (hi : Inv P G S ρ h w) (hl : args.size = dargs.length) (hr : ∀ (j : Nat) (x : DV), dargs[j]? = some x → RepD S ρ h w (args.getD j undef) x) {out : DOut}
    (hd : xItoa dargs h = some out) : Calls P g args w (CallPost P G S ρ h w out) := by
  unfold xItoa at hd
  split at hd
  · rename_i n
    split at hd
    · rename_i hn
      simp only [Option.some.injEq] at hd
      subst hd
      have h0 := hr 0 _ rfl
      have hv := repF_int (repD_d h0)
      have ha : args = #[.int .i64 n] := by
        have h1 : args.size = 1 := by simpa using hl
        obtain ⟨x, rfl⟩ := Array.size_eq_one_iff.1 h1
        simp at hv
        rw [hv]
      rw [ha]
      exact (hc n hn.1 hn.2 w (fun b o v g => (hi.glob b o v g).2)).mono fun e w' ⟨he, hb⟩ => by
        subst he
        exact callPost_below hi hb (.str _)
    · cases hd
  · cases hd

/-! ### strconv.FormatInt, base 10 -/
def xFormat (args : List DV) (h : List Res) : Option DOut :=
  match args with
  | [.d (.int .i64 n), .d (.int .i64 b)] => if b = 10 ∧ -9223372036854775808 ≤ n ∧ n ≤ 9223372036854775807 then some (.val (.d (.str ⟨(Lib.itoa n).toArray⟩)) h) else none
  | _ => none

theorem format_ext {g : FuncId} (hc : ∀ (n : Int), -9223372036854775808 ≤ n → n ≤ 9223372036854775807 → ∀ w : World, (∀ b o v, G b o v → w.cell? ⟨b, o, none⟩ = v) → Calls P g #[.int .i64 n, .int .i64 10] w fun e w' => e = .returned (.string ⟨(Lib.itoa n).toArray⟩) ∧ Below w.heap.size w w')
    (args : Array Value) (dargs : List DV) (hi : Inv P G S ρ h w) (hl : args.size = dargs.length) (hr : ∀ (j : Nat) (x : DV), dargs[j]? = some x → RepD S ρ h w (args.getD j undef) x) {out : DOut}
    (hd : xFormat dargs h = some out) : Calls P g args w (CallPost P G S ρ h w out) := by
  unfold xFormat at hd
  split at hd
  · rename_i n b
    split at hd
    · rename_i hn
      obtain ⟨rfl, hn⟩ := hn
      simp only [Option.some.injEq] at hd
      subst hd
      have hv0 := repF_int (repD_d (hr 0 _ rfl))
      have hv1 := repF_int (repD_d (hr 1 _ rfl))
      have ha : args = #[.int .i64 n, .int .i64 10] := by
        have h1 : args.size = 2 := by simpa using hl
        obtain ⟨x, y, rfl⟩ : ∃ x y, args = #[x, y] := by
          match args, h1 with
          | ⟨[x, y]⟩, _ => exact ⟨x, y, rfl⟩
        simp at hv0 hv1
        rw [hv0, hv1]
      rw [ha]
      exact (hc n hn.1 hn.2 w (fun b o v g => (hi.glob b o v g).2)).mono fun e w' ⟨he, hb⟩ => by
        subst he
        exact callPost_below hi hb (.str _)
    · cases hd
  · cases hd

/-! ### utf8.ValidString -/
def xValid (args : List DV) (h : List Res) : Option DOut :=
  match args with
  | [.d (.str s)] => if s.size ≤ 9223372036854775807 then some (.val (.d (.bool (Lib.validD s.data.toList))) h) else none
  | _ => none

theorem valid_ext {g : FuncId} (hc : ∀ (s : ByteArray), s.size ≤ 9223372036854775807 → ∀ w : World, (∀ b o v, G b o v → w.cell? ⟨b, o, none⟩ = v) → Calls P g #[.string s] w fun e w' => e = .returned (.bool (Lib.validD s.data.toList)) ∧ Below w.heap.size w w')
    (args : Array Value) (dargs : List DV) (hi : Inv P G S ρ h w) (hl : args.size = dargs.length) (hr : ∀ (j : Nat) (x : DV), dargs[j]? = some x → RepD S ρ h w (args.getD j undef) x) {out : DOut}
    (hd : xValid dargs h = some out) : Calls P g args w (CallPost P G S ρ h w out) := by
  unfold xValid at hd
  split at hd
  · rename_i s
    split at hd
    · rename_i hn
      simp only [Option.some.injEq] at hd
      subst hd
      have hv := repF_str (repD_d (hr 0 _ rfl))
      have ha : args = #[.string s] := by
        have h1 : args.size = 1 := by simpa using hl
        obtain ⟨x, rfl⟩ := Array.size_eq_one_iff.1 h1
        simp at hv
        rw [hv]
      rw [ha]
      exact (hc s hn w (fun b o v g => (hi.glob b o v g).2)).mono fun e w' ⟨he, hb⟩ => by
        subst he
        exact callPost_below hi hb (.bool _)
    · cases hd
  · cases hd

/-! ### strings.Join -/
def strs : List (List FV) → Option (List ByteArray)
  | [] => some []
  | [.str s] :: l => (strs l).map (s :: ·)
  | _ => none
def joined (xs : List ByteArray) (sep : ByteArray) : ByteArray := ⟨(Lib.join (xs.map (·.data.toList)) sep.data.toList).toArray⟩
def xJoin (args : List DV) (h : List Res) : Option DOut :=
  match args.map DV.coe with
  | [.d (.slice 1 es), .d (.str sep)] => match strs es with
    | some xs => if (Lib.join (xs.map (·.data.toList)) sep.data.toList).length ≤ 140737488355328 ∧ xs.length ≤ 140737488355328 then some (.val (.d (.str (joined xs sep))) h) else none
    | none => none
  | _ => none

theorem strs_at : ∀ {es : List (List FV)} {xs : List ByteArray}, strs es = some xs → es.length = xs.length ∧ ∀ (j : Nat) (x : ByteArray), xs[j]? = some x → es[j]? = some [.str x]
  | [], xs, h => by simp [strs] at h; subst h; exact ⟨rfl, fun j x hx => by simp at hx⟩
  | e :: l, xs, h => by
    unfold strs at h
    split at h
    · rename_i hh; cases hh
    · rename_i s l' hh
      simp only [List.cons.injEq] at hh
      obtain ⟨rfl, rfl⟩ := hh
      simp only [Option.map_eq_some_iff] at h
      obtain ⟨ys, hy, rfl⟩ := h
      obtain ⟨h1, h2⟩ := strs_at hy
      refine ⟨by simp [h1], fun j x hx => ?_⟩
      cases j with
      | zero => simpa using hx
      | succ j => exact h2 j x (by simpa using hx)
    · cases h

theorem join_ext {g : FuncId} (hn : ∀ (a : Option Addr) (c : Nat) (sep : ByteArray) (w : World), Calls P g #[.slice a 0 c, .string sep] w fun e w' => e = .returned (.string ⟨#[]⟩) ∧ w' = w)
    (hc : ∀ (bk o c : Nat) (xs : List ByteArray) (sep : ByteArray) (w : World), (∀ (j : Nat) x, xs[j]? = some x → w.cell? ⟨bk, o + j, none⟩ = some (.string x)) → bk < w.heap.size → xs.length ≤ 140737488355328 → xs.length ≤ c →
      (Lib.join (xs.map (·.data.toList)) sep.data.toList).length ≤ 140737488355328 →
      Calls P g #[.slice (some ⟨bk, o, none⟩) xs.length c, .string sep] w fun e w' => e = .returned (.string ⟨(Lib.join (xs.map (·.data.toList)) sep.data.toList).toArray⟩) ∧ Below w.heap.size w w')
    (args : Array Value) (dargs : List DV) (hi : Inv P G S ρ h w) (hl : args.size = dargs.length) (hr : ∀ (j : Nat) (x : DV), dargs[j]? = some x → RepD S ρ h w (args.getD j undef) x) {out : DOut}
    (hd : xJoin dargs h = some out) : Calls P g args w (CallPost P G S ρ h w out) := by
  unfold xJoin at hd
  split at hd
  · rename_i es sep hm
    split at hd
    · rename_i xs hx
      split at hd
      · rename_i hb
        simp only [Option.some.injEq] at hd
        subst hd
        have hr' : ∀ (j : Nat) (x : DV), (dargs.map DV.coe)[j]? = some x → RepD S ρ h w (args.getD j undef) x := fun j x hx => by
          simp only [List.getElem?_map, Option.map_eq_some_iff] at hx
          obtain ⟨y, hy, rfl⟩ := hx
          exact rep_coe (hr j y hy)
        have hl' : args.size = 2 := by
          have := congrArg List.length hm
          simp at this
          omega
        rw [hm] at hr'
        have h0 := repD_d (hr' 0 _ rfl)
        have h1 := repF_str (repD_d (hr' 1 _ rfl))
        obtain ⟨a0, a1, rfl⟩ : ∃ a0 a1, args = #[a0, a1] := by
          rcases args with ⟨l⟩
          match l, hl' with
          | [a0, a1], _ => exact ⟨a0, a1, rfl⟩
        simp at h0 h1
        subst h1
        obtain ⟨s1, s2⟩ := strs_at hx
        have empty : es = [] → ∀ (A : Option Addr) (c : Nat), Calls P g #[.slice A 0 c, .string sep] w (CallPost P G S ρ h w (.val (.d (.str (joined xs sep))) h)) := fun he A c => by
          subst he
          simp [strs] at hx
          subst hx
          refine (hn A c sep w).mono fun e w' ⟨he, hw⟩ => ?_
          subst he; subst hw
          exact callPost_below hi (Below.refl _ _) (by simpa [joined, Lib.join] using RepF.str _)
        cases h0 with
        | slice0 A cap => exact empty rfl A cap
        | slice b o n cap _ _ u hn' hcap hsz hcc hrr h1' =>
          by_cases he : es = []
          · subst he
            simp at hn'
            subst hn'
            exact empty rfl _ _
          · have hpos : 0 < es.length := List.length_pos_iff.2 he
            rw [← hn', s1]
            refine (hc b o cap xs sep w (fun j x hj => ?_) (hi.bound b _ (hcc 0 0 (by omega) (by omega)).1) hb.2 (by omega) hb.1).mono fun e w' ⟨he, hw⟩ => ?_
            · have hj' : j < xs.length := (List.getElem?_eq_some_iff.1 hj).1
              have q := (hcc j 0 (by omega) (by omega)).2
              have q2 := repF_str (hrr j 0 _ (.str x) (s2 j x hj) rfl)
              rw [q2] at q
              simpa using q
            · subst he
              exact callPost_below hi hw (.str _)
      · cases hd
    · cases hd
  · cases hd

/-! ### (*strings.Builder).copyCheck -/
def xCopy (tag : Nat) (args : List DV) (h : List Res) : Option DOut :=
  match args with
  | [.ptr id 0] => match h[id]? with
    | some (.box [x, y] t) => if t = tag ∧ tag ≠ 0 then (match x with
      | .d .nilp => some (.val (.d (.tup [])) (h.set id (.box [.ptr id 0, y] t)))
      | .ptr k 0 => if k = id then some (.val (.d (.tup [])) h) else none
      | _ => none) else none
    | _ => none
  | _ => none

theorem heap_setCell0 {b : Nat} {c : Array Value} {e : TypeId} {fr : Nat × Nat} {u : Value} (hb : w.heap[b]? = some (.cells c e fr)) : (w.setCell ⟨b, 0, none⟩ u).heap[b]? = some (.cells (c.setIfInBounds 0 u) e fr) := by
  simp [World.setCell, Array.getElem?_modify, hb]

theorem copy_ext {g : FuncId} {tag : Nat} (hu : ∀ (b : Nat) (w : World), w.cell? ⟨b, 0, none⟩ = some (.pointer (some ⟨b, 0, none⟩)) → Calls P g #[.pointer (some ⟨b, 0, none⟩)] w fun e w' => e = .returned (.tuple #[]) ∧ w' = w)
    (hf : ∀ (b : Nat) (w : World), w.cell? ⟨b, 0, none⟩ = some (.pointer none) → w.shape? b = some (tag, 2) → w.frozen? ⟨b, 0, none⟩ = false → Calls P g #[.pointer (some ⟨b, 0, none⟩)] w fun e w' => e = .returned (.tuple #[]) ∧ w' = w.setCell ⟨b, 0, none⟩ (.pointer (some ⟨b, 0, none⟩)))
    (args : Array Value) (dargs : List DV) (hi : Inv P G S ρ h w) (hl : args.size = dargs.length) (hr : ∀ (j : Nat) (x : DV), dargs[j]? = some x → RepD S ρ h w (args.getD j undef) x) {out : DOut}
    (hd : xCopy tag dargs h = some out) : Calls P g args w (CallPost P G S ρ h w out) := by
  unfold xCopy at hd
  split at hd
  · rename_i id
    split at hd
    · rename_i x y t hbx
      split at hd
      · rename_i ht
        obtain ⟨rfl, ht0⟩ := ht
        obtain ⟨b, c, e, b1, b2, ⟨b3, btag⟩, b4, b5⟩ := hi.box id _ _ hbx
        have he : e = t := by rcases btag with h0 | h0; exact absurd h0 ht0; exact h0
        subst he
        have h0 := hr 0 _ rfl
        have ha : args = #[.pointer (some ⟨b, 0, none⟩)] := by
          have h1 : args.size = 1 := by simpa using hl
          obtain ⟨v, rfl⟩ := Array.size_eq_one_iff.1 h1
          simp at h0
          cases h0 with
          | ptr _ _ b' hb' =>
            rw [b1] at hb'
            simp at hb'
            rw [hb']
        rw [ha]
        have hsz : c.size = 2 := by simpa using b3
        have hcell : w.cell? ⟨b, 0, none⟩ = some (c.getD 0 undef) := by
          simp [World.cell?, b2, Array.getD_eq_getD_getElem?]
          rw [Array.getElem?_eq_getElem (by omega)]
          simp
        have hx0 := (b4 0 x rfl).2.2
        have hidl : id < h.length := (List.getElem?_eq_some_iff.1 hbx).1
        split at hd
        · simp only [Option.some.injEq] at hd
          subst hd
          have hnil : c.getD 0 undef = .pointer none := by
            generalize c.getD 0 undef = v0 at hx0
            cases repD_d hx0; rfl
          rw [hnil] at hcell
          refine (hf b w hcell (by simp [World.shape?, b2, hsz]) (by simp [World.frozen?, b2])).mono fun e' w' ⟨he, hw⟩ => ?_
          subst he; subst hw
          have hset : ρ.set id (.box b) = ρ := set_self _ _ _ b1
          have hbl : b < w.heap.size := (Array.getElem?_eq_some_iff.1 b2).1
          have E : Ext S ρ h w S (ρ.set id (.box b)) (h.set id (.box [.ptr id 0, y] e)) (w.setCell ⟨b, 0, none⟩ (.pointer (some ⟨b, 0, none⟩))) := by
            rw [hset]
            exact { Ext.refl S ρ h w with
              cells := fun b' o hs => World.cell?_setCell_other _ _ _ _ (by intro hh; simp at hh; exact b5 o (by rw [hh.1]; exact hs))
              len := by simp
              rows := fun t n' ht hn => by
                by_cases e : t = id
                · subst e
                  rw [List.getElem?_set_self ht] at hn
                  simp [Res.tip] at hn
                · rw [List.getElem?_set_ne (Ne.symm e)] at hn
                  exact ⟨n', hn, Nat.le_refl _, fun _ => rfl⟩
              size := by simp [World.setCell]
              os := rfl
              tape := rfl
              output := rfl
              frame := fun b' hb hn => Below.heap_setCell _ _ _ _ (by rintro rfl; exact hn id _ b1 rfl) }
          have I : Inv P G S (ρ.set id (.box b)) (h.set id (.box [.ptr id 0, y] e)) (w.setCell ⟨b, 0, none⟩ (.pointer (some ⟨b, 0, none⟩))) := by
            refine inv_upd hi hidl E (fun i b' r hne hr hbk => ?_) (fun b o hs => by simpa [World.setCell] using hi.bound b o hs) (fun b' hbk => ?_) (fun cells' tag' hce => ?_) (fun hh => by cases hh) (fun _ _ _ hh => by cases hh) (fun _ _ hh => by cases hh)
            · have : b' ≠ b := by rintro rfl; exact hne (hi.apart i id _ r _ hr b1 hbk rfl)
              exact ⟨Below.heap_setCell _ _ _ _ this, fun o ho => ho⟩
            · simp [RI.block] at hbk
              subst hbk
              refine ⟨by simpa [World.setCell] using hbl, fun i r hne hr hbk => hne (hi.apart i id _ r _ hr b1 hbk rfl)⟩
            · simp only [Res.box.injEq] at hce
              obtain ⟨rfl, rfl⟩ := hce
              refine ⟨b, _, e, rfl, heap_setCell0 b2, ⟨by simpa using hsz, .inr rfl⟩, fun j z hz => ?_, b5⟩
              match j, hz with
              | 0, hz =>
                simp at hz
                subst hz
                refine ⟨rfl, by simp [DV.low], ?_⟩
                have : (c.setIfInBounds 0 (.pointer (some ⟨b, 0, none⟩))).getD 0 undef = .pointer (some ⟨b, 0, none⟩) := by
                  simp [Array.getD_eq_getD_getElem?, Array.getElem?_setIfInBounds, hsz]
                rw [this]
                exact .ptr id 0 b (by rw [hset]; exact b1)
              | 1, hz =>
                have g := b4 1 z (by simpa using hz)
                have : (c.setIfInBounds 0 (.pointer (some ⟨b, 0, none⟩))).getD 1 undef = c.getD 1 undef := by
                  simp [Array.getD_eq_getD_getElem?, Array.getElem?_setIfInBounds]
                rw [this]
                exact ⟨g.1, g.2.1, g.2.2.mono E⟩
              | j + 2, hz => simp at hz
          rw [hset] at E I
          exact ⟨_, S, ρ, rfl, .d _ _ (.tup #[] [] rfl (fun j y hy => by simp at hy)), E, I⟩
        · split at hd
          · rename_i k hk
            simp only [Option.some.injEq] at hd
            subst hd
            subst hk
            have hown : c.getD 0 undef = .pointer (some ⟨b, 0, none⟩) := by
              generalize c.getD 0 undef = v0 at hx0
              cases hx0 with
              | ptr _ _ b' hb' =>
                rw [b1] at hb'
                simp at hb'
                rw [hb']
            rw [hown] at hcell
            refine (hu b w hcell).mono fun e' w' ⟨he, hw⟩ => ?_
            subst he; subst hw
            exact ⟨_, S, ρ, rfl, .d _ _ (.tup #[] [] rfl (fun j y hy => by simp at hy)), Ext.refl S ρ h _, hi⟩
          · cases hd
        · cases hd
      · cases hd
    · cases hd
  · cases hd

end
end Go.Deepv
