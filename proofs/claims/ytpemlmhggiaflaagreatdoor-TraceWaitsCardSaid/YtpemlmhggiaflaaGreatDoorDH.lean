/-
  Operations that make or turn memory: variables, stores, literals, appends.
  Conditions: none.
-/
import Derived.Test.YtpemlmhggiaflaaGreatDoorDG
import Derived.Laws.CopyRow
set_option linter.unusedVariables false
set_option linter.unusedSimpArgs false
namespace Go.Deepv
open Go.RowKit

mutual
theorem DV.low_mono {n m : Nat} (hnm : n ≤ m) : ∀ x : DV, x.low n = true → x.low m = true
  | .d _, _ => rfl
  | .ptr id _, h => by simp [DV.low] at h ⊢; omega
  | .row _ _ t, h => by simp [DV.low] at h ⊢; omega
  | .agg cs, h => by simp only [DV.low] at h ⊢; exact DV.lows_mono hnm cs h
  | .clo _ p q, h => by
    simp only [DV.low, Bool.and_eq_true] at h ⊢
    exact ⟨DV.lows_mono hnm p h.1, DV.lows_mono hnm q h.2⟩
  | .tup vs, h => by simp only [DV.low] at h ⊢; exact DV.lows_mono hnm vs h
  | .iface _ v, h => by simp only [DV.low] at h ⊢; exact DV.low_mono hnm v h
  | .yld id, h => by simp [DV.low] at h ⊢; omega
  | .rptr _ t, h => by simp [DV.low] at h ⊢; omega
  | .bslc id _ _, h => by simp [DV.low] at h ⊢; omega
  | .vslc id _ _ _ _, h => by simp [DV.low] at h ⊢; omega
  | .eptr id _ _ _, h => by simp [DV.low] at h ⊢; omega
  | .mref id, h => by simp [DV.low] at h ⊢; omega
theorem DV.lows_mono {n m : Nat} (hnm : n ≤ m) : ∀ l : List DV, DV.lows n l = true → DV.lows m l = true
  | [], _ => rfl
  | x :: xs, h => by
    simp only [DV.lows, Bool.and_eq_true] at h ⊢
    exact ⟨DV.low_mono hnm x h.1, DV.lows_mono hnm xs h.2⟩
end
theorem DV.lows_at {n : Nat} : ∀ {l : List DV} {j : Nat} {x : DV}, DV.lows n l = true → l[j]? = some x → x.low n = true
  | [], j, x, _, hx => by simp at hx
  | y :: ys, j, x, h, hx => by
    simp only [DV.lows, Bool.and_eq_true] at h
    cases j with
    | zero => simp at hx; subst hx; exact h.1
    | succ j => exact DV.lows_at h.2 (by simpa using hx)

section
variable {P : Program} {G : Glob} {S : Settled} {ρ : List RI} {h : List Res} {w : World} {a : Act} {ad : List DV} {call : Cle → List DV → List Res → Option DOut} {out : DOut}

theorem run_newVar (t : TypeId) (v : Value) : (newVar t v).run P w = .ok ⟨w.heap.size, 0, none⟩ (w.alloc (.cells v.cells t)) := by
  simp [newVar, newRow, World.alloc_eq]

/-- A new variable that is a thing of the call's own. -/
theorem box_new (hi : Inv P G S ρ h w) {c : Array Value} {e : TypeId} {cs : List DV} {tag : Nat} (htag : tag = 0 ∨ e = tag) (hl : c.size = cs.length) (h1 : cs.all DV.one = true) (hlow : DV.lows h.length cs = true) (hr : ∀ (j : Nat) (x : DV), cs[j]? = some x → RepD S ρ h w (c.getD j undef) x) :
    ∃ S', Ext S ρ h w S' (ρ ++ [.box w.heap.size]) (h ++ [.box cs tag]) (w.alloc (.cells c e)) ∧ Inv P G S' (ρ ++ [.box w.heap.size]) (h ++ [.box cs tag]) (w.alloc (.cells c e)) := by
  have E := ext_alloc hi (.cells c e) (fun _ => False) [.box w.heap.size] [.box cs tag] (fun r b hr hb => by simp at hr; subst hr; simpa [RI.block] using hb.symm)
  refine ⟨_, E, inv_alloc_old hi _ (fun _ => False) _ _ (fun r b hr hb => by simp at hr; subst hr; simpa [RI.block] using hb.symm) rfl ?_ ?_ ?_ ?_ ?_⟩
  · intro i j b r r' hr hr' _ _
    have a1 := (List.getElem?_eq_some_iff.1 hr).1
    have a2 := (List.getElem?_eq_some_iff.1 hr').1
    simp at a1 a2
    omega
  · intro i cells tag' hc
    have a1 := (List.getElem?_eq_some_iff.1 hc).1
    have hi0 : i = 0 := by simp at a1; omega
    subst hi0
    simp at hc
    obtain ⟨rfl, rfl⟩ := hc
    refine ⟨w.heap.size, c, e, rfl, heap_alloc_at _ _, ⟨hl, htag⟩, fun j x hx => ⟨(List.all_eq_true.1 h1) _ (List.mem_of_getElem? hx), DV.low_mono (by omega) _ (DV.lows_at hlow hx), (hr j x hx).mono E⟩, fun o ho => ?_⟩
    rcases ho with ho | ho
    · have := hi.bound _ _ ho
      omega
    · exact ho.2
  · intro i hc
    have a1 := (List.getElem?_eq_some_iff.1 hc).1
    have hi0 : i = 0 := by simp at a1; omega
    subst hi0
    simp at hc
  · intro i sz n et hc
    have a1 := (List.getElem?_eq_some_iff.1 hc).1
    have hi0 : i = 0 := by simp at a1; omega
    subst hi0
    simp at hc
  · intro i s pos hc
    have a1 := (List.getElem?_eq_some_iff.1 hc).1
    have hi0 : i = 0 := by simp at a1; omega
    subst hi0
    simp at hc

/-- A new variable that is settled at once. -/
theorem ref_new (hi : Inv P G S ρ h w) {c : Array Value} {e : TypeId} {fs : List FV} (hl : c.size = fs.length) (h1 : ∀ (j : Nat) (x : FV), fs[j]? = some x → x.one = true) (hr : ∀ (j : Nat) (x : FV), fs[j]? = some x → RepF S w (c.getD j undef) x) :
    ∃ S', Ext S ρ h w S' ρ h (w.alloc (.cells c e)) ∧ Inv P G S' ρ h (w.alloc (.cells c e)) ∧ RepF S' (w.alloc (.cells c e)) (.pointer (some ⟨w.heap.size, 0, none⟩)) (.ref fs 0) := by
  have E := ext_alloc hi (.cells c e) (fun x => x < c.size) [] [] (fun r b hr hb => by simp at hr)
  have I := inv_alloc_old hi (.cells c e) (fun x => x < c.size) [] [] (fun r b hr hb => by simp at hr) rfl (fun i j b r r' hr => by simp at hr) (fun i cells tag hc => by simp at hc) (fun i hc => by simp at hc) (fun i sz n et hc => by simp at hc) (fun i s pos hc => by simp at hc)
  simp only [List.append_nil] at E I
  refine ⟨_, E, I, ?_⟩
  refine .ref w.heap.size 0 0 fs (fun j => c.getD j undef) (fun j hj => ⟨.inr ⟨rfl, by omega⟩, ?_⟩) (fun j x hx => (hr j x hx).mono E.settled E.cells) h1
  simp only [World.cell?, heap_alloc_at, Nat.zero_add]
  simp [Array.getD_eq_getD_getElem?, show j < c.size by omega]

theorem sim_box (hi : Inv P G S ρ h w) (ha : RepA S ρ h w a.tmps ad) {imm : Bool} {t t1 : TypeId} {x : Operand} {x' : Opd} (h1 : trOpd P t1 x = some x') (hd : dop call (.box imm x') ad h = some out) :
    SimOut P G S ρ h w ((do pure (Next.value (← Instr.box t (a.eval x))) : Sem Next).run P w) out := by
  have g1 := rep_opd ha h1
  have run : (Instr.box t (a.eval x)).run P w = .ok (.pointer (some ⟨w.heap.size, 0, none⟩)) (w.alloc (.cells (a.eval x).cells t)) := by
    simp [Instr.box, run_newVar]
  rw [run_v run]
  simp only [dop] at hd
  split at hd
  · rename_i hone
    obtain ⟨c1, c2, c3⟩ := rep_cells g1 hone
    cases imm with
    | true =>
      simp only [if_true, Option.map_eq_some_iff] at hd
      obtain ⟨fs, hfs, rfl⟩ := hd
      obtain ⟨m1, s1⟩ := rep_flats (u := fun j => (a.eval x).cells.getD j undef) c2 hfs
      have one : ∀ (j : Nat) (y : FV), fs[j]? = some y → y.one = true := fun j y hy => by
        obtain ⟨z, hz, hf⟩ := (mapM_some hfs).2 j y hy
        have := (List.all_eq_true.1 hone) _ (List.mem_of_getElem? hz)
        cases z <;> simp only [DV.flat, Option.some.injEq, reduceCtorEq] at hf
        · subst hf; exact this
        · subst hf; rfl
      obtain ⟨S', E, I, R⟩ := ref_new hi (e := t) (by omega) one s1
      exact ⟨_, _, S', ρ, .inl rfl, .d _ _ R, E, I⟩
    | false =>
      simp only [Bool.false_eq_true, if_false] at hd
      split at hd
      · rename_i hlow
        simp only [Option.some.injEq] at hd
        subst hd
        obtain ⟨S', E, I⟩ := box_new hi (e := t) (.inl rfl) c1 hone hlow c2
        exact ⟨_, _, S', _, .inl rfl, .ptr _ _ _ (by rw [← hi.len]; simp), E, I⟩
      · cases hd
  · cases hd

theorem sim_nilrow (hi : Inv P G S ρ h w) {sz : Nat} (hd : dop call (.nilrow sz) ad h = some out) : SimOut P G S ρ h w (.ok (.value (.slice none 0 0)) w) out := by
  simp only [dop, Option.some.injEq] at hd
  subst hd
  have E := ext_rows hi 1
  have I := inv_rows hi 1
  refine ⟨.slice none 0 0, w, S, _, .inl rfl, .row _ _ _ _ (.slice0 _ _ _) (by simp) (fun n hn => ?_), E, I⟩
  simp [Res.tip] at hn
  subst hn
  refine ⟨by simp, fun _ => ?_⟩
  rw [← hi.len]
  simp

/-- What is minted, and what it is. -/
theorem minted_ok : ∀ {zs : List Value} {fs : List FV} (n : Nat), constsOk zs fs = true → ∀ {S : Settled} {ρ : List RI} {h : List Res} {w : World},
    (allocCells (minted zs fs) n).1.length = zs.length ∧ (allocCells (minted zs fs) n).2 = List.replicate (allocCells (minted zs fs) n).2.length .nilrow ∧
    (∀ (j : Nat) (x : DV), (allocCells (minted zs fs) n).1[j]? = some x → (∃ f, x = .d f ∧ RepF S w (zs.getD j undef) f) ∨ (∃ sz k, x = .row sz [] (n + k) ∧ k < (allocCells (minted zs fs) n).2.length ∧ zs.getD j undef = .slice none 0 0)) := by
  intro zs
  induction zs with
  | nil => intro fs n hc S ρ h w; cases fs <;> simp [minted, allocCells]
  | cons z zs ih =>
    intro fs n hc S ρ h w
    cases fs with
    | nil => simp [constsOk] at hc
    | cons f fs =>
      simp only [constsOk, Bool.and_eq_true] at hc
      by_cases hm : ∃ sz l, z = .slice none 0 0 ∧ f = .slice sz l
      · obtain ⟨sz, l, rfl, rfl⟩ := hm
        obtain ⟨l1, l2, l3⟩ := ih (n + 1) hc.2 (S := S) (ρ := ρ) (h := h) (w := w)
        simp only [minted, mint1, allocCells]
        refine ⟨by simp [l1], ?_, fun j x hx => ?_⟩
        · rw [List.length_cons, List.replicate_succ, ← l2]
        · cases j with
          | zero => simp at hx; subst hx; exact .inr ⟨sz, 0, rfl, by simp, rfl⟩
          | succ j =>
            rcases l3 j x (by simpa using hx) with ⟨g, rfl, hg⟩ | ⟨sz', k, rfl, hk, hz⟩
            · exact .inl ⟨g, rfl, by simpa using hg⟩
            · exact .inr ⟨sz', k + 1, by congr 1; omega, by simp; omega, by simpa using hz⟩
      · have e : minted (z :: zs) (f :: fs) = .ok f :: minted zs fs := by
          have : mint1 z f = .ok f := by
            unfold mint1
            split
            · rename_i sz l
              exact absurd ⟨sz, l, rfl, rfl⟩ hm
            · rfl
          simp only [minted, this]
        rw [e]
        obtain ⟨l1, l2, l3⟩ := ih n hc.2 (S := S) (ρ := ρ) (h := h) (w := w)
        simp only [allocCells]
        refine ⟨by simp [l1], l2, fun j x hx => ?_⟩
        cases j with
        | zero => simp at hx; subst hx; exact .inl ⟨f, rfl, by simpa using rep_const hc.1⟩
        | succ j =>
          rcases l3 j x (by simpa using hx) with ⟨g, rfl, hg⟩ | ⟨sz', k, rfl, hk, hz⟩
          · exact .inl ⟨g, rfl, by simpa using hg⟩
          · exact .inr ⟨sz', k, rfl, hk, by simpa using hz⟩

theorem tagOf_ok (t : TypeId) : tagOf P t = 0 ∨ t = tagOf P t := by
  unfold tagOf
  split
  · split
    · split
      · exact .inr rfl
      · exact .inl rfl
    · exact .inl rfl
  · exact .inl rfl
theorem tagE_ok (e : TypeId) : tagE P e = 0 ∨ e = tagE P e := by
  unfold tagE
  split
  · exact .inr rfl
  · exact .inl rfl

theorem sim_alloc (hi : Inv P G S ρ h w) {t : TypeId} {z : List Value × List FV} (hz : zeroCellsOf P t = some z) (hd : dop call (.alloc (minted z.1 z.2) (tagOf P t)) ad h = some out) :
    SimOut P G S ρ h w ((do pure (Next.value (← Instr.alloc t true (.tuple #[]))) : Sem Next).run P w) out := by
  unfold zeroCellsOf at hz
  split at hz
  · rename_i i hi'
    split at hz
    · rename_i zv hzv
      split at hz
      · rename_i fs hfs
        split at hz
        · rename_i hk
          simp only [Option.some.injEq] at hz
          subst hz
          have run : (Instr.alloc t true (.tuple #[])).run P w = .ok (.pointer (some ⟨w.heap.size, 0, none⟩)) (w.alloc (.cells zv.cells t)) := by
            simp [Instr.alloc, zeroValue, typeInfo, hi', hzv, run_newVar]
          rw [run_v run]
          simp only [dop] at hd
          split at hd
          · rename_i hone
            simp only [Option.some.injEq] at hd
            subst hd
            generalize hr : allocCells (minted zv.cells.toList fs) h.length = r at *
            have I1 := inv_rows hi r.2.length
            have E1 := ext_rows hi r.2.length
            obtain ⟨l1, l2, l3⟩ := minted_ok h.length hk (S := S) (ρ := ρ ++ List.replicate r.2.length (.row (.slice none 0 0))) (h := h ++ r.2) (w := w)
            rw [hr] at l1 l2 l3
            rw [← l2] at I1 E1
            have rep : ∀ (j : Nat) (x : DV), r.1[j]? = some x → RepD S (ρ ++ List.replicate r.2.length (.row (.slice none 0 0))) (h ++ r.2) w (zv.cells.getD j undef) x ∧ x.low (h ++ r.2).length = true := fun j x hx => by
              have e : zv.cells.getD j undef = zv.cells.toList.getD j undef := by simp [Array.getD_eq_getD_getElem?, List.getD_eq_getElem?_getD]
              rw [e]
              rcases l3 j x hx with ⟨f, rfl, hf⟩ | ⟨sz, k, rfl, hk, hz⟩
              · exact ⟨.d _ _ hf, rfl⟩
              · rw [hz]
                refine ⟨.row _ _ _ _ (.slice0 _ _ _) (by simp; omega) fun n hn => ?_, by simp [DV.low]; omega⟩
                rw [l2, List.getElem?_append_right (by omega)] at hn
                simp [hk, Res.tip] at hn
                subst hn
                refine ⟨by simp, fun _ => ?_⟩
                rw [List.getElem?_append_right (by rw [hi.len]; omega), hi.len]
                simp [hk]
            have lows : DV.lows (h ++ r.2).length r.1 = true := by
              have : ∀ (l : List DV), (∀ (j : Nat) (x : DV), l[j]? = some x → x.low (h ++ r.2).length = true) → DV.lows (h ++ r.2).length l = true := by
                intro l
                induction l with
                | nil => intro _; rfl
                | cons y l ih =>
                  intro hl
                  simp only [DV.lows, Bool.and_eq_true]
                  exact ⟨hl 0 y rfl, ih fun j x hx => hl (j + 1) x (by simpa using hx)⟩
              exact this _ fun j x hx => (rep j x hx).2
            obtain ⟨S', E, I⟩ := box_new I1 (e := t) (c := zv.cells) (tag := tagOf P t) (tagOf_ok t) (by simpa using l1.symm) hone lows (fun j x hx => (rep j x hx).1)
            refine ⟨_, _, S', _, .inl rfl, .ptr _ _ _ ?_, E1.trans E, I⟩
            rw [List.getElem?_append_right (by simp [hi.len])]
            simp [hi.len]
          · cases hd
        · cases hz
      · cases hz
    · cases hz
  · cases hz

section
variable {S' : Settled} {ρ' : List RI} {h' : List Res} {w' : World}
/-! ### Cutting off what a call or a round has made -/
theorem take_at {α : Type} {l : List α} {n i : Nat} (h : i < n) : (l.take n)[i]? = l[i]? := List.getElem?_take_of_lt h
theorem take_some {α : Type} {l : List α} {n i : Nat} {x : α} (h : (l.take n)[i]? = some x) : i < n ∧ l[i]? = some x := by
  rw [List.getElem?_take] at h
  split at h
  · exact ⟨by assumption, h⟩
  · cases h

theorem RepD.take {n : Nat} {v : Value} {x : DV} (hx : RepD S ρ h w v x) : x.low n = true → RepD S (ρ.take n) (h.take n) w v x := by
  induction hx with
  | d v x hx => exact fun _ => .d _ _ hx
  | ptr id off b hb => exact fun hl => .ptr _ _ _ (by rw [take_at (by simpa [DV.low] using hl)]; exact hb)
  | row v sz elems t hx ht hr =>
    intro hl
    have hl' : t < n := by simpa [DV.low] using hl
    refine .row _ _ _ _ hx (by simp; omega) fun k hk => ?_
    rw [take_at hl'] at hk
    obtain ⟨h1, h2⟩ := hr k hk
    exact ⟨h1, fun e => by rw [take_at hl']; exact h2 e⟩
  | agg cs fs hl hh ih => exact fun h1 => .agg _ _ hl fun j x hx => ih j x hx (DV.lows_at (by simpa [DV.low] using h1) hx)
  | clo fn p q fp fq hp hq h1 h2 ih1 ih2 =>
    intro hl
    simp only [DV.low, Bool.and_eq_true] at hl
    exact .clo _ _ _ _ _ hp hq (fun j x hx => ih1 j x hx (DV.lows_at hl.1 hx)) (fun j x hx => ih2 j x hx (DV.lows_at hl.2 hx))
  | tup cs fs hl hh ih => exact fun h1 => .tup _ _ hl fun j x hx => ih j x hx (DV.lows_at (by simpa [DV.low] using h1) hx)
  | iface t v x hh ih => exact fun hl => .iface _ _ _ (ih (by simpa [DV.low] using hl))
  | yld id b hb => exact fun hl => .yld _ _ (by rw [take_at (by simpa [DV.low] using hl)]; exact hb)
  | bslc id off n0 cap b hc hb => exact fun hl => .bslc _ _ _ _ _ hc (by rw [take_at (by simpa [DV.low] using hl)]; exact hb)
  | rptr A p n0 cap elems t hx hp ht hr =>
    intro hl
    have hl' : t < n := by simpa [DV.low] using hl
    refine .rptr _ _ _ _ _ _ hx hp (by simp; omega) fun k hk => ?_
    rw [take_at hl'] at hk
    obtain ⟨h1, h2⟩ := hr k hk
    exact ⟨h1, fun e => by rw [take_at hl']; exact h2 e⟩
  | vslc b o cap id g sz off k hc ht hr =>
    intro hl
    have hl' : id < n := by simpa [DV.low] using hl
    refine .vslc _ _ _ _ _ _ _ _ hc (by simp; omega) fun k hk => ?_
    rw [take_at hl'] at hk
    obtain ⟨h1, h2⟩ := hr k hk
    exact ⟨h1, fun e => by rw [take_at hl']; exact h2 e⟩
  | eptr b o' id g k o ht hr =>
    intro hl
    have hl' : id < n := by simpa [DV.low] using hl
    refine .eptr _ _ _ _ _ _ (by simp; omega) fun k hk => ?_
    rw [take_at hl'] at hk
    obtain ⟨h1, h2⟩ := hr k hk
    exact ⟨h1, fun e => by rw [take_at hl']; exact h2 e⟩
  | mref id b hb => exact fun hl => .mref _ _ (by rw [take_at (by simpa [DV.low] using hl)]; exact hb)

theorem Inv.take (hi : Inv P G S ρ h w) (n : Nat) : Inv P G S (ρ.take n) (h.take n) w where
  len := by simp [hi.len]
  bound := hi.bound
  glob := hi.glob
  low := fun i b r hr hb => hi.low i b r (take_some hr).2 hb
  apart := fun i j b r r' hr hr' hb hb' => hi.apart i j b r r' (take_some hr).2 (take_some hr').2 hb hb'
  box := fun i cells tag hc => by
    obtain ⟨hin, hc⟩ := take_some hc
    obtain ⟨b, c, e, g1, g2, g3, g4, g5⟩ := hi.box i cells _ hc
    exact ⟨b, c, e, by rw [take_at hin]; exact g1, g2, g3, fun j x hx => ⟨(g4 j x hx).1, (g4 j x hx).2.1, (g4 j x hx).2.2.take (DV.low_mono (by omega) _ (g4 j x hx).2.1)⟩, g5⟩
  nilrow := fun i hc => by
    obtain ⟨hin, hc⟩ := take_some hc
    rw [take_at hin]
    exact hi.nilrow i hc
  row := fun i sz k et hc => by
    obtain ⟨hin, hc⟩ := take_some hc
    obtain ⟨b, o, cap, c, e, g1, g⟩ := hi.row i sz k et hc
    exact ⟨b, o, cap, c, e, by rw [take_at hin]; exact g1, g⟩
  iter := fun i s pos hc => by
    obtain ⟨hin, hc⟩ := take_some hc
    obtain ⟨b, g1, g2⟩ := hi.iter i s pos hc
    exact ⟨b, by rw [take_at hin]; exact g1, g2⟩
  loop := fun i ps as bd snap st hc => by
    obtain ⟨hin, hc⟩ := take_some hc
    obtain ⟨b, r, g1, g2, g3, g4, g5⟩ := hi.loop i ps as bd snap st hc
    exact ⟨b, r, by rw [take_at hin]; exact g1, g2, g3, g4, fun j x hx => ⟨(g5 j x hx).1, (g5 j x hx).2.take (DV.low_mono (by omega) _ (g5 j x hx).1)⟩⟩
  own := fun i r hc => by
    obtain ⟨hin, hc⟩ := take_some hc
    obtain ⟨ri, g1, g2⟩ := hi.own i r hc
    exact ⟨ri, by rw [take_at hin]; exact g1, g2⟩

theorem Ext.takeN {n : Nat} (hln : h.length ≤ n) (hi : Inv P G S ρ h w) (E : Ext S ρ h w S' ρ' h' w') : Ext S ρ h w S' (ρ'.take n) (h'.take n) w' where
  settled := E.settled
  cells := E.cells
  len := by have := E.len; simp; omega
  boxes := fun id b hb => by
    have : id < h.length := by rw [← hi.len]; exact (List.getElem?_eq_some_iff.1 hb).1
    rw [take_at (by omega)]
    exact E.boxes id b hb
  rows := fun t n' ht hn => by
    rw [take_at (by omega)] at hn
    obtain ⟨n, h1, h2, h3⟩ := E.rows t n' ht hn
    exact ⟨n, h1, h2, fun e => by rw [take_at (by omega)]; exact h3 e⟩
  size := E.size
  os := E.os
  tape := E.tape
  output := E.output
  frame := E.frame
  blocks := fun i b r hr hb => E.blocks i b r (take_some hr).2 hb
  fresh := E.fresh
theorem Ext.take (hi : Inv P G S ρ h w) (E : Ext S ρ h w S' ρ' h' w') : Ext S ρ h w S' (ρ'.take h.length) (h'.take h.length) w' where
  settled := E.settled
  cells := E.cells
  len := by have := E.len; simp; omega
  boxes := fun id b hb => by
    have : id < h.length := by rw [← hi.len]; exact (List.getElem?_eq_some_iff.1 hb).1
    rw [take_at this]
    exact E.boxes id b hb
  rows := fun t n' ht hn => by
    rw [take_at ht] at hn
    obtain ⟨n, h1, h2, h3⟩ := E.rows t n' ht hn
    exact ⟨n, h1, h2, fun e => by rw [take_at ht]; exact h3 e⟩
  size := E.size
  os := E.os
  tape := E.tape
  output := E.output
  frame := E.frame
  blocks := fun i b r hr hb => E.blocks i b r (take_some hr).2 hb
  fresh := E.fresh

end
end
end Go.Deepv
