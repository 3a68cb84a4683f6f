/-
  Places rise; what Lex tells, in two cases.
  Conditions: none.
-/
import Derived.Test.YtoadpaaghjomnaaDoorHD
set_option linter.unusedVariables false
set_option linter.unusedSimpArgs false
set_option maxRecDepth 100000
namespace Go.Proofs.YtoadpaaghjomnaaDoor.Codes
open Go Go.Deepv

/-! ### Places -/
def le2 (a b : Int × Int) : Prop := a.1 < b.1 ∨ a.1 = b.1 ∧ a.2 ≤ b.2
theorem le2_refl (a : Int × Int) : le2 a a := .inr ⟨rfl, Int.le_refl _⟩
theorem le2_trans {a b c : Int × Int} (h : le2 a b) (g : le2 b c) : le2 a c := by
  unfold le2 at *
  omega
theorem nxt_up (w l c : Int) : le2 (l, c) (nxtL l w, nxtC c w) := by
  unfold le2 nxtL nxtC
  simp only
  split <;> omega
theorem adv_up : ∀ (ws : List Int) (l c : Int), le2 (l, c) (advL l ws, advC c ws) := by
  intro ws
  induction ws with
  | nil => intro l c; exact le2_refl _
  | cons w ws ih =>
    intro l c
    simp only [advL, advC, List.foldl_cons]
    exact le2_trans (nxt_up w l c) (ih _ _)
theorem place_ge : ∀ (ws : List Int) (p : Nat) (l c : Int) (i : Nat) (x : Rn), (place ws p l c)[i]? = some x → le2 (l, c) (x.l, x.c) := by
  intro ws
  induction ws with
  | nil => intro p l c i x h; simp [place] at h
  | cons w ws ih =>
    intro p l c i x h
    cases i with
    | zero =>
      simp only [place, List.getElem?_cons_zero, Option.some.injEq] at h
      subst h
      exact le2_refl _
    | succ i =>
      simp only [place, List.getElem?_cons_succ] at h
      exact le2_trans (nxt_up w l c) (ih _ _ _ i x h)
theorem place_end : ∀ (ws : List Int) (p : Nat) (l c : Int) (i : Nat) (x : Rn), (place ws p l c)[i]? = some x → le2 (x.l, x.c) (advL l ws, advC c ws) := by
  intro ws
  induction ws with
  | nil => intro p l c i x h; simp [place] at h
  | cons w ws ih =>
    intro p l c i x h
    cases i with
    | zero =>
      simp only [place, List.getElem?_cons_zero, Option.some.injEq] at h
      subst h
      exact adv_up (w :: ws) l c
    | succ i =>
      simp only [place, List.getElem?_cons_succ] at h
      exact ih _ _ _ i x h
theorem place_mono : ∀ (ws : List Int) (p : Nat) (l c : Int) (i j : Nat) (x y : Rn), i ≤ j → (place ws p l c)[i]? = some x → (place ws p l c)[j]? = some y → le2 (x.l, x.c) (y.l, y.c) := by
  intro ws
  induction ws with
  | nil => intro p l c i j x y _ h; simp [place] at h
  | cons w ws ih =>
    intro p l c i j x y hij h g
    cases i with
    | zero =>
      simp only [place, List.getElem?_cons_zero, Option.some.injEq] at h
      have := place_ge (w :: ws) p l c j y g
      subst h
      exact this
    | succ i =>
      cases j with
      | zero => omega
      | succ j =>
        simp only [place, List.getElem?_cons_succ] at h g
        exact ih _ _ _ i j x y (by omega) h g
def up (a : Int × Int) : List (Int × Int) → Prop
  | [] => True
  | b :: t => le2 a b ∧ up b t
theorem tokK_ge {rs : List Rn} {k k' : Nat} {v : Tk} (h : tokK rs k = .ok (v, k')) : k ≤ k' := by
  have := tokK_I (rs := rs) rfl k
  rw [h] at this
  generalize tokI ((rs.map Rn.r).drop k) = e at *
  cases e with
  | error e => cases this
  | ok vm =>
    obtain ⟨v', m⟩ := vm
    simp only [Except.ok.injEq, Prod.mk.injEq] at this
    omega
theorem skK_ge (rs : List Rn) (k : Nat) : min k rs.length ≤ skK rs k := by
  obtain ⟨n, hn⟩ := sk_suffix false (rs.drop k)
  unfold skK
  rw [hn, List.length_drop, List.length_drop]
  omega
theorem lexK_up (rs : List Rn) (E : Int × Int) (hm : ∀ (i j : Nat) (x y : Rn), i ≤ j → rs[i]? = some x → rs[j]? = some y → le2 (x.l, x.c) (y.l, y.c)) (he : ∀ (i : Nat) (x : Rn), rs[i]? = some x → le2 (x.l, x.c) E) :
    ∀ (f k n : Nat) (a : Int × Int), (∀ (j : Nat) (x : Rn), k ≤ j → rs[j]? = some x → le2 a (x.l, x.c)) → le2 a E → up a ((lexK rs f k n).1.map Prod.snd ++ [E]) := by
  intro f
  induction f with
  | zero => intro k n a _ h; exact ⟨h, trivial⟩
  | succ f ih =>
    intro k n a hj h
    simp only [lexK]
    split
    · exact ⟨h, trivial⟩
    · rename_i x hx
      split
      · exact ⟨h, trivial⟩
      · rename_i v k' hv
        split
        · exact ⟨h, trivial⟩
        · refine ⟨hj k x (Nat.le_refl _) hx, ih _ _ _ (fun j y h1 h2 => hm k j x y ?_ hx h2) (he k x hx)⟩
          have h3 := tokK_ge hv
          have h4 := skK_ge rs k'
          have h5 : k < rs.length := (List.getElem?_eq_some_iff.1 hx).1
          omega
theorem up_at : ∀ (l : List (Int × Int)) (a : Int × Int), up a l → ∀ (i : Nat) (x y : Int × Int), l[i]? = some x → l[i + 1]? = some y → le2 x y := by
  intro l
  induction l with
  | nil => intro a _ i x y h; simp at h
  | cons b t ih =>
    intro a h i x y h1 h2
    cases i with
    | zero =>
      simp only [List.getElem?_cons_zero, Option.some.injEq] at h1
      subst h1
      cases t with
      | nil => simp at h2
      | cons d t =>
        simp only [Nat.zero_add, List.getElem?_cons_succ, List.getElem?_cons_zero, Option.some.injEq] at h2
        subst h2
        exact h.2.1
    | succ i =>
      simp only [List.getElem?_cons_succ] at h1 h2
      exact ih b h.2 i x y h1 h2

/-! ### What Lex tells, in two cases -/
theorem tokI_err {l : List Int} {e : Int} (h : tokI l = .error e) : e ≠ 0 := by
  unfold tokI tokF at h
  repeat' split at h
  all_goals first
    | cases h; done
    | (simp only [Except.error.injEq] at h; omega)
theorem lexI_err : ∀ (f : Nat) (l : List Int) (n : Nat) (e : Int), (lexI f l n).2 = some e → e ≠ 0 := by
  intro f
  induction f with
  | zero => intro l n e h; simp [lexI] at h
  | succ f ih =>
    intro l n e h
    cases l with
    | nil => simp [lexI] at h
    | cons x l =>
      simp only [lexI] at h
      split at h
      · rename_i e' he
        simp only [Option.some.injEq] at h
        subst h
        exact tokI_err he
      · split at h
        · simp only [Option.some.injEq] at h
          omega
        · exact ih _ _ _ h
theorem tok_in {l : List Int} {x : Tk} {m : Nat} (h : tokI l = .ok (x, m)) : x.bytes.size ≤ 64 ∧ x.num ≤ 9223372036854775807 := by
  have z0 : (⟨#[]⟩ : ByteArray).size = 0 := rfl
  unfold tokI tokF at h
  split at h
  · split at h
    · cases h
    · simp only [Except.ok.injEq, Prod.mk.injEq] at h
      obtain ⟨rfl, rfl⟩ := h
      simp only
      omega
  · split at h
    · split at h
      · cases h
      · simp only [Except.ok.injEq, Prod.mk.injEq] at h
        obtain ⟨rfl, rfl⟩ := h
        have hin := numI_in (l.take (cntI rDig l)) (cntI_take rDig l)
        unfold mostN at hin
        simp only
        omega
    · split at h
      · split at h
        · split at h
          · cases h
          · simp only [Except.ok.injEq, Prod.mk.injEq] at h
            obtain ⟨rfl, rfl⟩ := h
            simp only
            omega
        · cases h
      · split at h
        · cases h
        · simp only [Except.ok.injEq, Prod.mk.injEq] at h
          obtain ⟨rfl, rfl⟩ := h
          simp only
          omega
/-- Either what is wrong, and no tokens; or runes, their tokens, then the end, places rising. -/
theorem lexP_cases (s : ByteArray) : ((lexP s).1 = [] ∧ (lexP s).2.1 ≠ 0) ∨
    ∃ ws ts el ec, s.size ≤ 16384 ∧ Sc ws ∧ s.data.toList = encLs ws ∧ lexT ws = (ts.map Prod.fst, none) ∧ ts.length < 4096 ∧ lexP s = (ts ++ [(endK, el, ec)], 0, 0, 0) ∧ up (1, 1) ((ts ++ [(endK, el, ec)]).map Prod.snd) := by
  by_cases hsz : s.size ≤ 16384
  · obtain ⟨ws, hs, hB | ⟨t, ht, hB⟩⟩ := text_cases _ s.data.toList (Nat.le_refl _)
    · have hT := lexR_T (ws := ws) (p := 0) (l := 1) (c := 1)
      have hl := lexK_len (place ws 0 1 1) ((place ws 0 1 1).length + 1) (skK (place ws 0 1 1) 0) 0 (by omega)
      have hu := lexK_up (place ws 0 1 1) (advL 1 ws, advC 1 ws) (fun i j x y h1 h2 h3 => place_mono ws 0 1 1 i j x y h1 h2 h3) (fun i x h => place_end ws 0 1 1 i x h)
        ((place ws 0 1 1).length + 1) (skK (place ws 0 1 1) 0) 0 (1, 1) (fun j x _ h => place_ge ws 0 1 1 j x h) (adv_up ws 1 1)
      unfold lexP
      rw [if_pos hsz, spl_all hs hB]
      simp only [place_r]
      have hd : lexR (place ws 0 1 1) = lexK (place ws 0 1 1) ((place ws 0 1 1).length + 1) (skK (place ws 0 1 1) 0) 0 := rfl
      rw [← hd] at hl hu
      generalize lexR (place ws 0 1 1) = x at *
      obtain ⟨a, b⟩ := x
      obtain ⟨h1, h2⟩ := hT
      simp only at h1 h2 hl hu
      cases b with
      | some v =>
        obtain ⟨e, l, c⟩ := v
        exact .inl ⟨rfl, lexI_err _ _ _ _ h2.symm⟩
      | none =>
        simp only
        by_cases hn : a.length = 4096
        · rw [if_pos hn]
          exact .inl ⟨rfl, show (27 : Int) ≠ 0 by decide⟩
        · rw [if_neg hn]
          refine .inr ⟨ws, a, _, _, hsz, hs, hB, ?_, by omega, rfl, ?_⟩
          · exact Prod.ext h1.symm h2.symm
          · rw [List.map_append]
            exact hu
    · obtain ⟨h1, h2⟩ := lexP_bad hsz hs ht hB
      exact .inl ⟨h1, by rw [h2]; decide⟩
  · unfold lexP
    rw [if_neg hsz]
    exact .inl ⟨rfl, by decide⟩
theorem sameT_fst : ∀ (a b : List (Tk × Int × Int)), a.map Prod.fst = b.map Prod.fst → sameT false a b = true := by
  intro a
  induction a with
  | nil =>
    intro b h
    cases b with
    | nil => rfl
    | cons y b => simp at h
  | cons x a ih =>
    intro b h
    cases b with
    | nil => simp at h
    | cons y b =>
      simp only [List.map_cons, List.cons.injEq] at h
      obtain ⟨h1, h2⟩ := h
      simp only [sameT, ih b h2, eqT, h1]
      simp

end Go.Proofs.YtoadpaaghjomnaaDoor.Codes
