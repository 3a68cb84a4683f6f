/-
  The tokens of a shown text; how long it is; places rise.
  Conditions: none.
-/
import Derived.Test.YtoadpaaghjomnaaDoorHC
set_option linter.unusedVariables false
set_option linter.unusedSimpArgs false
set_option maxRecDepth 100000
namespace Go.Proofs.YtoadpaaghjomnaaDoor.Codes
open Go Go.Deepv

theorem skI_suffix (b : Bool) (l : List Int) : ∃ n, skI b l = l.drop n := by
  induction l generalizing b with
  | nil => exact ⟨0, by cases b <;> rfl⟩
  | cons x l ih =>
    cases b with
    | false =>
      simp only [skI]
      split
      · obtain ⟨n, hn⟩ := ih false
        exact ⟨n + 1, by simpa using hn⟩
      · split
        · obtain ⟨n, hn⟩ := ih true
          exact ⟨n + 1, by simpa using hn⟩
        · exact ⟨0, rfl⟩
    | true =>
      simp only [skI]
      split
      · obtain ⟨n, hn⟩ := ih false
        exact ⟨n + 1, by simpa using hn⟩
      · obtain ⟨n, hn⟩ := ih true
        exact ⟨n + 1, by simpa using hn⟩
theorem sc_sk {l : List Int} (h : Sc l) (b : Bool) : Sc (skI b l) := by
  obtain ⟨n, hn⟩ := skI_suffix b l
  rw [hn]
  exact sc_drop h n

/-- Each token that is told is one that was read. -/
theorem lexI_toks : ∀ (f : Nat) (l : List Int) (n : Nat), Sc l → ∀ x ∈ (lexI f l n).1, ∃ l' m, Sc l' ∧ l' ≠ [] ∧ tokI l' = .ok (x, m) := by
  intro f
  induction f with
  | zero => intro l n hs x hx; simp [lexI] at hx
  | succ f ih =>
    intro l n hs x hx
    cases l with
    | nil => simp [lexI] at hx
    | cons y l =>
      simp only [lexI] at hx
      cases ht : tokI (y :: l) with
      | error e => rw [ht] at hx; simp at hx
      | ok vm =>
        obtain ⟨v, m⟩ := vm
        rw [ht] at hx
        simp only at hx
        split at hx
        · simp at hx
        · rcases List.mem_cons.1 hx with h | h
          · exact ⟨y :: l, m, hs, by simp, by rw [h]; exact ht⟩
          · exact ih _ _ (sc_sk (sc_drop hs m) false) x h

def shownL (W : Tk → List Int) (ts : List Tk) : List Int := ts.flatMap (fun x => W x ++ [32]) ++ [32]
theorem skI_head {l : List Int} (h : l ≠ []) (hb : rBlank (pk l 0) = false) (h35 : pk l 0 ≠ 35) : skI false l = l := by
  cases l with
  | nil => exact absurd rfl h
  | cons x t =>
    rw [pk_cons0] at hb h35
    simp only [skI, hb, Bool.false_eq_true, if_false, h35]
theorem lexI_shown (W : Tk → List Int) : ∀ (ts : List Tk) (f n : Nat), (∀ x ∈ ts, BackW x (W x)) → (shownL W ts).length ≤ f → n + ts.length ≤ 4096 → lexI f (skI false (shownL W ts)) n = (ts, none) := by
  intro ts
  induction ts with
  | nil =>
    intro f n _ _ _
    have : skI false (shownL W []) = [] := by
      unfold shownL
      rfl
    rw [this]
    cases f <;> rfl
  | cons x ts ih =>
    intro f n hW hf hn
    have hx := hW x List.mem_cons_self
    have hsh : shownL W (x :: ts) = W x ++ 32 :: shownL W ts := by
      unfold shownL
      simp
    have hne : W x ++ 32 :: shownL W ts ≠ [] := by simp
    have hp := app_pk hx.ne (32 :: shownL W ts)
    rw [hsh] at hf ⊢
    rw [skI_head hne (by rw [hp]; exact hx.head.1) (by rw [hp]; exact hx.head.2)]
    have htok := hx.tok (shownL W ts)
    have hlen : (W x ++ 32 :: shownL W ts).length = (W x).length + 1 + (shownL W ts).length := by simp; omega
    have hw1 : 1 ≤ (W x).length := List.length_pos_iff.2 hx.ne
    have hdrop : (W x ++ 32 :: shownL W ts).drop (W x).length = 32 :: shownL W ts := List.drop_left
    match f, hf with
    | 0, hf => omega
    | f + 1, hf =>
    simp only [List.length_cons] at hn
    have ih := ih f (n + 1) (fun y hy => hW y (List.mem_cons_of_mem _ hy)) (by omega) (by omega)
    generalize W x ++ 32 :: shownL W ts = L at *
    cases L with
    | nil => exact absurd rfl hne
    | cons c t =>
    have hb : rBlank 32 = true := by decide
    have hsk : skI false (32 :: shownL W ts) = skI false (shownL W ts) := by simp only [skI, hb, if_true]
    simp only [lexI, htok, hdrop, hsk, ih]
    rw [if_neg (by omega)]

/-! ### Lengths -/
theorem encLs_take (l : List Int) (a b : Nat) : (encLs (l.take (a + b))).length = (encLs (l.take a)).length + (encLs ((l.drop a).take b)).length := by
  rw [List.take_add, encLs_app, List.length_append]
theorem encLs_pos {l : List Int} {n : Nat} (h : l ≠ []) (hn : 1 ≤ n) : 1 ≤ (encLs (l.take n)).length := by
  cases l with
  | nil => exact absurd rfl h
  | cons x t =>
    match n, hn with
    | n + 1, _ =>
    have := encI_pos x
    simp only [List.take_succ_cons, encLs, List.length_append]
    omega
theorem pk_ne {l : List Int} (h : ¬ pk l 0 < 0) : l ≠ [] := by
  intro e
  subst e
  exact h (by rw [pk_nil]; decide)
theorem qtI_size : ∀ (f : Nat) (l : List Int) (acc b : ByteArray) (m : Nat), qtI f l acc = some (b, m) → b.size + 1 ≤ acc.size + (encLs (l.take m)).length := by
  intro f
  induction f with
  | zero => intro l acc b m h; simp [qtI] at h
  | succ f ih =>
    intro l acc b m h
    simp only [qtI] at h
    split at h
    · cases h
    · rename_i h0
      have hne := pk_ne (l := l) (fun h => h0 (.inl h))
      split at h
      · simp only [Option.some.injEq, Prod.mk.injEq] at h
        obtain ⟨rfl, rfl⟩ := h
        have := encLs_pos hne (Nat.le_refl 1)
        omega
      · split at h
        · split at h
          · obtain ⟨q, hq, he⟩ := Option.map_eq_some_iff.1 h
            obtain ⟨b', m'⟩ := q
            simp only [Prod.mk.injEq] at he
            obtain ⟨rfl, rfl⟩ := he
            have i := ih _ _ _ _ hq
            rw [ByteArray.size_append, byteB_size] at i
            have := encLs_pos hne (n := 1 + (escI (l.drop 1)).2.2) (by omega)
            rw [encLs_take]
            omega
          · cases h
        · obtain ⟨q, hq, he⟩ := Option.map_eq_some_iff.1 h
          obtain ⟨b', m'⟩ := q
          simp only [Prod.mk.injEq] at he
          obtain ⟨rfl, rfl⟩ := he
          have i := ih _ _ _ _ hq
          rw [ByteArray.size_append, encB_size] at i
          rw [encLs_take]
          cases l with
          | nil => exact absurd rfl hne
          | cons x t =>
            rw [pk_cons0] at i
            have : (encLs ((x :: t).take 1)).length = (encI x).length := by
              simp [encLs]
            omega
theorem dd_len : ∀ (m u : Nat), u < 10 ^ (m + 1) → (Lib.decDigits u).length ≤ m + 1 := by
  intro m
  induction m with
  | zero =>
    intro u h
    rw [Lib.decDigits, dif_pos (by simpa using h)]
    simp
  | succ m ih =>
    intro u h
    rw [Lib.decDigits]
    split
    · simp
    · rw [List.length_append]
      have := ih (u / 10) (by
        rw [Nat.pow_succ] at h
        exact Nat.div_lt_of_lt_mul (by rw [Nat.mul_comm]; exact h))
      simp only [List.length_cons, List.length_nil]
      omega
theorem numI_lt (l : List Int) (hd : ∀ x ∈ l, rDig x = true) : (numI l).2 < 10 ^ l.length := by
  suffices h : ∀ (l : List Int) (s : Bool × Int) (k : Nat), (∀ x ∈ l, rDig x = true) → 0 ≤ s.2 → s.2 < 10 ^ k → (l.foldl numStep s).2 < 10 ^ (k + l.length) by
    have := h l (false, 0) 0 hd (by simp) (by simp)
    rw [Nat.zero_add] at this
    exact this
  intro l
  induction l with
  | nil => intro s k _ _ h; exact h
  | cons x l ih =>
    intro s k hd h0 h1
    have hx := hd x List.mem_cons_self
    simp only [rDig, Bool.and_eq_true, decide_eq_true_eq] at hx
    have hp : (10 : Int) ^ (k + 1) = 10 ^ k * 10 := Int.pow_succ ..
    have hs : 0 ≤ (numStep s x).2 ∧ (numStep s x).2 < 10 ^ (k + 1) := by
      rw [hp]
      unfold numStep
      split
      · omega
      · split
        · simp only; omega
        · simp only; omega
    have := ih (numStep s x) (k + 1) (fun y hy => hd y (List.mem_cons_of_mem _ hy)) hs.1 hs.2
    rw [List.foldl_cons, List.length_cons]
    rwa [show k + (l.length + 1) = k + 1 + l.length by omega]
theorem textI_size (l : List Int) : (textI l).size = (encLs l).length := by
  rw [← textI_enc]
  exact Array.length_toList.symm
theorem tok_size {l : List Int} {x : Tk} {m : Nat} (hl : l ≠ []) (h : tokI l = .ok (x, m)) : (showV x).size + 1 ≤ 5 * (encLs (l.take m)).length := by
  unfold tokI tokF at h
  cases c1 : (rLow (pk l 0) || rUp (pk l 0)) with
  | true =>
    rw [c1] at h
    simp only [if_true] at h
    split at h
    · cases h
    · simp only [Except.ok.injEq, Prod.mk.injEq] at h
      obtain ⟨rfl, rfl⟩ := h
      have hpart : rPart (pk l 0) = true := by
        unfold rPart
        cases h1 : rLow (pk l 0) <;> simp_all
      have hpos : 1 ≤ cntI rPart l := by
        cases l with
        | nil => exact absurd rfl hl
        | cons y t =>
          rw [pk_cons0] at hpart
          simp only [cntI, hpart, if_true]
          omega
      have hk := nameKind_in (textI (l.take (cntI rPart l))) (pk l 0)
      have := encLs_pos hl hpos
      unfold showV
      rw [if_pos (by simp only; omega)]
      simp only
      rw [textI_size]
      omega
  | false =>
    rw [c1] at h
    simp only [Bool.false_eq_true, if_false] at h
    cases c2 : rDig (pk l 0) with
    | true =>
      rw [c2] at h
      simp only [if_true] at h
      split at h
      · cases h
      · simp only [Except.ok.injEq, Prod.mk.injEq] at h
        obtain ⟨rfl, rfl⟩ := h
        have hpos : 1 ≤ cntI rDig l := by
          cases l with
          | nil => exact absurd rfl hl
          | cons y t =>
            rw [pk_cons0] at c2
            simp only [cntI, c2, if_true]
            omega
        have hin := numI_in (l.take (cntI rDig l)) (cntI_take rDig l)
        have hlt := numI_lt (l.take (cntI rDig l)) (cntI_take rDig l)
        have hlen : (l.take (cntI rDig l)).length = cntI rDig l := by
          rw [List.length_take]
          have := cntI_le rDig l
          omega
        have hes := encLs_size (l.take (cntI rDig l))
        rw [hlen] at hlt hes
        generalize (numI (l.take (cntI rDig l))).2 = v at *
        obtain ⟨u, rfl⟩ : ∃ u : Nat, v = u := ⟨v.toNat, (Int.toNat_of_nonneg hin.1).symm⟩
        obtain ⟨k, hk⟩ : ∃ k, cntI rDig l = k + 1 := ⟨cntI rDig l - 1, by omega⟩
        have hd := dd_len k u (by
          rw [hk] at hlt
          exact_mod_cast hlt)
        have hsz : (showV ⟨3, ⟨#[]⟩, u, ⟨#[]⟩⟩).size = (Lib.decDigits u).length := by
          unfold showV digitsB Lib.itoa
          rw [if_neg (by simp), if_pos rfl]
          simp only
          rw [if_neg (by omega), show (max (u : Int) 0).toNat = u by omega]
          exact List.size_toArray ..
        rw [hsz]
        omega
    | false =>
      rw [c2] at h
      simp only [Bool.false_eq_true, if_false] at h
      by_cases c3 : pk l 0 = 34
      · simp only [c3, if_true] at h
        split at h
        · rename_i b n hq
          split at h
          · cases h
          · simp only [Except.ok.injEq, Prod.mk.injEq] at h
            obtain ⟨rfl, rfl⟩ := h
            have hqs := qtI_size _ _ _ _ _ hq
            have z0 : (⟨#[]⟩ : ByteArray).size = 0 := rfl
            have hp := encLs_pos hl (Nat.le_refl 1)
            rw [encLs_take]
            have hf := fold_size b.data.toList ⟨#[34]⟩
            have s34 : (⟨#[34]⟩ : ByteArray).size = 1 := rfl
            have hbl : b.data.toList.length = b.size := Array.length_toList
            have hsz : (showV ⟨4, ⟨#[]⟩, 0, b⟩).size ≤ 4 * b.size + 2 := by
              unfold showV quoteB
              rw [if_neg (by simp), if_neg (by simp), if_pos rfl, ByteArray.size_append]
              simp only
              omega
            omega
        · cases h
      · simp only [c3, if_false] at h
        split at h
        · cases h
        · rename_i hn
          simp only [Except.ok.injEq, Prod.mk.injEq] at h
          obtain ⟨rfl, rfl⟩ := h
          have := encLs_pos hl (n := signN (pk l 0) (pk l 1)) (by omega)
          unfold showV
          rw [if_pos (by simp)]
          simp only
          rw [textI_size]
          omega
def shSize (ts : List Tk) : Nat := (ts.map fun x => (showV x).size + 1).sum
theorem encLs_drop (l : List Int) (n : Nat) : (encLs l).length = (encLs (l.take n)).length + (encLs (l.drop n)).length := by
  conv => lhs; rw [← List.take_append_drop n l]
  rw [encLs_app, List.length_append]
theorem lexI_size : ∀ (f : Nat) (l : List Int) (n : Nat), shSize (lexI f l n).1 ≤ 5 * (encLs l).length := by
  intro f
  induction f with
  | zero => intro l n; simp [lexI, shSize]
  | succ f ih =>
    intro l n
    cases l with
    | nil => simp [lexI, shSize]
    | cons y l =>
      simp only [lexI]
      cases ht : tokI (y :: l) with
      | error e => simp [shSize]
      | ok vm =>
        obtain ⟨v, m⟩ := vm
        simp only
        split
        · simp [shSize]
        · have h1 := tok_size (by simp) ht
          have h2 := ih (skI false ((y :: l).drop m)) (n + 1)
          obtain ⟨k, hk⟩ := skI_suffix false ((y :: l).drop m)
          have h3 := encLs_drop (y :: l) m
          have h4 := encLs_drop ((y :: l).drop m) k
          rw [hk] at h2 ⊢
          simp only [shSize, List.map_cons, List.sum_cons] at h2 ⊢
          omega
end Go.Proofs.YtoadpaaghjomnaaDoor.Codes
