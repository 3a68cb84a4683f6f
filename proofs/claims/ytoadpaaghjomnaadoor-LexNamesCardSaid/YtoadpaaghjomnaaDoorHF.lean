/-
  A line's end behind a text; blanks and remarks around it.
  Conditions: none.
-/
import Derived.Test.YtoadpaaghjomnaaDoorHE
set_option linter.unusedVariables false
set_option linter.unusedSimpArgs false
set_option maxRecDepth 100000
namespace Go.Proofs.YtoadpaaghjomnaaDoor.Codes
open Go Go.Deepv

theorem pk_app {l : List Int} {i : Nat} (h : i < l.length) (r : List Int) : pk (l ++ r) i = pk l i := by
  unfold pk
  rw [List.getD_eq_getElem?_getD, List.getD_eq_getElem?_getD, List.getElem?_append_left h]
theorem cntI_nl {p : Int → Bool} (h : p 10 = false) (B : List Int) : ∀ l : List Int, cntI p (l ++ 10 :: B) = cntI p l := by
  intro l
  induction l with
  | nil => simp [cntI, h]
  | cons x l ih => simp only [List.cons_append, cntI, ih]
theorem take_nl {l : List Int} {n : Nat} (h : n ≤ l.length) (B : List Int) : (l ++ 10 :: B).take n = l.take n := List.take_append_of_le_length h
theorem drop_nl {l : List Int} {n : Nat} (h : n ≤ l.length) (B : List Int) : (l ++ 10 :: B).drop n = l.drop n ++ 10 :: B := List.drop_append_of_le_length h
theorem escI_nl (l B : List Int) : (escI (l ++ 10 :: B)).2.1 = (escI l).2.1 ∧ ((escI l).2.1 = true → escI (l ++ 10 :: B) = escI l ∧ (escI l).2.2 ≤ l.length) := by
  have x1 : hexOf (-1) = -1 := by decide
  have x2 : hexOf 10 = -1 := by decide
  match l with
  | [] =>
    simp [escI, pk]
  | [x] =>
    unfold escI
    simp only [pk, List.cons_append, List.nil_append, List.getD_cons_zero, List.getD_cons_succ, List.getD_nil, x1, x2]
    repeat' split
    all_goals simp
  | [x, y] =>
    unfold escI
    simp only [pk, List.cons_append, List.nil_append, List.getD_cons_zero, List.getD_cons_succ, List.getD_nil, x1, x2]
    repeat' split
    all_goals simp
  | x :: y :: z :: t =>
    have e : escI (x :: y :: z :: t ++ 10 :: B) = escI (x :: y :: z :: t) := by
      unfold escI
      rw [pk_app (by simp), pk_app (by simp), pk_app (by simp)]
    rw [e]
    refine ⟨rfl, fun _ => ⟨rfl, ?_⟩⟩
    unfold escI
    simp only [List.length_cons]
    repeat' split
    all_goals (simp only; omega)
theorem qtI_nl (B : List Int) : ∀ (f : Nat) (l : List Int) (acc : ByteArray), l.length < f → qtI f (l ++ 10 :: B) acc = qtI f l acc := by
  intro f
  induction f with
  | zero => intro l acc h; omega
  | succ f ih =>
    intro l acc h
    cases l with
    | nil => simp [qtI, pk]
    | cons x t =>
      have e0 : pk (x :: t ++ 10 :: B) 0 = x := rfl
      have e1 : pk (x :: t) 0 = x := rfl
      have d1 : (x :: t ++ 10 :: B).drop 1 = t ++ 10 :: B := rfl
      have d2 : (x :: t).drop 1 = t := rfl
      simp only [List.length_cons] at h
      obtain ⟨h1, h2⟩ := escI_nl t B
      simp only [qtI, e0, e1, d1, d2, h1]
      split
      · rfl
      · split
        · rfl
        · split
          · split
            · rename_i hf
              obtain ⟨h3, h4⟩ := h2 hf
              have d3 : (x :: t ++ 10 :: B).drop (1 + (escI t).2.2) = t.drop (escI t).2.2 ++ 10 :: B := by
                rw [← List.drop_drop, d1, drop_nl h4]
              have d4 : (x :: t).drop (1 + (escI t).2.2) = t.drop (escI t).2.2 := by
                rw [← List.drop_drop, d2]
              rw [h3, d3, d4, ih _ _ (by simp; omega)]
            · rfl
          · rw [ih t _ (by omega)]
theorem signN_nl {l : List Int} (hl : l ≠ []) (B : List Int) (c : Int) : signN c (pk (l ++ 10 :: B) 1) = signN c (pk l 1) ∧ signN c (pk l 1) ≤ l.length := by
  match l, hl with
  | [x], _ =>
    have e1 : pk ([x] ++ 10 :: B) 1 = 10 := rfl
    have e2 : pk [x] 1 = -1 := rfl
    rw [e1, e2]
    have e3 : ∀ d : Int, d = 10 ∨ d = -1 → signN c d = if isSign c then 1 else 0 := fun d hd => by
      unfold signN
      rw [if_neg (by omega)]
    rw [e3 _ (.inl rfl), e3 _ (.inr rfl)]
    refine ⟨rfl, ?_⟩
    split <;> simp
  | x :: y :: t, _ =>
    refine ⟨by rw [pk_app (by simp)], ?_⟩
    unfold signN
    simp only [List.length_cons]
    repeat' split
    all_goals omega
theorem tokI_nl {l : List Int} (hl : l ≠ []) (B : List Int) : tokI (l ++ 10 :: B) = tokI l := by
  have hb : rPart 10 = false := by decide
  have hd : rDig 10 = false := by decide
  have h0 : 0 < l.length := List.length_pos_iff.2 hl
  obtain ⟨s1, s2⟩ := signN_nl hl B (pk l 0)
  rw [← tokF_I ((l ++ 10 :: B).length + 1) l (by simp; omega)]
  show tokF ((l ++ 10 :: B).length + 1) (l ++ 10 :: B) = _
  have hlen : l.length < (l ++ 10 :: B).length + 1 := by simp; omega
  generalize (l ++ 10 :: B).length + 1 = F at *
  unfold tokF
  rw [pk_app h0, cntI_nl hb, cntI_nl hd, take_nl (cntI_le _ _), take_nl (cntI_le _ _), s1, take_nl s2, drop_nl (by omega), qtI_nl B F (l.drop 1) _ (by simp; omega)]
theorem qtI_len : ∀ (f : Nat) (l : List Int) (acc b : ByteArray) (m : Nat), qtI f l acc = some (b, m) → 1 ≤ m ∧ m ≤ l.length := by
  intro f
  induction f with
  | zero => intro l acc b m h; simp [qtI] at h
  | succ f ih =>
    intro l acc b m h
    simp only [qtI] at h
    split at h
    · cases h
    · rename_i h0
      have hne := pk_ne (l := l) (fun h => h0 (.inl h))
      have hp := List.length_pos_iff.2 hne
      split at h
      · simp only [Option.some.injEq, Prod.mk.injEq] at h
        omega
      · split at h
        · split at h
          · obtain ⟨q, hq, he⟩ := Option.map_eq_some_iff.1 h
            obtain ⟨b', m'⟩ := q
            simp only [Prod.mk.injEq] at he
            have i := ih _ _ _ _ hq
            rw [List.length_drop] at i
            omega
          · cases h
        · obtain ⟨q, hq, he⟩ := Option.map_eq_some_iff.1 h
          obtain ⟨b', m'⟩ := q
          simp only [Prod.mk.injEq] at he
          have i := ih _ _ _ _ hq
          rw [List.length_drop] at i
          omega
theorem tok_len {l : List Int} {x : Tk} {m : Nat} (hl : l ≠ []) (h : tokI l = .ok (x, m)) : 1 ≤ m ∧ m ≤ l.length := by
  have hp := List.length_pos_iff.2 hl
  unfold tokI tokF at h
  cases c1 : (rLow (pk l 0) || rUp (pk l 0)) with
  | true =>
    rw [c1] at h
    simp only [if_true] at h
    split at h
    · cases h
    · simp only [Except.ok.injEq, Prod.mk.injEq] at h
      obtain ⟨_, rfl⟩ := h
      have hpart : rPart (pk l 0) = true := by
        unfold rPart
        cases h1 : rLow (pk l 0) <;> simp_all
      refine ⟨?_, cntI_le _ _⟩
      cases l with
      | nil => exact absurd rfl hl
      | cons y t =>
        rw [pk_cons0] at hpart
        simp only [cntI, hpart, if_true]
        omega
  | false =>
    rw [c1] at h
    simp only [Bool.false_eq_true, if_false] at h
    cases c2 : rDig (pk l 0) with
    | true =>
      rw [c2] at h
      simp only [if_true] at h
      split at h
      · cases h
      · simp only [Except.ok.injEq, Prod.mk.injEq] at h
        obtain ⟨_, rfl⟩ := h
        refine ⟨?_, cntI_le _ _⟩
        cases l with
        | nil => exact absurd rfl hl
        | cons y t =>
          rw [pk_cons0] at c2
          simp only [cntI, c2, if_true]
          omega
    | false =>
      rw [c2] at h
      simp only [Bool.false_eq_true, if_false] at h
      by_cases c3 : pk l 0 = 34
      · simp only [c3, if_true] at h
        split at h
        · rename_i b n hq
          split at h
          · cases h
          · simp only [Except.ok.injEq, Prod.mk.injEq] at h
            have := qtI_len _ _ _ _ _ hq
            rw [List.length_drop] at this
            omega
        · cases h
      · simp only [c3, if_false] at h
        split at h
        · cases h
        · rename_i hn
          simp only [Except.ok.injEq, Prod.mk.injEq] at h
          have := (signN_nl hl [] (pk l 0)).2
          omega
theorem skI_len (b : Bool) (l : List Int) : (skI b l).length ≤ l.length := by
  obtain ⟨n, hn⟩ := skI_suffix b l
  rw [hn, List.length_drop]
  omega
theorem skI_nl (B : List Int) : ∀ (l : List Int) (b : Bool), skI b (l ++ 10 :: B) = if skI b l = [] then skI false B else skI b l ++ 10 :: B := by
  have hb : rBlank 10 = true := by decide
  intro l
  induction l with
  | nil =>
    intro b
    cases b with
    | false => simp [skI, hb]
    | true => simp [skI]
  | cons x t ih =>
    intro b
    cases b with
    | false =>
      simp only [List.cons_append, skI]
      split
      · exact ih false
      · split
        · exact ih true
        · rw [if_neg (by simp), List.cons_append]
    | true =>
      simp only [List.cons_append, skI]
      split
      · exact ih false
      · exact ih true
theorem lexI_fuel : ∀ (f f' : Nat) (l : List Int) (n : Nat), l.length < f → l.length < f' → lexI f l n = lexI f' l n := by
  intro f
  induction f with
  | zero => intro f' l n h; omega
  | succ f ih =>
    intro f' l n h h'
    match f', h' with
    | 0, h' => omega
    | f' + 1, h' =>
    cases l with
    | nil => rfl
    | cons x l =>
      simp only [lexI]
      cases ht : tokI (x :: l) with
      | error e => rfl
      | ok vm =>
        obtain ⟨v, m⟩ := vm
        have hm := tok_len (by simp) ht
        have hk := skI_len false ((x :: l).drop m)
        rw [List.length_drop] at hk
        simp only
        rw [ih f' (skI false ((x :: l).drop m)) (n + 1) (by omega) (by omega)]
theorem lexI_num : ∀ (f : Nat) (l : List Int) (n m : Nat), n + l.length ≤ 4096 → m + l.length ≤ 4096 → lexI f l n = lexI f l m := by
  intro f
  induction f with
  | zero => intro l n m _ _; rfl
  | succ f ih =>
    intro l n m h h'
    cases l with
    | nil => rfl
    | cons x l =>
      simp only [lexI]
      cases ht : tokI (x :: l) with
      | error e => rfl
      | ok vm =>
        obtain ⟨v, k⟩ := vm
        have hm := tok_len (by simp) ht
        have hk := skI_len false ((x :: l).drop k)
        simp only [List.length_drop, List.length_cons] at hk h h' hm
        simp only
        rw [if_neg (by omega), if_neg (by omega), ih _ (n + 1) (m + 1) (by omega) (by omega)]
theorem lexI_len : ∀ (f : Nat) (l : List Int) (n : Nat), (lexI f l n).1.length ≤ l.length := by
  intro f
  induction f with
  | zero => intro l n; simp [lexI]
  | succ f ih =>
    intro l n
    cases l with
    | nil => simp [lexI]
    | cons x l =>
      simp only [lexI]
      cases ht : tokI (x :: l) with
      | error e => simp
      | ok vm =>
        obtain ⟨v, m⟩ := vm
        simp only
        split
        · simp
        · have hm := tok_len (by simp) ht
          have hk := skI_len false ((x :: l).drop m)
          have := ih (skI false ((x :: l).drop m)) (n + 1)
          simp only [List.length_drop, List.length_cons] at *
          omega
/-- The tokens of a text, then those of what stands behind a line's end. -/
def thenI (p : List Tk × Option Int) (n : Nat) (B : List Int) : List Tk × Option Int := match p.2 with
  | some e => (p.1, some e)
  | none => (p.1 ++ (lexI (B.length + 1) (skI false B) (n + p.1.length)).1, (lexI (B.length + 1) (skI false B) (n + p.1.length)).2)
theorem lexI_nl (B : List Int) : ∀ (f g : Nat) (l : List Int) (n : Nat), l.length < f → l.length + B.length + 1 < g → lexI g (if l = [] then skI false B else l ++ 10 :: B) n = thenI (lexI f l n) n B := by
  intro f
  induction f with
  | zero => intro g l n h; omega
  | succ f ih =>
    intro g l n h h'
    cases l with
    | nil =>
      have hk := skI_len false B
      rw [if_pos rfl, lexI_fuel g (B.length + 1) _ n (by simp only [List.length_nil] at h'; omega) (by omega)]
      simp only [lexI, thenI, List.nil_append, List.length_nil, Nat.add_zero]
    | cons x l =>
      rw [if_neg (by simp)]
      match g, h' with
      | g + 1, h' =>
      have hto := tokI_nl (l := x :: l) (by simp) B
      simp only [List.cons_append] at hto
      simp only [List.cons_append, lexI]
      rw [hto]
      cases ht : tokI (x :: l) with
      | error e => rfl
      | ok vm =>
        obtain ⟨v, m⟩ := vm
        simp only
        by_cases hn : n = 4096
        · rw [if_pos hn, if_pos hn]
          rfl
        · rw [if_neg hn, if_neg hn]
          have hm := tok_len (by simp) ht
          have hd := drop_nl hm.2 B
          simp only [List.cons_append] at hd
          have hk := skI_len false ((x :: l).drop m)
          simp only [List.length_drop, List.length_cons] at hk h h' hm
          rw [hd, skI_nl, ih g (skI false ((x :: l).drop m)) (n + 1) (by omega) (by omega)]
          generalize lexI f (skI false ((x :: l).drop m)) (n + 1) = q
          obtain ⟨q1, q2⟩ := q
          cases q2 with
          | some e => rfl
          | none =>
            simp only [thenI, List.cons_append, List.length_cons]
            rw [show n + 1 + q1.length = n + (q1.length + 1) by omega]
theorem lexT_nl (ws wt : List Int) (h : ws.length + wt.length ≤ 4096) : lexT (ws ++ 10 :: wt) = match lexT ws with
    | (ts, some e) => (ts, some e)
    | (ts, none) => (ts ++ (lexT wt).1, (lexT wt).2) := by
  have hk := skI_len false ws
  have hk2 := skI_len false wt
  have hlen : (ws ++ 10 :: wt).length = ws.length + wt.length + 1 := by simp; omega
  unfold lexT
  rw [skI_nl, lexI_nl wt (ws.length + 1) _ _ 0 (by omega) (by omega)]
  have hl := lexI_len (ws.length + 1) (skI false ws) 0
  generalize lexI (ws.length + 1) (skI false ws) 0 = q at *
  obtain ⟨q1, q2⟩ := q
  cases q2 with
  | some e => rfl
  | none =>
    simp only [thenI]
    simp only at hl
    rw [lexI_num _ (skI false wt) (0 + q1.length) 0 (by omega) (by omega)]
theorem lexT_pad {pw : List Int} (hp : ∀ X, skI false (pw ++ X) = skI false X) (ws : List Int) : lexT (pw ++ (ws ++ 10 :: pw)) = lexT ws := by
  have hk := skI_len false ws
  have h0 : skI false pw = [] := by
    have := hp []
    rw [List.append_nil] at this
    exact this
  have hlen : (pw ++ (ws ++ 10 :: pw)).length = pw.length + ws.length + pw.length + 1 := by simp; omega
  unfold lexT
  rw [hp, skI_nl, lexI_nl pw (ws.length + 1) _ _ 0 (by omega) (by omega)]
  generalize lexI (ws.length + 1) (skI false ws) 0 = q
  obtain ⟨q1, q2⟩ := q
  cases q2 with
  | some e => rfl
  | none => simp [thenI, h0, lexI]

/-! ### What is no text stays so -/
theorem encL_tail (c : Nat) : ∀ b ∈ (encL c).tail, 128 ≤ b.toNat := by
  have hm : ∀ x : Nat, x < 64 → 128 ≤ (UInt8.ofNat (0x80 + x)).toNat := fun x hx => by
    rw [UInt8.toNat_ofNat']
    omega
  intro b hb
  unfold encL at hb
  split at hb
  · simp at hb
  · split at hb
    · simp only [List.tail_cons, List.mem_singleton] at hb
      exact hb ▸ hm _ (by omega)
    · split at hb
      · simp only [List.tail_cons, List.mem_cons, List.not_mem_nil, or_false] at hb
        rcases hb with rfl | rfl <;> exact hm _ (by omega)
      · simp only [List.tail_cons, List.mem_cons, List.not_mem_nil, or_false] at hb
        rcases hb with rfl | rfl | rfl <;> exact hm _ (by omega)
theorem bad_nl {t : List UInt8} (h : bad t) (u : List UInt8) : bad (t ++ 10 :: u) := by
  obtain ⟨h0, h1⟩ := h
  refine ⟨by simp, fun ⟨w, x, hw, he⟩ => ?_⟩
  rcases Nat.lt_or_ge t.length (encI w).length with hl | hl
  · cases t with
    | nil => exact h0 rfl
    | cons a t =>
      have ht := encL_tail w.toNat
      have hew : encI w = encL w.toNat := rfl
      rw [← hew] at ht
      cases hc : encI w with
      | nil => rw [hc] at hl; simp at hl
      | cons c y =>
        rw [hc] at he ht hl
        simp only [List.cons_append, List.cons.injEq, List.length_cons] at he hl
        have h10 : (10 : UInt8) ∈ y := by
          have h2 := congrArg (fun l : List UInt8 => l[t.length]?) he.2
          have h2 : (t ++ 10 :: u)[t.length]? = (y ++ x)[t.length]? := h2
          rw [List.getElem?_append_right (Nat.le_refl _), List.getElem?_append_left (by omega)] at h2
          simp only [Nat.sub_self, List.getElem?_cons_zero] at h2
          exact List.mem_of_getElem? h2.symm
        have := ht 10 h10
        simp at this
  · have hp : encI w <+: t := by
      have h3 : encI w <+: t ++ 10 :: u := ⟨x, he.symm⟩
      exact List.prefix_of_prefix_length_le h3 (List.prefix_append t _) hl
    obtain ⟨y, hy⟩ := hp
    exact h1 ⟨w, y, hw, hy.symm⟩

/-! ### The law in plain words -/
theorem lexP_T2 {s : ByteArray} {ws : List Int} (hsz : s.size ≤ 4000) (hs : Sc ws) (hB : s.data.toList = encLs ws) :
    match lexT ws with
    | (_, some e) => e ≠ 0 ∧ (lexP s).1 = [] ∧ (lexP s).2.1 = e
    | (ts, none) => (lexP s).1.map Prod.fst = ts ++ [endK] ∧ (lexP s).2.1 = 0 := by
  have h := lexP_T (s := s) (by omega) hs hB
  have hl := lexI_len (ws.length + 1) (skI false ws) 0
  have hk := skI_len false ws
  have hw := encLs_size ws
  have h4 : s.data.toList.length = s.size := Array.length_toList
  have he := lexI_err (ws.length + 1) (skI false ws) 0
  rw [hB] at h4
  have hd : lexT ws = lexI (ws.length + 1) (skI false ws) 0 := rfl
  rw [← hd] at hl he
  generalize lexT ws = q at *
  obtain ⟨ts, o⟩ := q
  cases o with
  | some e => exact ⟨he e rfl, h⟩
  | none =>
    simp only at h hl ⊢
    rw [if_neg (by omega)] at h
    exact h
theorem map_fst_take {a : List (Tk × Int × Int)} {ts us : List Tk} (h : a.map Prod.fst = ts ++ us) : (a.take ts.length).map Prod.fst = ts ∧ (a.drop ts.length).map Prod.fst = us := by
  rw [List.map_take, List.map_drop, h]
  exact ⟨List.take_left, List.drop_left⟩
theorem pads_plain (s t p : ByteArray) (pw : List Int) (hs : s.size ≤ 800) (ht : t.size ≤ 800) (hpl : p.size ≤ 100) (hpb : p.data.toList = encLs pw) (hps : Sc pw) (hp : ∀ X, skI false (pw ++ X) = skI false X) :
    (lexP s).2.1 = (lexP (p ++ s ++ ⟨#[10]⟩ ++ p)).2.1 ∧ sameT false (lexP s).1 (lexP (p ++ s ++ ⟨#[10]⟩ ++ p)).1 = true ∧
    ((lexP s).2.1 ≠ 0 ∨ (lexP t).2.1 ≠ 0 → (lexP (s ++ ⟨#[10]⟩ ++ t)).2.1 = (lexP s).2.1 ∨ ((lexP s).2.1 = 0 ∧ (lexP (s ++ ⟨#[10]⟩ ++ t)).2.1 = (lexP t).2.1) ∨ (lexP s).2.1 = 1 ∨ (lexP t).2.1 = 1) ∧
    ((lexP s).2.1 = 0 → (lexP t).2.1 = 0 → 1 ≤ (lexP s).1.length ∧ 1 ≤ (lexP t).1.length ∧ (lexP (s ++ ⟨#[10]⟩ ++ t)).1.length = (lexP s).1.length - 1 + (lexP t).1.length ∧
      sameT false ((lexP s).1.take ((lexP s).1.length - 1)) ((lexP (s ++ ⟨#[10]⟩ ++ t)).1.take ((lexP s).1.length - 1)) = true ∧
      sameT false (lexP t).1 ((lexP (s ++ ⟨#[10]⟩ ++ t)).1.drop ((lexP s).1.length - 1)) = true) := by
  have z1 : (⟨#[10]⟩ : ByteArray).size = 1 := rfl
  have b1 : (⟨#[10]⟩ : ByteArray).data.toList = [10] := rfl
  have n10 : encI 10 = [10] := by decide
  have s10 : rScal 10 = true := by decide
  have hszB : (p ++ s ++ ⟨#[10]⟩ ++ p).size ≤ 4000 := by simp only [ByteArray.size_append, z1]; omega
  have hszD : (s ++ ⟨#[10]⟩ ++ t).size ≤ 4000 := by simp only [ByteArray.size_append, z1]; omega
  have hbB : (p ++ s ++ ⟨#[10]⟩ ++ p).data.toList = p.data.toList ++ (s.data.toList ++ 10 :: p.data.toList) := by simp only [app_toList, b1, List.append_assoc, List.cons_append, List.nil_append]
  have hbD : (s ++ ⟨#[10]⟩ ++ t).data.toList = s.data.toList ++ 10 :: t.data.toList := by simp only [app_toList, b1, List.append_assoc, List.cons_append, List.nil_append]
  have e10 : ∀ l : List Int, encLs (10 :: l) = 10 :: encLs l := fun l => by
    show encI 10 ++ encLs l = _
    rw [n10]
    rfl
  generalize p ++ s ++ ⟨#[10]⟩ ++ p = b at *
  generalize s ++ ⟨#[10]⟩ ++ t = d at *
  have scApp : ∀ {x y : List Int}, Sc x → Sc y → Sc (x ++ y) := fun hx hy w hw => (List.mem_append.1 hw).elim (hx w) (hy w)
  have sc10 : ∀ {y : List Int}, Sc y → Sc (10 :: y) := fun hy w hw => (List.mem_cons.1 hw).elim (fun h => h ▸ s10) (hy w)
  obtain ⟨ws, hsw, hB | ⟨x, hx, hB⟩⟩ := text_cases _ s.data.toList (Nat.le_refl _)
  · have hA := lexP_T2 (s := s) (by omega) hsw hB
    have hBB := lexP_T2 (s := b) hszB (scApp hps (scApp hsw (sc10 hps))) (by rw [hbB, hB, hpb, encLs_app, encLs_app, e10])
    rw [lexT_pad hp] at hBB
    have h12 : (lexP s).2.1 = (lexP b).2.1 ∧ sameT false (lexP s).1 (lexP b).1 = true := by
      generalize lexT ws = q at *
      obtain ⟨ts, o⟩ := q
      cases o with
      | some e =>
        simp only at hA hBB
        rw [hA.2.1, hA.2.2, hBB.2.1, hBB.2.2]
        exact ⟨rfl, rfl⟩
      | none =>
        simp only at hA hBB
        exact ⟨by rw [hA.2, hBB.2], sameT_fst _ _ (by rw [hA.1, hBB.1])⟩
    refine ⟨h12.1, h12.2, ?_⟩
    clear h12 hBB
    obtain ⟨wt, hst, hBt | ⟨y, hy, hBt⟩⟩ := text_cases _ t.data.toList (Nat.le_refl _)
    · have hC := lexP_T2 (s := t) (by omega) hst hBt
      have hD := lexP_T2 (s := d) hszD (scApp hsw (sc10 hst)) (by rw [hbD, hB, hBt, encLs_app, e10])
      have l1 := encLs_size ws
      have l2 := encLs_size wt
      have l3 : s.data.toList.length = s.size := Array.length_toList
      have l4 : t.data.toList.length = t.size := Array.length_toList
      rw [hB] at l3
      rw [hBt] at l4
      rw [lexT_nl ws wt (by omega)] at hD
      generalize lexT ws = q at *
      obtain ⟨ts, o⟩ := q
      cases o with
      | some e =>
        simp only at hA hD
        exact ⟨fun _ => .inl (by rw [hD.2.2, hA.2.2]), fun h => absurd (hA.2.2.symm.trans h) hA.1⟩
      | none =>
        simp only at hA hD
        generalize lexT wt = r at *
        obtain ⟨us, o⟩ := r
        cases o with
        | some e =>
          simp only at hC hD
          exact ⟨fun _ => .inr (.inl ⟨hA.2, by rw [hD.2.2, hC.2.2]⟩), fun _ h => absurd (hC.2.2.symm.trans h) hC.1⟩
        | none =>
          simp only at hC hD
          refine ⟨fun h => ?_, fun _ _ => ?_⟩
          · rcases h with h | h
            · exact absurd hA.2 h
            · exact absurd hC.2 h
          · have la : (lexP s).1.length = ts.length + 1 := by
              have := congrArg List.length hA.1
              simpa using this
            have lc : (lexP t).1.length = us.length + 1 := by
              have := congrArg List.length hC.1
              simpa using this
            have ld : (lexP d).1.length = ts.length + (us.length + 1) := by
              have := congrArg List.length hD.1
              simp at this
              omega
            have hd := hD.1
            rw [List.append_assoc] at hd
            obtain ⟨d1, d2⟩ := map_fst_take hd
            obtain ⟨a1, _⟩ := map_fst_take hA.1
            refine ⟨by omega, by omega, by omega, ?_, ?_⟩
            · rw [show (lexP s).1.length - 1 = ts.length by omega]
              exact sameT_fst _ _ (by rw [a1, d1])
            · rw [show (lexP s).1.length - 1 = ts.length by omega]
              exact sameT_fst _ _ (by rw [hC.1, d2])
    · obtain ⟨c1, c2⟩ := lexP_bad (s := t) (by omega) hst hy hBt
      exact ⟨fun _ => .inr (.inr (.inr c2)), fun _ h => absurd (c2.symm.trans h) (by decide)⟩
  · obtain ⟨a1, a2⟩ := lexP_bad (s := s) (by omega) hsw hx hB
    obtain ⟨b1, b2⟩ := lexP_bad (s := b) (ws := pw ++ ws) (by omega) (scApp hps hsw) (bad_nl hx p.data.toList) (by rw [hbB, hB, hpb, encLs_app]; simp only [List.append_assoc])
    rw [a1, a2, b1, b2]
    exact ⟨rfl, rfl, fun _ => .inr (.inr (.inl rfl)), fun h => absurd h (by decide)⟩
end Go.Proofs.YtoadpaaghjomnaaDoor.Codes
