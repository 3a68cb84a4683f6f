/-
  The lexer over lists of runes, without places.
  Conditions: none.
-/
import Derived.Test.YtoadpaaghjomnaaDoorMP
set_option linter.unusedVariables false
set_option linter.unusedSimpArgs false
set_option maxRecDepth 100000
namespace Go.Proofs.YtoadpaaghjomnaaDoor.Codes
open Go Go.Deepv

def pk (l : List Int) (i : Nat) : Int := l.getD i (-1)
def cntI (p : Int → Bool) : List Int → Nat
  | [] => 0
  | x :: t => if p x then cntI p t + 1 else 0
def textI (l : List Int) : ByteArray := l.foldl (fun a w => a ++ encB w) ⟨#[]⟩
def numI (l : List Int) : Bool × Int := l.foldl numStep (false, 0)
def escI (l : List Int) : Int × Bool × Nat :=
  if pk l 0 = 110 then (10, true, 1) else if pk l 0 = 116 then (9, true, 1) else if pk l 0 = 34 then (34, true, 1) else if pk l 0 = 92 then (92, true, 1)
  else if pk l 0 = 120 then (escB (hexOf (pk l 1)) (hexOf (pk l 2)), decide (0 ≤ hexOf (pk l 1)) && decide (0 ≤ hexOf (pk l 2)), 3)
  else (0, false, 1)
def qtI : Nat → List Int → ByteArray → Option (ByteArray × Nat)
  | 0, _, _ => none
  | f + 1, l, acc =>
    if pk l 0 < 0 ∨ pk l 0 = 10 then none
    else if pk l 0 = 34 then some (acc, 1)
    else if pk l 0 = 92 then (if (escI (l.drop 1)).2.1 = true then (qtI f (l.drop (1 + (escI (l.drop 1)).2.2)) (acc ++ byteB (escI (l.drop 1)).1)).map fun q => (q.1, 1 + (escI (l.drop 1)).2.2 + q.2) else none)
    else (qtI f (l.drop 1) (acc ++ encB (pk l 0))).map fun q => (q.1, 1 + q.2)
def tokF (F : Nat) (l : List Int) : Except Int (Tk × Nat) :=
  if rLow (pk l 0) || rUp (pk l 0) then
    if 24 < cntI rPart l then .error 5
    else .ok (⟨nameKind (textI (l.take (cntI rPart l))) (pk l 0), textI (l.take (cntI rPart l)), 0, ⟨#[]⟩⟩, cntI rPart l)
  else if rDig (pk l 0) then
    if (numI (l.take (cntI rDig l))).1 then .error 3
    else .ok (⟨3, ⟨#[]⟩, (numI (l.take (cntI rDig l))).2, ⟨#[]⟩⟩, cntI rDig l)
  else if pk l 0 = 34 then
    match qtI F (l.drop 1) ⟨#[]⟩ with
    | some (b, m) => if 64 < b.size then .error 5 else .ok (⟨4, ⟨#[]⟩, 0, b⟩, 1 + m)
    | none => .error 4
  else if signN (pk l 0) (pk l 1) = 0 then .error 2
  else .ok (⟨6, textI (l.take (signN (pk l 0) (pk l 1))), 0, ⟨#[]⟩⟩, signN (pk l 0) (pk l 1))
def tokI (l : List Int) : Except Int (Tk × Nat) := tokF (l.length + 1) l
def skI : Bool → List Int → List Int
  | _, [] => []
  | false, x :: t => if rBlank x then skI false t else if x = 35 then skI true t else x :: t
  | true, x :: t => if x = 10 then skI false t else skI true t
def lexI : Nat → List Int → Nat → List Tk × Option Int
  | 0, _, _ => ([], none)
  | _ + 1, [], _ => ([], none)
  | f + 1, x :: l, n => match tokI (x :: l) with
    | .error e => ([], some e)
    | .ok (v, m) => if n = 4096 then ([], some 27) else (v :: (lexI f (skI false ((x :: l).drop m)) (n + 1)).1, (lexI f (skI false ((x :: l).drop m)) (n + 1)).2)
def lexT (ws : List Int) : List Tk × Option Int := lexI (ws.length + 1) (skI false ws) 0

/-! ### They are the same -/
section
variable {rs : List Rn} {ws : List Int}
theorem peekR_pk (h : rs.map Rn.r = ws) (k i : Nat) : peekR rs (k + i) = pk (ws.drop k) i := by
  subst h
  unfold peekR pk
  rw [List.getD_eq_getElem?_getD, List.getElem?_drop, List.getElem?_map]
  cases rs[k + i]? <;> rfl
theorem peekR_pk0 (h : rs.map Rn.r = ws) (k : Nat) : peekR rs k = pk (ws.drop k) 0 := peekR_pk h k 0
theorem cnt_I (p : Int → Bool) (l : List Rn) : cnt p l = cntI p (l.map Rn.r) := by
  induction l with
  | nil => rfl
  | cons x l ih => simp only [cnt, List.map_cons, cntI, ih]
theorem textR_I (l : List Rn) : textR l = textI (l.map Rn.r) := by
  unfold textR textI
  rw [List.foldl_map]
theorem numF_I (l : List Rn) : numF l = numI (l.map Rn.r) := by
  unfold numF numI
  rw [List.foldl_map]
theorem escV_I (h : rs.map Rn.r = ws) (k : Nat) : escV rs k = escI (ws.drop k) := by
  unfold escV escI
  rw [peekR_pk0 h, peekR_pk h, peekR_pk h]
theorem qtK_I (h : rs.map Rn.r = ws) : ∀ (f k : Nat) (acc : ByteArray), qtK rs f k acc = (qtI f (ws.drop k) acc).map fun q => (q.1, k + q.2) := by
  intro f
  induction f with
  | zero => intro k acc; rfl
  | succ f ih =>
    intro k acc
    simp only [qtK, qtI]
    rw [peekR_pk0 h, escV_I h, List.drop_drop]
    split
    · rfl
    · split
      · rfl
      · split
        · split
          · rw [ih, List.drop_drop, Option.map_map, Nat.add_assoc]
            congr 1
            funext q
            simp only [Function.comp_apply, Nat.add_assoc]
          · rfl
        · rw [ih, Option.map_map]
          congr 1
          funext q
          simp only [Function.comp_apply, Nat.add_assoc]
theorem tokK_F (h : rs.map Rn.r = ws) (k : Nat) : tokK rs k = match tokF (rs.length + 1) (ws.drop k) with
    | .ok (v, m) => .ok (v, k + m)
    | .error e => .error e := by
  have hd : (rs.drop k).map Rn.r = ws.drop k := by rw [← h, List.map_drop]
  unfold tokK tokF
  rw [peekR_pk0 h, peekR_pk h, cnt_I, cnt_I, textR_I, textR_I, numF_I, List.map_take, List.map_take, List.map_take, hd, qtK_I h, List.drop_drop]
  generalize qtI (rs.length + 1) (ws.drop (k + 1)) ⟨#[]⟩ = q
  cases c1 : (rLow (pk (ws.drop k) 0) || rUp (pk (ws.drop k) 0)) with
  | true =>
    simp only [if_true]
    by_cases h : 24 < cntI rPart (ws.drop k)
    · simp only [h, if_true]
    · simp only [h, if_false]
  | false =>
    simp only [Bool.false_eq_true, if_false]
    cases c2 : rDig (pk (ws.drop k) 0) with
    | true =>
      simp only [if_true]
      cases h : (numI ((ws.drop k).take (cntI rDig (ws.drop k)))).1 with
      | true => simp only [if_true]
      | false => simp only [Bool.false_eq_true, if_false]
    | false =>
      simp only [Bool.false_eq_true, if_false]
      by_cases c3 : pk (ws.drop k) 0 = 34
      · simp only [c3, if_true]
        cases q with
        | none => rfl
        | some v =>
          obtain ⟨b, m⟩ := v
          simp only [Option.map_some]
          by_cases h : 64 < b.size
          · simp only [h, if_true]
          · simp only [h, if_false, Nat.add_assoc]
      · simp only [c3, if_false]
        by_cases h : signN (pk (ws.drop k) 0) (pk (ws.drop k) 1) = 0
        · simp only [h, if_true]
        · simp only [h, if_false]
end

theorem pk_nil (i : Nat) : pk [] i = -1 := by simp [pk]
theorem qtI_fuel : ∀ (f f' : Nat) (l : List Int) (acc : ByteArray), l.length < f → l.length < f' → qtI f l acc = qtI f' l acc := by
  intro f
  induction f with
  | zero => intro f' l acc h; omega
  | succ f ih =>
    intro f' l acc h h'
    match f', h' with
    | 0, h' => omega
    | f' + 1, h' =>
    cases l with
    | nil => simp [qtI, pk_nil]
    | cons x l =>
      simp only [qtI]
      simp only [List.length_cons] at h h'
      rw [ih f' ((x :: l).drop (1 + (escI ((x :: l).drop 1)).2.2)) _ (by simp; omega) (by simp; omega), ih f' ((x :: l).drop 1) _ (by simp; omega) (by simp; omega)]
theorem tokF_I (F : Nat) (l : List Int) (h : l.length < F) : tokF F l = tokI l := by
  unfold tokI tokF
  rw [qtI_fuel F (l.length + 1) (l.drop 1) _ (by simp; omega) (by simp; omega)]
theorem tokK_I {rs : List Rn} {ws : List Int} (h : rs.map Rn.r = ws) (k : Nat) : tokK rs k = match tokI (ws.drop k) with
    | .ok (v, m) => .ok (v, k + m)
    | .error e => .error e := by
  rw [tokK_F h, tokF_I]
  subst h
  simp
  omega
theorem sk_I (b : Bool) (l : List Rn) : (sk b l).map Rn.r = skI b (l.map Rn.r) := by
  induction l generalizing b with
  | nil => cases b <;> rfl
  | cons x l ih =>
    cases b with
    | false =>
      simp only [sk, skI, List.map_cons]
      split
      · exact ih _
      · split
        · exact ih _
        · rfl
    | true =>
      simp only [sk, skI, List.map_cons]
      split
      · exact ih _
      · exact ih _
theorem sk_suffix (b : Bool) (l : List Rn) : ∃ n, sk b l = l.drop n := by
  induction l generalizing b with
  | nil => exact ⟨0, by cases b <;> rfl⟩
  | cons x l ih =>
    cases b with
    | false =>
      simp only [sk]
      split
      · obtain ⟨n, hn⟩ := ih false
        exact ⟨n + 1, by simpa using hn⟩
      · split
        · obtain ⟨n, hn⟩ := ih true
          exact ⟨n + 1, by simpa using hn⟩
        · exact ⟨0, rfl⟩
    | true =>
      simp only [sk]
      split
      · obtain ⟨n, hn⟩ := ih false
        exact ⟨n + 1, by simpa using hn⟩
      · obtain ⟨n, hn⟩ := ih true
        exact ⟨n + 1, by simpa using hn⟩
theorem skK_drop {rs : List Rn} {ws : List Int} (h : rs.map Rn.r = ws) (k : Nat) : ws.drop (skK rs k) = skI false (ws.drop k) := by
  obtain ⟨n, hn⟩ := sk_suffix false (rs.drop k)
  have h1 : sk false (rs.drop k) = rs.drop (skK rs k) := by
    unfold skK
    rw [hn, List.drop_drop, List.length_drop]
    rcases Nat.lt_or_ge rs.length (k + n) with hlt | hge
    · rw [List.drop_eq_nil_of_le (by omega), List.drop_eq_nil_of_le (by omega)]
    · congr 1
      omega
  have h2 := sk_I false (rs.drop k)
  rw [h1, List.map_drop, List.map_drop, h] at h2
  exact h2
theorem lexK_I {rs : List Rn} {ws : List Int} (h : rs.map Rn.r = ws) : ∀ (f k n : Nat), (lexK rs f k n).1.map Prod.fst = (lexI f (ws.drop k) n).1 ∧ (lexK rs f k n).2.map Prod.fst = (lexI f (ws.drop k) n).2 := by
  intro f
  induction f with
  | zero => intro k n; exact ⟨rfl, rfl⟩
  | succ f ih =>
    intro k n
    simp only [lexK]
    cases hx : rs[k]? with
    | none =>
      have : ws.drop k = [] := by
        rw [List.drop_eq_nil_iff, ← h, List.length_map]
        simpa using hx
      rw [this]
      exact ⟨rfl, rfl⟩
    | some x =>
      have hdr : ws.drop k = x.r :: ws.drop (k + 1) := by
        rw [← h, ← List.map_drop, drop_at hx, List.map_cons, List.map_drop]
      have ht := tokK_I h k
      rw [hdr] at ht ⊢
      simp only [lexI]
      cases hv : tokI (x.r :: ws.drop (k + 1)) with
      | error e =>
        rw [hv] at ht
        simp only at ht
        rw [ht]
        exact ⟨rfl, rfl⟩
      | ok vm =>
        obtain ⟨v, m⟩ := vm
        rw [hv] at ht
        simp only at ht
        rw [ht]
        simp only
        by_cases hn : n = 4096
        · simp only [hn, if_true]
          exact ⟨rfl, rfl⟩
        · simp only [hn, if_false]
          have hs : (x.r :: ws.drop (k + 1)).drop m = ws.drop (k + m) := by rw [← hdr, List.drop_drop]
          obtain ⟨i1, i2⟩ := ih (skK rs (k + m)) (n + 1)
          rw [skK_drop h] at i1 i2
          rw [hs]
          exact ⟨by rw [List.map_cons, i1], i2⟩
theorem lexR_T {ws : List Int} {p : Nat} {l c : Int} : (lexR (place ws p l c)).1.map Prod.fst = (lexT ws).1 ∧ (lexR (place ws p l c)).2.map Prod.fst = (lexT ws).2 := by
  have h := place_r ws p l c
  have := lexK_I h ((place ws p l c).length + 1) (skK (place ws p l c) 0) 0
  rw [skK_drop h, place_len, List.drop_zero] at this
  unfold lexR lexT
  rw [place_len]
  exact this

/-- What Lex tells of a text of runes, but for places. -/
theorem lexP_T {s : ByteArray} {ws : List Int} (hsz : s.size ≤ 16384) (hs : Sc ws) (hB : s.data.toList = encLs ws) :
    match lexT ws with
    | (_, some e) => (lexP s).1 = [] ∧ (lexP s).2.1 = e
    | (ts, none) => if ts.length = 4096 then (lexP s).1 = [] ∧ (lexP s).2.1 = 27 else (lexP s).1.map Prod.fst = ts ++ [endK] ∧ (lexP s).2.1 = 0 := by
  have hT := lexR_T (ws := ws) (p := 0) (l := 1) (c := 1)
  unfold lexP
  rw [if_pos hsz, spl_all hs hB]
  simp only
  generalize lexT ws = y at *
  generalize lexR (place ws 0 1 1) = x at *
  obtain ⟨a, b⟩ := x
  obtain ⟨ts, o⟩ := y
  simp only at hT
  obtain ⟨h1, h2⟩ := hT
  have hl : a.length = ts.length := by rw [← h1, List.length_map]
  cases b with
  | some v =>
    obtain ⟨e, l, c⟩ := v
    simp only [Option.map_some] at h2
    rw [← h2]
    exact ⟨rfl, rfl⟩
  | none =>
    simp only [Option.map_none] at h2
    rw [← h2]
    simp only
    rw [hl]
    by_cases hn : ts.length = 4096
    · simp only [hn, if_true]
      exact ⟨trivial, trivial⟩
    · simp only [hn, if_false]
      exact ⟨by rw [List.map_append, h1]; rfl, trivial⟩
theorem lexP_bad {s : ByteArray} {ws : List Int} {t : List UInt8} (hsz : s.size ≤ 16384) (hs : Sc ws) (ht : bad t) (hB : s.data.toList = encLs ws ++ t) : (lexP s).1 = [] ∧ (lexP s).2.1 = 1 := by
  have e := spl_all_bad hs ht hB
  unfold lexP
  rw [if_pos hsz]
  generalize spl s s.size 0 1 1 = x at *
  rcases x with ⟨x1, x2⟩
  simp only at e
  subst e
  exact ⟨rfl, rfl⟩
end Go.Proofs.YtoadpaaghjomnaaDoor.Codes
