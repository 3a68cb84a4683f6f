/-
  The law LexNames.
  Conditions: none.
-/
import Derived.Test.YtoadpaaghjomnaaDoorHF
set_option linter.unusedVariables false
set_option linter.unusedSimpArgs false
set_option maxRecDepth 100000
namespace Go.Proofs.YtoadpaaghjomnaaDoor.Codes
open Go Go.Deepv

/-- Runes that are a name or a word. -/
def isName (ws : List Int) : Bool := decide (1 ≤ ws.length) && (decide (ws.length ≤ 24) && ((rLow (pk ws 0) || rUp (pk ws 0)) && ws.all rPart))
theorem cntI_full : ∀ l : List Int, l.all rPart = true → cntI rPart l = l.length := by
  intro l
  induction l with
  | nil => intro _; rfl
  | cons x l ih =>
    intro h
    simp only [List.all_cons, Bool.and_eq_true] at h
    simp only [cntI, h.1, if_true, ih h.2, List.length_cons]
theorem text_eq {s : ByteArray} {ws : List Int} (hB : s.data.toList = encLs ws) : textI ws = s := by
  apply ByteArray.ext
  apply Array.toList_inj.1
  rw [textI_enc, hB]
theorem name_tok {s : ByteArray} {ws : List Int} (hB : s.data.toList = encLs ws) (h : isName ws = true) : lexT ws = ([⟨nameKind s (pk ws 0), s, 0, ⟨#[]⟩⟩], none) := by
  unfold isName at h
  simp only [Bool.and_eq_true, decide_eq_true_eq] at h
  obtain ⟨h1, h2, h3, h4⟩ := h
  have hc := cntI_full ws h4
  have hne : ws ≠ [] := List.length_pos_iff.1 h1
  have hb : rBlank (pk ws 0) = false ∧ pk ws 0 ≠ 35 := low_blank (by
    rcases Bool.or_eq_true_iff.1 h3 with h | h
    · exact .inl h
    · exact .inr (.inl h))
  have hsk := skI_head hne hb.1 hb.2
  have htok : tokI ws = .ok (⟨nameKind s (pk ws 0), s, 0, ⟨#[]⟩⟩, ws.length) := by
    unfold tokI tokF
    rw [h3, hc, List.take_length, text_eq hB]
    simp only [if_true]
    rw [if_neg (by omega)]
  unfold lexT
  rw [hsk]
  cases hw : ws with
  | nil => exact absurd hw hne
  | cons x l =>
    rw [← hw]
    have hl : ws.length = l.length + 1 := by rw [hw]; rfl
    rw [hl]
    conv => lhs; rw [hw]
    simp only [lexI]
    rw [← hw, htok]
    simp only
    rw [if_neg (by decide), List.drop_length]
    simp [lexI, skI]
theorem nm_false (up : Bool) : ∀ ws : List Int, nm up false ws = ws.all rPart := by
  intro ws
  induction ws with
  | nil => rfl
  | cons w ws ih => simp only [nm, List.all_cons, ih]
theorem nm_true (up : Bool) {ws : List Int} (h : ws ≠ []) : nm up true ws = (okHead up (pk ws 0) && ws.all rPart) := by
  cases ws with
  | nil => exact absurd rfl h
  | cons w ws =>
    simp only [nm, nm_false, List.all_cons, pk_cons0]
    cases rPart w <;> cases okHead up w <;> rfl
theorem low_up (r : Int) (h : rLow r = true) : rUp r = false := by
  simp only [rLow, Bool.or_eq_true, Bool.and_eq_true, decide_eq_true_eq] at h
  have h1 : ¬ r ≤ 90 := by omega
  simp [rUp, h1]
theorem named_T {s : ByteArray} {ws : List Int} (hs : Sc ws) (hB : s.data.toList = encLs ws) (up : Bool) : namedV s up = (isName ws && (nameKind s (pk ws 0) == if up then 2 else 1)) := by
  unfold namedV
  rw [spl_all hs hB]
  simp only [place_len, place_r]
  by_cases h0 : ws = []
  · subst h0
    rfl
  · rw [nm_true up h0]
    unfold isName okHead nameKind
    have hlu := low_up (pk ws 0)
    cases h1 : rLow (pk ws 0) <;> cases h2 : rUp (pk ws 0) <;> cases h3 : isWord s <;> cases up <;> cases h4 : decide (1 ≤ ws.length) <;> cases h5 : decide (ws.length ≤ 24) <;> cases h6 : ws.all rPart <;> simp_all
theorem word_name {s : ByteArray} {ws : List Int} (hs : Sc ws) (hB : s.data.toList = encLs ws) (h : isWord s = true) : isName ws = true := by
  have h1 : ∃ bs : List UInt8, s.data.toList = bs ∧ (∀ b ∈ bs, b.toNat < 128) ∧ isName (wB bs) = true := by
    unfold isWord at h
    rw [List.any_eq_true] at h
    obtain ⟨w, hw, he⟩ := h
    have he := eq_of_beq he
    rw [ByteArray.toList_eq, ByteArray.toList_eq] at he
    have hall : ∀ w ∈ words, (∀ b ∈ w.data.toList, b.toNat < 128) ∧ isName (wB w.data.toList) = true := by decide
    exact ⟨_, he, (hall w hw).1, (hall w hw).2⟩
  obtain ⟨bs, h2, h3, h4⟩ := h1
  obtain ⟨h5, h6⟩ := wB_enc bs h3
  have e1 := spl_all hs hB
  have e2 := spl_all h6 (s := s) (by rw [h2, h5])
  rw [e1] at e2
  have e3 := congrArg (fun x : List Rn × Option (Int × Int) => x.1.map Rn.r) e2
  simp only [place_r] at e3
  rw [e3]
  exact h4
theorem word_bad {s : ByteArray} {ws : List Int} {t : List UInt8} (hs : Sc ws) (ht : bad t) (hB : s.data.toList = encLs ws ++ t) : isWord s = false := by
  cases h : isWord s with
  | false => rfl
  | true =>
    unfold isWord at h
    rw [List.any_eq_true] at h
    obtain ⟨w, hw, he⟩ := h
    have he := eq_of_beq he
    rw [ByteArray.toList_eq, ByteArray.toList_eq] at he
    have hall : ∀ w ∈ words, ∀ b ∈ w.data.toList, b.toNat < 128 := by decide
    obtain ⟨h5, h6⟩ := wB_enc _ (hall w hw)
    have e1 := spl_all_bad hs ht hB
    have e2 := spl_all h6 (s := s) (by rw [he, h5])
    rw [e2] at e1
    cases e1
theorem named_bad {s : ByteArray} {ws : List Int} {t : List UInt8} (hs : Sc ws) (ht : bad t) (hB : s.data.toList = encLs ws ++ t) (up : Bool) : namedV s up = false := by
  have e1 := spl_all_bad hs ht hB
  unfold namedV
  generalize spl s s.size 0 1 1 = x at *
  obtain ⟨x1, x2⟩ := x
  simp only at e1
  subst e1
  rfl
/-- One token of a name's or a word's kind, whose text is all: a name or a word. -/
theorem one_name {s : ByteArray} {ws : List Int} {x : Tk} (hB : s.data.toList = encLs ws) (hT : lexT ws = ([x], none)) (hx : x.text = s) (hk : x.kind = 1 ∨ x.kind = 2 ∨ x.kind = 5) : isName ws = true := by
  unfold lexT at hT
  obtain ⟨k, hsk⟩ := skI_suffix false ws
  rw [hsk] at hT
  cases hl : ws.drop k with
  | nil => rw [hl] at hT; simp [lexI] at hT
  | cons y l =>
    rw [hl] at hT
    simp only [lexI] at hT
    cases ht : tokI (y :: l) with
    | error e => rw [ht] at hT; simp at hT
    | ok vm =>
      obtain ⟨v, m⟩ := vm
      rw [ht] at hT
      simp only at hT
      rw [if_neg (by decide)] at hT
      simp only [Prod.mk.injEq, List.cons.injEq] at hT
      have hvx := hT.1.1
      subst hvx
      rw [← hl] at ht
      have hne : ws.drop k ≠ [] := by rw [hl]; simp
      clear hT hl
      clear y l
      have hd1 := encLs_drop ws k
      have z0 : (⟨#[]⟩ : ByteArray).size = 0 := rfl
      have hsz : s.size = (encLs ws).length := by rw [← hB]; exact Array.length_toList.symm
      unfold tokI tokF at ht
      cases c1 : (rLow (pk (ws.drop k) 0) || rUp (pk (ws.drop k) 0)) with
      | true =>
        rw [c1] at ht
        simp only [if_true] at ht
        split at ht
        · cases ht
        · rename_i h24
          simp only [Except.ok.injEq, Prod.mk.injEq] at ht
          obtain ⟨rfl, rfl⟩ := ht
          simp only at hx hk
          have hts := textI_size ((ws.drop k).take (cntI rPart (ws.drop k)))
          rw [hx, hsz] at hts
          have hd2 := encLs_drop (ws.drop k) (cntI rPart (ws.drop k))
          have p1 := encLs_size (ws.take k)
          have p2 := encLs_size ((ws.drop k).drop (cntI rPart (ws.drop k)))
          have l1 : (ws.take k).length = 0 := by omega
          have l2 : ((ws.drop k).drop (cntI rPart (ws.drop k))).length = 0 := by omega
          have hw : ws.drop k = ws := by
            have := List.take_append_drop k ws
            rw [List.length_eq_zero_iff.1 l1, List.nil_append] at this
            exact this
          rw [hw] at l2 c1 h24 hne
          rw [List.length_drop] at l2
          have hle := cntI_le rPart ws
          have hall : ws.all rPart = true := by
            rw [List.all_eq_true]
            have := cntI_take rPart ws
            rw [List.take_of_length_le (by omega)] at this
            exact this
          have hp := List.length_pos_iff.2 hne
          unfold isName
          simp only [Bool.and_eq_true, decide_eq_true_eq]
          exact ⟨hp, by omega, c1, hall⟩
      | false =>
        exfalso
        rw [c1] at ht
        simp only [Bool.false_eq_true, if_false] at ht
        repeat' split at ht
        all_goals first
          | cases ht; done
          | (simp only [Except.ok.injEq, Prod.mk.injEq] at ht
             obtain ⟨rfl, rfl⟩ := ht
             simp at hk)
/-- What the law asks, in plain words. -/
theorem names_plain (s : ByteArray) (hs : s.size ≤ 300) (up : Bool) :
    (∃ ws el ec l c, isName ws = true ∧ lexP s = ([(⟨nameKind s (pk ws 0), s, 0, ⟨#[]⟩⟩, l, c), (endK, el, ec)], 0, 0, 0) ∧ (namedV s up = (nameKind s (pk ws 0) == if up then 2 else 1)) ∧ isWord s = (nameKind s (pk ws 0) == 5) ∧ (namedV s up = true → namedV s (!up) = false ∧ isWord s = false)) ∨
    (namedV s up = false ∧ isWord s = false ∧ ((lexP s).2.1 ≠ 0 ∨ (lexP s).1.length ≠ 2 ∨ ∃ x l c y, lexP s = ([(x, l, c), y], 0, 0, 0) ∧ x.num ≤ 9223372036854775807 ∧ (x.text = s → x.kind ≠ 1 ∧ x.kind ≠ 2 ∧ x.kind ≠ 5))) := by
  obtain ⟨ws, hsw, hB | ⟨t, ht, hB⟩⟩ := text_cases _ s.data.toList (Nat.le_refl _)
  · have hnm := named_T hsw hB
    cases hn : isName ws with
    | true =>
      rw [hn] at hnm
      simp only [Bool.true_and] at hnm
      rcases lexP_cases s with ⟨h1, h2⟩ | ⟨ws', ts, el, ec, h0, hsc, hB', hT, hlen, hP, hup⟩
      · have := lexP_T2 (s := s) (by omega) hsw hB
        rw [name_tok hB hn] at this
        exact absurd this.2 h2
      · have hw : ws' = ws := by
          have e1 := spl_all hsw hB
          rw [spl_all hsc hB'] at e1
          have e3 := congrArg (fun x : List Rn × Option (Int × Int) => x.1.map Rn.r) e1
          simpa only [place_r] using e3
        subst hw
        rw [name_tok hB hn] at hT
        simp only [Prod.mk.injEq, and_true] at hT
        cases ts with
        | nil => simp at hT
        | cons x ts =>
          cases ts with
          | cons x2 ts => simp at hT
          | nil =>
          obtain ⟨x, l, c⟩ := x
          simp only [List.map_cons, List.map_nil, List.cons.injEq, and_true] at hT
          subst hT
          refine .inl ⟨ws', el, ec, l, c, hn, hP, hnm up, ?_, fun h => ?_⟩
          · unfold nameKind
            cases isWord s with
            | true => rfl
            | false => cases rUp (pk ws' 0) <;> rfl
          · rw [hnm] at h ⊢
            unfold nameKind at h ⊢
            cases hw : isWord s <;> cases hu : rUp (pk ws' 0) <;> cases up <;> simp_all
    | false =>
      rw [hn] at hnm
      simp only [Bool.false_and] at hnm
      have hw : isWord s = false := by
        cases h : isWord s with
        | false => rfl
        | true => rw [word_name hsw hB h] at hn; cases hn
      refine .inr ⟨hnm up, hw, ?_⟩
      rcases lexP_cases s with ⟨h1, h2⟩ | ⟨ws', ts, el, ec, h0, hsc, hB', hT, hlen, hP, hup⟩
      · exact .inl h2
      · have hw : ws' = ws := by
          have e1 := spl_all hsw hB
          rw [spl_all hsc hB'] at e1
          have e3 := congrArg (fun x : List Rn × Option (Int × Int) => x.1.map Rn.r) e1
          simpa only [place_r] using e3
        subst hw
        right
        by_cases hl : ts.length = 1
        · match ts, hl with
          | [x], _ =>
            obtain ⟨x, l, c⟩ := x
            refine .inr ⟨x, l, c, _, hP, ?_, fun he => ?_⟩
            · obtain ⟨l', m, _, _, h3⟩ := lexI_toks (ws'.length + 1) (skI false ws') 0 (sc_sk hsw false) x (by
                have : (lexI (ws'.length + 1) (skI false ws') 0).1 = [x] := congrArg Prod.fst hT
                rw [this]
                exact List.mem_singleton.2 rfl)
              exact (tok_in h3).2
            · refine ⟨fun h => ?_, fun h => ?_, fun h => ?_⟩
              · rw [one_name hB hT he (.inl h)] at hn; cases hn
              · rw [one_name hB hT he (.inr (.inl h))] at hn; cases hn
              · rw [one_name hB hT he (.inr (.inr h))] at hn; cases hn
        · left
          rw [hP]
          simp
          omega
  · obtain ⟨a1, a2⟩ := lexP_bad (s := s) (by omega) hsw ht hB
    exact .inr ⟨named_bad hsw ht hB up, word_bad hsw ht hB, .inl (by rw [a2]; decide)⟩

set_option maxHeartbeats 2000000 in
theorem lexnames_ok (s : ByteArray) (up : Bool) (h : List Res) : D env 7 [.d (.str s), .d (.bool up)] h = some (.val (.d (.bool true)) h) := by
  rw [D_dat (F := A7) rfl rfl rfl rfl]
  have e12 := fun h => awake_ok h
  by_cases g1 : s.size ≤ 300
  · have g1' : ¬ (300 : Int) < s.size := by omega
    have e13 := fun h => lex_ok s h
    rw [lexV_P] at e13
    have e20 := fun up h => named_ok s up (by omega) h
    have e18 := fun h => word_ok s h
    have z1 : ((1 : Nat) : Int) = 1 := rfl
    rcases names_plain s g1 up with ⟨ws, el, ec, l, c, hn, hP, n1, n2, n3⟩ | ⟨n1, n2, n3⟩
    · rw [hP] at e13
      have e16 := fun h => show_ok ⟨nameKind s (pk ws 0), s, 0, ⟨#[]⟩⟩ l c (show (⟨#[]⟩ : ByteArray).size ≤ 100000 by decide) (show (0 : Int) ≤ 9223372036854775807 by decide) h
      have fs : (s.toList == s.toList) = true := by simp
      have hin := nameKind_in s (pk ws 0)
      have hsv : nameKind s (pk ws 0) ≤ 2 → showV ⟨nameKind s (pk ws 0), s, 0, ⟨#[]⟩⟩ = s := fun hle => by
        unfold showV
        rw [if_pos (by simp only; omega)]
      generalize nameKind s (pk ws 0) = nk at *
      have hc : strCells ⟨#[]⟩ = [] := rfl
      simp only [encT, List.map_cons, List.map_nil, Tk.enc, endK, hc] at e13 e16
      have e20a := fun h => e20 up h
      have e20b := fun h => e20 (!up) h
      cases up with
      | true =>
        simp only [Bool.not_true, if_true] at e20a e20b n1 n3
        rcases hin with h | h | h <;> subst h
        · have n1 : namedV s true = false := n1
          have n2 : isWord s = false := n2
          rw [n1] at e20a
          rw [n2] at e18
          simp -implicitDefEqProofs only [A7, B7, dbody, dexec, ostep, dop, ev, put, wants, dbin, dun, List.replicate, Nat.reduceAdd, Nat.reduceSub, Nat.reduceLT, Nat.reduceLeDiff, Nat.reduceMul, DV.cells, DV.flat, dload, DV.elems, reduceCtorEq, mask, DV.lows, DV.low, DV.coe, DV.isD, dresults, dresult, withHeap, lowCells, LSt.isReady, srcElems, DV.int, DV.mkAgg, same, mnmx2, nilness, bound, fill, flatCells, Int.reduceLE, Int.reduceLT, Int.reduceAdd, Int.reduceSub, Int.reduceNeg, Int.reduceEq, Int.reduceBEq, Int.reduceBNe, Nat.reduceBEq, Nat.reduceEqDiff, Int.reduceToNat, allocCells, stp, g1', e12, e13, e18, e20a, fs, putCells]
        · have n1 : namedV s true = true := n1
          have n2 : isWord s = false := n2
          rw [n1] at e20a
          rw [n2] at e18
          rw [(n3 n1).1] at e20b
          rw [hsv (by decide)] at e16
          simp -implicitDefEqProofs only [A7, B7, dbody, dexec, ostep, dop, ev, put, wants, dbin, dun, List.replicate, Nat.reduceAdd, Nat.reduceSub, Nat.reduceLT, Nat.reduceLeDiff, Nat.reduceMul, DV.cells, DV.flat, dload, DV.elems, reduceCtorEq, mask, DV.lows, DV.low, DV.coe, DV.isD, dresults, dresult, withHeap, lowCells, LSt.isReady, srcElems, DV.int, DV.mkAgg, same, mnmx2, nilness, bound, fill, flatCells, Int.reduceLE, Int.reduceLT, Int.reduceAdd, Int.reduceSub, Int.reduceNeg, Int.reduceEq, Int.reduceBEq, Int.reduceBNe, Nat.reduceBEq, Nat.reduceEqDiff, Int.reduceToNat, allocCells, stp, g1', e12, e13, e16, e18, e20a, e20b, fs, putCells]
        · have n1 : namedV s true = false := n1
          have n2 : isWord s = true := n2
          rw [n1] at e20a
          rw [n2] at e18
          simp -implicitDefEqProofs only [A7, B7, dbody, dexec, ostep, dop, ev, put, wants, dbin, dun, List.replicate, Nat.reduceAdd, Nat.reduceSub, Nat.reduceLT, Nat.reduceLeDiff, Nat.reduceMul, DV.cells, DV.flat, dload, DV.elems, reduceCtorEq, mask, DV.lows, DV.low, DV.coe, DV.isD, dresults, dresult, withHeap, lowCells, LSt.isReady, srcElems, DV.int, DV.mkAgg, same, mnmx2, nilness, bound, fill, flatCells, Int.reduceLE, Int.reduceLT, Int.reduceAdd, Int.reduceSub, Int.reduceNeg, Int.reduceEq, Int.reduceBEq, Int.reduceBNe, Nat.reduceBEq, Nat.reduceEqDiff, Int.reduceToNat, allocCells, stp, g1', e12, e13, e18, e20a, fs, putCells]
      | false =>
        simp only [Bool.not_false, Bool.false_eq_true, if_false] at e20a e20b n1 n3
        rcases hin with h | h | h <;> subst h
        · have n1 : namedV s false = true := n1
          have n2 : isWord s = false := n2
          rw [n1] at e20a
          rw [n2] at e18
          rw [(n3 n1).1] at e20b
          rw [hsv (by decide)] at e16
          simp -implicitDefEqProofs only [A7, B7, dbody, dexec, ostep, dop, ev, put, wants, dbin, dun, List.replicate, Nat.reduceAdd, Nat.reduceSub, Nat.reduceLT, Nat.reduceLeDiff, Nat.reduceMul, DV.cells, DV.flat, dload, DV.elems, reduceCtorEq, mask, DV.lows, DV.low, DV.coe, DV.isD, dresults, dresult, withHeap, lowCells, LSt.isReady, srcElems, DV.int, DV.mkAgg, same, mnmx2, nilness, bound, fill, flatCells, Int.reduceLE, Int.reduceLT, Int.reduceAdd, Int.reduceSub, Int.reduceNeg, Int.reduceEq, Int.reduceBEq, Int.reduceBNe, Nat.reduceBEq, Nat.reduceEqDiff, Int.reduceToNat, allocCells, stp, g1', e12, e13, e16, e18, e20a, e20b, fs, putCells]
        · have n1 : namedV s false = false := n1
          have n2 : isWord s = false := n2
          rw [n1] at e20a
          rw [n2] at e18
          simp -implicitDefEqProofs only [A7, B7, dbody, dexec, ostep, dop, ev, put, wants, dbin, dun, List.replicate, Nat.reduceAdd, Nat.reduceSub, Nat.reduceLT, Nat.reduceLeDiff, Nat.reduceMul, DV.cells, DV.flat, dload, DV.elems, reduceCtorEq, mask, DV.lows, DV.low, DV.coe, DV.isD, dresults, dresult, withHeap, lowCells, LSt.isReady, srcElems, DV.int, DV.mkAgg, same, mnmx2, nilness, bound, fill, flatCells, Int.reduceLE, Int.reduceLT, Int.reduceAdd, Int.reduceSub, Int.reduceNeg, Int.reduceEq, Int.reduceBEq, Int.reduceBNe, Nat.reduceBEq, Nat.reduceEqDiff, Int.reduceToNat, allocCells, stp, g1', e12, e13, e18, e20a, fs, putCells]
        · have n1 : namedV s false = false := n1
          have n2 : isWord s = true := n2
          rw [n1] at e20a
          rw [n2] at e18
          simp -implicitDefEqProofs only [A7, B7, dbody, dexec, ostep, dop, ev, put, wants, dbin, dun, List.replicate, Nat.reduceAdd, Nat.reduceSub, Nat.reduceLT, Nat.reduceLeDiff, Nat.reduceMul, DV.cells, DV.flat, dload, DV.elems, reduceCtorEq, mask, DV.lows, DV.low, DV.coe, DV.isD, dresults, dresult, withHeap, lowCells, LSt.isReady, srcElems, DV.int, DV.mkAgg, same, mnmx2, nilness, bound, fill, flatCells, Int.reduceLE, Int.reduceLT, Int.reduceAdd, Int.reduceSub, Int.reduceNeg, Int.reduceEq, Int.reduceBEq, Int.reduceBNe, Nat.reduceBEq, Nat.reduceEqDiff, Int.reduceToNat, allocCells, stp, g1', e12, e13, e18, e20a, fs, putCells]
    · have e20a := fun h => e20 up h
      rw [n1] at e20a
      rw [n2] at e18
      by_cases c0 : (lexP s).2.1 = 0
      · by_cases c2 : (lexP s).1.length = 2
        · rcases n3 with n3 | n3 | ⟨x, l, c, y, hP, hnum, hx⟩
          · exact absurd c0 n3
          · exact absurd c2 n3
          · rw [hP] at e13
            obtain ⟨xk, xt, xn, xb⟩ := x
            obtain ⟨y, yl, yc⟩ := y
            simp only [encT, List.map_cons, List.map_nil] at e13
            generalize y.enc yl yc = ye at *
            simp only [Tk.enc] at e13
            simp only at hx
            cases ft : xt.toList == s.toList with
            | false =>
              cases up <;> simp -implicitDefEqProofs only [A7, B7, dbody, dexec, ostep, dop, ev, put, wants, dbin, dun, List.replicate, Nat.reduceAdd, Nat.reduceSub, Nat.reduceLT, Nat.reduceLeDiff, Nat.reduceMul, DV.cells, DV.flat, dload, DV.elems, reduceCtorEq, mask, DV.lows, DV.low, DV.coe, DV.isD, dresults, dresult, withHeap, lowCells, LSt.isReady, srcElems, DV.int, DV.mkAgg, same, mnmx2, nilness, bound, fill, flatCells, Int.reduceLE, Int.reduceLT, Int.reduceAdd, Int.reduceSub, Int.reduceNeg, Int.reduceEq, Int.reduceBEq, Int.reduceBNe, Nat.reduceBEq, Nat.reduceEqDiff, Int.reduceToNat, allocCells, stp, g1', e12, e13, e18, e20a, ft, putCells]
            | true =>
              have hxs : xt = s := by
                have := eq_of_beq ft
                rw [ByteArray.toList_eq, ByteArray.toList_eq] at this
                exact ByteArray.ext (Array.toList_inj.1 this)
              obtain ⟨k1, k2, k5⟩ := hx hxs
              have f1 : (xk == 1) = false := by simp [k1]
              have f2 : (xk == 2) = false := by simp [k2]
              have f5 : (xk == 5) = false := by simp [k5]
              cases up <;> simp -implicitDefEqProofs only [A7, B7, dbody, dexec, ostep, dop, ev, put, wants, dbin, dun, List.replicate, Nat.reduceAdd, Nat.reduceSub, Nat.reduceLT, Nat.reduceLeDiff, Nat.reduceMul, DV.cells, DV.flat, dload, DV.elems, reduceCtorEq, mask, DV.lows, DV.low, DV.coe, DV.isD, dresults, dresult, withHeap, lowCells, LSt.isReady, srcElems, DV.int, DV.mkAgg, same, mnmx2, nilness, bound, fill, flatCells, Int.reduceLE, Int.reduceLT, Int.reduceAdd, Int.reduceSub, Int.reduceNeg, Int.reduceEq, Int.reduceBEq, Int.reduceBNe, Nat.reduceBEq, Nat.reduceEqDiff, Int.reduceToNat, allocCells, stp, g1', e12, e13, e18, e20a, ft, f1, f2, f5, putCells]
        · have fl : (((lexP s).1.length : Int) == 2) = false := by simp; omega
          have la : (encT (lexP s).1).length = (lexP s).1.length := by simp [encT]
          have f0 : ((lexP s).2.1 == 0) = true := by simp [c0]
          generalize (lexP s).2.1 = e0 at *
          generalize (lexP s).2.2.1 = e1 at *
          generalize (lexP s).2.2.2 = e2 at *
          generalize (lexP s).1 = a at *
          generalize encT a = ea at *
          cases up <;> simp -implicitDefEqProofs only [A7, B7, dbody, dexec, ostep, dop, ev, put, wants, dbin, dun, List.replicate, Nat.reduceAdd, Nat.reduceSub, Nat.reduceLT, Nat.reduceLeDiff, Nat.reduceMul, DV.cells, DV.flat, dload, DV.elems, reduceCtorEq, mask, DV.lows, DV.low, DV.coe, DV.isD, dresults, dresult, withHeap, lowCells, LSt.isReady, srcElems, DV.int, DV.mkAgg, same, mnmx2, nilness, bound, fill, flatCells, Int.reduceLE, Int.reduceLT, Int.reduceAdd, Int.reduceSub, Int.reduceNeg, Int.reduceEq, Int.reduceBEq, Int.reduceBNe, Nat.reduceBEq, Nat.reduceEqDiff, Int.reduceToNat, allocCells, stp, g1', e12, e13, e18, e20a, f0, la, fl, putCells]
      · have f0 : ((lexP s).2.1 == 0) = false := by simp [c0]
        generalize (lexP s).2.1 = e0 at *
        generalize (lexP s).2.2.1 = e1 at *
        generalize (lexP s).2.2.2 = e2 at *
        generalize encT (lexP s).1 = ea at *
        cases up <;> simp -implicitDefEqProofs only [A7, B7, dbody, dexec, ostep, dop, ev, put, wants, dbin, dun, List.replicate, Nat.reduceAdd, Nat.reduceSub, Nat.reduceLT, Nat.reduceLeDiff, Nat.reduceMul, DV.cells, DV.flat, dload, DV.elems, reduceCtorEq, mask, DV.lows, DV.low, DV.coe, DV.isD, dresults, dresult, withHeap, lowCells, LSt.isReady, srcElems, DV.int, DV.mkAgg, same, mnmx2, nilness, bound, fill, flatCells, Int.reduceLE, Int.reduceLT, Int.reduceAdd, Int.reduceSub, Int.reduceNeg, Int.reduceEq, Int.reduceBEq, Int.reduceBNe, Nat.reduceBEq, Nat.reduceEqDiff, Int.reduceToNat, allocCells, stp, g1', e12, e13, e18, e20a, f0, putCells]
  · have g1' : (300 : Int) < s.size := by omega
    simp -implicitDefEqProofs only [A7, B7, dbody, dexec, ostep, dop, ev, put, wants, dbin, dun, List.replicate, Nat.reduceAdd, Nat.reduceSub, Nat.reduceLT, Nat.reduceLeDiff, Nat.reduceMul, DV.cells, DV.flat, dload, DV.elems, reduceCtorEq, mask, DV.lows, DV.low, DV.coe, DV.isD, dresults, dresult, withHeap, lowCells, LSt.isReady, srcElems, DV.int, DV.mkAgg, same, mnmx2, nilness, bound, fill, flatCells, Int.reduceLE, Int.reduceLT, Int.reduceAdd, Int.reduceSub, Int.reduceNeg, Int.reduceEq, Int.reduceBEq, Int.reduceBNe, Nat.reduceBEq, Nat.reduceEqDiff, Int.reduceToNat, allocCells, stp, g1', e12]
end Go.Proofs.YtoadpaaghjomnaaDoor.Codes
