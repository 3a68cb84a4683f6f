/-
  What can be a name, the document's.
  Chapter 3's examples.
  The law LexDoes.
  Conditions: none.
-/
import Derived.Test.YtoadpaaghjomnaaDoorMO
set_option linter.unusedVariables false
set_option linter.unusedSimpArgs false
set_option maxRecDepth 100000
namespace Go.Proofs.YtoadpaaghjomnaaDoor.Codes
open Go Go.Deepv

def st21 (s : ByteArray) (up : Bool) (n pos : Nat) : List DV := [.d (.str s), .d (.bool up), .d .undef, .d .undef, .d .undef, .d (.int .i64 n), .d (.int .i64 pos)] ++ List.replicate 56 (.d .undef)
def ex21 (s : ByteArray) (v : FV) (n : Nat) : List DV := [.d (.str s), .d .undef, .d .undef, .d .undef, .d v, .d (.int .i64 n)] ++ List.replicate 57 (.d .undef)
set_option maxHeartbeats 1000000 in
theorem loop21 (s : ByteArray) (up : Bool) (hs : s.size ≤ 100000) (t : List UInt8) (ht : t = [] ∨ bad t) : ∀ (ws : List Int) (pos n : Nat), Sc ws → s.data.toList.drop pos = encLs ws ++ t → n ≤ pos → (n = 0 ↔ pos = 0) → n ≤ 24 →
    if t = [] ∧ nm up (decide (n = 0)) ws = true ∧ n + ws.length ≤ 24 then L env 0 true H21L3 X21L3 B21L3 (st21 s up n pos) [] = some (.exit 0, ex21 s .undef (n + ws.length), [])
    else ∃ n', L env 0 true H21L3 X21L3 B21L3 (st21 s up n pos) [] = some (.ret, ex21 s (.bool false) n', []) := by
  obtain ⟨K, hK⟩ : ∃ K, L env 0 true H21L3 X21L3 B21L3 = K := ⟨_, rfl⟩
  rw [hK]
  intro ws
  induction ws with
  | nil =>
    intro pos n h1 h2 h3 h4 h5
    rw [show encLs [] ++ t = t from rfl] at h2
    rcases ht with ht | ht
    · have hn : nm up (decide (n = 0)) [] = true := by cases decide (n = 0) <;> rfl
      rw [if_pos ⟨ht, hn, by simpa using h5⟩]
      subst ht
      have hp : ¬ (pos : Int) < s.size := by have := drop_ge h2; omega
      rw [L_round hK]
      simp -implicitDefEqProofs only [B21L3, st21, ex21, dbody, dexec, ostep, dop, ev, put, wants, dbin, dun, List.replicate, Nat.reduceAdd, Nat.reduceSub, Nat.reduceLT, Nat.reduceLeDiff, Nat.reduceMul, DV.cells, DV.flat, dload, DV.elems, reduceCtorEq, mask, DV.lows, DV.low, DV.coe, DV.isD, dresults, dresult, withHeap, lowCells, LSt.isReady, srcElems, DV.int, DV.mkAgg, same, mnmx2, nilness, bound, fill, flatCells, Int.reduceLE, Int.reduceLT, Int.reduceAdd, Int.reduceSub, Int.reduceNeg, Int.reduceEq, Int.reduceBEq, Int.reduceBNe, Nat.reduceBEq, Nat.reduceEqDiff, Int.reduceToNat, allocCells, stp, hp]
    · rw [if_neg (fun h => ht.1 h.1)]
      refine ⟨n, ?_⟩
      have hp0 := drop_lt h2 ht.1
      have hp : (pos : Int) < s.size := by omega
      have e1 := fun h => one2_ok s pos hp0 (by omega) h
      rw [oneV_bad ht h2] at e1
      have z0 : ((0 : Nat) : Int) = 0 := rfl
      simp only [z0] at e1
      rw [L_round hK]
      simp -implicitDefEqProofs only [B21L3, st21, ex21, dbody, dexec, ostep, dop, ev, put, wants, dbin, dun, List.replicate, Nat.reduceAdd, Nat.reduceSub, Nat.reduceLT, Nat.reduceLeDiff, Nat.reduceMul, DV.cells, DV.flat, dload, DV.elems, reduceCtorEq, mask, DV.lows, DV.low, DV.coe, DV.isD, dresults, dresult, withHeap, lowCells, LSt.isReady, srcElems, DV.int, DV.mkAgg, same, mnmx2, nilness, bound, fill, flatCells, Int.reduceLE, Int.reduceLT, Int.reduceAdd, Int.reduceSub, Int.reduceNeg, Int.reduceEq, Int.reduceBEq, Int.reduceBNe, Nat.reduceBEq, Nat.reduceEqDiff, Int.reduceToNat, allocCells, stp, hp, e1]
  | cons w ws ih =>
    intro pos n h1 h2 h3 h4 h5
    have hw := h1 w List.mem_cons_self
    rw [encLs_cons] at h2
    have hp0 := drop_lt h2 (encI_ne _ _)
    have hp : (pos : Int) < s.size := by omega
    have e1 := fun h => one2_ok s pos hp0 (by omega) h
    rw [oneV_good hw h2] at e1
    have hm := encI_pos w
    have hnx := drop_next h2
    have hle := enc_len h2 (encI_ne _ _)
    rw [List.length_append] at hle
    generalize (encI w).length = m at *
    have m0 : ((m : Int) == 0) = false := by simp; omega
    have e49 := fun h => rpart_ok w h
    have e50 := fun h => rup_ok w h
    have e51 := fun h => rlow_ok w h
    have w1 : IntKind.i64.wrap ((pos : Int) + (m : Nat)) = ((pos + m : Nat) : Int) := by rw [wrap_i64 (by omega) (by omega)]; simp
    have w2 : IntKind.i64.wrap ((n : Int) + 1) = ((n + 1 : Nat) : Int) := by rw [wrap_i64 (by omega) (by omega)]; simp
    have stop : ¬ (t = [] ∧ nm up (decide (n = 0)) (w :: ws) = true ∧ n + (w :: ws).length ≤ 24) → (K (st21 s up n pos) [] = some (.ret, ex21 s (.bool false) n, [])) →
        if t = [] ∧ nm up (decide (n = 0)) (w :: ws) = true ∧ n + (w :: ws).length ≤ 24 then K (st21 s up n pos) [] = some (.exit 0, ex21 s .undef (n + (w :: ws).length), [])
        else ∃ n', K (st21 s up n pos) [] = some (.ret, ex21 s (.bool false) n', []) := fun h1 h2 => by
      rw [if_neg h1]
      exact ⟨n, h2⟩
    cases hpart : rPart w with
    | false =>
      rw [hpart] at e49
      refine stop (fun h => ?_) ?_
      · have h := h.2.1
        cases hd : decide (n = 0) <;> rw [hd] at h <;> simp [nm, hpart] at h
      · rw [L_round hK]
        simp -implicitDefEqProofs only [B21L3, st21, ex21, dbody, dexec, ostep, dop, ev, put, wants, dbin, dun, List.replicate, Nat.reduceAdd, Nat.reduceSub, Nat.reduceLT, Nat.reduceLeDiff, Nat.reduceMul, DV.cells, DV.flat, dload, DV.elems, reduceCtorEq, mask, DV.lows, DV.low, DV.coe, DV.isD, dresults, dresult, withHeap, lowCells, LSt.isReady, srcElems, DV.int, DV.mkAgg, same, mnmx2, nilness, bound, fill, flatCells, Int.reduceLE, Int.reduceLT, Int.reduceAdd, Int.reduceSub, Int.reduceNeg, Int.reduceEq, Int.reduceBEq, Int.reduceBNe, Nat.reduceBEq, Nat.reduceEqDiff, Int.reduceToNat, allocCells, stp, hp, e1, m0, e49]
    | true =>
      rw [hpart] at e49
      have hlen : n + (w :: ws).length = n + 1 + ws.length := by simp only [List.length_cons]; omega
      by_cases h24 : n = 24
      · have g24 : (24 : Int) ≤ n := by omega
        have hn0' : ((n : Int) == 0) = false := by simp; omega
        refine stop (fun h => ?_) ?_
        · have := h.2.2
          simp only [List.length_cons] at this
          omega
        · rw [L_round hK]
          simp -implicitDefEqProofs only [B21L3, st21, ex21, dbody, dexec, ostep, dop, ev, put, wants, dbin, dun, List.replicate, Nat.reduceAdd, Nat.reduceSub, Nat.reduceLT, Nat.reduceLeDiff, Nat.reduceMul, DV.cells, DV.flat, dload, DV.elems, reduceCtorEq, mask, DV.lows, DV.low, DV.coe, DV.isD, dresults, dresult, withHeap, lowCells, LSt.isReady, srcElems, DV.int, DV.mkAgg, same, mnmx2, nilness, bound, fill, flatCells, Int.reduceLE, Int.reduceLT, Int.reduceAdd, Int.reduceSub, Int.reduceNeg, Int.reduceEq, Int.reduceBEq, Int.reduceBNe, Nat.reduceBEq, Nat.reduceEqDiff, Int.reduceToNat, allocCells, stp, hp, e1, m0, e49, hn0', g24]
      · have g24 : ¬ (24 : Int) ≤ n := by omega
        have ih := ih (pos + m) (n + 1) (fun x hx => h1 x (List.mem_cons_of_mem _ hx)) hnx (by omega) (by omega) (by omega)
        have hd1 : decide (n + 1 = 0) = false := by simp
        rw [hd1, ← hlen] at ih
        have go : nm up (decide (n = 0)) (w :: ws) = nm up false ws → (K (st21 s up n pos) [] = K (st21 s up (n + 1) (pos + m)) []) →
            if t = [] ∧ nm up (decide (n = 0)) (w :: ws) = true ∧ n + (w :: ws).length ≤ 24 then K (st21 s up n pos) [] = some (.exit 0, ex21 s .undef (n + (w :: ws).length), [])
            else ∃ n', K (st21 s up n pos) [] = some (.ret, ex21 s (.bool false) n', []) := fun h1 h2 => by
          rw [h1, h2]
          exact ih
        by_cases hn0 : n = 0
        · subst hn0
          have z0 : ((0 : Nat) : Int) = 0 := rfl
          have z1 : IntKind.i64.wrap 1 = 1 := rfl
          have z2 : ((0 + 1 : Nat) : Int) = 1 := rfl
          have hnm : nm up (decide ((0 : Nat) = 0)) (w :: ws) = (okHead up w && nm up false ws) := by simp [nm, hpart]
          unfold okHead at hnm
          cases up with
          | true =>
            cases hu : rUp w with
            | false =>
              rw [hu] at e50 hnm
              refine stop (fun h => ?_) ?_
              · have h := h.2.1
                rw [hnm] at h
                simp at h
              · rw [L_round hK]
                simp -implicitDefEqProofs only [B21L3, st21, ex21, dbody, dexec, ostep, dop, ev, put, wants, dbin, dun, List.replicate, Nat.reduceAdd, Nat.reduceSub, Nat.reduceLT, Nat.reduceLeDiff, Nat.reduceMul, DV.cells, DV.flat, dload, DV.elems, reduceCtorEq, mask, DV.lows, DV.low, DV.coe, DV.isD, dresults, dresult, withHeap, lowCells, LSt.isReady, srcElems, DV.int, DV.mkAgg, same, mnmx2, nilness, bound, fill, flatCells, Int.reduceLE, Int.reduceLT, Int.reduceAdd, Int.reduceSub, Int.reduceNeg, Int.reduceEq, Int.reduceBEq, Int.reduceBNe, Nat.reduceBEq, Nat.reduceEqDiff, Int.reduceToNat, allocCells, stp, hp, e1, m0, e49, e50, z0]
            | true =>
              rw [hu] at e50 hnm
              refine go (by rw [hnm]; simp) ?_
              generalize hR : K (st21 s true (0 + 1) (pos + m)) [] = RR
              simp only [st21, List.replicate, List.cons_append, List.nil_append, z2] at hR
              rw [L_round hK]
              simp -implicitDefEqProofs only [B21L3, st21, dbody, dexec, ostep, dop, ev, put, wants, dbin, dun, List.replicate, Nat.reduceAdd, Nat.reduceSub, Nat.reduceLT, Nat.reduceLeDiff, Nat.reduceMul, DV.cells, DV.flat, dload, DV.elems, reduceCtorEq, mask, DV.lows, DV.low, DV.coe, DV.isD, dresults, dresult, withHeap, lowCells, LSt.isReady, srcElems, DV.int, DV.mkAgg, same, mnmx2, nilness, bound, fill, flatCells, Int.reduceLE, Int.reduceLT, Int.reduceAdd, Int.reduceSub, Int.reduceNeg, Int.reduceEq, Int.reduceBEq, Int.reduceBNe, Nat.reduceBEq, Nat.reduceEqDiff, Int.reduceToNat, allocCells, stp, hp, e1, m0, e49, e50, z0, z1, w1, hR]
          | false =>
            cases hl : rLow w with
            | false =>
              rw [hl] at e51 hnm
              refine stop (fun h => ?_) ?_
              · have h := h.2.1
                rw [hnm] at h
                simp at h
              · rw [L_round hK]
                simp -implicitDefEqProofs only [B21L3, st21, ex21, dbody, dexec, ostep, dop, ev, put, wants, dbin, dun, List.replicate, Nat.reduceAdd, Nat.reduceSub, Nat.reduceLT, Nat.reduceLeDiff, Nat.reduceMul, DV.cells, DV.flat, dload, DV.elems, reduceCtorEq, mask, DV.lows, DV.low, DV.coe, DV.isD, dresults, dresult, withHeap, lowCells, LSt.isReady, srcElems, DV.int, DV.mkAgg, same, mnmx2, nilness, bound, fill, flatCells, Int.reduceLE, Int.reduceLT, Int.reduceAdd, Int.reduceSub, Int.reduceNeg, Int.reduceEq, Int.reduceBEq, Int.reduceBNe, Nat.reduceBEq, Nat.reduceEqDiff, Int.reduceToNat, allocCells, stp, hp, e1, m0, e49, e51, z0]
            | true =>
              rw [hl] at e51 hnm
              refine go (by rw [hnm]; simp) ?_
              generalize hR : K (st21 s false (0 + 1) (pos + m)) [] = RR
              simp only [st21, List.replicate, List.cons_append, List.nil_append, z2] at hR
              rw [L_round hK]
              simp -implicitDefEqProofs only [B21L3, st21, dbody, dexec, ostep, dop, ev, put, wants, dbin, dun, List.replicate, Nat.reduceAdd, Nat.reduceSub, Nat.reduceLT, Nat.reduceLeDiff, Nat.reduceMul, DV.cells, DV.flat, dload, DV.elems, reduceCtorEq, mask, DV.lows, DV.low, DV.coe, DV.isD, dresults, dresult, withHeap, lowCells, LSt.isReady, srcElems, DV.int, DV.mkAgg, same, mnmx2, nilness, bound, fill, flatCells, Int.reduceLE, Int.reduceLT, Int.reduceAdd, Int.reduceSub, Int.reduceNeg, Int.reduceEq, Int.reduceBEq, Int.reduceBNe, Nat.reduceBEq, Nat.reduceEqDiff, Int.reduceToNat, allocCells, stp, hp, e1, m0, e49, e51, z0, z1, w1, hR]
        · have hn0' : ((n : Int) == 0) = false := by simp; omega
          refine go (by simp [nm, hpart, hn0]) ?_
          generalize hR : K (st21 s up (n + 1) (pos + m)) [] = RR
          simp only [st21, List.replicate, List.cons_append, List.nil_append] at hR
          rw [L_round hK]
          simp -implicitDefEqProofs only [B21L3, st21, dbody, dexec, ostep, dop, ev, put, wants, dbin, dun, List.replicate, Nat.reduceAdd, Nat.reduceSub, Nat.reduceLT, Nat.reduceLeDiff, Nat.reduceMul, DV.cells, DV.flat, dload, DV.elems, reduceCtorEq, mask, DV.lows, DV.low, DV.coe, DV.isD, dresults, dresult, withHeap, lowCells, LSt.isReady, srcElems, DV.int, DV.mkAgg, same, mnmx2, nilness, bound, fill, flatCells, Int.reduceLE, Int.reduceLT, Int.reduceAdd, Int.reduceSub, Int.reduceNeg, Int.reduceEq, Int.reduceBEq, Int.reduceBNe, Nat.reduceBEq, Nat.reduceEqDiff, Int.reduceToNat, allocCells, stp, hp, e1, m0, e49, hn0', g24, w1, w2, hR]

theorem rnamed_ok (s : ByteArray) (up : Bool) (hs : s.size ≤ 100000) (h : List Res) : D env 21 [.d (.str s), .d (.bool up)] h = some (.val (.d (.bool (namedV s up))) h) := by
  rw [D_dat (F := A21) rfl rfl rfl rfl]
  have e19 := fun h => rword_ok s h
  have z0 : ((0 : Nat) : Int) = 0 := rfl
  have d0 : decide ((0 : Nat) = 0) = true := rfl
  unfold namedV
  obtain ⟨ws, hsc, hB | ⟨t, ht, hB⟩⟩ := text_cases _ s.data.toList (Nat.le_refl _)
  · rw [spl_all hsc hB]
    simp only [place_len, place_r]
    have hl := loop21 s up hs [] (.inl rfl) ws 0 0 hsc (by simpa using hB) (by omega) (by omega) (by omega)
    rw [d0, Nat.zero_add] at hl
    by_cases hc : nm up true ws = true ∧ ws.length ≤ 24
    · rw [if_pos ⟨rfl, hc.1, hc.2⟩] at hl
      rw [hc.1, decide_eq_true hc.2, Bool.and_true, Bool.true_and]
      simp only [st21, ex21, List.replicate, List.cons_append, List.nil_append, z0] at hl
      by_cases h0 : 1 ≤ ws.length
      · have g0 : (0 : Int) < ws.length := by omega
        rw [decide_eq_true h0, Bool.true_and]
        simp -implicitDefEqProofs only [A21, B21, dbody, dexec, ostep, dop, ev, put, wants, dbin, dun, List.replicate, Nat.reduceAdd, Nat.reduceSub, Nat.reduceLT, Nat.reduceLeDiff, Nat.reduceMul, DV.cells, DV.flat, dload, DV.elems, reduceCtorEq, mask, DV.lows, DV.low, DV.coe, DV.isD, dresults, dresult, withHeap, lowCells, LSt.isReady, srcElems, DV.int, DV.mkAgg, same, mnmx2, nilness, bound, fill, flatCells, Int.reduceLE, Int.reduceLT, Int.reduceAdd, Int.reduceSub, Int.reduceNeg, Int.reduceEq, Int.reduceBEq, Int.reduceBNe, Nat.reduceBEq, Nat.reduceEqDiff, Int.reduceToNat, allocCells, stp, hl, g0, e19]
      · have g0 : ¬ (0 : Int) < ws.length := by omega
        rw [decide_eq_false h0, Bool.false_and]
        simp -implicitDefEqProofs only [A21, B21, dbody, dexec, ostep, dop, ev, put, wants, dbin, dun, List.replicate, Nat.reduceAdd, Nat.reduceSub, Nat.reduceLT, Nat.reduceLeDiff, Nat.reduceMul, DV.cells, DV.flat, dload, DV.elems, reduceCtorEq, mask, DV.lows, DV.low, DV.coe, DV.isD, dresults, dresult, withHeap, lowCells, LSt.isReady, srcElems, DV.int, DV.mkAgg, same, mnmx2, nilness, bound, fill, flatCells, Int.reduceLE, Int.reduceLT, Int.reduceAdd, Int.reduceSub, Int.reduceNeg, Int.reduceEq, Int.reduceBEq, Int.reduceBNe, Nat.reduceBEq, Nat.reduceEqDiff, Int.reduceToNat, allocCells, stp, hl, g0]
    · rw [if_neg (fun h => hc h.2)] at hl
      obtain ⟨n', hl⟩ := hl
      have : ((decide (1 ≤ ws.length) && decide (ws.length ≤ 24)) && (nm up true ws && !isWord s)) = false := by
        cases h1 : nm up true ws with
        | false => simp
        | true =>
          have : ¬ ws.length ≤ 24 := fun h => hc ⟨h1, h⟩
          rw [decide_eq_false this]
          simp
      rw [this]
      simp only [st21, ex21, List.replicate, List.cons_append, List.nil_append, z0] at hl
      simp -implicitDefEqProofs only [A21, B21, dbody, dexec, ostep, dop, ev, put, wants, dbin, dun, List.replicate, Nat.reduceAdd, Nat.reduceSub, Nat.reduceLT, Nat.reduceLeDiff, Nat.reduceMul, DV.cells, DV.flat, dload, DV.elems, reduceCtorEq, mask, DV.lows, DV.low, DV.coe, DV.isD, dresults, dresult, withHeap, lowCells, LSt.isReady, srcElems, DV.int, DV.mkAgg, same, mnmx2, nilness, bound, fill, flatCells, Int.reduceLE, Int.reduceLT, Int.reduceAdd, Int.reduceSub, Int.reduceNeg, Int.reduceEq, Int.reduceBEq, Int.reduceBNe, Nat.reduceBEq, Nat.reduceEqDiff, Int.reduceToNat, allocCells, stp, hl]
  · have e := spl_all_bad hsc ht hB
    generalize spl s s.size 0 1 1 = x at *
    rcases x with ⟨x1, x2⟩
    simp only at e
    subst e
    simp only
    have hl := loop21 s up hs t (.inr ht) ws 0 0 hsc (by simpa using hB) (by omega) (by omega) (by omega)
    rw [if_neg (fun h => ht.1 h.1)] at hl
    obtain ⟨n', hl⟩ := hl
    simp only [st21, ex21, List.replicate, List.cons_append, List.nil_append, z0] at hl
    simp -implicitDefEqProofs only [A21, B21, dbody, dexec, ostep, dop, ev, put, wants, dbin, dun, List.replicate, Nat.reduceAdd, Nat.reduceSub, Nat.reduceLT, Nat.reduceLeDiff, Nat.reduceMul, DV.cells, DV.flat, dload, DV.elems, reduceCtorEq, mask, DV.lows, DV.low, DV.coe, DV.isD, dresults, dresult, withHeap, lowCells, LSt.isReady, srcElems, DV.int, DV.mkAgg, same, mnmx2, nilness, bound, fill, flatCells, Int.reduceLE, Int.reduceLT, Int.reduceAdd, Int.reduceSub, Int.reduceNeg, Int.reduceEq, Int.reduceBEq, Int.reduceBNe, Nat.reduceBEq, Nat.reduceEqDiff, Int.reduceToNat, allocCells, stp, hl]
end Go.Proofs.YtoadpaaghjomnaaDoor.Codes

set_option linter.unusedVariables false
set_option linter.unusedSimpArgs false
set_option maxRecDepth 100000
namespace Go.Proofs.YtoadpaaghjomnaaDoor.Codes
open Go Go.Deepv

theorem isWord_eq (s : ByteArray) : isWord s = words.any fun w => s.data.toList == w.data.toList := by
  unfold isWord
  congr 1
  funext w
  rw [ByteArray.toList_eq, ByteArray.toList_eq]
def exA : ByteArray := ⟨#[108, 101, 116, 32, 120, 32, 61, 32, 49, 50]⟩
def exB : ByteArray := ⟨#[97, 64]⟩
def wsA : List Int := [108, 101, 116, 32, 120, 32, 61, 32, 49, 50]
def wsB : List Int := [97, 64]
theorem word_let : isWord ⟨#[108, 101, 116]⟩ = true := by rw [isWord_eq]; decide
theorem word_x : isWord ⟨#[120]⟩ = false := by rw [isWord_eq]; decide
theorem word_a : isWord ⟨#[97]⟩ = false := by rw [isWord_eq]; decide
theorem splA : spl exA exA.size 0 1 1 = (place wsA 0 1 1, none) := spl_all (by unfold Sc; decide) (by decide)
theorem splB : spl exB exB.size 0 1 1 = (place wsB 0 1 1, none) := spl_all (by unfold Sc; decide) (by decide)

theorem lexA : lexR (place wsA 0 1 1) = ([(⟨5, ⟨#[108, 101, 116]⟩, 0, ⟨#[]⟩⟩, 1, 1), (⟨1, ⟨#[120]⟩, 0, ⟨#[]⟩⟩, 1, 5), (⟨6, ⟨#[61]⟩, 0, ⟨#[]⟩⟩, 1, 7), (⟨3, ⟨#[]⟩, 12, ⟨#[]⟩⟩, 1, 9)], none) := by
  have t0 : tokK (place wsA 0 1 1) 0 = .ok (⟨nameKind ⟨#[108, 101, 116]⟩ 108, ⟨#[108, 101, 116]⟩, 0, ⟨#[]⟩⟩, 3) := rfl
  have t4 : tokK (place wsA 0 1 1) 4 = .ok (⟨nameKind ⟨#[120]⟩ 120, ⟨#[120]⟩, 0, ⟨#[]⟩⟩, 5) := rfl
  have t6 : tokK (place wsA 0 1 1) 6 = .ok (⟨6, ⟨#[61]⟩, 0, ⟨#[]⟩⟩, 7) := rfl
  have t8 : tokK (place wsA 0 1 1) 8 = .ok (⟨3, ⟨#[]⟩, 12, ⟨#[]⟩⟩, 10) := rfl
  have n0 : nameKind ⟨#[108, 101, 116]⟩ 108 = 5 := by unfold nameKind; rw [word_let]; rfl
  have n4 : nameKind ⟨#[120]⟩ 120 = 1 := by unfold nameKind; rw [word_x]; rfl
  rw [n0] at t0
  rw [n4] at t4
  have x0 : (place wsA 0 1 1)[0]? = some ⟨108, 0, 1, 1⟩ := rfl
  have x4 : (place wsA 0 1 1)[4]? = some ⟨120, 4, 1, 5⟩ := rfl
  have x6 : (place wsA 0 1 1)[6]? = some ⟨61, 6, 1, 7⟩ := rfl
  have x8 : (place wsA 0 1 1)[8]? = some ⟨49, 8, 1, 9⟩ := rfl
  have x10 : (place wsA 0 1 1)[10]? = none := rfl
  have s0 : skK (place wsA 0 1 1) 0 = 0 := rfl
  have s3 : skK (place wsA 0 1 1) 3 = 4 := rfl
  have s5 : skK (place wsA 0 1 1) 5 = 6 := rfl
  have s7 : skK (place wsA 0 1 1) 7 = 8 := rfl
  have s10 : skK (place wsA 0 1 1) 10 = 10 := rfl
  have hl : (place wsA 0 1 1).length + 1 = 11 := rfl
  unfold lexR
  rw [hl, s0]
  generalize place wsA 0 1 1 = rs at *
  simp [lexK, t0, t4, t6, t8, x0, x4, x6, x8, x10, s3, s5, s7, s10]
theorem lexB : lexR (place wsB 0 1 1) = ([(⟨1, ⟨#[97]⟩, 0, ⟨#[]⟩⟩, 1, 1)], some (2, 1, 2)) := by
  have t0 : tokK (place wsB 0 1 1) 0 = .ok (⟨nameKind ⟨#[97]⟩ 97, ⟨#[97]⟩, 0, ⟨#[]⟩⟩, 1) := rfl
  have t1 : tokK (place wsB 0 1 1) 1 = .error 2 := rfl
  have n0 : nameKind ⟨#[97]⟩ 97 = 1 := by unfold nameKind; rw [word_a]; rfl
  rw [n0] at t0
  have x0 : (place wsB 0 1 1)[0]? = some ⟨97, 0, 1, 1⟩ := rfl
  have x1 : (place wsB 0 1 1)[1]? = some ⟨64, 1, 1, 2⟩ := rfl
  have s0 : skK (place wsB 0 1 1) 0 = 0 := rfl
  have s1 : skK (place wsB 0 1 1) 1 = 1 := rfl
  have hl : (place wsB 0 1 1).length + 1 = 3 := rfl
  unfold lexR
  rw [hl, s0]
  generalize place wsB 0 1 1 = rs at *
  simp [lexK, t0, t1, x0, x1, s1]
theorem lexVA : lexV exA = .tup [.slice 6 [[.int .i64 5, .str ⟨#[108, 101, 116]⟩, .int .i64 0, .slice 1 [], .int .i64 1, .int .i64 1], [.int .i64 1, .str ⟨#[120]⟩, .int .i64 0, .slice 1 [], .int .i64 1, .int .i64 5], [.int .i64 6, .str ⟨#[61]⟩, .int .i64 0, .slice 1 [], .int .i64 1, .int .i64 7], [.int .i64 3, .str ⟨#[]⟩, .int .i64 12, .slice 1 [], .int .i64 1, .int .i64 9], [.int .i64 0, .str ⟨#[]⟩, .int .i64 0, .slice 1 [], .int .i64 1, .int .i64 11]], .agg [.int .i64 0, .int .i64 0, .int .i64 0]] := by
  unfold lexV
  rw [if_pos (by decide), splA]
  simp only [lexA]
  rw [if_neg (by decide)]
  rfl
theorem lexVB : lexV exB = .tup [.slice 6 [], .agg [.int .i64 2, .int .i64 1, .int .i64 2]] := by
  unfold lexV
  rw [if_pos (by decide), splB]
  simp only [lexB]
theorem named_x : namedV ⟨#[120]⟩ false = true := by
  unfold namedV
  have : spl ⟨#[120]⟩ (⟨#[120]⟩ : ByteArray).size 0 1 1 = (place [120] 0 1 1, none) := spl_all (by unfold Sc; decide) (by decide)
  rw [this]
  simp only [word_x]
  decide

theorem awake_ok (h : List Res) : D env 12 [] h = some (.val (.d (.bool true)) h) := by
  rw [D_dat (F := A12) rfl rfl rfl rfl]
  have e13a := fun h => lex_ok exA h
  have e13b := fun h => lex_ok exB h
  rw [lexVA] at e13a
  rw [lexVB] at e13b
  have e18 := fun h => word_ok ⟨#[108, 101, 116]⟩ h
  rw [word_let] at e18
  have e20 := fun h => named_ok ⟨#[120]⟩ false (by decide) h
  rw [named_x] at e20
  have e16 := fun h => show_ok ⟨4, ⟨#[]⟩, 0, ⟨#[97, 10]⟩⟩ 0 0 (by decide) (by decide) h
  have hsh : showV ⟨4, ⟨#[]⟩, 0, ⟨#[97, 10]⟩⟩ = ⟨#[34, 97, 92, 120, 48, 97, 34]⟩ := rfl
  have hc : strCells ⟨#[97, 10]⟩ = [[.int .u8 97], [.int .u8 10]] := rfl
  rw [hsh] at e16
  simp only [Tk.enc, hc] at e16
  simp only [exA, exB] at e13a e13b
  simp -implicitDefEqProofs only [A12, B12, dbody, dexec, ostep, dop, ev, put, wants, dbin, dun, List.replicate, Nat.reduceAdd, Nat.reduceSub, Nat.reduceLT, Nat.reduceLeDiff, Nat.reduceMul, DV.cells, DV.flat, dload, DV.elems, reduceCtorEq, mask, DV.lows, DV.low, DV.coe, DV.isD, dresults, dresult, withHeap, lowCells, LSt.isReady, srcElems, DV.int, DV.mkAgg, same, mnmx2, nilness, bound, fill, flatCells, Int.reduceLE, Int.reduceLT, Int.reduceAdd, Int.reduceSub, Int.reduceNeg, Int.reduceEq, Int.reduceBEq, Int.reduceBNe, Nat.reduceBEq, Nat.reduceEqDiff, Int.reduceToNat, allocCells, stp, e13a, e13b, e18, e20, e16, eqCells, eqFV, putCells]
end Go.Proofs.YtoadpaaghjomnaaDoor.Codes

set_option linter.unusedVariables false
set_option linter.unusedSimpArgs false
set_option maxRecDepth 100000
namespace Go.Proofs.YtoadpaaghjomnaaDoor.Codes
open Go Go.Deepv

def endK : Tk := ⟨0, ⟨#[]⟩, 0, ⟨#[]⟩⟩
/-- A text's tokens, with the end; what is wrong, and where. -/
def lexP (s : ByteArray) : List (Tk × Int × Int) × Int × Int × Int :=
  if s.size ≤ 16384 then match spl s s.size 0 1 1 with
    | (_, some (l, c)) => ([], 1, l, c)
    | (rs, none) => match lexR rs with
      | (_, some (e, l, c)) => ([], e, l, c)
      | (ts, none) => if ts.length = 4096 then ([], 27, advL 1 (rs.map Rn.r), advC 1 (rs.map Rn.r)) else (ts ++ [(endK, advL 1 (rs.map Rn.r), advC 1 (rs.map Rn.r))], 0, 0, 0)
  else ([], 5, 1, 1)
theorem lexV_P (s : ByteArray) : lexV s = .tup [.slice 6 (encT (lexP s).1), .agg [.int .i64 (lexP s).2.1, .int .i64 (lexP s).2.2.1, .int .i64 (lexP s).2.2.2]] := by
  unfold lexV lexP
  by_cases hs : s.size ≤ 16384
  · simp only [hs, if_true]
    generalize spl s s.size 0 1 1 = x
    rcases x with ⟨rs, _ | ⟨l, c⟩⟩
    · simp only
      generalize lexR rs = y
      rcases y with ⟨ts, _ | ⟨e, l, c⟩⟩
      · simp only
        by_cases hn : ts.length = 4096
        · simp only [hn, if_true]
          rfl
        · simp only [hn, if_false]
          simp only [encT, List.map_append, List.map_cons, List.map_nil]
          rfl
      · rfl
    · rfl
  · simp only [hs, if_false]
    rfl
theorem lexP_len (s : ByteArray) : (lexP s).1.length ≤ 4096 := by
  unfold lexP
  split
  · split
    · simp
    · rename_i rs _
      have := lexK_len rs (rs.length + 1) (skK rs 0) 0 (by omega)
      split
      · simp
      · rename_i ts hr
        have hr' : lexK rs (rs.length + 1) (skK rs 0) 0 = (ts, none) := hr
        rw [hr'] at this
        simp only at this
        split
        · simp
        · simp
          omega
  · simp
theorem eqT_self (p : Bool) (x : Tk × Int × Int) : eqT p x x = true := by
  unfold eqT
  simp
theorem sameT_self (p : Bool) (a : List (Tk × Int × Int)) : sameT p a a = true := by
  induction a with
  | nil => rfl
  | cons x a ih => simp only [sameT, eqT_self, ih, Bool.and_self]

set_option maxHeartbeats 1000000 in
theorem lexdoes_ok (s : ByteArray) (t : Tk) (l c : Int) (up : Bool) (hn : t.num ≤ 9223372036854775807) (h : List Res) :
    D env 4 [.d (.str s), .d (.agg (t.enc l c)), .d (.bool up)] h = some (.val (.d (.bool true)) h) := by
  rw [D_dat (F := A4) rfl rfl rfl rfl]
  have e12 := fun h => awake_ok h
  by_cases hg : (3000 < s.size ∧ s.size ≤ 16384) ∨ 300 < t.text.size ∨ 300 < t.bytes.size
  · simp only [Tk.enc]
    by_cases g1 : 3000 < s.size
    · have g1' : (3000 : Int) < s.size := by omega
      by_cases g2 : s.size ≤ 16384
      · have g2' : (s.size : Int) ≤ 16384 := by omega
        simp -implicitDefEqProofs only [A4, B4, dbody, dexec, ostep, dop, ev, put, wants, dbin, dun, List.replicate, Nat.reduceAdd, Nat.reduceSub, Nat.reduceLT, Nat.reduceLeDiff, Nat.reduceMul, DV.cells, DV.flat, dload, DV.elems, reduceCtorEq, mask, DV.lows, DV.low, DV.coe, DV.isD, dresults, dresult, withHeap, lowCells, LSt.isReady, srcElems, DV.int, DV.mkAgg, same, mnmx2, nilness, bound, fill, flatCells, Int.reduceLE, Int.reduceLT, Int.reduceAdd, Int.reduceSub, Int.reduceNeg, Int.reduceEq, Int.reduceBEq, Int.reduceBNe, Nat.reduceBEq, Nat.reduceEqDiff, Int.reduceToNat, allocCells, stp, g1', g2', e12]
      · have g2' : ¬ (s.size : Int) ≤ 16384 := by omega
        by_cases g3 : 300 < t.text.size
        · have g3' : (300 : Int) < t.text.size := by omega
          simp -implicitDefEqProofs only [A4, B4, dbody, dexec, ostep, dop, ev, put, wants, dbin, dun, List.replicate, Nat.reduceAdd, Nat.reduceSub, Nat.reduceLT, Nat.reduceLeDiff, Nat.reduceMul, DV.cells, DV.flat, dload, DV.elems, reduceCtorEq, mask, DV.lows, DV.low, DV.coe, DV.isD, dresults, dresult, withHeap, lowCells, LSt.isReady, srcElems, DV.int, DV.mkAgg, same, mnmx2, nilness, bound, fill, flatCells, Int.reduceLE, Int.reduceLT, Int.reduceAdd, Int.reduceSub, Int.reduceNeg, Int.reduceEq, Int.reduceBEq, Int.reduceBNe, Nat.reduceBEq, Nat.reduceEqDiff, Int.reduceToNat, allocCells, stp, g1', g2', g3', e12]
        · have g3' : ¬ (300 : Int) < t.text.size := by omega
          have g4' : (300 : Int) < t.bytes.size := by omega
          simp -implicitDefEqProofs only [A4, B4, dbody, dexec, ostep, dop, ev, put, wants, dbin, dun, List.replicate, Nat.reduceAdd, Nat.reduceSub, Nat.reduceLT, Nat.reduceLeDiff, Nat.reduceMul, DV.cells, DV.flat, dload, DV.elems, reduceCtorEq, mask, DV.lows, DV.low, DV.coe, DV.isD, dresults, dresult, withHeap, lowCells, LSt.isReady, srcElems, DV.int, DV.mkAgg, same, mnmx2, nilness, bound, fill, flatCells, Int.reduceLE, Int.reduceLT, Int.reduceAdd, Int.reduceSub, Int.reduceNeg, Int.reduceEq, Int.reduceBEq, Int.reduceBNe, Nat.reduceBEq, Nat.reduceEqDiff, Int.reduceToNat, allocCells, stp, strCells_len, g1', g2', g3', g4', e12]
    · have g1' : ¬ (3000 : Int) < s.size := by omega
      by_cases g3 : 300 < t.text.size
      · have g3' : (300 : Int) < t.text.size := by omega
        simp -implicitDefEqProofs only [A4, B4, dbody, dexec, ostep, dop, ev, put, wants, dbin, dun, List.replicate, Nat.reduceAdd, Nat.reduceSub, Nat.reduceLT, Nat.reduceLeDiff, Nat.reduceMul, DV.cells, DV.flat, dload, DV.elems, reduceCtorEq, mask, DV.lows, DV.low, DV.coe, DV.isD, dresults, dresult, withHeap, lowCells, LSt.isReady, srcElems, DV.int, DV.mkAgg, same, mnmx2, nilness, bound, fill, flatCells, Int.reduceLE, Int.reduceLT, Int.reduceAdd, Int.reduceSub, Int.reduceNeg, Int.reduceEq, Int.reduceBEq, Int.reduceBNe, Nat.reduceBEq, Nat.reduceEqDiff, Int.reduceToNat, allocCells, stp, g1', g3', e12]
      · have g3' : ¬ (300 : Int) < t.text.size := by omega
        have g4' : (300 : Int) < t.bytes.size := by omega
        simp -implicitDefEqProofs only [A4, B4, dbody, dexec, ostep, dop, ev, put, wants, dbin, dun, List.replicate, Nat.reduceAdd, Nat.reduceSub, Nat.reduceLT, Nat.reduceLeDiff, Nat.reduceMul, DV.cells, DV.flat, dload, DV.elems, reduceCtorEq, mask, DV.lows, DV.low, DV.coe, DV.isD, dresults, dresult, withHeap, lowCells, LSt.isReady, srcElems, DV.int, DV.mkAgg, same, mnmx2, nilness, bound, fill, flatCells, Int.reduceLE, Int.reduceLT, Int.reduceAdd, Int.reduceSub, Int.reduceNeg, Int.reduceEq, Int.reduceBEq, Int.reduceBNe, Nat.reduceBEq, Nat.reduceEqDiff, Int.reduceToNat, allocCells, stp, strCells_len, g1', g3', g4', e12]
  · have e13 := fun h => lex_ok s h
    have e14 := fun h => rlex_ok s h
    have hl := lexP_len s
    rw [lexV_P] at e13 e14
    have e15 := fun h => same_ok (lexP s).1 (lexP s).1 true (by omega) h
    rw [sameT_self] at e15
    have e16 := fun h => show_ok t l c (by omega) hn h
    have e17 := fun h => rshow_ok t l c (by omega) hn h
    have e18 := fun h => word_ok t.text h
    have e19 := fun h => rword_ok t.text h
    have e20 := fun h => named_ok t.text up (by omega) h
    have e21 := fun h => rnamed_ok t.text up (by omega) h
    generalize encT (lexP s).1 = A at *
    generalize (lexP s).2.1 = e0 at *
    generalize (lexP s).2.2.1 = e1 at *
    generalize (lexP s).2.2.2 = e2 at *
    generalize showV t = sv at *
    generalize isWord t.text = iw at *
    generalize namedV t.text up = nv at *
    obtain ⟨tk, tt, tn, tb⟩ := t
    simp only at hg e18 e19 e20 e21
    simp only [Tk.enc] at e16 e17 ⊢
    have g3' : ¬ (300 : Int) < tt.size := by omega
    have g4' : ¬ (300 : Int) < tb.size := by omega
    by_cases g1 : 3000 < s.size
    · have g1' : (3000 : Int) < s.size := by omega
      have g2' : ¬ (s.size : Int) ≤ 16384 := by omega
      simp -implicitDefEqProofs only [A4, B4, dbody, dexec, ostep, dop, ev, put, wants, dbin, dun, List.replicate, Nat.reduceAdd, Nat.reduceSub, Nat.reduceLT, Nat.reduceLeDiff, Nat.reduceMul, DV.cells, DV.flat, dload, DV.elems, reduceCtorEq, mask, DV.lows, DV.low, DV.coe, DV.isD, dresults, dresult, withHeap, lowCells, LSt.isReady, srcElems, DV.int, DV.mkAgg, same, mnmx2, nilness, bound, fill, flatCells, Int.reduceLE, Int.reduceLT, Int.reduceAdd, Int.reduceSub, Int.reduceNeg, Int.reduceEq, Int.reduceBEq, Int.reduceBNe, Nat.reduceBEq, Nat.reduceEqDiff, Int.reduceToNat, allocCells, stp, strCells_len, g1', g2', g3', g4', e12, e13, e14, e15, e16, e17, e18, e19, e20, e21, eqCells, eqFV, putCells]
    · have g1' : ¬ (3000 : Int) < s.size := by omega
      simp -implicitDefEqProofs only [A4, B4, dbody, dexec, ostep, dop, ev, put, wants, dbin, dun, List.replicate, Nat.reduceAdd, Nat.reduceSub, Nat.reduceLT, Nat.reduceLeDiff, Nat.reduceMul, DV.cells, DV.flat, dload, DV.elems, reduceCtorEq, mask, DV.lows, DV.low, DV.coe, DV.isD, dresults, dresult, withHeap, lowCells, LSt.isReady, srcElems, DV.int, DV.mkAgg, same, mnmx2, nilness, bound, fill, flatCells, Int.reduceLE, Int.reduceLT, Int.reduceAdd, Int.reduceSub, Int.reduceNeg, Int.reduceEq, Int.reduceBEq, Int.reduceBNe, Nat.reduceBEq, Nat.reduceEqDiff, Int.reduceToNat, allocCells, stp, strCells_len, g1', g3', g4', e12, e13, e14, e15, e16, e17, e18, e19, e20, e21, eqCells, eqFV, putCells]
end Go.Proofs.YtoadpaaghjomnaaDoor.Codes
