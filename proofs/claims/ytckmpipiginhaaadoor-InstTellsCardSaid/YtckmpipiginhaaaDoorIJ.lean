/-
  There and back: the row InstBack, reckoned.
  Conditions: none.
-/
import Derived.Test.YtckmpipiginhaaaDoorIH
set_option linter.unusedVariables false
set_option linter.unusedSimpArgs false
set_option maxRecDepth 100000
namespace Go.Proofs.YtckmpipiginhaaaDoor.Codes
open Go Go.Deepv

set_option maxHeartbeats 8000000 in
theorem back_law (o a b c o' a' b' c' : Int) (s : ByteArray) (h : List Res) : D env 5 [.d (.agg [.int .i64 o, .int .i64 a, .int .i64 b, .int .i64 c]), .d (.agg [.int .i64 o', .int .i64 a', .int .i64 b', .int .i64 c']), .d (.str s)] h = some (.val (.d (.bool true)) h) := by
  have e9 := fun h => aw_ok h
  have eS1 := fun h => show_ok o a b c h
  have eS2 := fun h => show_ok o' a' b' c' h
  have eF1 := fun h => fit_ok o a b c h
  have eF2 := fun h => fit_ok o' a' b' c' h
  have z1 := show_size o a b c
  have eR1 := fun h => read_ok (showV o a b c) (by omega) h
  by_cases hs : s.size > 300
  · have hs : (300 : Int) < s.size := by omega
    rw [D_dat (F := A5) rfl rfl rfl rfl]
    simp (maxSteps := 9999999) -implicitDefEqProofs only [A5, B5, e9, hs, unnil, keyOk, keyEq, findE, appVec, slk, agreeS, idxS, keepS, lowS, dbin, dun, List.replicate, DV.cells, DV.flat, dload, DV.elems, reduceCtorEq, DV.lows, DV.low, DV.coe, DV.isD, dresults, dresult, withHeap, lowCells, LSt.isReady, srcElems, DV.int, DV.mkAgg, same, mnmx2, nilness, bound, fill, flatCells, allocCells, putCells, splitG, onG, insD, memD, seval, ↓joinK_t, ↓joinK_f, ↓reduceIte, stq]
  · have hs' : ¬ (300 : Int) < s.size := by omega
    have eR := fun h => read_ok s (by omega) h
    have n1 : fitV o a b c = true → ((showV o a b c).toList == (⟨#[]⟩ : ByteArray).toList) = false := fun h => by
      have := (show_fit h).1
      rw [ByteArray.toList_eq, ByteArray.toList_eq]
      simpa using this
    have key : ∃ o3 a3 b3 c3 : Int, ∃ e3 : Int, (∀ h, D env 10 [.d (.str s)] h = some (.val (.d (.tup [.agg [.int .i64 o3, .int .i64 a3, .int .i64 b3, .int .i64 c3], .int .i64 e3])) h)) ∧ (e3 = 19 ∨ e3 = 0 ∧ fitV o3 a3 b3 c3 = true ∧ showV o3 a3 b3 c3 = s) := by
      cases hr : readV s with
      | none => rw [hr] at eR; exact ⟨_, _, _, _, _, eR, .inl rfl⟩
      | some q =>
        obtain ⟨o3, a3, b3, c3⟩ := q
        rw [hr] at eR
        exact ⟨_, _, _, _, _, eR, .inr ⟨rfl, read_back hr⟩⟩
    obtain ⟨o3, a3, b3, c3, e3, eR, hk⟩ := key
    have eS3 := fun h => show_ok o3 a3 b3 c3 h
    have eF3 := fun h => fit_ok o3 a3 b3 c3 h
    cases h1 : fitV o a b c with
    | false =>
      rw [h1] at eF1
      rw [show_not h1] at eR1 eS1
      rw [read_none] at eR1
      simp only [instF] at eR1
      cases h2 : fitV o' a' b' c' <;> rw [h2] at eF2
      all_goals
        rcases hk with rfl | ⟨rfl, h3, h4⟩
        · rw [D_dat (F := A5) rfl rfl rfl rfl]
          simp (maxSteps := 9999999) -implicitDefEqProofs only [A5, B5, e9, hs', eS1, eS2, eF1, eF2, eR1, eR, eqCells, eqFV, unnil, keyOk, keyEq, findE, appVec, slk, agreeS, idxS, keepS, lowS, dbin, dun, List.replicate, DV.cells, DV.flat, dload, DV.elems, reduceCtorEq, DV.lows, DV.low, DV.coe, DV.isD, dresults, dresult, withHeap, lowCells, LSt.isReady, srcElems, DV.int, DV.mkAgg, same, mnmx2, nilness, bound, fill, flatCells, allocCells, putCells, splitG, onG, insD, memD, seval, ↓joinK_t, ↓joinK_f, ↓reduceIte, stq]
        · rw [h3] at eF3
          rw [h4] at eS3
          rw [D_dat (F := A5) rfl rfl rfl rfl]
          simp (maxSteps := 9999999) -implicitDefEqProofs only [A5, B5, e9, hs', eS1, eS2, eF1, eF2, eR1, eR, eS3, eF3, eqCells, eqFV, unnil, keyOk, keyEq, findE, appVec, slk, agreeS, idxS, keepS, lowS, dbin, dun, List.replicate, DV.cells, DV.flat, dload, DV.elems, reduceCtorEq, DV.lows, DV.low, DV.coe, DV.isD, dresults, dresult, withHeap, lowCells, LSt.isReady, srcElems, DV.int, DV.mkAgg, same, mnmx2, nilness, bound, fill, flatCells, allocCells, putCells, splitG, onG, insD, memD, seval, ↓joinK_t, ↓joinK_f, ↓reduceIte, stq]
    | true =>
      rw [h1] at eF1
      have n1 := n1 h1
      rw [(show_fit h1).2] at eR1
      simp only [instF] at eR1
      cases h2 : fitV o' a' b' c' with
      | false =>
        rw [h2] at eF2
        rcases hk with rfl | ⟨rfl, h3, h4⟩
        · rw [D_dat (F := A5) rfl rfl rfl rfl]
          simp (maxSteps := 9999999) -implicitDefEqProofs only [A5, B5, e9, hs', eS1, eS2, eF1, eF2, eR1, eR, eqCells, eqFV, n1, unnil, keyOk, keyEq, findE, appVec, slk, agreeS, idxS, keepS, lowS, dbin, dun, List.replicate, DV.cells, DV.flat, dload, DV.elems, reduceCtorEq, DV.lows, DV.low, DV.coe, DV.isD, dresults, dresult, withHeap, lowCells, LSt.isReady, srcElems, DV.int, DV.mkAgg, same, mnmx2, nilness, bound, fill, flatCells, allocCells, putCells, splitG, onG, insD, memD, seval, ↓joinK_t, ↓joinK_f, ↓reduceIte, stq]
        · rw [h3] at eF3
          rw [h4] at eS3
          rw [D_dat (F := A5) rfl rfl rfl rfl]
          simp (maxSteps := 9999999) -implicitDefEqProofs only [A5, B5, e9, hs', eS1, eS2, eF1, eF2, eR1, eR, eS3, eF3, eqCells, eqFV, n1, unnil, keyOk, keyEq, findE, appVec, slk, agreeS, idxS, keepS, lowS, dbin, dun, List.replicate, DV.cells, DV.flat, dload, DV.elems, reduceCtorEq, DV.lows, DV.low, DV.coe, DV.isD, dresults, dresult, withHeap, lowCells, LSt.isReady, srcElems, DV.int, DV.mkAgg, same, mnmx2, nilness, bound, fill, flatCells, allocCells, putCells, splitG, onG, insD, memD, seval, ↓joinK_t, ↓joinK_f, ↓reduceIte, stq]
      | true =>
        rw [h2] at eF2
        by_cases he : o = o' ∧ a = a' ∧ b = b' ∧ c = c'
        · obtain ⟨rfl, rfl, rfl, rfl⟩ := he
          rcases hk with rfl | ⟨rfl, h3, h4⟩
          · rw [D_dat (F := A5) rfl rfl rfl rfl]
            simp (maxSteps := 9999999) -implicitDefEqProofs only [A5, B5, e9, hs', eS1, eS2, eF1, eF2, eR1, eR, eqCells, eqFV, n1, unnil, keyOk, keyEq, findE, appVec, slk, agreeS, idxS, keepS, lowS, dbin, dun, List.replicate, DV.cells, DV.flat, dload, DV.elems, reduceCtorEq, DV.lows, DV.low, DV.coe, DV.isD, dresults, dresult, withHeap, lowCells, LSt.isReady, srcElems, DV.int, DV.mkAgg, same, mnmx2, nilness, bound, fill, flatCells, allocCells, putCells, splitG, onG, insD, memD, seval, ↓joinK_t, ↓joinK_f, ↓reduceIte, stq]
          · rw [h3] at eF3
            rw [h4] at eS3
            rw [D_dat (F := A5) rfl rfl rfl rfl]
            simp (maxSteps := 9999999) -implicitDefEqProofs only [A5, B5, e9, hs', eS1, eS2, eF1, eF2, eR1, eR, eS3, eF3, eqCells, eqFV, n1, unnil, keyOk, keyEq, findE, appVec, slk, agreeS, idxS, keepS, lowS, dbin, dun, List.replicate, DV.cells, DV.flat, dload, DV.elems, reduceCtorEq, DV.lows, DV.low, DV.coe, DV.isD, dresults, dresult, withHeap, lowCells, LSt.isReady, srcElems, DV.int, DV.mkAgg, same, mnmx2, nilness, bound, fill, flatCells, allocCells, putCells, splitG, onG, insD, memD, seval, ↓joinK_t, ↓joinK_f, ↓reduceIte, stq]
        · have hne : ((showV o a b c).toList == (showV o' a' b' c').toList) = false := beq_eq_false_iff_ne.2 fun e => by
            have := show_inj h1 h2 (WideShapes.bytes_inj (by rw [← ByteArray.toList_eq, ← ByteArray.toList_eq]; exact e))
            simp only [Prod.mk.injEq] at this
            exact he this
          have hne2 : (o == o' && (a == a' && (b == b' && c == c'))) = false := by
            rw [Bool.eq_false_iff]
            intro e
            simp only [Bool.and_eq_true, beq_iff_eq] at e
            exact he e
          rcases hk with rfl | ⟨rfl, h3, h4⟩
          · rw [D_dat (F := A5) rfl rfl rfl rfl]
            simp (maxSteps := 9999999) -implicitDefEqProofs only [A5, B5, e9, hs', eS1, eS2, eF1, eF2, eR1, eR, eqCells, eqFV, n1, hne, hne2, unnil, keyOk, keyEq, findE, appVec, slk, agreeS, idxS, keepS, lowS, dbin, dun, List.replicate, DV.cells, DV.flat, dload, DV.elems, reduceCtorEq, DV.lows, DV.low, DV.coe, DV.isD, dresults, dresult, withHeap, lowCells, LSt.isReady, srcElems, DV.int, DV.mkAgg, same, mnmx2, nilness, bound, fill, flatCells, allocCells, putCells, splitG, onG, insD, memD, seval, ↓joinK_t, ↓joinK_f, ↓reduceIte, stq]
          · rw [h3] at eF3
            rw [h4] at eS3
            rw [D_dat (F := A5) rfl rfl rfl rfl]
            simp (maxSteps := 9999999) -implicitDefEqProofs only [A5, B5, e9, hs', eS1, eS2, eF1, eF2, eR1, eR, eS3, eF3, eqCells, eqFV, n1, hne, hne2, unnil, keyOk, keyEq, findE, appVec, slk, agreeS, idxS, keepS, lowS, dbin, dun, List.replicate, DV.cells, DV.flat, dload, DV.elems, reduceCtorEq, DV.lows, DV.low, DV.coe, DV.isD, dresults, dresult, withHeap, lowCells, LSt.isReady, srcElems, DV.int, DV.mkAgg, same, mnmx2, nilness, bound, fill, flatCells, allocCells, putCells, splitG, onG, insD, memD, seval, ↓joinK_t, ↓joinK_f, ↓reduceIte, stq]
end Go.Proofs.YtckmpipiginhaaaDoor.Codes
