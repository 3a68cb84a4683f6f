/-
  InstTells.
  Conditions: none.
-/
import Derived.Test.YtckmpipiginhaaaDoorIO
set_option linter.unusedVariables false
set_option linter.unusedSimpArgs false
set_option maxRecDepth 100000
namespace Go.Proofs.YtckmpipiginhaaaDoor.Codes
open Go Go.Deepv

theorem goesV_len (o a b c : Int) : (goesV o a b c).1.length ≤ 1 := by
  unfold goesV toV
  repeat' split
  all_goals simp
set_option maxHeartbeats 16000000 in
theorem tells_law (o a b c : Int) (s : ByteArray) (h : List Res) : D env 4 [.d (.agg [.int .i64 o, .int .i64 a, .int .i64 b, .int .i64 c]), .d (.str s)] h = some (.val (.d (.bool true)) h) := by
  by_cases hs : (300 : Int) < (s.size : Int)
  · rw [D_dat (F := A4) rfl rfl rfl rfl]
    simp (maxSteps := 9999999) -implicitDefEqProofs only [A4, B4, hs, aw_ok, unnil, keyOk, keyEq, findE, appVec, slk, agreeS, idxS, keepS, lowS, dbin, dun, List.replicate, DV.cells, DV.flat, dload, DV.elems, reduceCtorEq, DV.lows, DV.low, DV.coe, DV.isD, dresults, dresult, withHeap, lowCells, LSt.isReady, srcElems, DV.int, DV.mkAgg, same, mnmx2, nilness, bound, fill, flatCells, allocCells, putCells, splitG, onG, insD, memD, seval, ↓joinK_t, ↓joinK_f, ↓reduceIte, stq]
  · have e10 := fun h => read_ok s (by omega) h
    have e11 := fun h => rread_ok s h
    have e7 := fun h => takes_ok o a b c h
    have e12 := fun h => rtakes_ok o a b c h
    have e6 := fun h => goes_ok o a b c h
    have e13 := fun h => rgoes_ok o a b c h
    have e14 := fun h => fit_ok o a b c h
    have e8 := fun h => rfit_ok o a b c h
    have e15 := fun h => show_ok o a b c h
    have e16 := fun h => rshow_ok o a b c h
    have e17 := fun h => ints_ok _ _ (goesV_len o a b c) (goesV_len o a b c) h
    simp only [decide_true] at e17
    generalize goesV o a b c = g at *
    generalize takesV o a b c = t at *
    generalize fitV o a b c = f at *
    generalize showV o a b c = w at *
    cases hr : readV s with
    | none =>
      rw [hr] at e10 e11
      simp only [instF, rinstF] at e10 e11
      rw [D_dat (F := A4) rfl rfl rfl rfl]
      simp (maxSteps := 9999999) -implicitDefEqProofs only [A4, B4, hs, aw_ok, e10, e11, e7, e12, e6, e13, e14, e8, e15, e16, e17, eqCells, eqFV, unnil, keyOk, keyEq, findE, appVec, slk, agreeS, idxS, keepS, lowS, dbin, dun, List.replicate, DV.cells, DV.flat, dload, DV.elems, reduceCtorEq, DV.lows, DV.low, DV.coe, DV.isD, dresults, dresult, withHeap, lowCells, LSt.isReady, srcElems, DV.int, DV.mkAgg, same, mnmx2, nilness, bound, fill, flatCells, allocCells, putCells, splitG, onG, insD, memD, seval, ↓joinK_t, ↓joinK_f, ↓reduceIte, stq]
    | some i =>
      obtain ⟨o', a', b', c'⟩ := i
      rw [hr] at e10 e11
      simp only [instF, rinstF] at e10 e11
      rw [D_dat (F := A4) rfl rfl rfl rfl]
      simp (maxSteps := 9999999) -implicitDefEqProofs only [A4, B4, hs, aw_ok, e10, e11, e7, e12, e6, e13, e14, e8, e15, e16, e17, eqCells, eqFV, unnil, keyOk, keyEq, findE, appVec, slk, agreeS, idxS, keepS, lowS, dbin, dun, List.replicate, DV.cells, DV.flat, dload, DV.elems, reduceCtorEq, DV.lows, DV.low, DV.coe, DV.isD, dresults, dresult, withHeap, lowCells, LSt.isReady, srcElems, DV.int, DV.mkAgg, same, mnmx2, nilness, bound, fill, flatCells, allocCells, putCells, splitG, onG, insD, memD, seval, ↓joinK_t, ↓joinK_f, ↓reduceIte, stq]
end Go.Proofs.YtckmpipiginhaaaDoor.Codes
