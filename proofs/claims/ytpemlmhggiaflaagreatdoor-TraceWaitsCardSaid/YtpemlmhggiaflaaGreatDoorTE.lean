/-
  Whether what is told of items may be (function 14).
  Conditions: none.
-/
import Derived.Test.YtpemlmhggiaflaaGreatDoorTD
set_option linter.unusedVariables false
set_option linter.unusedSimpArgs false
set_option maxRecDepth 100000
namespace Go.Proofs.YtpemlmhggiaflaaGreatDoor.Codes
open Go Go.Deepv

/-- One item: something is wrong; the numbers. -/
def oneG (q : Int) (x : List Rsp) (s d : Int) : Bool × Int × Int := if (goG q x s d).1 = true then goG q x s d else (!decide ((goG q x s d).2.2 = (goG q x s d).2.1), (goG q x s d).2.1, (goG q x s d).2.2)
set_option maxHeartbeats 4000000 in
theorem one_ok (q : Int) (x : List Rsp) (hx : x.length ≤ 100000) (s d : Int) (h1 : 0 ≤ s) (h2 : s ≤ 1000000) (h3 : 0 ≤ d) (h4 : d ≤ 1000000) :
    D env 30 [.d (.slice 4 (rspF x)), .ptr 1 0, .ptr 2 0, .ptr 0 0] [box1 q, box1 s, box1 d] = some (.val (.d (.bool (oneG q x s d).1)) [box1 q, box1 (oneG q x s d).2.1, box1 (oneG q x s d).2.2]) := by
  obtain ⟨K, hK, hk⟩ := loop30 q x hx
  have e := hk x 0 s d rfl (by omega) h1 (by omega) h3 (by omega)
  have gl : (rspF x).length = x.length := by simp [rspF]
  have e : K (den 49 [(1, .ptr 1 0), (2, .ptr 2 0), (3, .ptr 0 0), (8, .d (.slice 4 (rspF x))), (9, .d (.int .i64 (x.length : Int))), (10, .d (.int .i64 0))]) [box1 q, box1 s, box1 d] = _ := e
  unfold oneG
  rcases hg : goG q x s d with ⟨b, s', d'⟩
  rw [hg] at e
  simp only [out30] at e
  cases b with
  | true =>
    simp only [if_true, box1] at e
    rw [D_own (F := A30) rfl rfl rfl rfl]
    simp (maxSteps := 9999999) -implicitDefEqProofs only [A30, B30, gl, hK, e, box1, unnil, keyOk, keyEq, findE, appVec, slk, agreeS, idxS, keepS, lowS, dbin, dun, List.replicate, DV.cells, DV.flat, dload, DV.elems, reduceCtorEq, DV.lows, DV.low, DV.coe, DV.isD, dresults, dresult, withHeap, lowCells, LSt.isReady, srcElems, DV.int, DV.mkAgg, same, mnmx2, nilness, bound, fill, flatCells, allocCells, putCells, splitG, onG, insD, memD, seval, ↓joinK_t, ↓joinK_f, ↓reduceIte, stq]
  | false =>
    simp only [Bool.false_eq_true, if_false, box1] at e
    rw [D_own (F := A30) rfl rfl rfl rfl]
    simp (maxSteps := 9999999) -implicitDefEqProofs only [A30, B30, gl, hK, e, box1, unnil, keyOk, keyEq, findE, appVec, slk, agreeS, idxS, keepS, lowS, dbin, dun, List.replicate, DV.cells, DV.flat, dload, DV.elems, reduceCtorEq, DV.lows, DV.low, DV.coe, DV.isD, dresults, dresult, withHeap, lowCells, LSt.isReady, srcElems, DV.int, DV.mkAgg, same, mnmx2, nilness, bound, fill, flatCells, allocCells, putCells, splitG, onG, insD, memD, seval, ↓joinK_t, ↓joinK_f, ↓reduceIte, stq]
    by_cases hc : d' = s' <;> simp [hc]
end Go.Proofs.YtpemlmhggiaflaaGreatDoor.Codes
