/-
  TraceWaits: the loop that looks at what waited (function 5, region 22), and that over the items (region 6).
  Conditions: none.
-/
import Derived.Test.YtpemlmhggiaflaaGreatDoorTI
set_option linter.unusedVariables false
set_option linter.unusedSimpArgs false
set_option maxRecDepth 100000
namespace Go.Proofs.YtpemlmhggiaflaaGreatDoor.Codes
open Go Go.Deepv

set_option maxHeartbeats 4000000 in
theorem loop22 (q : Int) (right : Bool) (w : List Int) (hw : w.length ≤ 100000) (hr : ∀ n ∈ w, 0 ≤ n ∧ (right = true → n < q)) (r6 r10 : Res) (a23 a24 a25 : FV) (m6 m10 : List (List FV)) : ∃ K, L env 2 true H5L22 X5L22 B5L22 = K ∧ ∀ (k i : Nat), i + k = w.length →
    K (den 112 [(0, .d (.int .i64 q)), (5, .d (.bool right)), (6, .row 1 m6 0), (9, .d (.slice 1 (intsF w))), (10, .row 4 m10 1), (14, .d (.slice 1 (intsF w))), (23, .d a23), (24, .d a24), (25, .d a25), (67, .d (.int .i64 (w.length : Int))), (68, .d (.int .i64 (i : Int)))]) [r6, r10] =
      some (.exit 4, den 112 [(0, .d (.int .i64 q)), (5, .d (.bool right)), (6, .row 1 m6 0), (10, .row 4 m10 1), (23, .d a23), (24, .d a24), (25, .d a25)], [r6, r10]) := by
  obtain ⟨K, hK⟩ : ∃ K, L env 2 true H5L22 X5L22 B5L22 = K := ⟨_, rfl⟩
  refine ⟨K, hK, ?_⟩
  intro k
  induction k with
  | zero =>
    intro i hi
    have e2 : ¬ (i : Int) < (w.length : Int) := by omega
    rw [L_rnd hK]
    simp (maxSteps := 9999999) -implicitDefEqProofs only [B5L22, e2, unnil, keyOk, keyEq, findE, appVec, slk, agreeS, idxS, keepS, lowS, dbin, dun, List.replicate, DV.cells, DV.flat, dload, DV.elems, reduceCtorEq, DV.lows, DV.low, DV.coe, DV.isD, dresults, dresult, withHeap, lowCells, LSt.isReady, srcElems, DV.int, DV.mkAgg, same, mnmx2, nilness, bound, fill, flatCells, allocCells, putCells, splitG, onG, insD, memD, seval, ↓joinK_t, ↓joinK_f, ↓reduceIte, stq]
  | succ k ih =>
    intro i hi
    have e2 : (i : Int) < (w.length : Int) := by omega
    have hx : w[i]? = some (w[i]'(by omega)) := List.getElem?_eq_getElem (by omega)
    obtain ⟨h0, h1⟩ := hr _ (List.getElem_mem (l := w) (n := i) (by omega))
    generalize w[i]'(by omega) = n at hx h0 h1
    have gx : (intsF w)[i]? = some [.int .i64 n] := by simp [intsF, hx]
    have gl : (intsF w).length = w.length := by simp [intsF]
    have w1 : IntKind.i64.wrap ((i : Int) + 1) = ((i + 1 : Nat) : Int) := by rw [wrap_i64 (by omega) (by omega)]; omega
    have n0 : ¬ n < 0 := by omega
    have ih := ih (i + 1) (by omega)
    rw [L_rnd hK]
    cases right with
    | true =>
      have n1 : ¬ q ≤ n := by have := h1 rfl; omega
      simp (maxSteps := 9999999) -implicitDefEqProofs only [B5L22, e2, gx, gl, w1, n0, n1, ih, unnil, keyOk, keyEq, findE, appVec, slk, agreeS, idxS, keepS, lowS, dbin, dun, List.replicate, DV.cells, DV.flat, dload, DV.elems, reduceCtorEq, DV.lows, DV.low, DV.coe, DV.isD, dresults, dresult, withHeap, lowCells, LSt.isReady, srcElems, DV.int, DV.mkAgg, same, mnmx2, nilness, bound, fill, flatCells, allocCells, putCells, splitG, onG, insD, memD, seval, ↓joinK_t, ↓joinK_f, ↓reduceIte, stq]
    | false =>
      simp (maxSteps := 9999999) -implicitDefEqProofs only [B5L22, e2, gx, gl, w1, n0, ih, unnil, keyOk, keyEq, findE, appVec, slk, agreeS, idxS, keepS, lowS, dbin, dun, List.replicate, DV.cells, DV.flat, dload, DV.elems, reduceCtorEq, DV.lows, DV.low, DV.coe, DV.isD, dresults, dresult, withHeap, lowCells, LSt.isReady, srcElems, DV.int, DV.mkAgg, same, mnmx2, nilness, bound, fill, flatCells, allocCells, putCells, splitG, onG, insD, memD, seval, ↓joinK_t, ↓joinK_f, ↓reduceIte, stq]
end Go.Proofs.YtpemlmhggiaflaaGreatDoor.Codes
