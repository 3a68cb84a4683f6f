/-
  Right (function 14).
  Conditions: none.
-/
import Derived.Test.YtpemlmhggiaflaaGreatDoorTF
set_option linter.unusedVariables false
set_option linter.unusedSimpArgs false
set_option maxRecDepth 100000
namespace Go.Proofs.YtpemlmhggiaflaaGreatDoor.Codes
open Go Go.Deepv

def idxI : Option Nat → Int
  | some j => j
  | none => -1
def rightV (q : Int) (ls : List (List Rsp)) : Bool := (idxG q ls 0 0 0).1.isNone
set_option maxHeartbeats 4000000 in
theorem idx_ok (q : Int) (ls : List (List Rsp)) (hn : ls.length ≤ 100000) (hb : ∀ x ∈ ls, x.length ≤ 100000) (ht : totalG ls ≤ 1000000) :
    ∃ h', D env 45 [.d (.slice 1 (toldF ls)), clo14] [box1 q, box1 0, box1 0] = some (.val (.d (.int .i64 (idxI (idxG q ls 0 0 0).1))) h') := by
  obtain ⟨K, hK, hk⟩ := loop45 q ls hn hb
  have e := hk ls 0 0 0 rfl (by omega) (by omega) (by omega) (by omega) (by omega)
  have gl : (toldF ls).length = ls.length := by simp [toldF]
  have e : K (den 19 [(0, .d (.slice 1 (toldF ls))), (1, clo14), (7, .d (.int .i64 (ls.length : Int))), (8, .d (.int .i64 0))]) [box1 q, box1 0, box1 0] = _ := e
  rcases hg : idxG q ls 0 0 0 with ⟨r, s', d'⟩
  rw [hg] at e
  cases r with
  | none =>
    simp only [box1, clo14] at e
    refine ⟨[box1 q, box1 s', box1 d'], ?_⟩
    rw [D_own (F := A45) rfl rfl rfl rfl]
    simp (maxSteps := 9999999) -implicitDefEqProofs only [A45, B45, gl, hK, e, box1, clo14, idxI, unnil, keyOk, keyEq, findE, appVec, slk, agreeS, idxS, keepS, lowS, dbin, dun, List.replicate, DV.cells, DV.flat, dload, DV.elems, reduceCtorEq, DV.lows, DV.low, DV.coe, DV.isD, dresults, dresult, withHeap, lowCells, LSt.isReady, srcElems, DV.int, DV.mkAgg, same, mnmx2, nilness, bound, fill, flatCells, allocCells, putCells, splitG, onG, insD, memD, seval, ↓joinK_t, ↓joinK_f, ↓reduceIte, stq]
  | some j =>
    simp only [box1, clo14] at e
    refine ⟨[box1 q, box1 s', box1 d'], ?_⟩
    rw [D_own (F := A45) rfl rfl rfl rfl]
    simp (maxSteps := 9999999) -implicitDefEqProofs only [A45, B45, gl, hK, e, box1, clo14, idxI, unnil, keyOk, keyEq, findE, appVec, slk, agreeS, idxS, keepS, lowS, dbin, dun, List.replicate, DV.cells, DV.flat, dload, DV.elems, reduceCtorEq, DV.lows, DV.low, DV.coe, DV.isD, dresults, dresult, withHeap, lowCells, LSt.isReady, srcElems, DV.int, DV.mkAgg, same, mnmx2, nilness, bound, fill, flatCells, allocCells, putCells, splitG, onG, insD, memD, seval, ↓joinK_t, ↓joinK_f, ↓reduceIte, stq]
set_option maxHeartbeats 4000000 in
theorem right_ok (q : Int) (ls : List (List Rsp)) (hn : ls.length ≤ 100000) (hb : ∀ x ∈ ls, x.length ≤ 100000) (ht : totalG ls ≤ 1000000) (h : List Res) :
    D env 14 [.d (.int .i64 q), .d (.slice 1 (toldF ls))] h = some (.val (.d (.bool (rightV q ls))) h) := by
  obtain ⟨h', e45⟩ := idx_ok q ls hn hb ht
  unfold rightV
  have e29 : D env 29 [.d (.slice 1 (toldF ls)), clo14] [box1 q, box1 0, box1 0] = some (.val (.d (.bool (idxG q ls 0 0 0).1.isSome)) (h'.take 3)) := by
    simp only [clo14, box1] at e45 ⊢
    rcases hr : (idxG q ls 0 0 0).1 with _ | j
    · rw [hr] at e45
      simp only [idxI] at e45
      rw [D_own (F := A29) rfl rfl rfl rfl]
      simp (maxSteps := 9999999) -implicitDefEqProofs only [A29, B29, e45, unnil, keyOk, keyEq, findE, appVec, slk, agreeS, idxS, keepS, lowS, dbin, dun, List.replicate, DV.cells, DV.flat, dload, DV.elems, reduceCtorEq, DV.lows, DV.low, DV.coe, DV.isD, dresults, dresult, withHeap, lowCells, LSt.isReady, srcElems, DV.int, DV.mkAgg, same, mnmx2, nilness, bound, fill, flatCells, allocCells, putCells, splitG, onG, insD, memD, seval, ↓joinK_t, ↓joinK_f, ↓reduceIte, stq]
      rfl
    · rw [hr] at e45
      simp only [idxI] at e45
      have q0 : (0 : Int) ≤ (j : Int) := by omega
      rw [D_own (F := A29) rfl rfl rfl rfl]
      simp (maxSteps := 9999999) -implicitDefEqProofs only [A29, B29, e45, q0, unnil, keyOk, keyEq, findE, appVec, slk, agreeS, idxS, keepS, lowS, dbin, dun, List.replicate, DV.cells, DV.flat, dload, DV.elems, reduceCtorEq, DV.lows, DV.low, DV.coe, DV.isD, dresults, dresult, withHeap, lowCells, LSt.isReady, srcElems, DV.int, DV.mkAgg, same, mnmx2, nilness, bound, fill, flatCells, allocCells, putCells, splitG, onG, insD, memD, seval, ↓joinK_t, ↓joinK_f, ↓reduceIte, stq]
      rfl
  simp only [clo14, box1] at e29
  rw [D_dat (F := A14) rfl rfl rfl rfl]
  simp (maxSteps := 9999999) -implicitDefEqProofs only [A14, B14, e29, unnil, keyOk, keyEq, findE, appVec, slk, agreeS, idxS, keepS, lowS, dbin, dun, List.replicate, DV.cells, DV.flat, dload, DV.elems, reduceCtorEq, DV.lows, DV.low, DV.coe, DV.isD, dresults, dresult, withHeap, lowCells, LSt.isReady, srcElems, DV.int, DV.mkAgg, same, mnmx2, nilness, bound, fill, flatCells, allocCells, putCells, splitG, onG, insD, memD, seval, ↓joinK_t, ↓joinK_f, ↓reduceIte, stq]
  cases (idxG q ls 0 0 0).1 <;> rfl
end Go.Proofs.YtpemlmhggiaflaaGreatDoor.Codes
