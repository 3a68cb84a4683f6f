/-
  What is told of one item: numbers, and what waits (function 30).
  Conditions: none.
-/
import Derived.Test.YtpemlmhggiaflaaGreatDoorTC
set_option linter.unusedVariables false
set_option linter.unusedSimpArgs false
set_option maxRecDepth 100000
namespace Go.Proofs.YtpemlmhggiaflaaGreatDoor.Codes
open Go Go.Deepv

/-- Something is wrong; the numbers given, those done. -/
def rightG (q : Int) : List Rsp → Int → Int → Bool × Int × Int
  | [], s, d => (!decide (d = s), s, d)
  | x :: l, s, d =>
    if x.k = 0 ∨ x.k = 4 then (if ¬ x.s = s + 1 ∨ q < s + 1 - d then (true, s + 1, d) else rightG q l (s + 1) d)
    else if x.k = 9 then (if ¬ x.s = d + 1 ∨ s < d + 1 then (true, s, d + 1) else rightG q l s (d + 1))
    else rightG q l s d
def box1 (n : Int) : Res := .box [.d (.int .i64 n)]
def st30 (rs : List Rsp) (i : Nat) : List DV := den 49 [(1, .ptr 1 0), (2, .ptr 2 0), (3, .ptr 0 0), (8, .d (.slice 4 (rspF rs))), (9, .d (.int .i64 (rs.length : Int))), (10, .d (.int .i64 (i : Int)))]
/-- The loop: it leaves with the numbers, or returns at once. -/
def goG (q : Int) : List Rsp → Int → Int → Bool × Int × Int
  | [], s, d => (false, s, d)
  | x :: l, s, d =>
    if x.k = 0 ∨ x.k = 4 then (if ¬ x.s = s + 1 ∨ q < s + 1 - d then (true, s + 1, d) else goG q l (s + 1) d)
    else if x.k = 9 then (if ¬ x.s = d + 1 ∨ s < d + 1 then (true, s, d + 1) else goG q l s (d + 1))
    else goG q l s d
def out30 (q : Int) (r : Bool × Int × Int) : DRun := if r.1 = true then (.ret, den 49 [(1, .ptr 1 0), (2, .ptr 2 0), (5, .d (.bool true))], [box1 q, box1 r.2.1, box1 r.2.2]) else (.exit 0, den 49 [(1, .ptr 1 0), (2, .ptr 2 0)], [box1 q, box1 r.2.1, box1 r.2.2])
set_option maxHeartbeats 4000000 in
theorem loop30 (q : Int) (rs : List Rsp) (hr : rs.length ≤ 100000) : ∃ K, L env 3 true H30L2 X30L2 B30L2 = K ∧ ∀ (l : List Rsp) (i : Nat) (s d : Int), rs.drop i = l → i ≤ rs.length → 0 ≤ s → s ≤ 1000000 + i → 0 ≤ d → d ≤ 1000000 + i →
    K (st30 rs i) [box1 q, box1 s, box1 d] = some (out30 q (goG q l s d)) := by
  obtain ⟨K, hK⟩ : ∃ K, L env 3 true H30L2 X30L2 B30L2 = K := ⟨_, rfl⟩
  refine ⟨K, hK, ?_⟩
  intro l
  induction l with
  | nil =>
    intro i s d hl hi h1 h2 h3 h4
    have : rs.length ≤ i := List.drop_eq_nil_iff.1 hl
    have e2 : ¬ (i : Int) < (rs.length : Int) := by omega
    rw [L_rnd hK]
    simp (maxSteps := 9999999) -implicitDefEqProofs only [st30, box1, B30L2, e2, goG, out30, unnil, keyOk, keyEq, findE, appVec, slk, agreeS, idxS, keepS, lowS, dbin, dun, List.replicate, DV.cells, DV.flat, dload, DV.elems, reduceCtorEq, DV.lows, DV.low, DV.coe, DV.isD, dresults, dresult, withHeap, lowCells, LSt.isReady, srcElems, DV.int, DV.mkAgg, same, mnmx2, nilness, bound, fill, flatCells, allocCells, putCells, splitG, onG, insD, memD, seval, ↓joinK_t, ↓joinK_f, ↓reduceIte, stq]
  | cons r l ih =>
    intro i s d hl hi h1 h2 h3 h4
    have hlt : i < rs.length := by
      rcases Nat.lt_or_ge i rs.length with h | h
      · exact h
      · rw [List.drop_eq_nil_of_le h] at hl; cases hl
    have hx : rs[i]? = some r := by
      have := congrArg (fun l => l[0]?) hl
      simpa using this
    have hd : rs.drop (i + 1) = l := by
      rw [← List.drop_drop, hl]; rfl
    have e2 : (i : Int) < (rs.length : Int) := by omega
    have gx : (rspF rs)[i]? = some r.enc := by simp [rspF, hx]
    have gl : (rspF rs).length = rs.length := by simp [rspF]
    have w1 : IntKind.i64.wrap ((i : Int) + 1) = ((i + 1 : Nat) : Int) := by rw [wrap_i64 (by omega) (by omega)]; omega
    have w2 : IntKind.i64.wrap (s + 1) = s + 1 := wrap_i64 (by omega) (by omega)
    have w3 : IntKind.i64.wrap (d + 1) = d + 1 := wrap_i64 (by omega) (by omega)
    have w4 : IntKind.i64.wrap (s + 1 - d) = s + 1 - d := wrap_i64 (by omega) (by omega)
    have ih0 := ih (i + 1) s d hd (by omega) (by omega) (by omega) (by omega) (by omega)
    have ih1 := ih (i + 1) (s + 1) d hd (by omega) (by omega) (by omega) (by omega) (by omega)
    have ih2 := ih (i + 1) s (d + 1) hd (by omega) (by omega) (by omega) (by omega) (by omega)
    simp only [st30, box1, out30] at ih0 ih1 ih2
    simp only [goG]
    by_cases n0 : r.k = 0
    · rw [L_rnd hK]
      simp (maxSteps := 9999999) -implicitDefEqProofs only [st30, box1, B30L2, e2, gx, gl, Rsp.enc, n0, w1, w2, w3, w4, ih0, ih1, ih2, out30, unnil, keyOk, keyEq, findE, appVec, slk, agreeS, idxS, keepS, lowS, dbin, dun, List.replicate, DV.cells, DV.flat, dload, DV.elems, reduceCtorEq, DV.lows, DV.low, DV.coe, DV.isD, dresults, dresult, withHeap, lowCells, LSt.isReady, srcElems, DV.int, DV.mkAgg, same, mnmx2, nilness, bound, fill, flatCells, allocCells, putCells, splitG, onG, insD, memD, seval, ↓joinK_t, ↓joinK_f, ↓reduceIte, stq]
      repeat' split <;> simp_all
    · by_cases n4 : r.k = 4
      · rw [L_rnd hK]
        simp (maxSteps := 9999999) -implicitDefEqProofs only [st30, box1, B30L2, e2, gx, gl, Rsp.enc, n4, w1, w2, w3, w4, ih0, ih1, ih2, out30, unnil, keyOk, keyEq, findE, appVec, slk, agreeS, idxS, keepS, lowS, dbin, dun, List.replicate, DV.cells, DV.flat, dload, DV.elems, reduceCtorEq, DV.lows, DV.low, DV.coe, DV.isD, dresults, dresult, withHeap, lowCells, LSt.isReady, srcElems, DV.int, DV.mkAgg, same, mnmx2, nilness, bound, fill, flatCells, allocCells, putCells, splitG, onG, insD, memD, seval, ↓joinK_t, ↓joinK_f, ↓reduceIte, stq]
        repeat' split <;> simp_all
      · by_cases n9 : r.k = 9
        · rw [L_rnd hK]
          simp (maxSteps := 9999999) -implicitDefEqProofs only [st30, box1, B30L2, e2, gx, gl, Rsp.enc, n9, w1, w2, w3, w4, ih0, ih1, ih2, out30, unnil, keyOk, keyEq, findE, appVec, slk, agreeS, idxS, keepS, lowS, dbin, dun, List.replicate, DV.cells, DV.flat, dload, DV.elems, reduceCtorEq, DV.lows, DV.low, DV.coe, DV.isD, dresults, dresult, withHeap, lowCells, LSt.isReady, srcElems, DV.int, DV.mkAgg, same, mnmx2, nilness, bound, fill, flatCells, allocCells, putCells, splitG, onG, insD, memD, seval, ↓joinK_t, ↓joinK_f, ↓reduceIte, stq]
          repeat' split <;> simp_all
        · rw [L_rnd hK]
          simp (maxSteps := 9999999) -implicitDefEqProofs only [st30, box1, B30L2, e2, gx, gl, Rsp.enc, n0, n4, n9, w1, w2, w3, w4, ih0, ih1, ih2, out30, unnil, keyOk, keyEq, findE, appVec, slk, agreeS, idxS, keepS, lowS, dbin, dun, List.replicate, DV.cells, DV.flat, dload, DV.elems, reduceCtorEq, DV.lows, DV.low, DV.coe, DV.isD, dresults, dresult, withHeap, lowCells, LSt.isReady, srcElems, DV.int, DV.mkAgg, same, mnmx2, nilness, bound, fill, flatCells, allocCells, putCells, splitG, onG, insD, memD, seval, ↓joinK_t, ↓joinK_f, ↓reduceIte, stq]
end Go.Proofs.YtpemlmhggiaflaaGreatDoor.Codes
