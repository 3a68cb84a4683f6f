/-
  TraceWaits: the loop that puts things between (function 5, region 12).
  Conditions: none.
-/
import Derived.Test.YtpemlmhggiaflaaGreatDoorTH
set_option linter.unusedVariables false
set_option linter.unusedSimpArgs false
set_option maxRecDepth 100000
namespace Go.Proofs.YtpemlmhggiaflaaGreatDoor.Codes
open Go Go.Deepv

set_option maxHeartbeats 4000000 in
theorem loop12 (rs : List Rsp) (hr : rs.length ≤ 100000) (r6 : Res) (a0 a5 a9 a23 a24 a25 : FV) (m6 : List (List FV)) : ∃ K, L env 2 true H5L12 X5L12 B5L12 = K ∧ ∀ (l : List Rsp) (i : Nat) (out : List Rsp) (n : Nat), rs.drop i = l → i ≤ rs.length → out.length ≤ 3 * i → n ≤ i →
    K (den 112 [(0, .d a0), (5, .d a5), (6, .row 1 m6 0), (9, .d a9), (10, .row 4 (rspF out) 1), (11, .d (.int .i64 (n : Int))), (23, .d a23), (24, .d a24), (25, .d a25), (31, .d (.slice 4 (rspF rs))), (32, .d (.int .i64 (rs.length : Int))), (33, .d (.int .i64 (i : Int)))]) [r6, row10 out] =
      some (.exit 2, den 112 [(0, .d a0), (5, .d a5), (6, .row 1 m6 0), (9, .d a9), (10, .row 4 (rspF (out ++ padG l)) 1), (11, .d (.int .i64 ((n + cntG l : Nat) : Int))), (23, .d a23), (24, .d a24), (25, .d a25)], [r6, row10 (out ++ padG l)]) := by
  obtain ⟨K, hK⟩ : ∃ K, L env 2 true H5L12 X5L12 B5L12 = K := ⟨_, rfl⟩
  refine ⟨K, hK, ?_⟩
  intro l
  induction l with
  | nil =>
    intro i out n hl hi h1 h2
    have : rs.length ≤ i := List.drop_eq_nil_iff.1 hl
    have e2 : ¬ (i : Int) < (rs.length : Int) := by omega
    rw [L_rnd hK]
    simp (maxSteps := 9999999) -implicitDefEqProofs only [B5L12, e2, padG, cntG, List.flatMap_nil, List.filter_nil, List.length_nil, Nat.add_zero, List.append_nil, unnil, keyOk, keyEq, findE, appVec, slk, agreeS, idxS, keepS, lowS, dbin, dun, List.replicate, DV.cells, DV.flat, dload, DV.elems, reduceCtorEq, DV.lows, DV.low, DV.coe, DV.isD, dresults, dresult, withHeap, lowCells, LSt.isReady, srcElems, DV.int, DV.mkAgg, same, mnmx2, nilness, bound, fill, flatCells, allocCells, putCells, splitG, onG, insD, memD, seval, ↓joinK_t, ↓joinK_f, ↓reduceIte, stq]
  | cons r l ih =>
    intro i out n hl hi h1 h2
    have hlt : i < rs.length := by
      rcases Nat.lt_or_ge i rs.length with h | h
      · exact h
      · rw [List.drop_eq_nil_of_le h] at hl; cases hl
    have hx : rs[i]? = some r := by
      have := congrArg (fun l => l[0]?) hl
      simpa using this
    have hd : rs.drop (i + 1) = l := by
      rw [← List.drop_drop, hl]; rfl
    have e2 : (i : Int) < (rs.length : Int) := by omega
    have gx : (rspF rs)[i]? = some r.enc := by simp [rspF, hx]
    have gl : (rspF rs).length = rs.length := by simp [rspF]
    have w1 : IntKind.i64.wrap ((i : Int) + 1) = ((i + 1 : Nat) : Int) := by rw [wrap_i64 (by omega) (by omega)]; omega
    have w2 : IntKind.i64.wrap ((n : Int) + 1) = ((n + 1 : Nat) : Int) := by rw [wrap_i64 (by omega) (by omega)]; omega
    have ap := fun rest => app10 out r r6 rest (by omega)
    simp only [said, kept, Rsp.enc] at ap
    have ep : out ++ padG (r :: l) = out ++ [said, r, kept] ++ padG l := by simp [padG]
    have ih0 := ih (i + 1) (out ++ [said, r, kept]) n hd (by omega) (by simp; omega) (by omega)
    have ih1 := ih (i + 1) (out ++ [said, r, kept]) (n + 1) hd (by omega) (by simp; omega) (by omega)
    rw [← ep] at ih0 ih1
    simp only [said, kept] at ih0 ih1
    by_cases n0 : r.k = 0
    · have ec : n + cntG (r :: l) = n + 1 + cntG l := by simp [cntG, n0]; omega
      rw [ec, L_rnd hK]
      simp only [n0] at ap
      simp (maxSteps := 9999999) -implicitDefEqProofs only [B5L12, e2, gx, gl, Rsp.enc, n0, w1, w2, ap, ih1, unnil, keyOk, keyEq, findE, appVec, slk, agreeS, idxS, keepS, lowS, dbin, dun, List.replicate, DV.cells, DV.flat, dload, DV.elems, reduceCtorEq, DV.lows, DV.low, DV.coe, DV.isD, dresults, dresult, withHeap, lowCells, LSt.isReady, srcElems, DV.int, DV.mkAgg, same, mnmx2, nilness, bound, fill, flatCells, allocCells, putCells, splitG, onG, insD, memD, seval, ↓joinK_t, ↓joinK_f, ↓reduceIte, stq]
    · by_cases n4 : r.k = 4
      · have ec : n + cntG (r :: l) = n + 1 + cntG l := by simp [cntG, n4]; omega
        rw [ec, L_rnd hK]
        simp only [n4] at ap
        simp (maxSteps := 9999999) -implicitDefEqProofs only [B5L12, e2, gx, gl, Rsp.enc, n4, w1, w2, ap, ih1, unnil, keyOk, keyEq, findE, appVec, slk, agreeS, idxS, keepS, lowS, dbin, dun, List.replicate, DV.cells, DV.flat, dload, DV.elems, reduceCtorEq, DV.lows, DV.low, DV.coe, DV.isD, dresults, dresult, withHeap, lowCells, LSt.isReady, srcElems, DV.int, DV.mkAgg, same, mnmx2, nilness, bound, fill, flatCells, allocCells, putCells, splitG, onG, insD, memD, seval, ↓joinK_t, ↓joinK_f, ↓reduceIte, stq]
      · have ec : n + cntG (r :: l) = n + cntG l := by simp [cntG, n0, n4]
        rw [ec, L_rnd hK]
        simp (maxSteps := 9999999) -implicitDefEqProofs only [B5L12, e2, gx, gl, Rsp.enc, n0, n4, w1, w2, ap, ih0, unnil, keyOk, keyEq, findE, appVec, slk, agreeS, idxS, keepS, lowS, dbin, dun, List.replicate, DV.cells, DV.flat, dload, DV.elems, reduceCtorEq, DV.lows, DV.low, DV.coe, DV.isD, dresults, dresult, withHeap, lowCells, LSt.isReady, srcElems, DV.int, DV.mkAgg, same, mnmx2, nilness, bound, fill, flatCells, allocCells, putCells, splitG, onG, insD, memD, seval, ↓joinK_t, ↓joinK_f, ↓reduceIte, stq]
end Go.Proofs.YtpemlmhggiaflaaGreatDoor.Codes
