/-
  Whether what is told is little (function 13).
  Conditions: none.
-/
import Derived.Test.YtpemlmhggiaflaaGreatDoorTB
set_option linter.unusedVariables false
set_option linter.unusedSimpArgs false
set_option maxRecDepth 100000
namespace Go.Proofs.YtpemlmhggiaflaaGreatDoor.Codes
open Go Go.Deepv

def toldF (l : List (List Rsp)) : List (List FV) := l.map fun x => [.slice 4 (rspF x)]
def fewG : List (List Rsp) → Int → Bool
  | [], _ => true
  | x :: l, n => if 2000 < n + (1 + (x.length : Int)) then false else fewG l (n + (1 + (x.length : Int)))
def fewV (l : List (List Rsp)) : Bool := fewG l 0
set_option maxHeartbeats 4000000 in
theorem loop13 (ls : List (List Rsp)) (h0 : ls.length < 9223372036854775807) (hb : ∀ x ∈ ls, x.length ≤ 9223372036854770000) : ∃ K, L env 0 true H13L3 X13L3 B13L3 = K ∧ ∀ (l : List (List Rsp)) (i : Nat) (n : Int), ls.drop i = l → i ≤ ls.length → 0 ≤ n → n ≤ 2000 →
    K (den 20 [(3, .d (.int .i64 n)), (6, .d (.slice 1 (toldF ls))), (7, .d (.int .i64 (ls.length : Int))), (8, .d (.int .i64 (i : Int)))]) [] = some (if fewG l n = true then (.exit 0, den 20 [], []) else (.ret, den 20 [(2, .d (.bool false))], [])) := by
  obtain ⟨K, hK⟩ : ∃ K, L env 0 true H13L3 X13L3 B13L3 = K := ⟨_, rfl⟩
  refine ⟨K, hK, ?_⟩
  intro l
  induction l with
  | nil =>
    intro i n hl hi h1 h2
    have : ls.length ≤ i := List.drop_eq_nil_iff.1 hl
    have e2 : ¬ (i : Int) < (ls.length : Int) := by omega
    rw [L_rnd hK]
    simp (maxSteps := 9999999) -implicitDefEqProofs only [B13L3, e2, fewG, unnil, keyOk, keyEq, findE, appVec, slk, agreeS, idxS, keepS, lowS, dbin, dun, List.replicate, DV.cells, DV.flat, dload, DV.elems, reduceCtorEq, DV.lows, DV.low, DV.coe, DV.isD, dresults, dresult, withHeap, lowCells, LSt.isReady, srcElems, DV.int, DV.mkAgg, same, mnmx2, nilness, bound, fill, flatCells, allocCells, putCells, splitG, onG, insD, memD, seval, ↓joinK_t, ↓joinK_f, ↓reduceIte, stq]
  | cons x l ih =>
    intro i n hl hi h1 h2
    have hlt : i < ls.length := by
      rcases Nat.lt_or_ge i ls.length with h | h
      · exact h
      · rw [List.drop_eq_nil_of_le h] at hl; cases hl
    have hx : ls[i]? = some x := by
      have := congrArg (fun l => l[0]?) hl
      simpa using this
    have hxl := hb x (List.mem_of_getElem? hx)
    have hd : ls.drop (i + 1) = l := by
      rw [← List.drop_drop, hl]; rfl
    have e2 : (i : Int) < (ls.length : Int) := by omega
    have gx : (toldF ls)[i]? = some [.slice 4 (rspF x)] := by simp [toldF, hx]
    have gl : (toldF ls).length = ls.length := by simp [toldF]
    have gr : (rspF x).length = x.length := by simp [rspF]
    have w1 : IntKind.i64.wrap ((i : Int) + 1) = ((i + 1 : Nat) : Int) := by rw [wrap_i64 (by omega) (by omega)]; omega
    have w2 : IntKind.i64.wrap (1 + (x.length : Int)) = 1 + (x.length : Int) := wrap_i64 (by omega) (by omega)
    have w3 : IntKind.i64.wrap (n + (1 + (x.length : Int))) = n + (1 + (x.length : Int)) := wrap_i64 (by omega) (by omega)
    by_cases c : 2000 < n + (1 + (x.length : Int))
    · rw [L_rnd hK]
      simp (maxSteps := 9999999) -implicitDefEqProofs only [B13L3, e2, gx, gl, gr, w1, w2, w3, c, fewG, unnil, keyOk, keyEq, findE, appVec, slk, agreeS, idxS, keepS, lowS, dbin, dun, List.replicate, DV.cells, DV.flat, dload, DV.elems, reduceCtorEq, DV.lows, DV.low, DV.coe, DV.isD, dresults, dresult, withHeap, lowCells, LSt.isReady, srcElems, DV.int, DV.mkAgg, same, mnmx2, nilness, bound, fill, flatCells, allocCells, putCells, splitG, onG, insD, memD, seval, ↓joinK_t, ↓joinK_f, ↓reduceIte, stq]
    · have ih := ih (i + 1) (n + (1 + (x.length : Int))) hd (by omega) (by omega) (by omega)
      rw [L_rnd hK]
      simp (maxSteps := 9999999) -implicitDefEqProofs only [B13L3, e2, gx, gl, gr, w1, w2, w3, c, ih, fewG, unnil, keyOk, keyEq, findE, appVec, slk, agreeS, idxS, keepS, lowS, dbin, dun, List.replicate, DV.cells, DV.flat, dload, DV.elems, reduceCtorEq, DV.lows, DV.low, DV.coe, DV.isD, dresults, dresult, withHeap, lowCells, LSt.isReady, srcElems, DV.int, DV.mkAgg, same, mnmx2, nilness, bound, fill, flatCells, allocCells, putCells, splitG, onG, insD, memD, seval, ↓joinK_t, ↓joinK_f, ↓reduceIte, stq]
set_option maxHeartbeats 4000000 in
theorem few_ok (ls : List (List Rsp)) (h0 : ls.length < 9223372036854775807) (hb : ∀ x ∈ ls, x.length ≤ 9223372036854770000) (h : List Res) : D env 13 [.d (.slice 1 (toldF ls))] h = some (.val (.d (.bool (fewV ls))) h) := by
  obtain ⟨K, hK, hk⟩ := loop13 ls h0 hb
  have e := hk ls 0 0 rfl (by omega) (by omega) (by omega)
  have gl : (toldF ls).length = ls.length := by simp [toldF]
  have e : K (den 20 [(3, .d (.int .i64 0)), (6, .d (.slice 1 (toldF ls))), (7, .d (.int .i64 (ls.length : Int))), (8, .d (.int .i64 0))]) [] = _ := e
  unfold fewV
  cases hf : fewG ls 0 with
  | true =>
    rw [hf] at e
    simp only [if_true] at e
    rw [D_dat (F := A13) rfl rfl rfl rfl]
    simp (maxSteps := 9999999) -implicitDefEqProofs only [A13, B13, gl, hK, e, unnil, keyOk, keyEq, findE, appVec, slk, agreeS, idxS, keepS, lowS, dbin, dun, List.replicate, DV.cells, DV.flat, dload, DV.elems, reduceCtorEq, DV.lows, DV.low, DV.coe, DV.isD, dresults, dresult, withHeap, lowCells, LSt.isReady, srcElems, DV.int, DV.mkAgg, same, mnmx2, nilness, bound, fill, flatCells, allocCells, putCells, splitG, onG, insD, memD, seval, ↓joinK_t, ↓joinK_f, ↓reduceIte, stq]
  | false =>
    rw [hf] at e
    simp only [Bool.false_eq_true, if_false] at e
    rw [D_dat (F := A13) rfl rfl rfl rfl]
    simp (maxSteps := 9999999) -implicitDefEqProofs only [A13, B13, gl, hK, e, unnil, keyOk, keyEq, findE, appVec, slk, agreeS, idxS, keepS, lowS, dbin, dun, List.replicate, DV.cells, DV.flat, dload, DV.elems, reduceCtorEq, DV.lows, DV.low, DV.coe, DV.isD, dresults, dresult, withHeap, lowCells, LSt.isReady, srcElems, DV.int, DV.mkAgg, same, mnmx2, nilness, bound, fill, flatCells, allocCells, putCells, splitG, onG, insD, memD, seval, ↓joinK_t, ↓joinK_f, ↓reduceIte, stq]
end Go.Proofs.YtpemlmhggiaflaaGreatDoor.Codes
