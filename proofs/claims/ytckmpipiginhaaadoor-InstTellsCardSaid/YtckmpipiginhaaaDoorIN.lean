/-
  The reference: what an instruction takes, and where it goes on.
  Conditions: none.
-/
import Derived.Test.YtckmpipiginhaaaDoorIM
set_option linter.unusedVariables false
set_option linter.unusedSimpArgs false
set_option maxRecDepth 100000
namespace Go.Proofs.YtckmpipiginhaaaDoor.Codes
open Go Go.Deepv

def tyN : List FV := [.int .i64 0, .str ⟨#[]⟩, .slice 3 []]
def tyT : List FV := [.int .i64 1, .str ⟨#[]⟩, .slice 3 []]
def opsL (k : Nat) : List (List FV) := match k with
  | 8 => [tyT]
  | 9 => [tyT, tyN]
  | 10 => [tyT, tyT]
  | 11 => [tyT, tyN, tyN]
  | _ => [tyN, tyN]
def tyB : List FV := [.int .i64 2, .str ⟨#[98, 111, 111, 108]⟩, .slice 3 []]
theorem boolT (h : List Res) : D env 41 [] h = some (.val (.d (.agg [.int .i64 2, .str ⟨#[98, 111, 111, 108]⟩, .slice 3 []])) h) := by
  rw [D_dat (F := A41) rfl rfl rfl rfl]
  simp (maxSteps := 9999999) -implicitDefEqProofs only [A41, B41, unnil, keyOk, keyEq, findE, appVec, slk, agreeS, idxS, keepS, lowS, dbin, dun, List.replicate, DV.cells, DV.flat, dload, DV.elems, reduceCtorEq, DV.lows, DV.low, DV.coe, DV.isD, dresults, dresult, withHeap, lowCells, LSt.isReady, srcElems, DV.int, DV.mkAgg, same, mnmx2, nilness, bound, fill, flatCells, allocCells, putCells, splitG, onG, insD, memD, seval, ↓joinK_t, ↓joinK_f, ↓reduceIte, stq]
set_option maxHeartbeats 4000000 in
theorem ops_ok (k : Nat) (hk : k < 12) : ∃ t : Int × ByteArray, ∀ h : List Res, D env 32 [.d (.int .i64 (k : Int))] h = some (.val (.d (.tup [.slice 3 (opsL k), .agg [.int .i64 t.1, .str t.2, .slice 3 []]])) h) := by
  match k, hk with
  | 5, _ | 6, _ | 7, _ =>
    refine ⟨(2, ⟨#[98, 111, 111, 108]⟩), fun h => ?_⟩
    rw [D_dat (F := A32) rfl rfl rfl rfl]
    simp (maxSteps := 9999999) -implicitDefEqProofs only [A32, B32, boolT, unnil, keyOk, keyEq, findE, appVec, slk, agreeS, idxS, keepS, lowS, dbin, dun, List.replicate, DV.cells, DV.flat, dload, DV.elems, reduceCtorEq, DV.lows, DV.low, DV.coe, DV.isD, dresults, dresult, withHeap, lowCells, LSt.isReady, srcElems, DV.int, DV.mkAgg, same, mnmx2, nilness, bound, fill, flatCells, allocCells, putCells, splitG, onG, insD, memD, seval, ↓joinK_t, ↓joinK_f, ↓reduceIte, stq]
    rfl
  | 10, _ | 11, _ =>
    refine ⟨(1, ⟨#[]⟩), fun h => ?_⟩
    rw [D_dat (F := A32) rfl rfl rfl rfl]
    simp (maxSteps := 9999999) -implicitDefEqProofs only [A32, B32, unnil, keyOk, keyEq, findE, appVec, slk, agreeS, idxS, keepS, lowS, dbin, dun, List.replicate, DV.cells, DV.flat, dload, DV.elems, reduceCtorEq, DV.lows, DV.low, DV.coe, DV.isD, dresults, dresult, withHeap, lowCells, LSt.isReady, srcElems, DV.int, DV.mkAgg, same, mnmx2, nilness, bound, fill, flatCells, allocCells, putCells, splitG, onG, insD, memD, seval, ↓joinK_t, ↓joinK_f, ↓reduceIte, stq]
    rfl
  | 0, _ | 1, _ | 2, _ | 3, _ | 4, _ | 8, _ | 9, _ =>
    refine ⟨(0, ⟨#[]⟩), fun h => ?_⟩
    rw [D_dat (F := A32) rfl rfl rfl rfl]
    simp (maxSteps := 9999999) -implicitDefEqProofs only [A32, B32, unnil, keyOk, keyEq, findE, appVec, slk, agreeS, idxS, keepS, lowS, dbin, dun, List.replicate, DV.cells, DV.flat, dload, DV.elems, reduceCtorEq, DV.lows, DV.low, DV.coe, DV.isD, dresults, dresult, withHeap, lowCells, LSt.isReady, srcElems, DV.int, DV.mkAgg, same, mnmx2, nilness, bound, fill, flatCells, allocCells, putCells, splitG, onG, insD, memD, seval, ↓joinK_t, ↓joinK_f, ↓reduceIte, stq]
    rfl
theorem ops_len (k : Nat) (hk : k < 12) : ((opsL k).length : Int) = wantsV (k : Int) := by
  match k, hk with
  | 0, _ | 1, _ | 2, _ | 3, _ | 4, _ | 5, _ | 6, _ | 7, _ | 8, _ | 9, _ | 10, _ | 11, _ => rfl
set_option maxHeartbeats 4000000 in
theorem rtakes_ok (o a b c : Int) (h : List Res) : D env 12 [.d (.agg [.int .i64 o, .int .i64 a, .int .i64 b, .int .i64 c])] h = some (.val (.d (.tup [.int .i64 (takesV o a b c).1, .int .i64 (takesV o a b c).2])) h) := by
  have e8 := fun h => rfit_ok o a b c h
  cases hf : fitV o a b c with
  | false =>
    rw [hf] at e8
    have : takesV o a b c = (0, 0) := by unfold takesV; unfold fitV at hf; rw [hf]; rfl
    rw [this]
    rw [D_dat (F := A12) rfl rfl rfl rfl]
    simp (maxSteps := 9999999) -implicitDefEqProofs only [A12, B12, e8, unnil, keyOk, keyEq, findE, appVec, slk, agreeS, idxS, keepS, lowS, dbin, dun, List.replicate, DV.cells, DV.flat, dload, DV.elems, reduceCtorEq, DV.lows, DV.low, DV.coe, DV.isD, dresults, dresult, withHeap, lowCells, LSt.isReady, srcElems, DV.int, DV.mkAgg, same, mnmx2, nilness, bound, fill, flatCells, allocCells, putCells, splitG, onG, insD, memD, seval, ↓joinK_t, ↓joinK_f, ↓reduceIte, stq]
  | true =>
    rw [hf] at e8
    obtain ⟨r, hr, hm, hfr, he⟩ := ofV_true hf
    have ho : ∃ k : Nat, k < 16 ∧ o = k ∧ rowsT[k]? = some r := by
      unfold rowOf at hr
      split at hr
      · exact ⟨o.toNat, by omega, by omega, hr⟩
      · cases hr
    obtain ⟨k, hk, rfl, hk2⟩ := ho
    have hT : takesV k a b c = if (k : Int) == 3 || (k : Int) == 6 then (b, r.pt) else if (k : Int) == 5 then (wantsV a, r.pt) else if (k : Int) == 8 then (IntKind.i64.wrap (a + 1), r.pt) else (r.tk, r.pt) := by
      unfold takesV
      rw [he]
      rfl
    rw [hT]
    clear hT he hr hm
    match k, hk with
    | 5, _ =>
      simp only [rowsT, List.getElem?_cons_zero, List.getElem?_cons_succ, Option.some.injEq] at hk2
      subst hk2
      simp only [cast_lit] at e8
      simp only [fitR, spanB, Bool.and_eq_true, decide_eq_true_eq] at hfr
      obtain ⟨n, rfl⟩ : ∃ n : Nat, a = n := ⟨a.toNat, by omega⟩
      have hn : n < 12 := by omega
      obtain ⟨t, e32⟩ := ops_ok n hn
      have el := ops_len n hn
      rw [D_dat (F := A12) rfl rfl rfl rfl]
      simp (maxSteps := 9999999) -implicitDefEqProofs only [A12, B12, e8, e32, el, unnil, keyOk, keyEq, findE, appVec, slk, agreeS, idxS, keepS, lowS, dbin, dun, List.replicate, DV.cells, DV.flat, dload, DV.elems, reduceCtorEq, DV.lows, DV.low, DV.coe, DV.isD, dresults, dresult, withHeap, lowCells, LSt.isReady, srcElems, DV.int, DV.mkAgg, same, mnmx2, nilness, bound, fill, flatCells, allocCells, putCells, splitG, onG, insD, memD, seval, ↓joinK_t, ↓joinK_f, ↓reduceIte, stq]
      try rfl
    | 0, _ | 1, _ | 2, _ | 3, _ | 4, _ | 6, _ | 7, _ | 8, _ | 9, _ | 10, _ | 11, _ | 12, _ | 13, _ | 14, _ | 15, _ =>
      simp only [rowsT, List.getElem?_cons_zero, List.getElem?_cons_succ, Option.some.injEq] at hk2
      subst hk2
      simp only [cast_lit] at e8
      rw [D_dat (F := A12) rfl rfl rfl rfl]
      simp (maxSteps := 9999999) -implicitDefEqProofs only [A12, B12, e8, unnil, keyOk, keyEq, findE, appVec, slk, agreeS, idxS, keepS, lowS, dbin, dun, List.replicate, DV.cells, DV.flat, dload, DV.elems, reduceCtorEq, DV.lows, DV.low, DV.coe, DV.isD, dresults, dresult, withHeap, lowCells, LSt.isReady, srcElems, DV.int, DV.mkAgg, same, mnmx2, nilness, bound, fill, flatCells, allocCells, putCells, splitG, onG, insD, memD, seval, ↓joinK_t, ↓joinK_f, ↓reduceIte, stq]
      try rfl
set_option maxHeartbeats 4000000 in
theorem rgoes_ok (o a b c : Int) (h : List Res) : D env 13 [.d (.agg [.int .i64 o, .int .i64 a, .int .i64 b, .int .i64 c])] h = some (.val (.d (.tup [.slice 1 (intsF (goesV o a b c).1), .bool (goesV o a b c).2])) h) := by
  have e8 := fun h => rfit_ok o a b c h
  cases hf : fitV o a b c with
  | false =>
    rw [hf] at e8
    have : goesV o a b c = ([], false) := by unfold goesV; unfold fitV at hf; rw [hf]; rfl
    rw [this]
    rw [D_dat (F := A13) rfl rfl rfl rfl]
    simp (maxSteps := 9999999) -implicitDefEqProofs only [A13, B13, e8, unnil, keyOk, keyEq, findE, appVec, slk, agreeS, idxS, keepS, lowS, dbin, dun, List.replicate, DV.cells, DV.flat, dload, DV.elems, reduceCtorEq, DV.lows, DV.low, DV.coe, DV.isD, dresults, dresult, withHeap, lowCells, LSt.isReady, srcElems, DV.int, DV.mkAgg, same, mnmx2, nilness, bound, fill, flatCells, allocCells, putCells, splitG, onG, insD, memD, seval, ↓joinK_t, ↓joinK_f, ↓reduceIte, stq]
    try rfl
  | true =>
    rw [hf] at e8
    obtain ⟨r, hr, hm, hfr, he⟩ := ofV_true hf
    have ho : ∃ k : Nat, k < 16 ∧ o = k ∧ rowsT[k]? = some r := by
      unfold rowOf at hr
      split at hr
      · exact ⟨o.toNat, by omega, by omega, hr⟩
      · cases hr
    obtain ⟨k, hk, rfl, hk2⟩ := ho
    have hT : goesV k a b c = (toV r.to a b c, r.nx) := by
      unfold goesV
      rw [he]
      rfl
    rw [hT]
    clear hT he hr hm
    match k, hk with
    | 0, _ | 1, _ | 2, _ | 3, _ | 4, _ | 5, _ | 6, _ | 7, _ | 8, _ | 9, _ | 10, _ | 11, _ | 12, _ | 13, _ | 14, _ | 15, _ =>
      simp only [rowsT, List.getElem?_cons_zero, List.getElem?_cons_succ, Option.some.injEq] at hk2
      subst hk2
      simp only [cast_lit] at e8
      rw [D_dat (F := A13) rfl rfl rfl rfl]
      simp (maxSteps := 9999999) -implicitDefEqProofs only [A13, B13, e8, unnil, keyOk, keyEq, findE, appVec, slk, agreeS, idxS, keepS, lowS, dbin, dun, List.replicate, DV.cells, DV.flat, dload, DV.elems, reduceCtorEq, DV.lows, DV.low, DV.coe, DV.isD, dresults, dresult, withHeap, lowCells, LSt.isReady, srcElems, DV.int, DV.mkAgg, same, mnmx2, nilness, bound, fill, flatCells, allocCells, putCells, splitG, onG, insD, memD, seval, ↓joinK_t, ↓joinK_f, ↓reduceIte, stq]
      try rfl
end Go.Proofs.YtckmpipiginhaaaDoor.Codes
