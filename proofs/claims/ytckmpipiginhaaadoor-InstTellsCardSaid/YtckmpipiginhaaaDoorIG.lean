/-
  The chapter's examples; where an instruction goes on: the row InstGoes.
  Conditions: none.
-/
import Derived.Test.YtckmpipiginhaaaDoorIF
import Derived.KernelRfl
set_option linter.unusedVariables false
set_option linter.unusedSimpArgs false
set_option maxRecDepth 100000
namespace Go.Proofs.YtckmpipiginhaaaDoor.Codes
open Go Go.Deepv

theorem rd1 : readV ⟨#[109, 97, 107, 101, 32, 50, 32, 51]⟩ = some (3, 2, 3, 0) := by decide +kernel
theorem rd2 : readV ⟨#[105, 115, 32, 48, 32, 45, 53, 32, 55]⟩ = some (12, 0, -5, 7) := by decide +kernel
theorem aw_ok (h : List Res) : D env 9 [] h = some (.val (.d (.bool true)) h) := by
  have r1 := fun h => read_ok ⟨#[109, 97, 107, 101, 32, 50, 32, 51]⟩ (by decide) h
  have r2 := fun h => read_ok ⟨#[105, 115, 32, 48, 32, 45, 53, 32, 55]⟩ (by decide) h
  have t1 := fun h => takes_ok 3 2 3 0 h
  have g1 := fun h => goes_ok 12 0 (-5) 7 h
  rw [show takesV 3 2 3 0 = (3, 1) from by decide +kernel] at t1
  rw [show goesV 12 0 (-5) 7 = ([7], true) from by decide +kernel] at g1
  rw [rd1] at r1
  rw [rd2] at r2
  simp only [instF, intsF, List.map_cons, List.map_nil] at r1 r2 g1
  rw [D_dat (F := A9) rfl rfl rfl rfl]
  simp (maxSteps := 9999999) -implicitDefEqProofs only [A9, B9, r1, r2, t1, g1, eqCells, eqFV, unnil, keyOk, keyEq, findE, appVec, slk, agreeS, idxS, keepS, lowS, dbin, dun, List.replicate, DV.cells, DV.flat, dload, DV.elems, reduceCtorEq, DV.lows, DV.low, DV.coe, DV.isD, dresults, dresult, withHeap, lowCells, LSt.isReady, srcElems, DV.int, DV.mkAgg, same, mnmx2, nilness, bound, fill, flatCells, allocCells, putCells, splitG, onG, insD, memD, seval, ↓joinK_t, ↓joinK_f, ↓reduceIte, stq]
set_option maxHeartbeats 8000000 in
theorem goes_law (o a b c : Int) (h1 : -9223372036854775808 ≤ a) (h2 : a < 9223372036854775808) (h : List Res) : D env 3 [.d (.agg [.int .i64 o, .int .i64 a, .int .i64 b, .int .i64 c])] h = some (.val (.d (.bool true)) h) := by
  have e6 := fun h => goes_ok o a b c h
  have e7 := fun h => takes_ok o a b c h
  have e8 := fun h => rfit_ok o a b c h
  have e9 := fun h => aw_ok h
  unfold goesV takesV at *
  cases hf : fitV o a b c with
  | false =>
    rw [hf] at e8
    have hf : (ofV o a b c).2 = false := hf
    simp only [hf, Bool.false_eq_true, if_false, intsF, List.map_nil] at e6 e7
    rw [D_dat (F := A3) rfl rfl rfl rfl]
    simp (maxSteps := 9999999) -implicitDefEqProofs only [A3, B3, e6, e7, e8, e9, unnil, keyOk, keyEq, findE, appVec, slk, agreeS, idxS, keepS, lowS, dbin, dun, List.replicate, DV.cells, DV.flat, dload, DV.elems, reduceCtorEq, DV.lows, DV.low, DV.coe, DV.isD, dresults, dresult, withHeap, lowCells, LSt.isReady, srcElems, DV.int, DV.mkAgg, same, mnmx2, nilness, bound, fill, flatCells, allocCells, putCells, splitG, onG, insD, memD, seval, ↓joinK_t, ↓joinK_f, ↓reduceIte, stq]
  | true =>
    rw [hf] at e8
    have ha := (fit_bounds hf).1
    have wa : IntKind.i64.wrap (a + 1) = a + 1 := wrap_i64 (by unfold numL at ha; omega) (by unfold numM at ha; omega)
    obtain ⟨r, hro, hm, hfr, he⟩ := ofV_true hf
    rw [he] at e6 e7
    unfold rowOf at hro
    split at hro
    · obtain ⟨k, rfl⟩ : ∃ k : Nat, o = k := ⟨o.toNat, by omega⟩
      have hk : k < 16 := by omega
      rw [Int.toNat_natCast] at hro
      clear he hm hf
      match k, hk with
      | 0, _ | 1, _ | 2, _ | 3, _ | 4, _ | 5, _ | 6, _ | 7, _ | 8, _ | 9, _ | 10, _ | 11, _ | 12, _ | 13, _ | 14, _ | 15, _ =>
        simp only [rowsT, List.getElem?_cons_zero, List.getElem?_cons_succ, Option.some.injEq] at hro
        subst hro
        simp [fitR, spanB, numL, numM] at hfr
        simp [toV, intsF, wantsV] at e6 e7
        try push_cast at e8
        try push_cast
        rw [D_dat (F := A3) rfl rfl rfl rfl]
        simp (maxSteps := 9999999) -implicitDefEqProofs only [A3, B3, e6, e7, e8, e9, L_go, B3L6, wa, unnil, keyOk, keyEq, findE, appVec, slk, agreeS, idxS, keepS, lowS, dbin, dun, List.replicate, DV.cells, DV.flat, dload, DV.elems, reduceCtorEq, DV.lows, DV.low, DV.coe, DV.isD, dresults, dresult, withHeap, lowCells, LSt.isReady, srcElems, DV.int, DV.mkAgg, same, mnmx2, nilness, bound, fill, flatCells, allocCells, putCells, splitG, onG, insD, memD, seval, ↓joinK_t, ↓joinK_f, ↓reduceIte, stq]
        try rw [if_neg (by omega)]
        try simp only [Option.some.injEq, DOut.val.injEq, DV.d.injEq, FV.bool.injEq, Bool.and_eq_true, decide_eq_true_eq, and_true]
        try (repeat' split) <;> first | rfl | omega
      | k + 16, hk => omega
    · cases hro
end Go.Proofs.YtckmpipiginhaaaDoor.Codes
