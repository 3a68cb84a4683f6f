/-
  Which instructions can be, the document's: the same as the program's.
  Conditions: none.
-/
import Derived.Test.YtckmpipiginhaaaDoorIC
import Derived.Test.YtckmpipiginhaaaDoorDZ
set_option linter.unusedVariables false
set_option linter.unusedSimpArgs false
set_option maxRecDepth 100000
namespace Go.Proofs.YtckmpipiginhaaaDoor.Codes
open Go Go.Deepv

theorem span0 (n : Int) : spanB 0 0 n = (n == 0) := by
  unfold spanB
  rw [Bool.eq_iff_iff]
  simp
  omega
theorem fitV_at (k : Nat) {r : Row} (hk : k < 16) (hr : rowsT[k]? = some r) (a b c : Int) : fitV (k : Int) a b c = fitR r a b c := by
  have hro : rowOf (k : Int) = some r := by
    unfold rowOf
    rw [if_pos (by omega), Int.toNat_natCast, hr]
  unfold fitV ofV
  rw [hro]
  simp only
  cases fitR r a b c <;> rfl
theorem fitV_out {o : Int} (h : ¬ (0 ≤ o ∧ o < 16)) (a b c : Int) : fitV o a b c = false := by
  unfold fitV ofV rowOf
  rw [if_neg h]
set_option maxHeartbeats 4000000 in
theorem rfit_ok (o a b c : Int) (h : List Res) : D env 8 [.d (.agg [.int .i64 o, .int .i64 a, .int .i64 b, .int .i64 c])] h = some (.val (.d (.bool (fitV o a b c))) h) := by
  rw [D_dat (F := A8) rfl rfl rfl rfl]
  simp (maxSteps := 9999999) -implicitDefEqProofs only [A8, B8, number_ok, below_ok, unnil, keyOk, keyEq, findE, appVec, slk, agreeS, idxS, keepS, lowS, dbin, dun, List.replicate, DV.cells, DV.flat, dload, DV.elems, reduceCtorEq, DV.lows, DV.low, DV.coe, DV.isD, dresults, dresult, withHeap, lowCells, LSt.isReady, srcElems, DV.int, DV.mkAgg, same, mnmx2, nilness, bound, fill, flatCells, allocCells, putCells, splitG, onG, insD, memD, seval, ↓joinK_t, ↓joinK_f, ↓reduceIte, stq]
  by_cases ho : 0 ≤ o ∧ o < 16
  · obtain ⟨k, rfl⟩ : ∃ k : Nat, o = k := ⟨o.toNat, by omega⟩
    have hk : k < 16 := by omega
    clear ho
    match k, hk with
    | 0, _ | 1, _ | 2, _ | 3, _ | 4, _ | 5, _ | 6, _ | 7, _ | 8, _ | 9, _ | 10, _ | 11, _ | 12, _ | 13, _ | 14, _ | 15, _ =>
      rw [fitV_at _ (by decide) rfl]
      simp only [fitR, span0]
      simp [spanB, Bool.and_assoc, Bool.and_comm, Bool.and_left_comm]
    | k + 16, hk => omega
  · rw [fitV_out ho]
    repeat rw [if_neg (by omega)]
end Go.Proofs.YtckmpipiginhaaaDoor.Codes
