/-
  What an instruction takes and where it goes on, the program's.
  Conditions: none.
-/
import Derived.Test.YtckmpipiginhaaaDoorIB
set_option linter.unusedVariables false
set_option linter.unusedSimpArgs false
set_option maxRecDepth 100000
namespace Go.Proofs.YtckmpipiginhaaaDoor.Codes
open Go Go.Deepv

def wantsV (a : Int) : Int := if a == 8 then 1 else if a == 11 then 3 else 2
theorem wants_ok (a : Int) (h : List Res) : D env 20 [.d (.int .i64 a)] h = some (.val (.d (.int .i64 (wantsV a))) h) := by
  rw [D_dat (F := A20) rfl rfl rfl rfl]
  unfold wantsV
  cases e1 : a == 8 with
  | true => simp -implicitDefEqProofs only [A20, B20, dbody, dexec, ostep, dop, ev, put, wants, dbin, dun, List.replicate, Nat.reduceAdd, Nat.reduceSub, Nat.reduceLT, Nat.reduceLeDiff, Nat.reduceMul, DV.cells, DV.flat, dload, DV.elems, reduceCtorEq, mask, DV.lows, DV.low, DV.coe, DV.isD, dresults, dresult, withHeap, lowCells, LSt.isReady, srcElems, DV.int, DV.mkAgg, same, mnmx2, nilness, bound, fill, flatCells, Int.reduceLE, Int.reduceLT, Int.reduceAdd, Int.reduceSub, Int.reduceNeg, Int.reduceEq, Int.reduceBEq, Int.reduceBNe, Nat.reduceBEq, Nat.reduceEqDiff, Int.reduceToNat, allocCells, stp, e1]
  | false =>
    cases e2 : a == 11 with
    | true => simp -implicitDefEqProofs only [A20, B20, dbody, dexec, ostep, dop, ev, put, wants, dbin, dun, List.replicate, Nat.reduceAdd, Nat.reduceSub, Nat.reduceLT, Nat.reduceLeDiff, Nat.reduceMul, DV.cells, DV.flat, dload, DV.elems, reduceCtorEq, mask, DV.lows, DV.low, DV.coe, DV.isD, dresults, dresult, withHeap, lowCells, LSt.isReady, srcElems, DV.int, DV.mkAgg, same, mnmx2, nilness, bound, fill, flatCells, Int.reduceLE, Int.reduceLT, Int.reduceAdd, Int.reduceSub, Int.reduceNeg, Int.reduceEq, Int.reduceBEq, Int.reduceBNe, Nat.reduceBEq, Nat.reduceEqDiff, Int.reduceToNat, allocCells, stp, e1, e2]
    | false => simp -implicitDefEqProofs only [A20, B20, dbody, dexec, ostep, dop, ev, put, wants, dbin, dun, List.replicate, Nat.reduceAdd, Nat.reduceSub, Nat.reduceLT, Nat.reduceLeDiff, Nat.reduceMul, DV.cells, DV.flat, dload, DV.elems, reduceCtorEq, mask, DV.lows, DV.low, DV.coe, DV.isD, dresults, dresult, withHeap, lowCells, LSt.isReady, srcElems, DV.int, DV.mkAgg, same, mnmx2, nilness, bound, fill, flatCells, Int.reduceLE, Int.reduceLT, Int.reduceAdd, Int.reduceSub, Int.reduceNeg, Int.reduceEq, Int.reduceBEq, Int.reduceBNe, Nat.reduceBEq, Nat.reduceEqDiff, Int.reduceToNat, allocCells, stp, e1, e2]
/-- What an instruction takes, and what it puts. -/
def takesV (o a b c : Int) : Int × Int :=
  if (ofV o a b c).2 = true then
    if o == 3 || o == 6 then (b, (ofV o a b c).1.pt)
    else if o == 5 then (wantsV a, (ofV o a b c).1.pt)
    else if o == 8 then (IntKind.i64.wrap (a + 1), (ofV o a b c).1.pt)
    else ((ofV o a b c).1.tk, (ofV o a b c).1.pt)
  else (0, 0)
set_option maxHeartbeats 1000000 in
theorem takes_ok (o a b c : Int) (h : List Res) : D env 7 [.d (.agg [.int .i64 o, .int .i64 a, .int .i64 b, .int .i64 c])] h = some (.val (.d (.tup [.int .i64 (takesV o a b c).1, .int .i64 (takesV o a b c).2])) h) := by
  rw [D_dat (F := A7) rfl rfl rfl rfl]
  have e18 := fun h => of_ok o a b c h
  have e20 := fun h => wants_ok a h
  unfold takesV
  generalize (ofV o a b c) = p at *
  obtain ⟨⟨nm, l0, m0, l1, m1, l2, m2, tk, pt, to, nx⟩, f⟩ := p
  simp only [Row.enc] at e18
  cases f with
  | false => simp -implicitDefEqProofs only [A7, B7, dbody, dexec, ostep, dop, ev, put, wants, dbin, dun, List.replicate, Nat.reduceAdd, Nat.reduceSub, Nat.reduceLT, Nat.reduceLeDiff, Nat.reduceMul, DV.cells, DV.flat, dload, DV.elems, reduceCtorEq, mask, DV.lows, DV.low, DV.coe, DV.isD, dresults, dresult, withHeap, lowCells, LSt.isReady, srcElems, DV.int, DV.mkAgg, same, mnmx2, nilness, bound, fill, flatCells, Int.reduceLE, Int.reduceLT, Int.reduceAdd, Int.reduceSub, Int.reduceNeg, Int.reduceEq, Int.reduceBEq, Int.reduceBNe, Nat.reduceBEq, Nat.reduceEqDiff, Int.reduceToNat, allocCells, stp, e18, row0, Row.enc, putCells]
  | true =>
    cases f3 : o == 3 with
    | true => simp -implicitDefEqProofs only [A7, B7, dbody, dexec, ostep, dop, ev, put, wants, dbin, dun, List.replicate, Nat.reduceAdd, Nat.reduceSub, Nat.reduceLT, Nat.reduceLeDiff, Nat.reduceMul, DV.cells, DV.flat, dload, DV.elems, reduceCtorEq, mask, DV.lows, DV.low, DV.coe, DV.isD, dresults, dresult, withHeap, lowCells, LSt.isReady, srcElems, DV.int, DV.mkAgg, same, mnmx2, nilness, bound, fill, flatCells, Int.reduceLE, Int.reduceLT, Int.reduceAdd, Int.reduceSub, Int.reduceNeg, Int.reduceEq, Int.reduceBEq, Int.reduceBNe, Nat.reduceBEq, Nat.reduceEqDiff, Int.reduceToNat, allocCells, stp, e18, e20, f3, putCells]
    | false =>
    cases f6 : o == 6 with
    | true => simp -implicitDefEqProofs only [A7, B7, dbody, dexec, ostep, dop, ev, put, wants, dbin, dun, List.replicate, Nat.reduceAdd, Nat.reduceSub, Nat.reduceLT, Nat.reduceLeDiff, Nat.reduceMul, DV.cells, DV.flat, dload, DV.elems, reduceCtorEq, mask, DV.lows, DV.low, DV.coe, DV.isD, dresults, dresult, withHeap, lowCells, LSt.isReady, srcElems, DV.int, DV.mkAgg, same, mnmx2, nilness, bound, fill, flatCells, Int.reduceLE, Int.reduceLT, Int.reduceAdd, Int.reduceSub, Int.reduceNeg, Int.reduceEq, Int.reduceBEq, Int.reduceBNe, Nat.reduceBEq, Nat.reduceEqDiff, Int.reduceToNat, allocCells, stp, e18, e20, f3, f6, putCells]
    | false =>
    cases f5 : o == 5 with
    | true => simp -implicitDefEqProofs only [A7, B7, dbody, dexec, ostep, dop, ev, put, wants, dbin, dun, List.replicate, Nat.reduceAdd, Nat.reduceSub, Nat.reduceLT, Nat.reduceLeDiff, Nat.reduceMul, DV.cells, DV.flat, dload, DV.elems, reduceCtorEq, mask, DV.lows, DV.low, DV.coe, DV.isD, dresults, dresult, withHeap, lowCells, LSt.isReady, srcElems, DV.int, DV.mkAgg, same, mnmx2, nilness, bound, fill, flatCells, Int.reduceLE, Int.reduceLT, Int.reduceAdd, Int.reduceSub, Int.reduceNeg, Int.reduceEq, Int.reduceBEq, Int.reduceBNe, Nat.reduceBEq, Nat.reduceEqDiff, Int.reduceToNat, allocCells, stp, e18, e20, f3, f6, f5, putCells]
    | false =>
    cases f8 : o == 8 with
    | true => simp -implicitDefEqProofs only [A7, B7, dbody, dexec, ostep, dop, ev, put, wants, dbin, dun, List.replicate, Nat.reduceAdd, Nat.reduceSub, Nat.reduceLT, Nat.reduceLeDiff, Nat.reduceMul, DV.cells, DV.flat, dload, DV.elems, reduceCtorEq, mask, DV.lows, DV.low, DV.coe, DV.isD, dresults, dresult, withHeap, lowCells, LSt.isReady, srcElems, DV.int, DV.mkAgg, same, mnmx2, nilness, bound, fill, flatCells, Int.reduceLE, Int.reduceLT, Int.reduceAdd, Int.reduceSub, Int.reduceNeg, Int.reduceEq, Int.reduceBEq, Int.reduceBNe, Nat.reduceBEq, Nat.reduceEqDiff, Int.reduceToNat, allocCells, stp, e18, e20, f3, f6, f5, f8, putCells]
    | false => simp -implicitDefEqProofs only [A7, B7, dbody, dexec, ostep, dop, ev, put, wants, dbin, dun, List.replicate, Nat.reduceAdd, Nat.reduceSub, Nat.reduceLT, Nat.reduceLeDiff, Nat.reduceMul, DV.cells, DV.flat, dload, DV.elems, reduceCtorEq, mask, DV.lows, DV.low, DV.coe, DV.isD, dresults, dresult, withHeap, lowCells, LSt.isReady, srcElems, DV.int, DV.mkAgg, same, mnmx2, nilness, bound, fill, flatCells, Int.reduceLE, Int.reduceLT, Int.reduceAdd, Int.reduceSub, Int.reduceNeg, Int.reduceEq, Int.reduceBEq, Int.reduceBNe, Nat.reduceBEq, Nat.reduceEqDiff, Int.reduceToNat, allocCells, stp, e18, e20, f3, f6, f5, f8, putCells]
/-- Where it goes on. -/
def toV (t a b c : Int) : List Int := if t = 0 then [a] else if t = 1 then [b] else if t = 2 then [c] else []
def goesV (o a b c : Int) : List Int × Bool :=
  if (ofV o a b c).2 = true then (toV (ofV o a b c).1.to a b c, (ofV o a b c).1.nx) else ([], false)
def intsF (l : List Int) : List (List FV) := l.map fun n => [.int .i64 n]
theorem ofV_to (o a b c : Int) : (ofV o a b c).1.to = -1 ∨ (ofV o a b c).1.to = 0 ∨ (ofV o a b c).1.to = 1 ∨ (ofV o a b c).1.to = 2 := by
  have hall : ∀ r ∈ rowsT, r.to = -1 ∨ r.to = 0 ∨ r.to = 1 ∨ r.to = 2 := by decide
  unfold ofV
  split
  · rename_i r hr
    have hm : r ∈ rowsT := by
      unfold rowOf at hr
      split at hr
      · exact List.mem_of_getElem? hr
      · cases hr
    split
    · exact hall r hm
    · exact .inr (.inl rfl)
  · exact .inr (.inl rfl)
set_option maxHeartbeats 1000000 in
theorem goes_ok (o a b c : Int) (h : List Res) : D env 6 [.d (.agg [.int .i64 o, .int .i64 a, .int .i64 b, .int .i64 c])] h = some (.val (.d (.tup [.slice 1 (intsF (goesV o a b c).1), .bool (goesV o a b c).2])) h) := by
  rw [D_dat (F := A6) rfl rfl rfl rfl]
  have e18 := fun h => of_ok o a b c h
  have e19 := fun h => all_ok o a b c h
  have hto := ofV_to o a b c
  unfold goesV
  generalize (ofV o a b c) = p at *
  obtain ⟨⟨nm, l0, m0, l1, m1, l2, m2, tk, pt, to, nx⟩, f⟩ := p
  simp only [Row.enc] at e18
  simp only at hto
  have r0 : rr 1 ([] : List (List FV)).length = .nilrow := rfl
  have e5 : ∀ (v : Int) (T0 : Res), appRow 1 8 (.row 1 [] 0) (some (1, [[.int .i64 v]])) [.nilrow, T0] = some (.val (.row 1 ([] ++ [[.int .i64 v]]) 0) ([Res.nilrow, T0].set 0 (rr 1 ([] : List (List FV)).length.succ))) := fun v T0 => appRow_one rfl (by decide) (by decide) (by decide) 1 rfl
  have r1 : rr 1 ([] : List (List FV)).length.succ = .row 1 1 := rfl
  simp only [r1, List.nil_append, List.set_cons_zero] at e5
  cases f with
  | false => simp -implicitDefEqProofs only [A6, B6, dbody, dexec, ostep, dop, ev, put, wants, dbin, dun, List.replicate, Nat.reduceAdd, Nat.reduceSub, Nat.reduceLT, Nat.reduceLeDiff, Nat.reduceMul, DV.cells, DV.flat, dload, DV.elems, reduceCtorEq, mask, DV.lows, DV.low, DV.coe, DV.isD, dresults, dresult, withHeap, lowCells, LSt.isReady, srcElems, DV.int, DV.mkAgg, same, mnmx2, nilness, bound, fill, flatCells, Int.reduceLE, Int.reduceLT, Int.reduceAdd, Int.reduceSub, Int.reduceNeg, Int.reduceEq, Int.reduceBEq, Int.reduceBNe, Nat.reduceBEq, Nat.reduceEqDiff, Int.reduceToNat, allocCells, stp, e18, intsF, putCells]
  | true =>
    rcases hto with h1 | h1 | h1 | h1 <;> subst h1
    · simp -implicitDefEqProofs only [A6, B6, dbody, dexec, ostep, dop, ev, put, wants, dbin, dun, List.replicate, Nat.reduceAdd, Nat.reduceSub, Nat.reduceLT, Nat.reduceLeDiff, Nat.reduceMul, DV.cells, DV.flat, dload, DV.elems, reduceCtorEq, mask, DV.lows, DV.low, DV.coe, DV.isD, dresults, dresult, withHeap, lowCells, LSt.isReady, srcElems, DV.int, DV.mkAgg, same, mnmx2, nilness, bound, fill, flatCells, Int.reduceLE, Int.reduceLT, Int.reduceAdd, Int.reduceSub, Int.reduceNeg, Int.reduceEq, Int.reduceBEq, Int.reduceBNe, Nat.reduceBEq, Nat.reduceEqDiff, Int.reduceToNat, allocCells, stp, e18, e19, e5, intsF, toV, putCells]
    · simp -implicitDefEqProofs only [A6, B6, dbody, dexec, ostep, dop, ev, put, wants, dbin, dun, List.replicate, Nat.reduceAdd, Nat.reduceSub, Nat.reduceLT, Nat.reduceLeDiff, Nat.reduceMul, DV.cells, DV.flat, dload, DV.elems, reduceCtorEq, mask, DV.lows, DV.low, DV.coe, DV.isD, dresults, dresult, withHeap, lowCells, LSt.isReady, srcElems, DV.int, DV.mkAgg, same, mnmx2, nilness, bound, fill, flatCells, Int.reduceLE, Int.reduceLT, Int.reduceAdd, Int.reduceSub, Int.reduceNeg, Int.reduceEq, Int.reduceBEq, Int.reduceBNe, Nat.reduceBEq, Nat.reduceEqDiff, Int.reduceToNat, allocCells, stp, e18, e19, e5, intsF, toV, putCells]
    · simp -implicitDefEqProofs only [A6, B6, dbody, dexec, ostep, dop, ev, put, wants, dbin, dun, List.replicate, Nat.reduceAdd, Nat.reduceSub, Nat.reduceLT, Nat.reduceLeDiff, Nat.reduceMul, DV.cells, DV.flat, dload, DV.elems, reduceCtorEq, mask, DV.lows, DV.low, DV.coe, DV.isD, dresults, dresult, withHeap, lowCells, LSt.isReady, srcElems, DV.int, DV.mkAgg, same, mnmx2, nilness, bound, fill, flatCells, Int.reduceLE, Int.reduceLT, Int.reduceAdd, Int.reduceSub, Int.reduceNeg, Int.reduceEq, Int.reduceBEq, Int.reduceBNe, Nat.reduceBEq, Nat.reduceEqDiff, Int.reduceToNat, allocCells, stp, e18, e19, e5, intsF, toV, putCells]
    · simp -implicitDefEqProofs only [A6, B6, dbody, dexec, ostep, dop, ev, put, wants, dbin, dun, List.replicate, Nat.reduceAdd, Nat.reduceSub, Nat.reduceLT, Nat.reduceLeDiff, Nat.reduceMul, DV.cells, DV.flat, dload, DV.elems, reduceCtorEq, mask, DV.lows, DV.low, DV.coe, DV.isD, dresults, dresult, withHeap, lowCells, LSt.isReady, srcElems, DV.int, DV.mkAgg, same, mnmx2, nilness, bound, fill, flatCells, Int.reduceLE, Int.reduceLT, Int.reduceAdd, Int.reduceSub, Int.reduceNeg, Int.reduceEq, Int.reduceBEq, Int.reduceBNe, Nat.reduceBEq, Nat.reduceEqDiff, Int.reduceToNat, allocCells, stp, e18, e19, e5, intsF, toV, putCells]
theorem number_ok (n : Int) (h : List Res) : D env 21 [.d (.int .i64 n)] h = some (.val (.d (.bool (spanB numL numM n))) h) := by
  rw [D_dat (F := A21) rfl rfl rfl rfl]
  unfold spanB numL numM
  by_cases g1 : -4611686018427387904 ≤ n
  · by_cases g2 : n < 4611686018427387904
    · have g3 : n ≤ 4611686018427387903 := by omega
      simp -implicitDefEqProofs only [A21, B21, dbody, dexec, ostep, dop, ev, put, wants, dbin, dun, List.replicate, Nat.reduceAdd, Nat.reduceSub, Nat.reduceLT, Nat.reduceLeDiff, Nat.reduceMul, DV.cells, DV.flat, dload, DV.elems, reduceCtorEq, mask, DV.lows, DV.low, DV.coe, DV.isD, dresults, dresult, withHeap, lowCells, LSt.isReady, srcElems, DV.int, DV.mkAgg, same, mnmx2, nilness, bound, fill, flatCells, Int.reduceLE, Int.reduceLT, Int.reduceAdd, Int.reduceSub, Int.reduceNeg, Int.reduceEq, Int.reduceBEq, Int.reduceBNe, Nat.reduceBEq, Nat.reduceEqDiff, Int.reduceToNat, allocCells, stp, g1, g2, g3]
    · have g3 : ¬ n ≤ 4611686018427387903 := by omega
      simp -implicitDefEqProofs only [A21, B21, dbody, dexec, ostep, dop, ev, put, wants, dbin, dun, List.replicate, Nat.reduceAdd, Nat.reduceSub, Nat.reduceLT, Nat.reduceLeDiff, Nat.reduceMul, DV.cells, DV.flat, dload, DV.elems, reduceCtorEq, mask, DV.lows, DV.low, DV.coe, DV.isD, dresults, dresult, withHeap, lowCells, LSt.isReady, srcElems, DV.int, DV.mkAgg, same, mnmx2, nilness, bound, fill, flatCells, Int.reduceLE, Int.reduceLT, Int.reduceAdd, Int.reduceSub, Int.reduceNeg, Int.reduceEq, Int.reduceBEq, Int.reduceBNe, Nat.reduceBEq, Nat.reduceEqDiff, Int.reduceToNat, allocCells, stp, g1, g2, g3]
  · simp -implicitDefEqProofs only [A21, B21, dbody, dexec, ostep, dop, ev, put, wants, dbin, dun, List.replicate, Nat.reduceAdd, Nat.reduceSub, Nat.reduceLT, Nat.reduceLeDiff, Nat.reduceMul, DV.cells, DV.flat, dload, DV.elems, reduceCtorEq, mask, DV.lows, DV.low, DV.coe, DV.isD, dresults, dresult, withHeap, lowCells, LSt.isReady, srcElems, DV.int, DV.mkAgg, same, mnmx2, nilness, bound, fill, flatCells, Int.reduceLE, Int.reduceLT, Int.reduceAdd, Int.reduceSub, Int.reduceNeg, Int.reduceEq, Int.reduceBEq, Int.reduceBNe, Nat.reduceBEq, Nat.reduceEqDiff, Int.reduceToNat, allocCells, stp, g1]
theorem below_ok (n m : Int) (h : List Res) : D env 22 [.d (.int .i64 n), .d (.int .i64 m)] h = some (.val (.d (.bool (spanB 0 (m - 1) n))) h) := by
  rw [D_dat (F := A22) rfl rfl rfl rfl]
  unfold spanB
  by_cases g1 : 0 ≤ n
  · by_cases g2 : n < m
    · have g3 : n ≤ m - 1 := by omega
      simp -implicitDefEqProofs only [A22, B22, dbody, dexec, ostep, dop, ev, put, wants, dbin, dun, List.replicate, Nat.reduceAdd, Nat.reduceSub, Nat.reduceLT, Nat.reduceLeDiff, Nat.reduceMul, DV.cells, DV.flat, dload, DV.elems, reduceCtorEq, mask, DV.lows, DV.low, DV.coe, DV.isD, dresults, dresult, withHeap, lowCells, LSt.isReady, srcElems, DV.int, DV.mkAgg, same, mnmx2, nilness, bound, fill, flatCells, Int.reduceLE, Int.reduceLT, Int.reduceAdd, Int.reduceSub, Int.reduceNeg, Int.reduceEq, Int.reduceBEq, Int.reduceBNe, Nat.reduceBEq, Nat.reduceEqDiff, Int.reduceToNat, allocCells, stp, g1, g2, g3]
    · have g3 : ¬ n ≤ m - 1 := by omega
      simp -implicitDefEqProofs only [A22, B22, dbody, dexec, ostep, dop, ev, put, wants, dbin, dun, List.replicate, Nat.reduceAdd, Nat.reduceSub, Nat.reduceLT, Nat.reduceLeDiff, Nat.reduceMul, DV.cells, DV.flat, dload, DV.elems, reduceCtorEq, mask, DV.lows, DV.low, DV.coe, DV.isD, dresults, dresult, withHeap, lowCells, LSt.isReady, srcElems, DV.int, DV.mkAgg, same, mnmx2, nilness, bound, fill, flatCells, Int.reduceLE, Int.reduceLT, Int.reduceAdd, Int.reduceSub, Int.reduceNeg, Int.reduceEq, Int.reduceBEq, Int.reduceBNe, Nat.reduceBEq, Nat.reduceEqDiff, Int.reduceToNat, allocCells, stp, g1, g2, g3]
  · simp -implicitDefEqProofs only [A22, B22, dbody, dexec, ostep, dop, ev, put, wants, dbin, dun, List.replicate, Nat.reduceAdd, Nat.reduceSub, Nat.reduceLT, Nat.reduceLeDiff, Nat.reduceMul, DV.cells, DV.flat, dload, DV.elems, reduceCtorEq, mask, DV.lows, DV.low, DV.coe, DV.isD, dresults, dresult, withHeap, lowCells, LSt.isReady, srcElems, DV.int, DV.mkAgg, same, mnmx2, nilness, bound, fill, flatCells, Int.reduceLE, Int.reduceLT, Int.reduceAdd, Int.reduceSub, Int.reduceNeg, Int.reduceEq, Int.reduceBEq, Int.reduceBNe, Nat.reduceBEq, Nat.reduceEqDiff, Int.reduceToNat, allocCells, stp, g1]
end Go.Proofs.YtckmpipiginhaaaDoor.Codes
