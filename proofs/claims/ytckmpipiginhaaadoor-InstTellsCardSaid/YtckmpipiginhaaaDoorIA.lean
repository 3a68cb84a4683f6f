/-
  The table of instructions, and an instruction's row.
  Conditions: none.
-/
import Derived.Test.YtckmpipiginhaaaDoorCodes
import Derived.Test.YtckmpipiginhaaaDoorDX
set_option linter.unusedVariables false
set_option linter.unusedSimpArgs false
set_option maxRecDepth 100000
namespace Go.Proofs.YtckmpipiginhaaaDoor.Codes
open Go Go.Deepv

structure Row where
  nm : ByteArray
  l0 : Int
  m0 : Int
  l1 : Int
  m1 : Int
  l2 : Int
  m2 : Int
  tk : Int
  pt : Int
  to : Int
  nx : Bool
def Row.enc (r : Row) : List FV := [.str r.nm, .int .i64 r.l0, .int .i64 r.m0, .int .i64 r.l1, .int .i64 r.m1, .int .i64 r.l2, .int .i64 r.m2, .int .i64 r.tk, .int .i64 r.pt, .int .i64 r.to, .bool r.nx]
def row0 : Row := ⟨⟨#[]⟩, 0, 0, 0, 0, 0, 0, 0, 0, 0, false⟩
def numL : Int := -4611686018427387904
def numM : Int := 4611686018427387903
def rowsT : List Row := [
  ⟨⟨#[105, 110, 116]⟩, numL, numM, 0, 0, 0, 0, 0, 1, -1, true⟩,
  ⟨⟨#[116, 101, 120, 116]⟩, 0, 4095, 0, 0, 0, 0, 0, 1, -1, true⟩,
  ⟨⟨#[103, 101, 116]⟩, 0, 8191, 0, 0, 0, 0, 0, 1, -1, true⟩,
  ⟨⟨#[109, 97, 107, 101]⟩, 0, 15, 1, 6, 0, 0, -1, 1, -1, true⟩,
  ⟨⟨#[102, 105, 101, 108, 100]⟩, 0, 8191, 0, 5, 0, 0, 0, 1, -1, true⟩,
  ⟨⟨#[111, 112]⟩, 0, 11, 0, 0, 0, 0, -1, 1, -1, true⟩,
  ⟨⟨#[99, 97, 108, 108]⟩, 0, 79, 1, 6, 0, 0, -1, 1, -1, true⟩,
  ⟨⟨#[114, 101, 116]⟩, 0, 0, 0, 0, 0, 0, 1, 0, -1, false⟩,
  ⟨⟨#[115, 108, 105, 100, 101]⟩, 1, 8192, 0, 0, 0, 0, -1, 1, -1, true⟩,
  ⟨⟨#[106, 117, 109, 112]⟩, 0, 1048575, 0, 0, 0, 0, 0, 0, 0, false⟩,
  ⟨⟨#[102, 97, 108, 115, 101]⟩, 0, 1048575, 0, 0, 0, 0, 1, 0, 0, true⟩,
  ⟨⟨#[115, 119, 105, 116, 99, 104]⟩, 0, 8191, 0, 65535, 0, 0, 0, 0, -1, false⟩,
  ⟨⟨#[105, 115]⟩, 0, 8191, numL, numM, 0, 1048575, 0, 0, 2, true⟩,
  ⟨⟨#[108, 111, 111, 112]⟩, 0, 8191, 0, 1048575, 0, 0, 0, 0, 1, true⟩,
  ⟨⟨#[115, 116, 111, 114, 101]⟩, 0, 8191, 0, 0, 0, 0, 1, 0, -1, true⟩,
  ⟨⟨#[116, 114, 97, 112]⟩, 0, 0, 0, 0, 0, 0, 0, 0, -1, false⟩]
def tableV : List FV := rowsT.flatMap Row.enc

theorem upTo_ok (n : Int) (h1 : -9223372036854775807 ≤ n) (h2 : n ≤ 9223372036854775807) (h : List Res) : D env 37 [.d (.int .i64 n)] h = some (.val (.d (.agg [.int .i64 0, .int .i64 (n - 1)])) h) := by
  rw [D_dat (F := A37) rfl rfl rfl rfl]
  have w1 : IntKind.i64.wrap (n - 1) = n - 1 := wrap_i64 (by omega) (by omega)
  simp -implicitDefEqProofs only [A37, B37, dbody, dexec, ostep, dop, ev, put, wants, dbin, dun, List.replicate, Nat.reduceAdd, Nat.reduceSub, Nat.reduceLT, Nat.reduceLeDiff, Nat.reduceMul, DV.cells, DV.flat, dload, DV.elems, reduceCtorEq, mask, DV.lows, DV.low, DV.coe, DV.isD, dresults, dresult, withHeap, lowCells, LSt.isReady, srcElems, DV.int, DV.mkAgg, same, mnmx2, nilness, bound, fill, flatCells, Int.reduceLE, Int.reduceLT, Int.reduceAdd, Int.reduceSub, Int.reduceNeg, Int.reduceEq, Int.reduceBEq, Int.reduceBNe, Nat.reduceBEq, Nat.reduceEqDiff, Int.reduceToNat, allocCells, stp, w1, putCells]
theorem num_ok (h : List Res) : D env 38 [] h = some (.val (.d (.agg [.int .i64 numL, .int .i64 numM])) h) := by
  rw [D_dat (F := A38) rfl rfl rfl rfl]
  simp -implicitDefEqProofs only [A38, B38, dbody, dexec, ostep, dop, ev, put, wants, dbin, dun, List.replicate, Nat.reduceAdd, Nat.reduceSub, Nat.reduceLT, Nat.reduceLeDiff, Nat.reduceMul, DV.cells, DV.flat, dload, DV.elems, reduceCtorEq, mask, DV.lows, DV.low, DV.coe, DV.isD, dresults, dresult, withHeap, lowCells, LSt.isReady, srcElems, DV.int, DV.mkAgg, same, mnmx2, nilness, bound, fill, flatCells, Int.reduceLE, Int.reduceLT, Int.reduceAdd, Int.reduceSub, Int.reduceNeg, Int.reduceEq, Int.reduceBEq, Int.reduceBNe, Nat.reduceBEq, Nat.reduceEqDiff, Int.reduceToNat, allocCells, stp, putCells, numL, numM]
set_option maxHeartbeats 4000000 in
theorem table_ok (h : List Res) : D env 24 [] h = some (.val (.d (.agg tableV)) h) := by
  rw [D_dat (F := A24) rfl rfl rfl rfl]
  have e1 := fun h => upTo_ok 8192 (by decide) (by decide) h
  have e2 := fun h => upTo_ok 1048576 (by decide) (by decide) h
  have e3 := fun h => upTo_ok 4096 (by decide) (by decide) h
  have e4 := fun h => upTo_ok 16 (by decide) (by decide) h
  have e5 := fun h => upTo_ok 6 (by decide) (by decide) h
  have e6 := fun h => upTo_ok 12 (by decide) (by decide) h
  have e7 := fun h => upTo_ok 80 (by decide) (by decide) h
  have e8 := fun h => upTo_ok 65536 (by decide) (by decide) h
  have e9 := fun h => num_ok h
  simp -implicitDefEqProofs only [A24, B24, dbody, dexec, ostep, dop, ev, put, wants, dbin, dun, List.replicate, Nat.reduceAdd, Nat.reduceSub, Nat.reduceLT, Nat.reduceLeDiff, Nat.reduceMul, DV.cells, DV.flat, dload, DV.elems, reduceCtorEq, mask, DV.lows, DV.low, DV.coe, DV.isD, dresults, dresult, withHeap, lowCells, LSt.isReady, srcElems, DV.int, DV.mkAgg, same, mnmx2, nilness, bound, fill, flatCells, Int.reduceLE, Int.reduceLT, Int.reduceAdd, Int.reduceSub, Int.reduceNeg, Int.reduceEq, Int.reduceBEq, Int.reduceBNe, Nat.reduceBEq, Nat.reduceEqDiff, Int.reduceToNat, allocCells, stp, e1, e2, e3, e4, e5, e6, e7, e8, e9, putCells, keepNil]
  rfl
theorem all_ok (o a b c : Int) (h : List Res) : D env 19 [.d (.agg [.int .i64 o, .int .i64 a, .int .i64 b, .int .i64 c])] h = some (.val (.d (.agg [.int .i64 a, .int .i64 b, .int .i64 c])) h) := by
  rw [D_dat (F := A19) rfl rfl rfl rfl]
  simp -implicitDefEqProofs only [A19, B19, dbody, dexec, ostep, dop, ev, put, wants, dbin, dun, List.replicate, Nat.reduceAdd, Nat.reduceSub, Nat.reduceLT, Nat.reduceLeDiff, Nat.reduceMul, DV.cells, DV.flat, dload, DV.elems, reduceCtorEq, mask, DV.lows, DV.low, DV.coe, DV.isD, dresults, dresult, withHeap, lowCells, LSt.isReady, srcElems, DV.int, DV.mkAgg, same, mnmx2, nilness, bound, fill, flatCells, Int.reduceLE, Int.reduceLT, Int.reduceAdd, Int.reduceSub, Int.reduceNeg, Int.reduceEq, Int.reduceBEq, Int.reduceBNe, Nat.reduceBEq, Nat.reduceEqDiff, Int.reduceToNat, allocCells, stp, putCells]
end Go.Proofs.YtckmpipiginhaaaDoor.Codes
