/-
  The row of an instruction, and whether it can be.
  Conditions: none.
-/
import Derived.Test.YtckmpipiginhaaaDoorIA
set_option linter.unusedVariables false
set_option linter.unusedSimpArgs false
set_option maxRecDepth 100000
namespace Go.Proofs.YtckmpipiginhaaaDoor.Codes
open Go Go.Deepv

def spanB (l m n : Int) : Bool := decide (l ≤ n) && decide (n ≤ m)
def fitR (r : Row) (a b c : Int) : Bool := spanB r.l0 r.m0 a && (spanB r.l1 r.m1 b && spanB r.l2 r.m2 c)
def rowOf (o : Int) : Option Row := if 0 ≤ o ∧ o < 16 then rowsT[o.toNat]? else none
def ofV (o a b c : Int) : Row × Bool := match rowOf o with
  | some r => if fitR r a b c = true then (r, true) else (row0, false)
  | none => (row0, false)
theorem tableV_len : tableV.length = 176 := by rfl
theorem row_at (k : Nat) (hk : k < 16) : ∃ r, rowsT[k]? = some r ∧ List.take 11 (List.drop (k * 11) (List.map DV.d tableV)) = List.map DV.d r.enc := by
  match k, hk with
  | 0, _ => exact ⟨_, rfl, rfl⟩
  | 1, _ => exact ⟨_, rfl, rfl⟩
  | 2, _ => exact ⟨_, rfl, rfl⟩
  | 3, _ => exact ⟨_, rfl, rfl⟩
  | 4, _ => exact ⟨_, rfl, rfl⟩
  | 5, _ => exact ⟨_, rfl, rfl⟩
  | 6, _ => exact ⟨_, rfl, rfl⟩
  | 7, _ => exact ⟨_, rfl, rfl⟩
  | 8, _ => exact ⟨_, rfl, rfl⟩
  | 9, _ => exact ⟨_, rfl, rfl⟩
  | 10, _ => exact ⟨_, rfl, rfl⟩
  | 11, _ => exact ⟨_, rfl, rfl⟩
  | 12, _ => exact ⟨_, rfl, rfl⟩
  | 13, _ => exact ⟨_, rfl, rfl⟩
  | 14, _ => exact ⟨_, rfl, rfl⟩
  | 15, _ => exact ⟨_, rfl, rfl⟩
  | k + 16, hk => omega

def boxR (r : Row) : Res := .box (r.enc.map .d)
def st18 (a b c i : Int) : List DV := [.d .undef, .d .undef, .ptr 0 0, .d .undef, .ptr 1 0] ++ List.replicate 16 (.d .undef) ++ [.d (.agg [.int .i64 a, .int .i64 b, .int .i64 c]), .d (.int .i64 i)] ++ List.replicate 22 (.d .undef)
def ex18 (v : FV) : List DV := [.d .undef, .d .undef, .ptr 0 0, .d v, .ptr 1 0] ++ List.replicate 40 (.d .undef)
theorem loop18 (r : Row) (a b c : Int) : L env 2 true H18L5 X18L5 B18L5 (st18 a b c 0) [boxR row0, boxR r] = if fitR r a b c = true then some (.exit 0, ex18 .undef, [boxR row0, boxR r]) else some (.ret, ex18 (.bool false), [boxR row0, boxR r]) := by
  obtain ⟨K, hK⟩ : ∃ K, L env 2 true H18L5 X18L5 B18L5 = K := ⟨_, rfl⟩
  rw [hK]
  obtain ⟨nm, l0, m0, l1, m1, l2, m2, tk, pt, to, nx⟩ := r
  have k3 : K (st18 a b c 3) [boxR row0, boxR ⟨nm, l0, m0, l1, m1, l2, m2, tk, pt, to, nx⟩] = some (.exit 0, ex18 .undef, [boxR row0, boxR ⟨nm, l0, m0, l1, m1, l2, m2, tk, pt, to, nx⟩]) := by
    rw [L_round hK]
    simp -implicitDefEqProofs only [B18L5, st18, ex18, boxR, row0, Row.enc, dbody, dexec, ostep, dop, ev, put, wants, dbin, dun, List.replicate, Nat.reduceAdd, Nat.reduceSub, Nat.reduceLT, Nat.reduceLeDiff, Nat.reduceMul, DV.cells, DV.flat, dload, DV.elems, reduceCtorEq, mask, DV.lows, DV.low, DV.coe, DV.isD, dresults, dresult, withHeap, lowCells, LSt.isReady, srcElems, DV.int, DV.mkAgg, same, mnmx2, nilness, bound, fill, flatCells, Int.reduceLE, Int.reduceLT, Int.reduceAdd, Int.reduceSub, Int.reduceNeg, Int.reduceEq, Int.reduceBEq, Int.reduceBNe, Nat.reduceBEq, Nat.reduceEqDiff, Int.reduceToNat, allocCells, stp]
  have k2 : K (st18 a b c 2) [boxR row0, boxR ⟨nm, l0, m0, l1, m1, l2, m2, tk, pt, to, nx⟩] = if spanB l2 m2 c = true then K (st18 a b c 3) [boxR row0, boxR ⟨nm, l0, m0, l1, m1, l2, m2, tk, pt, to, nx⟩] else some (.ret, ex18 (.bool false), [boxR row0, boxR ⟨nm, l0, m0, l1, m1, l2, m2, tk, pt, to, nx⟩]) := by
    generalize hR : K (st18 a b c 3) [boxR row0, boxR ⟨nm, l0, m0, l1, m1, l2, m2, tk, pt, to, nx⟩] = RR
    simp only [st18, boxR, row0, Row.enc, List.replicate, List.cons_append, List.nil_append, List.map_cons, List.map_nil] at hR
    have w1 : IntKind.i64.wrap 3 = 3 := by decide
    unfold spanB
    rw [L_round hK]
    by_cases g1 : c < l2
    · have g2 : ¬ l2 ≤ c := by omega
      simp -implicitDefEqProofs only [B18L5, st18, ex18, boxR, row0, Row.enc, dbody, dexec, ostep, dop, ev, put, wants, dbin, dun, List.replicate, Nat.reduceAdd, Nat.reduceSub, Nat.reduceLT, Nat.reduceLeDiff, Nat.reduceMul, DV.cells, DV.flat, dload, DV.elems, reduceCtorEq, mask, DV.lows, DV.low, DV.coe, DV.isD, dresults, dresult, withHeap, lowCells, LSt.isReady, srcElems, DV.int, DV.mkAgg, same, mnmx2, nilness, bound, fill, flatCells, Int.reduceLE, Int.reduceLT, Int.reduceAdd, Int.reduceSub, Int.reduceNeg, Int.reduceEq, Int.reduceBEq, Int.reduceBNe, Nat.reduceBEq, Nat.reduceEqDiff, Int.reduceToNat, allocCells, stp, g1, g2, putCells]
    · have g2 : l2 ≤ c := by omega
      by_cases g3 : m2 < c
      · have g4 : ¬ c ≤ m2 := by omega
        simp -implicitDefEqProofs only [B18L5, st18, ex18, boxR, row0, Row.enc, dbody, dexec, ostep, dop, ev, put, wants, dbin, dun, List.replicate, Nat.reduceAdd, Nat.reduceSub, Nat.reduceLT, Nat.reduceLeDiff, Nat.reduceMul, DV.cells, DV.flat, dload, DV.elems, reduceCtorEq, mask, DV.lows, DV.low, DV.coe, DV.isD, dresults, dresult, withHeap, lowCells, LSt.isReady, srcElems, DV.int, DV.mkAgg, same, mnmx2, nilness, bound, fill, flatCells, Int.reduceLE, Int.reduceLT, Int.reduceAdd, Int.reduceSub, Int.reduceNeg, Int.reduceEq, Int.reduceBEq, Int.reduceBNe, Nat.reduceBEq, Nat.reduceEqDiff, Int.reduceToNat, allocCells, stp, g1, g2, g3, g4, putCells]
      · have g4 : c ≤ m2 := by omega
        simp -implicitDefEqProofs only [B18L5, st18, ex18, boxR, row0, Row.enc, dbody, dexec, ostep, dop, ev, put, wants, dbin, dun, List.replicate, Nat.reduceAdd, Nat.reduceSub, Nat.reduceLT, Nat.reduceLeDiff, Nat.reduceMul, DV.cells, DV.flat, dload, DV.elems, reduceCtorEq, mask, DV.lows, DV.low, DV.coe, DV.isD, dresults, dresult, withHeap, lowCells, LSt.isReady, srcElems, DV.int, DV.mkAgg, same, mnmx2, nilness, bound, fill, flatCells, Int.reduceLE, Int.reduceLT, Int.reduceAdd, Int.reduceSub, Int.reduceNeg, Int.reduceEq, Int.reduceBEq, Int.reduceBNe, Nat.reduceBEq, Nat.reduceEqDiff, Int.reduceToNat, allocCells, stp, g1, g2, g3, g4, w1, hR, putCells]
  have k1 : K (st18 a b c 1) [boxR row0, boxR ⟨nm, l0, m0, l1, m1, l2, m2, tk, pt, to, nx⟩] = if spanB l1 m1 b = true then K (st18 a b c 2) [boxR row0, boxR ⟨nm, l0, m0, l1, m1, l2, m2, tk, pt, to, nx⟩] else some (.ret, ex18 (.bool false), [boxR row0, boxR ⟨nm, l0, m0, l1, m1, l2, m2, tk, pt, to, nx⟩]) := by
    generalize hR : K (st18 a b c 2) [boxR row0, boxR ⟨nm, l0, m0, l1, m1, l2, m2, tk, pt, to, nx⟩] = RR
    simp only [st18, boxR, row0, Row.enc, List.replicate, List.cons_append, List.nil_append, List.map_cons, List.map_nil] at hR
    have w1 : IntKind.i64.wrap 2 = 2 := by decide
    unfold spanB
    rw [L_round hK]
    by_cases g1 : b < l1
    · have g2 : ¬ l1 ≤ b := by omega
      simp -implicitDefEqProofs only [B18L5, st18, ex18, boxR, row0, Row.enc, dbody, dexec, ostep, dop, ev, put, wants, dbin, dun, List.replicate, Nat.reduceAdd, Nat.reduceSub, Nat.reduceLT, Nat.reduceLeDiff, Nat.reduceMul, DV.cells, DV.flat, dload, DV.elems, reduceCtorEq, mask, DV.lows, DV.low, DV.coe, DV.isD, dresults, dresult, withHeap, lowCells, LSt.isReady, srcElems, DV.int, DV.mkAgg, same, mnmx2, nilness, bound, fill, flatCells, Int.reduceLE, Int.reduceLT, Int.reduceAdd, Int.reduceSub, Int.reduceNeg, Int.reduceEq, Int.reduceBEq, Int.reduceBNe, Nat.reduceBEq, Nat.reduceEqDiff, Int.reduceToNat, allocCells, stp, g1, g2, putCells]
    · have g2 : l1 ≤ b := by omega
      by_cases g3 : m1 < b
      · have g4 : ¬ b ≤ m1 := by omega
        simp -implicitDefEqProofs only [B18L5, st18, ex18, boxR, row0, Row.enc, dbody, dexec, ostep, dop, ev, put, wants, dbin, dun, List.replicate, Nat.reduceAdd, Nat.reduceSub, Nat.reduceLT, Nat.reduceLeDiff, Nat.reduceMul, DV.cells, DV.flat, dload, DV.elems, reduceCtorEq, mask, DV.lows, DV.low, DV.coe, DV.isD, dresults, dresult, withHeap, lowCells, LSt.isReady, srcElems, DV.int, DV.mkAgg, same, mnmx2, nilness, bound, fill, flatCells, Int.reduceLE, Int.reduceLT, Int.reduceAdd, Int.reduceSub, Int.reduceNeg, Int.reduceEq, Int.reduceBEq, Int.reduceBNe, Nat.reduceBEq, Nat.reduceEqDiff, Int.reduceToNat, allocCells, stp, g1, g2, g3, g4, putCells]
      · have g4 : b ≤ m1 := by omega
        simp -implicitDefEqProofs only [B18L5, st18, ex18, boxR, row0, Row.enc, dbody, dexec, ostep, dop, ev, put, wants, dbin, dun, List.replicate, Nat.reduceAdd, Nat.reduceSub, Nat.reduceLT, Nat.reduceLeDiff, Nat.reduceMul, DV.cells, DV.flat, dload, DV.elems, reduceCtorEq, mask, DV.lows, DV.low, DV.coe, DV.isD, dresults, dresult, withHeap, lowCells, LSt.isReady, srcElems, DV.int, DV.mkAgg, same, mnmx2, nilness, bound, fill, flatCells, Int.reduceLE, Int.reduceLT, Int.reduceAdd, Int.reduceSub, Int.reduceNeg, Int.reduceEq, Int.reduceBEq, Int.reduceBNe, Nat.reduceBEq, Nat.reduceEqDiff, Int.reduceToNat, allocCells, stp, g1, g2, g3, g4, w1, hR, putCells]
  have k0 : K (st18 a b c 0) [boxR row0, boxR ⟨nm, l0, m0, l1, m1, l2, m2, tk, pt, to, nx⟩] = if spanB l0 m0 a = true then K (st18 a b c 1) [boxR row0, boxR ⟨nm, l0, m0, l1, m1, l2, m2, tk, pt, to, nx⟩] else some (.ret, ex18 (.bool false), [boxR row0, boxR ⟨nm, l0, m0, l1, m1, l2, m2, tk, pt, to, nx⟩]) := by
    generalize hR : K (st18 a b c 1) [boxR row0, boxR ⟨nm, l0, m0, l1, m1, l2, m2, tk, pt, to, nx⟩] = RR
    simp only [st18, boxR, row0, Row.enc, List.replicate, List.cons_append, List.nil_append, List.map_cons, List.map_nil] at hR
    have w1 : IntKind.i64.wrap 1 = 1 := by decide
    unfold spanB
    rw [L_round hK]
    by_cases g1 : a < l0
    · have g2 : ¬ l0 ≤ a := by omega
      simp -implicitDefEqProofs only [B18L5, st18, ex18, boxR, row0, Row.enc, dbody, dexec, ostep, dop, ev, put, wants, dbin, dun, List.replicate, Nat.reduceAdd, Nat.reduceSub, Nat.reduceLT, Nat.reduceLeDiff, Nat.reduceMul, DV.cells, DV.flat, dload, DV.elems, reduceCtorEq, mask, DV.lows, DV.low, DV.coe, DV.isD, dresults, dresult, withHeap, lowCells, LSt.isReady, srcElems, DV.int, DV.mkAgg, same, mnmx2, nilness, bound, fill, flatCells, Int.reduceLE, Int.reduceLT, Int.reduceAdd, Int.reduceSub, Int.reduceNeg, Int.reduceEq, Int.reduceBEq, Int.reduceBNe, Nat.reduceBEq, Nat.reduceEqDiff, Int.reduceToNat, allocCells, stp, g1, g2, putCells]
    · have g2 : l0 ≤ a := by omega
      by_cases g3 : m0 < a
      · have g4 : ¬ a ≤ m0 := by omega
        simp -implicitDefEqProofs only [B18L5, st18, ex18, boxR, row0, Row.enc, dbody, dexec, ostep, dop, ev, put, wants, dbin, dun, List.replicate, Nat.reduceAdd, Nat.reduceSub, Nat.reduceLT, Nat.reduceLeDiff, Nat.reduceMul, DV.cells, DV.flat, dload, DV.elems, reduceCtorEq, mask, DV.lows, DV.low, DV.coe, DV.isD, dresults, dresult, withHeap, lowCells, LSt.isReady, srcElems, DV.int, DV.mkAgg, same, mnmx2, nilness, bound, fill, flatCells, Int.reduceLE, Int.reduceLT, Int.reduceAdd, Int.reduceSub, Int.reduceNeg, Int.reduceEq, Int.reduceBEq, Int.reduceBNe, Nat.reduceBEq, Nat.reduceEqDiff, Int.reduceToNat, allocCells, stp, g1, g2, g3, g4, putCells]
      · have g4 : a ≤ m0 := by omega
        simp -implicitDefEqProofs only [B18L5, st18, ex18, boxR, row0, Row.enc, dbody, dexec, ostep, dop, ev, put, wants, dbin, dun, List.replicate, Nat.reduceAdd, Nat.reduceSub, Nat.reduceLT, Nat.reduceLeDiff, Nat.reduceMul, DV.cells, DV.flat, dload, DV.elems, reduceCtorEq, mask, DV.lows, DV.low, DV.coe, DV.isD, dresults, dresult, withHeap, lowCells, LSt.isReady, srcElems, DV.int, DV.mkAgg, same, mnmx2, nilness, bound, fill, flatCells, Int.reduceLE, Int.reduceLT, Int.reduceAdd, Int.reduceSub, Int.reduceNeg, Int.reduceEq, Int.reduceBEq, Int.reduceBNe, Nat.reduceBEq, Nat.reduceEqDiff, Int.reduceToNat, allocCells, stp, g1, g2, g3, g4, w1, hR, putCells]
  rw [k0, k1, k2, k3]
  unfold fitR
  cases spanB l0 m0 a <;> cases spanB l1 m1 b <;> cases spanB l2 m2 c <;> rfl
theorem of_ok (o a b c : Int) (h : List Res) : D env 18 [.d (.agg [.int .i64 o, .int .i64 a, .int .i64 b, .int .i64 c])] h = some (.val (.d (.tup [.agg (ofV o a b c).1.enc, .bool (ofV o a b c).2])) h) := by
  rw [D_dat (F := A18) rfl rfl rfl rfl]
  by_cases g1 : o < 0
  · have hr : rowOf o = none := by unfold rowOf; rw [if_neg (by omega)]
    have hv : ofV o a b c = (row0, false) := by unfold ofV; rw [hr]
    rw [hv]
    simp -implicitDefEqProofs only [A18, B18, dbody, dexec, ostep, dop, ev, put, wants, dbin, dun, List.replicate, Nat.reduceAdd, Nat.reduceSub, Nat.reduceLT, Nat.reduceLeDiff, Nat.reduceMul, DV.cells, DV.flat, dload, DV.elems, reduceCtorEq, mask, DV.lows, DV.low, DV.coe, DV.isD, dresults, dresult, withHeap, lowCells, LSt.isReady, srcElems, DV.int, DV.mkAgg, same, mnmx2, nilness, bound, fill, flatCells, Int.reduceLE, Int.reduceLT, Int.reduceAdd, Int.reduceSub, Int.reduceNeg, Int.reduceEq, Int.reduceBEq, Int.reduceBNe, Nat.reduceBEq, Nat.reduceEqDiff, Int.reduceToNat, allocCells, stp, g1, row0, Row.enc, putCells]
  · by_cases g2 : 16 ≤ o
    · have hr : rowOf o = none := by unfold rowOf; rw [if_neg (by omega)]
      have hv : ofV o a b c = (row0, false) := by unfold ofV; rw [hr]
      rw [hv]
      simp -implicitDefEqProofs only [A18, B18, dbody, dexec, ostep, dop, ev, put, wants, dbin, dun, List.replicate, Nat.reduceAdd, Nat.reduceSub, Nat.reduceLT, Nat.reduceLeDiff, Nat.reduceMul, DV.cells, DV.flat, dload, DV.elems, reduceCtorEq, mask, DV.lows, DV.low, DV.coe, DV.isD, dresults, dresult, withHeap, lowCells, LSt.isReady, srcElems, DV.int, DV.mkAgg, same, mnmx2, nilness, bound, fill, flatCells, Int.reduceLE, Int.reduceLT, Int.reduceAdd, Int.reduceSub, Int.reduceNeg, Int.reduceEq, Int.reduceBEq, Int.reduceBNe, Nat.reduceBEq, Nat.reduceEqDiff, Int.reduceToNat, allocCells, stp, g1, g2, row0, Row.enc, putCells]
    · obtain ⟨k, rfl⟩ : ∃ k : Nat, o = k := ⟨o.toNat, by omega⟩
      have hk : k < 16 := by omega
      obtain ⟨r, hr, ht⟩ := row_at k hk
      have hro : rowOf (k : Int) = some r := by
        unfold rowOf
        rw [if_pos (by omega), Int.toNat_natCast, hr]
      have hv : ofV k a b c = if fitR r a b c = true then (r, true) else (row0, false) := by unfold ofV; rw [hro]
      have e24 := fun h => table_ok h
      have e19 := fun h => all_ok k a b c h
      have hlo := loop18 r a b c
      have tl := tableV_len
      have b1 : k * 11 + 11 ≤ 176 := by omega
      have b2 : (k : Int) < 16 := by omega
      have lm : (List.map DV.d tableV).length = 176 := by rw [List.length_map, tl]
      rw [hv]
      generalize tableV = T at *
      cases hf : fitR r a b c with
      | true =>
        rw [hf, if_pos rfl] at hlo
        rw [if_pos rfl]
        obtain ⟨nm, l0, m0, l1, m1, l2, m2, tk, pt, to, nx⟩ := r
        simp only [st18, ex18, boxR, row0, Row.enc, List.replicate, List.cons_append, List.nil_append, List.map_cons, List.map_nil] at hlo ht
        simp -implicitDefEqProofs only [A18, B18, dbody, dexec, ostep, dop, ev, put, wants, dbin, dun, List.replicate, Nat.reduceAdd, Nat.reduceSub, Nat.reduceLT, Nat.reduceLeDiff, Nat.reduceMul, DV.cells, DV.flat, dload, DV.elems, reduceCtorEq, mask, DV.lows, DV.low, DV.coe, DV.isD, dresults, dresult, withHeap, lowCells, LSt.isReady, srcElems, DV.int, DV.mkAgg, same, mnmx2, nilness, bound, fill, flatCells, Int.reduceLE, Int.reduceLT, Int.reduceAdd, Int.reduceSub, Int.reduceNeg, Int.reduceEq, Int.reduceBEq, Int.reduceBNe, Nat.reduceBEq, Nat.reduceEqDiff, Int.reduceToNat, allocCells, stp, g1, g2, e24, e19, hlo, tl, b1, b2, lm, ht, row0, Row.enc, putCells]
      | false =>
        rw [hf, if_neg (by simp)] at hlo
        rw [if_neg (by simp)]
        obtain ⟨nm, l0, m0, l1, m1, l2, m2, tk, pt, to, nx⟩ := r
        simp only [st18, ex18, boxR, row0, Row.enc, List.replicate, List.cons_append, List.nil_append, List.map_cons, List.map_nil] at hlo ht
        simp -implicitDefEqProofs only [A18, B18, dbody, dexec, ostep, dop, ev, put, wants, dbin, dun, List.replicate, Nat.reduceAdd, Nat.reduceSub, Nat.reduceLT, Nat.reduceLeDiff, Nat.reduceMul, DV.cells, DV.flat, dload, DV.elems, reduceCtorEq, mask, DV.lows, DV.low, DV.coe, DV.isD, dresults, dresult, withHeap, lowCells, LSt.isReady, srcElems, DV.int, DV.mkAgg, same, mnmx2, nilness, bound, fill, flatCells, Int.reduceLE, Int.reduceLT, Int.reduceAdd, Int.reduceSub, Int.reduceNeg, Int.reduceEq, Int.reduceBEq, Int.reduceBNe, Nat.reduceBEq, Nat.reduceEqDiff, Int.reduceToNat, allocCells, stp, g1, g2, e24, e19, hlo, tl, b1, b2, lm, ht, row0, Row.enc, putCells]
/-- Whether an instruction can be. -/
def fitV (o a b c : Int) : Bool := (ofV o a b c).2
theorem fit_ok (o a b c : Int) (h : List Res) : D env 14 [.d (.agg [.int .i64 o, .int .i64 a, .int .i64 b, .int .i64 c])] h = some (.val (.d (.bool (fitV o a b c))) h) := by
  rw [D_dat (F := A14) rfl rfl rfl rfl]
  have e18 := fun h => of_ok o a b c h
  unfold fitV
  generalize (ofV o a b c) = p at *
  obtain ⟨⟨nm, l0, m0, l1, m1, l2, m2, tk, pt, to, nx⟩, f⟩ := p
  simp only [Row.enc] at e18
  simp -implicitDefEqProofs only [A14, B14, dbody, dexec, ostep, dop, ev, put, wants, dbin, dun, List.replicate, Nat.reduceAdd, Nat.reduceSub, Nat.reduceLT, Nat.reduceLeDiff, Nat.reduceMul, DV.cells, DV.flat, dload, DV.elems, reduceCtorEq, mask, DV.lows, DV.low, DV.coe, DV.isD, dresults, dresult, withHeap, lowCells, LSt.isReady, srcElems, DV.int, DV.mkAgg, same, mnmx2, nilness, bound, fill, flatCells, Int.reduceLE, Int.reduceLT, Int.reduceAdd, Int.reduceSub, Int.reduceNeg, Int.reduceEq, Int.reduceBEq, Int.reduceBNe, Nat.reduceBEq, Nat.reduceEqDiff, Int.reduceToNat, allocCells, stp, e18, putCells]
end Go.Proofs.YtckmpipiginhaaaDoor.Codes
