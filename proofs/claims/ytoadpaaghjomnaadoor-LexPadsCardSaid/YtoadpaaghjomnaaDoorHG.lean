/-
  The law LexPads.
  Conditions: none.
-/
import Derived.Test.YtoadpaaghjomnaaDoorHF
set_option linter.unusedVariables false
set_option linter.unusedSimpArgs false
set_option maxRecDepth 100000
namespace Go.Proofs.YtoadpaaghjomnaaDoor.Codes
open Go Go.Deepv

theorem utf8_ok (a b c d e f : Int) (h : List Res) : D env 22 [.d (.agg [.int .i64 a, .int .i64 b, .int .i64 c]), .d (.agg [.int .i64 d, .int .i64 e, .int .i64 f])] h = some (.val (.d (.bool (a == 1 || d == 1))) h) := by
  rw [D_dat (F := A22) rfl rfl rfl rfl]
  cases h1 : a == 1 with
  | true => simp -implicitDefEqProofs only [A22, B22, dbody, dexec, ostep, dop, ev, put, wants, dbin, dun, List.replicate, Nat.reduceAdd, Nat.reduceSub, Nat.reduceLT, Nat.reduceLeDiff, Nat.reduceMul, DV.cells, DV.flat, dload, DV.elems, reduceCtorEq, mask, DV.lows, DV.low, DV.coe, DV.isD, dresults, dresult, withHeap, lowCells, LSt.isReady, srcElems, DV.int, DV.mkAgg, same, mnmx2, nilness, bound, fill, flatCells, Int.reduceLE, Int.reduceLT, Int.reduceAdd, Int.reduceSub, Int.reduceNeg, Int.reduceEq, Int.reduceBEq, Int.reduceBNe, Nat.reduceBEq, Nat.reduceEqDiff, Int.reduceToNat, allocCells, stp, h1, putCells]
  | false => simp -implicitDefEqProofs only [A22, B22, dbody, dexec, ostep, dop, ev, put, wants, dbin, dun, List.replicate, Nat.reduceAdd, Nat.reduceSub, Nat.reduceLT, Nat.reduceLeDiff, Nat.reduceMul, DV.cells, DV.flat, dload, DV.elems, reduceCtorEq, mask, DV.lows, DV.low, DV.coe, DV.isD, dresults, dresult, withHeap, lowCells, LSt.isReady, srcElems, DV.int, DV.mkAgg, same, mnmx2, nilness, bound, fill, flatCells, Int.reduceLE, Int.reduceLT, Int.reduceAdd, Int.reduceSub, Int.reduceNeg, Int.reduceEq, Int.reduceBEq, Int.reduceBNe, Nat.reduceBEq, Nat.reduceEqDiff, Int.reduceToNat, allocCells, stp, h1, putCells]

def padsF : List (List FV) := [[.str ⟨#[32]⟩], [.str ⟨#[9, 10]⟩], [.str ⟨#[35, 32, 97, 32, 114, 101, 109, 97, 114, 107, 10]⟩], [.str ⟨#[13, 10, 32, 35, 10]⟩]]
theorem pads_at (z : Nat) : ∃ p pw, padsF[z % 4]? = some [.str p] ∧ p.size ≤ 100 ∧ p.data.toList = encLs pw ∧ Sc pw ∧ ∀ X, skI false (pw ++ X) = skI false X := by
  have hz : z % 4 < 4 := Nat.mod_lt _ (by decide)
  generalize z % 4 = k at *
  match k, hz with
  | 0, _ => exact ⟨_, [32], rfl, by decide, by decide, by unfold Sc; decide, fun X => by simp [skI, rBlank]⟩
  | 1, _ => exact ⟨_, [9, 10], rfl, by decide, by decide, by unfold Sc; decide, fun X => by simp [skI, rBlank]⟩
  | 2, _ => exact ⟨_, [35, 32, 97, 32, 114, 101, 109, 97, 114, 107, 10], rfl, by decide, by decide, by unfold Sc; decide, fun X => by simp [skI, rBlank]⟩
  | 3, _ => exact ⟨_, [13, 10, 32, 35, 10], rfl, by decide, by decide, by unfold Sc; decide, fun X => by simp [skI, rBlank]⟩

set_option maxHeartbeats 2000000 in
theorem lexpads_ok (s t : ByteArray) (z : Nat) (hz : z < 256) (h : List Res) : D env 6 [.d (.str s), .d (.str t), .d (.int .u8 z)] h = some (.val (.d (.bool true)) h) := by
  rw [D_dat (F := A6) rfl rfl rfl rfl]
  have e12 := fun h => awake_ok h
  by_cases g1 : s.size ≤ 800
  · have g1' : ¬ (800 : Int) < s.size := by omega
    by_cases g2 : t.size ≤ 800
    · have g2' : ¬ (800 : Int) < t.size := by omega
      obtain ⟨p, pw, hp, hpl, hpb, hps, hpw⟩ := pads_at z
      have hm : ((z : Nat) : Int).tmod 4 = ((z % 4 : Nat) : Int) := by
        rw [Int.tmod_eq_emod_of_nonneg (by omega)]
        omega
      unfold padsF at hp
      have hz4 : z % 4 < 4 := Nat.mod_lt _ (by decide)
      obtain ⟨x1, x2, x3, x4⟩ := pads_plain s t p pw g1 g2 hpl hpb hps hpw
      have z1 : (⟨#[10]⟩ : ByteArray).size = 1 := rfl
      have u1 : p.size + s.size ≤ 9223372036854775807 := by omega
      have u2 : (p ++ s).size + (⟨#[10]⟩ : ByteArray).size ≤ 9223372036854775807 := by simp only [ByteArray.size_append, z1]; omega
      have u3 : (p ++ s ++ ⟨#[10]⟩).size + p.size ≤ 9223372036854775807 := by simp only [ByteArray.size_append, z1]; omega
      have u4 : s.size + (⟨#[10]⟩ : ByteArray).size ≤ 9223372036854775807 := by omega
      have u5 : (s ++ ⟨#[10]⟩).size + t.size ≤ 9223372036854775807 := by simp only [ByteArray.size_append, z1]; omega
      have eA := fun h => lex_ok s h
      have eB := fun h => lex_ok (p ++ s ++ ⟨#[10]⟩ ++ p) h
      have eC := fun h => lex_ok t h
      have eD := fun h => lex_ok (s ++ ⟨#[10]⟩ ++ t) h
      have lA := lexP_len s
      have lC := lexP_len t
      rw [lexV_P] at eA eB eC eD
      have sAB := fun h => same_ok (lexP s).1 (lexP (p ++ s ++ ⟨#[10]⟩ ++ p)).1 false (by omega) h
      rw [x2] at sAB
      rw [← x1] at eB
      generalize (lexP (p ++ s ++ ⟨#[10]⟩ ++ p)).1 = B at *
      generalize (lexP (p ++ s ++ ⟨#[10]⟩ ++ p)).2.2.1 = b1 at *
      generalize (lexP (p ++ s ++ ⟨#[10]⟩ ++ p)).2.2.2 = b2 at *
      generalize (lexP (s ++ ⟨#[10]⟩ ++ t)).1 = Dd at *
      generalize (lexP (s ++ ⟨#[10]⟩ ++ t)).2.1 = ed at *
      generalize (lexP (s ++ ⟨#[10]⟩ ++ t)).2.2.1 = d1 at *
      generalize (lexP (s ++ ⟨#[10]⟩ ++ t)).2.2.2 = d2 at *
      generalize (lexP s).1 = A at *
      generalize (lexP s).2.1 = ea at *
      generalize (lexP s).2.2.1 = a1 at *
      generalize (lexP s).2.2.2 = a2 at *
      generalize (lexP t).1 = C at *
      generalize (lexP t).2.1 = ec at *
      generalize (lexP t).2.2.1 = c1 at *
      generalize (lexP t).2.2.2 = c2 at *
      clear x1 x2
      have f0 : (ea != ea) = false := by simp
      have eU := fun h => utf8_ok ea a1 a2 ec c1 c2 h
      cases fa : ea == 0 with
      | false =>
        have fa' : (ea != 0) = true := by simp [bne, fa]
        have hne : ea ≠ 0 := by simpa using fa
        cases fi : ed == ea with
        | true =>
          simp -implicitDefEqProofs only [A6, B6, dbody, dexec, ostep, dop, ev, put, wants, dbin, dun, List.replicate, Nat.reduceAdd, Nat.reduceSub, Nat.reduceLT, Nat.reduceLeDiff, Nat.reduceMul, DV.cells, DV.flat, dload, DV.elems, reduceCtorEq, mask, DV.lows, DV.low, DV.coe, DV.isD, dresults, dresult, withHeap, lowCells, LSt.isReady, srcElems, DV.int, DV.mkAgg, same, mnmx2, nilness, bound, fill, flatCells, Int.reduceLE, Int.reduceLT, Int.reduceAdd, Int.reduceSub, Int.reduceNeg, Int.reduceEq, Int.reduceBEq, Int.reduceBNe, Nat.reduceBEq, Nat.reduceEqDiff, Int.reduceToNat, allocCells, stp, g1', g2', hm, hz4, hp, u1, u2, u3, u4, u5, e12, eA, eB, eC, eD, sAB, f0, fa, fa', fi, putCells]
        | false =>
          have hu : (ea == 1 || ec == 1) = true := by
            rcases x3 (.inl hne) with h | h | h | h
            · simp [h] at fi
            · exact absurd h.1 hne
            · simp [h]
            · simp [h]
          rw [hu] at eU
          simp -implicitDefEqProofs only [A6, B6, dbody, dexec, ostep, dop, ev, put, wants, dbin, dun, List.replicate, Nat.reduceAdd, Nat.reduceSub, Nat.reduceLT, Nat.reduceLeDiff, Nat.reduceMul, DV.cells, DV.flat, dload, DV.elems, reduceCtorEq, mask, DV.lows, DV.low, DV.coe, DV.isD, dresults, dresult, withHeap, lowCells, LSt.isReady, srcElems, DV.int, DV.mkAgg, same, mnmx2, nilness, bound, fill, flatCells, Int.reduceLE, Int.reduceLT, Int.reduceAdd, Int.reduceSub, Int.reduceNeg, Int.reduceEq, Int.reduceBEq, Int.reduceBNe, Nat.reduceBEq, Nat.reduceEqDiff, Int.reduceToNat, allocCells, stp, g1', g2', hm, hz4, hp, u1, u2, u3, u4, u5, e12, eA, eB, eC, eD, sAB, eU, f0, fa, fa', fi, putCells]
      | true =>
        have fa' : (ea != 0) = false := by simp [bne, fa]
        have he : ea = 0 := eq_of_beq fa
        cases fc : ec == 0 with
        | false =>
          have fc' : (ec != 0) = true := by simp [bne, fc]
          have hne : ec ≠ 0 := by simpa using fc
          cases fi : ed == ea with
          | true =>
            simp -implicitDefEqProofs only [A6, B6, dbody, dexec, ostep, dop, ev, put, wants, dbin, dun, List.replicate, Nat.reduceAdd, Nat.reduceSub, Nat.reduceLT, Nat.reduceLeDiff, Nat.reduceMul, DV.cells, DV.flat, dload, DV.elems, reduceCtorEq, mask, DV.lows, DV.low, DV.coe, DV.isD, dresults, dresult, withHeap, lowCells, LSt.isReady, srcElems, DV.int, DV.mkAgg, same, mnmx2, nilness, bound, fill, flatCells, Int.reduceLE, Int.reduceLT, Int.reduceAdd, Int.reduceSub, Int.reduceNeg, Int.reduceEq, Int.reduceBEq, Int.reduceBNe, Nat.reduceBEq, Nat.reduceEqDiff, Int.reduceToNat, allocCells, stp, g1', g2', hm, hz4, hp, u1, u2, u3, u4, u5, e12, eA, eB, eC, eD, sAB, f0, fa, fa', fc, fc', fi, putCells]
          | false =>
            cases fj : ed == ec with
            | true =>
              simp -implicitDefEqProofs only [A6, B6, dbody, dexec, ostep, dop, ev, put, wants, dbin, dun, List.replicate, Nat.reduceAdd, Nat.reduceSub, Nat.reduceLT, Nat.reduceLeDiff, Nat.reduceMul, DV.cells, DV.flat, dload, DV.elems, reduceCtorEq, mask, DV.lows, DV.low, DV.coe, DV.isD, dresults, dresult, withHeap, lowCells, LSt.isReady, srcElems, DV.int, DV.mkAgg, same, mnmx2, nilness, bound, fill, flatCells, Int.reduceLE, Int.reduceLT, Int.reduceAdd, Int.reduceSub, Int.reduceNeg, Int.reduceEq, Int.reduceBEq, Int.reduceBNe, Nat.reduceBEq, Nat.reduceEqDiff, Int.reduceToNat, allocCells, stp, g1', g2', hm, hz4, hp, u1, u2, u3, u4, u5, e12, eA, eB, eC, eD, sAB, f0, fa, fa', fc, fc', fi, fj, putCells]
            | false =>
              have hu : (ea == 1 || ec == 1) = true := by
                rcases x3 (.inr hne) with h | h | h | h
                · simp [h] at fi
                · simp [h.2] at fj
                · simp [h]
                · simp [h]
              rw [hu] at eU
              simp -implicitDefEqProofs only [A6, B6, dbody, dexec, ostep, dop, ev, put, wants, dbin, dun, List.replicate, Nat.reduceAdd, Nat.reduceSub, Nat.reduceLT, Nat.reduceLeDiff, Nat.reduceMul, DV.cells, DV.flat, dload, DV.elems, reduceCtorEq, mask, DV.lows, DV.low, DV.coe, DV.isD, dresults, dresult, withHeap, lowCells, LSt.isReady, srcElems, DV.int, DV.mkAgg, same, mnmx2, nilness, bound, fill, flatCells, Int.reduceLE, Int.reduceLT, Int.reduceAdd, Int.reduceSub, Int.reduceNeg, Int.reduceEq, Int.reduceBEq, Int.reduceBNe, Nat.reduceBEq, Nat.reduceEqDiff, Int.reduceToNat, allocCells, stp, g1', g2', hm, hz4, hp, u1, u2, u3, u4, u5, e12, eA, eB, eC, eD, sAB, eU, f0, fa, fa', fc, fc', fi, fj, putCells]
        | true =>
          have fc' : (ec != 0) = false := by simp [bne, fc]
          obtain ⟨y1, y2, y3, y4, y5⟩ := x4 he (eq_of_beq fc)
          have s1 := fun h => same_ok (A.take (A.length - 1)) (Dd.take (A.length - 1)) false (by simp; omega) h
          have s2 := fun h => same_ok C (Dd.drop (A.length - 1)) false (by omega) h
          rw [y4] at s1
          rw [y5] at s2
          have t1 : encT (A.take (A.length - 1)) = (encT A).take (A.length - 1) := by simp [encT]
          have t2 : encT (Dd.take (A.length - 1)) = (encT Dd).take (A.length - 1) := by simp [encT]
          have t3 : encT (Dd.drop (A.length - 1)) = (encT Dd).drop (A.length - 1) := by simp [encT]
          rw [t1, t2] at s1
          rw [t3] at s2
          have kA : (encT A).length = A.length := by simp [encT]
          have kC : (encT C).length = C.length := by simp [encT]
          have kD : (encT Dd).length = A.length - 1 + C.length := by rw [← y3]; simp [encT]
          have w1 : IntKind.i64.wrap ((A.length : Int) - 1) = ((A.length - 1 : Nat) : Int) := by rw [wrap_i64 (by omega) (by omega)]; omega
          have w2 : IntKind.i64.wrap (((A.length - 1 : Nat) : Int) + (C.length : Int)) = ((A.length - 1 + C.length : Nat) : Int) := by rw [wrap_i64 (by omega) (by omega)]; simp
          have g0 : (0 : Int) < A.length := by omega
          have q1 : ((A.length - 1 : Nat) : Int) ≤ (A.length : Int) := by omega
          have q2 : ((A.length - 1 : Nat) : Int) ≤ ((A.length - 1 + C.length : Nat) : Int) := by omega
          have fq : (((A.length - 1 + C.length : Nat) : Int) == ((A.length - 1 + C.length : Nat) : Int)) = true := by simp
          have tD : (encT Dd).take (A.length - 1 + C.length) = encT Dd := List.take_of_length_le (by omega)
          generalize encT A = eAA at *
          generalize encT C = eCC at *
          generalize encT Dd = eDD at *
          simp -implicitDefEqProofs only [A6, B6, dbody, dexec, ostep, dop, ev, put, wants, dbin, dun, List.replicate, Nat.reduceAdd, Nat.reduceSub, Nat.reduceLT, Nat.reduceLeDiff, Nat.reduceMul, DV.cells, DV.flat, dload, DV.elems, reduceCtorEq, mask, DV.lows, DV.low, DV.coe, DV.isD, dresults, dresult, withHeap, lowCells, LSt.isReady, srcElems, DV.int, DV.mkAgg, same, mnmx2, nilness, bound, fill, flatCells, Int.reduceLE, Int.reduceLT, Int.reduceAdd, Int.reduceSub, Int.reduceNeg, Int.reduceEq, Int.reduceBEq, Int.reduceBNe, Nat.reduceBEq, Nat.reduceEqDiff, Int.reduceToNat, allocCells, stp, g1', g2', hm, hz4, hp, u1, u2, u3, u4, u5, e12, eA, eB, eC, eD, sAB, f0, fa, fa', fc, fc', kA, kC, kD, w1, w2, g0, q1, q2, fq, tD, s1, s2, List.drop_zero, putCells]
    · have g2' : (800 : Int) < t.size := by omega
      simp -implicitDefEqProofs only [A6, B6, dbody, dexec, ostep, dop, ev, put, wants, dbin, dun, List.replicate, Nat.reduceAdd, Nat.reduceSub, Nat.reduceLT, Nat.reduceLeDiff, Nat.reduceMul, DV.cells, DV.flat, dload, DV.elems, reduceCtorEq, mask, DV.lows, DV.low, DV.coe, DV.isD, dresults, dresult, withHeap, lowCells, LSt.isReady, srcElems, DV.int, DV.mkAgg, same, mnmx2, nilness, bound, fill, flatCells, Int.reduceLE, Int.reduceLT, Int.reduceAdd, Int.reduceSub, Int.reduceNeg, Int.reduceEq, Int.reduceBEq, Int.reduceBNe, Nat.reduceBEq, Nat.reduceEqDiff, Int.reduceToNat, allocCells, stp, g1', g2', e12]
  · have g1' : (800 : Int) < s.size := by omega
    simp -implicitDefEqProofs only [A6, B6, dbody, dexec, ostep, dop, ev, put, wants, dbin, dun, List.replicate, Nat.reduceAdd, Nat.reduceSub, Nat.reduceLT, Nat.reduceLeDiff, Nat.reduceMul, DV.cells, DV.flat, dload, DV.elems, reduceCtorEq, mask, DV.lows, DV.low, DV.coe, DV.isD, dresults, dresult, withHeap, lowCells, LSt.isReady, srcElems, DV.int, DV.mkAgg, same, mnmx2, nilness, bound, fill, flatCells, Int.reduceLE, Int.reduceLT, Int.reduceAdd, Int.reduceSub, Int.reduceNeg, Int.reduceEq, Int.reduceBEq, Int.reduceBNe, Nat.reduceBEq, Nat.reduceEqDiff, Int.reduceToNat, allocCells, stp, g1', e12]
end Go.Proofs.YtoadpaaghjomnaaDoor.Codes
