/-
  What waited ahead of each event (function 15).
  Conditions: none.
-/
import Derived.Test.YtpemlmhggiaflaaGreatDoorCodes
import Derived.Test.YtpemlmhggiaflaaGreatDoorDZ
set_option linter.unusedVariables false
set_option linter.unusedSimpArgs false
set_option maxRecDepth 100000
namespace Go.Proofs.YtpemlmhggiaflaaGreatDoor.Codes
open Go Go.Deepv

structure Rsp where
  k : Int
  s : Int
  n : Int
  b : List (List FV)
def Rsp.enc (r : Rsp) : List FV := [.int .i64 r.k, .int .i64 r.s, .int .i64 r.n, .slice 1 r.b]
def rspF (l : List Rsp) : List (List FV) := l.map Rsp.enc
def intsF (l : List Int) : List (List FV) := l.map fun n => [.int .i64 n]
/-- How many waited ahead of each event. -/
def waitsG : List Rsp → Int → List Int
  | [], _ => []
  | r :: l, n => if r.k = 0 ∨ r.k = 4 then max n 0 :: waitsG l (n + 1) else if r.k = 9 then waitsG l (n - 1) else waitsG l n
def waitsV (l : List Rsp) : List Int := waitsG l 0
def row15 (l : List Int) : Res := if l = [] then .nilrow else .row 1 l.length 0
def st15 (rs : List Rsp) (out : List Int) (n : Int) (i : Nat) : List DV := den 31 [(3, .row 1 (intsF out) 0), (4, .d (.int .i64 n)), (7, .d (.slice 4 (rspF rs))), (8, .d (.int .i64 (rs.length : Int))), (9, .d (.int .i64 (i : Int)))]
theorem app15 (out : List Int) (m : Int) (rest : List Res) (ho : out.length ≤ 100000) : appRow 1 8 (DV.row 1 (intsF out) 0) (some (1, [[FV.int .i64 m]])) (row15 out :: rest) = some (.val (.row 1 (intsF (out ++ [m])) 0) (row15 (out ++ [m]) :: rest)) := by
  have hl : (intsF out).length = out.length := by simp [intsF]
  unfold appRow row15
  by_cases h : out = []
  · subst h
    simp [intsF]
  · simp [h, hl, intsF]
    omega
set_option maxHeartbeats 4000000 in
theorem loop15 (rs : List Rsp) (hr : rs.length ≤ 100000) : ∃ K, L env 1 true H15L4 X15L4 B15L4 = K ∧ ∀ (l : List Rsp) (i : Nat) (out : List Int) (n : Int), rs.drop i = l → i ≤ rs.length → -(i : Int) ≤ n → n ≤ i → out.length ≤ i →
    K (st15 rs out n i) [row15 out] = some (.exit 0, den 31 [(3, .row 1 (intsF (out ++ waitsG l n)) 0)], [row15 (out ++ waitsG l n)]) := by
  obtain ⟨K, hK⟩ : ∃ K, L env 1 true H15L4 X15L4 B15L4 = K := ⟨_, rfl⟩
  refine ⟨K, hK, ?_⟩
  intro l
  induction l with
  | nil =>
    intro i out n hl hi h1 h2 h3
    have : rs.length ≤ i := List.drop_eq_nil_iff.1 hl
    have e2 : ¬ (i : Int) < (rs.length : Int) := by omega
    rw [L_rnd hK]
    simp (maxSteps := 9999999) -implicitDefEqProofs only [st15, B15L4, e2, waitsG, List.append_nil, unnil, keyOk, keyEq, findE, appVec, slk, agreeS, idxS, keepS, lowS, dbin, dun, List.replicate, DV.cells, DV.flat, dload, DV.elems, reduceCtorEq, DV.lows, DV.low, DV.coe, DV.isD, dresults, dresult, withHeap, lowCells, LSt.isReady, srcElems, DV.int, DV.mkAgg, same, mnmx2, nilness, bound, fill, flatCells, allocCells, putCells, splitG, onG, insD, memD, seval, ↓joinK_t, ↓joinK_f, ↓reduceIte, stq]
  | cons r l ih =>
    intro i out n hl hi h1 h2 h3
    have hlt : i < rs.length := by
      rcases Nat.lt_or_ge i rs.length with h | h
      · exact h
      · rw [List.drop_eq_nil_of_le h] at hl; cases hl
    have hx : rs[i]? = some r := by
      have := congrArg (fun l => l[0]?) hl
      simpa using this
    have hd : rs.drop (i + 1) = l := by
      rw [← List.drop_drop, hl]; rfl
    have e2 : (i : Int) < (rs.length : Int) := by omega
    have gx : (rspF rs)[i]? = some r.enc := by simp [rspF, hx]
    have gl : (rspF rs).length = rs.length := by simp [rspF]
    have w1 : IntKind.i64.wrap ((i : Int) + 1) = ((i + 1 : Nat) : Int) := by rw [wrap_i64 (by omega) (by omega)]; omega
    by_cases c0 : r.k = 0 ∨ r.k = 4
    · have w2 : IntKind.i64.wrap (n + 1) = n + 1 := wrap_i64 (by omega) (by omega)
      have ih := ih (i + 1) (out ++ [if n < 0 then 0 else n]) (n + 1) hd (by omega) (by omega) (by omega) (by simp; omega)
      have ap := fun rest => app15 out (if n < 0 then 0 else n) rest (by omega)
      have mx : max n 0 = if n < 0 then 0 else n := by split <;> omega
      simp only [st15] at ih
      by_cases c1 : r.k = 0
      · rw [L_rnd hK]
        simp (maxSteps := 9999999) -implicitDefEqProofs only [st15, B15L4, e2, gx, gl, Rsp.enc, c1, w1, w2, ap, ih, waitsG, mx, unnil, keyOk, keyEq, findE, appVec, slk, agreeS, idxS, keepS, lowS, dbin, dun, List.replicate, DV.cells, DV.flat, dload, DV.elems, reduceCtorEq, DV.lows, DV.low, DV.coe, DV.isD, dresults, dresult, withHeap, lowCells, LSt.isReady, srcElems, DV.int, DV.mkAgg, same, mnmx2, nilness, bound, fill, flatCells, allocCells, putCells, splitG, onG, insD, memD, seval, ↓joinK_t, ↓joinK_f, ↓reduceIte, stq]
      · have c4 : r.k = 4 := by omega
        rw [L_rnd hK]
        simp (maxSteps := 9999999) -implicitDefEqProofs only [st15, B15L4, e2, gx, gl, Rsp.enc, c4, w1, w2, ap, ih, waitsG, mx, unnil, keyOk, keyEq, findE, appVec, slk, agreeS, idxS, keepS, lowS, dbin, dun, List.replicate, DV.cells, DV.flat, dload, DV.elems, reduceCtorEq, DV.lows, DV.low, DV.coe, DV.isD, dresults, dresult, withHeap, lowCells, LSt.isReady, srcElems, DV.int, DV.mkAgg, same, mnmx2, nilness, bound, fill, flatCells, allocCells, putCells, splitG, onG, insD, memD, seval, ↓joinK_t, ↓joinK_f, ↓reduceIte, stq]
    · have n0 : ¬ r.k = 0 := fun h => c0 (.inl h)
      have n4 : ¬ r.k = 4 := fun h => c0 (.inr h)
      by_cases c9 : r.k = 9
      · have w2 : IntKind.i64.wrap (n - 1) = n - 1 := wrap_i64 (by omega) (by omega)
        have ih := ih (i + 1) out (n - 1) hd (by omega) (by omega) (by omega) (by omega)
        simp only [st15] at ih
        rw [L_rnd hK]
        simp (maxSteps := 9999999) -implicitDefEqProofs only [st15, B15L4, e2, gx, gl, Rsp.enc, c9, w1, w2, ih, waitsG, unnil, keyOk, keyEq, findE, appVec, slk, agreeS, idxS, keepS, lowS, dbin, dun, List.replicate, DV.cells, DV.flat, dload, DV.elems, reduceCtorEq, DV.lows, DV.low, DV.coe, DV.isD, dresults, dresult, withHeap, lowCells, LSt.isReady, srcElems, DV.int, DV.mkAgg, same, mnmx2, nilness, bound, fill, flatCells, allocCells, putCells, splitG, onG, insD, memD, seval, ↓joinK_t, ↓joinK_f, ↓reduceIte, stq]
      · have ih := ih (i + 1) out n hd (by omega) (by omega) (by omega) (by omega)
        simp only [st15] at ih
        rw [L_rnd hK]
        simp (maxSteps := 9999999) -implicitDefEqProofs only [st15, B15L4, e2, gx, gl, Rsp.enc, n0, n4, c9, w1, ih, waitsG, unnil, keyOk, keyEq, findE, appVec, slk, agreeS, idxS, keepS, lowS, dbin, dun, List.replicate, DV.cells, DV.flat, dload, DV.elems, reduceCtorEq, DV.lows, DV.low, DV.coe, DV.isD, dresults, dresult, withHeap, lowCells, LSt.isReady, srcElems, DV.int, DV.mkAgg, same, mnmx2, nilness, bound, fill, flatCells, allocCells, putCells, splitG, onG, insD, memD, seval, ↓joinK_t, ↓joinK_f, ↓reduceIte, stq]
set_option maxHeartbeats 4000000 in
theorem waits_ok (rs : List Rsp) (hr : rs.length ≤ 100000) (h : List Res) : D env 15 [.d (.slice 4 (rspF rs))] h = some (.val (.d (.slice 1 (intsF (waitsV rs)))) h) := by
  obtain ⟨K, hK, hk⟩ := loop15 rs hr
  have e := hk rs 0 [] 0 rfl (by omega) (by omega) (by omega) (by simp)
  have gl : (rspF rs).length = rs.length := by simp [rspF]
  simp only [st15, List.nil_append] at e
  have e : K (den 31 [(3, .row 1 [] 0), (4, .d (.int .i64 0)), (7, .d (.slice 4 (rspF rs))), (8, .d (.int .i64 (rs.length : Int))), (9, .d (.int .i64 0))]) [.nilrow] = _ := e
  rw [D_dat (F := A15) rfl rfl rfl rfl]
  simp (maxSteps := 9999999) -implicitDefEqProofs only [A15, B15, gl, hK, e, unnil, keyOk, keyEq, findE, appVec, slk, agreeS, idxS, keepS, lowS, dbin, dun, List.replicate, DV.cells, DV.flat, dload, DV.elems, reduceCtorEq, DV.lows, DV.low, DV.coe, DV.isD, dresults, dresult, withHeap, lowCells, LSt.isReady, srcElems, DV.int, DV.mkAgg, same, mnmx2, nilness, bound, fill, flatCells, allocCells, putCells, splitG, onG, insD, memD, seval, ↓joinK_t, ↓joinK_f, ↓reduceIte, stq]
  rfl
end Go.Proofs.YtpemlmhggiaflaaGreatDoor.Codes
