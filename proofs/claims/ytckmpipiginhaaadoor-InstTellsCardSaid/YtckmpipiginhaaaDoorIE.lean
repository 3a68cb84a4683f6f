/-
  How many numbers an instruction has; an instruction as a text.
  Conditions: none.
-/
import Derived.Test.YtckmpipiginhaaaDoorID
import Derived.Lib.ItoaLen
set_option linter.unusedVariables false
set_option linter.unusedSimpArgs false
set_option maxRecDepth 100000
namespace Go.Proofs.YtckmpipiginhaaaDoor.Codes
open Go Go.Deepv

def numsV (r : Row) : Int := if r.l0 = 0 ∧ r.m0 = 0 then 0 else if r.l1 = 0 ∧ r.m1 = 0 then 1 else if r.l2 = 0 ∧ r.m2 = 0 then 2 else 3
theorem wrap1 : IntKind.i64.wrap 1 = 1 := by decide
theorem wrap2 : IntKind.i64.wrap 2 = 2 := by decide
theorem wrap3 : IntKind.i64.wrap 3 = 3 := by decide
set_option maxHeartbeats 4000000 in
theorem numbers_ok (r : Row) (h : List Res) : D env 27 [.d (.agg r.enc)] h = some (.val (.d (.int .i64 (numsV r))) h) := by
  rw [D_dat (F := A27) rfl rfl rfl rfl]
  simp (maxSteps := 9999999) -implicitDefEqProofs only [A27, B27, Row.enc, L_go, B27L2, eqCells, eqFV, wrap1, wrap2, wrap3, unnil, keyOk, keyEq, findE, appVec, slk, agreeS, idxS, keepS, lowS, dbin, dun, List.replicate, DV.cells, DV.flat, dload, DV.elems, reduceCtorEq, DV.lows, DV.low, DV.coe, DV.isD, dresults, dresult, withHeap, lowCells, LSt.isReady, srcElems, DV.int, DV.mkAgg, same, mnmx2, nilness, bound, fill, flatCells, allocCells, putCells, splitG, onG, insD, memD, seval, ↓joinK_t, ↓joinK_f, ↓reduceIte, stq]
  unfold numsV
  repeat' split
  all_goals simp_all
theorem numsV_cases (r : Row) : numsV r = 0 ∨ numsV r = 1 ∨ numsV r = 2 ∨ numsV r = 3 := by
  unfold numsV
  repeat' split
  all_goals simp

def itoaB (n : Int) : ByteArray := ⟨(Lib.itoa n).toArray⟩
def sp1 : ByteArray := ⟨#[32]⟩
def wordsV (o a b c : Int) : List ByteArray := (ofV o a b c).1.nm :: ([a, b, c].take (numsV (ofV o a b c).1).toNat).map itoaB
def showV (o a b c : Int) : ByteArray := if fitV o a b c = true then joined (wordsV o a b c) sp1 else ⟨#[]⟩
def strsF (l : List ByteArray) : List (List FV) := l.map fun x => [.str x]
theorem strs_map : ∀ l : List ByteArray, strs (strsF l) = some l
  | [] => rfl
  | x :: l => by simp only [strsF, List.map_cons, strs]; rw [show l.map (fun x => [FV.str x]) = strsF l from rfl, strs_map l]; rfl
theorem itoa_ok {n : Int} (h1 : -9223372036854775808 ≤ n) (h2 : n ≤ 9223372036854775807) (h : List Res) : D env 33 [.d (.int .i64 n)] h = some (.val (.d (.str (itoaB n))) h) := by
  rw [D_ext (F := xItoa) rfl]
  simp [xItoa, h1, h2, itoaB]
theorem join_ok (l : List ByteArray) (hs : (Lib.join (l.map (·.data.toList)) sp1.data.toList).length ≤ 140737488355328) (hl : l.length ≤ 140737488355328) (t : Nat) (h : List Res) : D env 34 [.row 1 (strsF l) t, .d (.str sp1)] h = some (.val (.d (.str (joined l sp1))) h) := by
  rw [D_ext (F := xJoin) rfl]
  simp only [xJoin, List.map_cons, List.map_nil, DV.coe, strs_map]
  rw [if_pos ⟨hs, hl⟩]
theorem rows_bounds : ∀ r ∈ rowsT, numL ≤ r.l0 ∧ r.m0 ≤ numM ∧ numL ≤ r.l1 ∧ r.m1 ≤ numM ∧ numL ≤ r.l2 ∧ r.m2 ≤ numM ∧ r.nm.size ≤ 10 := by decide
theorem ofV_true {o a b c : Int} (h : (ofV o a b c).2 = true) : ∃ r, rowOf o = some r ∧ r ∈ rowsT ∧ fitR r a b c = true ∧ ofV o a b c = (r, true) := by
  unfold ofV at h ⊢
  split at h
  · rename_i r hr
    split at h
    · rename_i hf
      refine ⟨r, hr, ?_, hf, if_pos hf⟩
      unfold rowOf at hr
      split at hr
      · exact List.mem_of_getElem? hr
      · cases hr
    · cases h
  · cases h
theorem fit_bounds {o a b c : Int} (h : (ofV o a b c).2 = true) : (numL ≤ a ∧ a ≤ numM) ∧ (numL ≤ b ∧ b ≤ numM) ∧ (numL ≤ c ∧ c ≤ numM) ∧ (ofV o a b c).1.nm.size ≤ 10 := by
  obtain ⟨r, hr, hm, hf, he⟩ := ofV_true h
  have hb := rows_bounds r hm
  rw [he]
  simp [fitR, spanB] at hf
  simp only
  omega
theorem itoa_size (n : Int) (h1 : numL ≤ n) (h2 : n ≤ numM) : (Lib.itoa n).length ≤ 21 := Lib.itoa_length_le n (by unfold numL at h1; omega) (by unfold numM at h2; omega)
set_option maxHeartbeats 4000000 in
theorem show_ok (o a b c : Int) (h : List Res) : D env 15 [.d (.agg [.int .i64 o, .int .i64 a, .int .i64 b, .int .i64 c])] h = some (.val (.d (.str (showV o a b c))) h) := by
  have e18 := fun h => of_ok o a b c h
  have e27 := fun h => numbers_ok (ofV o a b c).1 h
  have hn := numsV_cases (ofV o a b c).1
  have hv : showV o a b c = if (ofV o a b c).2 = true then joined (wordsV o a b c) sp1 else ⟨#[]⟩ := rfl
  rw [hv]
  unfold wordsV
  cases hf : (ofV o a b c).2 with
  | false =>
    rw [hf] at e18
    simp only [Row.enc] at e18
    rw [D_dat (F := A15) rfl rfl rfl rfl]
    simp (maxSteps := 9999999) -implicitDefEqProofs only [A15, B15, e18, unnil, keyOk, keyEq, findE, appVec, slk, agreeS, idxS, keepS, lowS, dbin, dun, List.replicate, DV.cells, DV.flat, dload, DV.elems, reduceCtorEq, DV.lows, DV.low, DV.coe, DV.isD, dresults, dresult, withHeap, lowCells, LSt.isReady, srcElems, DV.int, DV.mkAgg, same, mnmx2, nilness, bound, fill, flatCells, allocCells, putCells, splitG, onG, insD, memD, seval, ↓joinK_t, ↓joinK_f, ↓reduceIte, stq]
  | true =>
    obtain ⟨ha, hb, hc, hnm⟩ := fit_bounds hf
    have ia := fun h => itoa_ok (n := a) (by unfold numL at ha; omega) (by unfold numM at ha; omega) h
    have ib := fun h => itoa_ok (n := b) (by unfold numL at hb; omega) (by unfold numM at hb; omega) h
    have ic := fun h => itoa_ok (n := c) (by unfold numL at hc; omega) (by unfold numM at hc; omega) h
    have la := itoa_size a ha.1 ha.2
    have lb := itoa_size b hb.1 hb.2
    have lc := itoa_size c hc.1 hc.2
    rw [hf] at e18
    generalize (ofV o a b c).1 = r at *
    have hnm : r.nm.data.toList.length ≤ 10 := hnm
    have j := fun l hs hl h => join_ok l hs hl 1 h
    have j1 := j [r.nm] (by simp [Lib.join, List.intercalate]; omega) (by simp)
    have j2 := j [r.nm, itoaB a] (by simp [Lib.join, List.intercalate, itoaB, sp1]; omega) (by simp)
    have j3 := j [r.nm, itoaB a, itoaB b] (by simp [Lib.join, List.intercalate, itoaB, sp1]; omega) (by simp)
    have j4 := j [r.nm, itoaB a, itoaB b, itoaB c] (by simp [Lib.join, List.intercalate, itoaB, sp1]; omega) (by simp)
    simp only [strsF, sp1, List.map_cons, List.map_nil] at j1 j2 j3 j4
    simp only [Row.enc] at e18 e27
    rcases hn with hn | hn | hn | hn
    all_goals
      rw [hn] at e27
      rw [hn]
      rw [D_dat (F := A15) rfl rfl rfl rfl]
      simp (maxSteps := 9999999) -implicitDefEqProofs only [A15, B15, e18, e27, all_ok, L_go, B15L6, appRow, wrap1, wrap2, wrap3, ia, ib, ic, j1, j2, j3, j4, unnil, keyOk, keyEq, findE, appVec, slk, agreeS, idxS, keepS, lowS, dbin, dun, List.replicate, DV.cells, DV.flat, dload, DV.elems, reduceCtorEq, DV.lows, DV.low, DV.coe, DV.isD, dresults, dresult, withHeap, lowCells, LSt.isReady, srcElems, DV.int, DV.mkAgg, same, mnmx2, nilness, bound, fill, flatCells, allocCells, putCells, splitG, onG, insD, memD, seval, ↓joinK_t, ↓joinK_f, ↓reduceIte, stq]
      try rfl
end Go.Proofs.YtckmpipiginhaaaDoor.Codes
