/-
  The reference: digits, names, texts of instructions, rows of numbers.
  Conditions: none.
-/
import Derived.Test.YtckmpipiginhaaaDoorIJ
set_option linter.unusedVariables false
set_option linter.unusedSimpArgs false
set_option maxRecDepth 100000
namespace Go.Proofs.YtckmpipiginhaaaDoor.Codes
open Go Go.Deepv

def decB (u : Nat) : ByteArray := ⟨(Lib.decDigits u).toArray⟩
theorem decB_size {u : Nat} (h : u ≤ 4611686018427387904) : (decB u).size ≤ 21 := by
  have := Lib.itoa_length_le (u : Int) (by omega) (by omega)
  rw [Lib.itoa_nonneg] at this
  exact this
theorem decB_app {u : Nat} (h : ¬ u < 10) : decB (u / 10) ++ decB (u % 10) = decB u := by
  apply ByteArray.ext
  rw [ByteArray.data_append]
  have e : Lib.decDigits u = Lib.decDigits (u / 10) ++ Lib.decDigits (u % 10) := by
    conv => lhs; rw [Lib.decDigits, dif_neg h]
    rw [Lib.decDigits_one (i := u % 10) (by omega)]
  unfold decB
  rw [e]
  simp
theorem wrap_id {n : Int} (h1 : -9223372036854775808 ≤ n) (h2 : n < 9223372036854775808) : IntKind.i64.wrap n = n := by
  rw [wrap_i64 h1 h2]
theorem one_num {n : Nat} (h : n < 10) : numsOf [[FV.int .u8 (IntKind.u8.wrap (IntKind.i64.wrap (48 + (n : Int))))]] = some [48 + (n : Int)] := by
  have : ∀ n, n < 10 → numsOf [[FV.int .u8 (IntKind.u8.wrap (IntKind.i64.wrap (48 + ((n : Nat) : Int))))]] = some [48 + (n : Int)] := by decide
  exact this n h
theorem one_str {n : Nat} (h : n < 10) : strOfNums [48 + (n : Int)] = decB n := by
  have : ∀ n, n < 10 → (strOfNums [48 + ((n : Nat) : Int)]).data.toList = [UInt8.ofNat (48 + n)] := by decide
  apply ByteArray.ext
  apply Array.ext'
  rw [this n h]
  unfold decB
  rw [Lib.decDigits_one h]
set_option maxHeartbeats 4000000 in
theorem digN_ok : ∀ (k u : Nat), u ≤ k → u ≤ 4611686018427387904 → ∀ h : List Res, D env 35 [.d (.int .i64 (u : Int))] h = some (.val (.d (.str (decB u))) h) := by
  intro k
  induction k with
  | zero =>
    intro u h1 h2 h
    have : u = 0 := by omega
    subst this
    have e1 : numsOf [[FV.int .u8 48]] = some [48] := rfl
    have e2 : strOfNums [48] = decB 0 := one_str (n := 0) (by omega)
    rw [D_dat (F := A35) rfl rfl rfl rfl]
    simp (maxSteps := 9999999) -implicitDefEqProofs only [A35, B35, Int.ofNat_zero, e1, e2, unnil, keyOk, keyEq, findE, appVec, slk, agreeS, idxS, keepS, lowS, dbin, dun, List.replicate, DV.cells, DV.flat, dload, DV.elems, reduceCtorEq, DV.lows, DV.low, DV.coe, DV.isD, dresults, dresult, withHeap, lowCells, LSt.isReady, srcElems, DV.int, DV.mkAgg, same, mnmx2, nilness, bound, fill, flatCells, allocCells, putCells, splitG, onG, insD, memD, seval, ↓joinK_t, ↓joinK_f, ↓reduceIte, stq]
  | succ k ih =>
    intro u h1 h2 h
    have q1 : (u : Int).tdiv 10 = ((u / 10 : Nat) : Int) := by rw [Int.tdiv_eq_ediv_of_nonneg (by omega)]; omega
    have q2 : (u : Int).tmod 10 = ((u % 10 : Nat) : Int) := by rw [Int.tmod_eq_emod_of_nonneg (by omega)]; omega
    have w1 : IntKind.i64.wrap ((u / 10 : Nat) : Int) = ((u / 10 : Nat) : Int) := wrap_id (by omega) (by omega)
    have w2 : IntKind.i64.wrap ((u % 10 : Nat) : Int) = ((u % 10 : Nat) : Int) := wrap_id (by omega) (by omega)
    have n0 : ¬ (u : Int) < 0 := by omega
    by_cases h9 : (9 : Int) < u
    · have i1 := fun h => ih (u / 10) (by omega) (by omega) h
      have i2 := fun h => ih (u % 10) (by omega) (by omega) h
      have b1 := decB_size (u := u / 10) (by omega)
      have b2 := decB_size (u := u % 10) (by omega)
      rw [D_dat (F := A35) rfl rfl rfl rfl]
      simp (maxSteps := 9999999) -implicitDefEqProofs only [A35, B35, n0, h9, q1, q2, w1, w2, i1, i2, unnil, keyOk, keyEq, findE, appVec, slk, agreeS, idxS, keepS, lowS, dbin, dun, List.replicate, DV.cells, DV.flat, dload, DV.elems, reduceCtorEq, DV.lows, DV.low, DV.coe, DV.isD, dresults, dresult, withHeap, lowCells, LSt.isReady, srcElems, DV.int, DV.mkAgg, same, mnmx2, nilness, bound, fill, flatCells, allocCells, putCells, splitG, onG, insD, memD, seval, ↓joinK_t, ↓joinK_f, ↓reduceIte, stq]
      rw [if_pos (by omega), decB_app (by omega)]
    · have e1 := one_num (n := u) (by omega)
      have e2 := one_str (n := u) (by omega)
      rw [D_dat (F := A35) rfl rfl rfl rfl]
      simp (maxSteps := 9999999) -implicitDefEqProofs only [A35, B35, n0, h9, e1, e2, unnil, keyOk, keyEq, findE, appVec, slk, agreeS, idxS, keepS, lowS, dbin, dun, List.replicate, DV.cells, DV.flat, dload, DV.elems, reduceCtorEq, DV.lows, DV.low, DV.coe, DV.isD, dresults, dresult, withHeap, lowCells, LSt.isReady, srcElems, DV.int, DV.mkAgg, same, mnmx2, nilness, bound, fill, flatCells, allocCells, putCells, splitG, onG, insD, memD, seval, ↓joinK_t, ↓joinK_f, ↓reduceIte, stq]
theorem itoaB_pos (u : Nat) : itoaB (u : Int) = decB u := by unfold itoaB decB; rw [Lib.itoa_nonneg]
set_option maxHeartbeats 4000000 in
theorem digits_ok {n : Int} (h1 : numL ≤ n) (h2 : n ≤ numM) (h : List Res) : D env 35 [.d (.int .i64 n)] h = some (.val (.d (.str (itoaB n))) h) := by
  unfold numL at h1
  unfold numM at h2
  by_cases h0 : n < 0
  · obtain ⟨u, rfl⟩ : ∃ u : Nat, n = -(u : Int) := ⟨n.natAbs, by omega⟩
    have w1 : IntKind.i64.wrap (u : Int) = (u : Int) := wrap_id (by omega) (by omega)
    have i1 := fun h => digN_ok u u (by omega) (by omega) h
    have b1 := decB_size (u := u) (by omega)
    have e : (⟨#[45]⟩ : ByteArray) ++ decB u = itoaB (-(u : Int)) := by
      apply ByteArray.ext
      rw [ByteArray.data_append]
      unfold decB itoaB
      rw [Lib.itoa_neg u (by omega)]
      simp
    rw [D_dat (F := A35) rfl rfl rfl rfl]
    simp (maxSteps := 9999999) -implicitDefEqProofs only [A35, B35, h0, Int.zero_sub, Int.neg_neg, w1, i1, unnil, keyOk, keyEq, findE, appVec, slk, agreeS, idxS, keepS, lowS, dbin, dun, List.replicate, DV.cells, DV.flat, dload, DV.elems, reduceCtorEq, DV.lows, DV.low, DV.coe, DV.isD, dresults, dresult, withHeap, lowCells, LSt.isReady, srcElems, DV.int, DV.mkAgg, same, mnmx2, nilness, bound, fill, flatCells, allocCells, putCells, splitG, onG, insD, memD, seval, ↓joinK_t, ↓joinK_f, ↓reduceIte, stq]
    rw [if_pos (by have : (⟨#[45]⟩ : ByteArray).size = 1 := rfl; omega), e]
  · obtain ⟨u, rfl⟩ : ∃ u : Nat, n = (u : Int) := ⟨n.natAbs, by omega⟩
    rw [itoaB_pos]
    exact digN_ok u u (by omega) (by omega) h
set_option maxHeartbeats 4000000 in
theorem name_ok (k : Nat) (hk : k < 16) {r : Row} (hr : rowsT[k]? = some r) (h : List Res) : D env 30 [.d (.int .i64 (k : Int))] h = some (.val (.d (.tup [.str r.nm, .int .i64 (numsV r)])) h) := by
  match k, hk with
  | 0, _ | 1, _ | 2, _ | 3, _ | 4, _ | 5, _ | 6, _ | 7, _ | 8, _ | 9, _ | 10, _ | 11, _ | 12, _ | 13, _ | 14, _ | 15, _ =>
    simp only [rowsT, List.getElem?_cons_zero, List.getElem?_cons_succ, Option.some.injEq] at hr
    subst hr
    rw [D_dat (F := A30) rfl rfl rfl rfl]
    simp (maxSteps := 9999999) -implicitDefEqProofs only [A30, B30, unnil, keyOk, keyEq, findE, appVec, slk, agreeS, idxS, keepS, lowS, dbin, dun, List.replicate, DV.cells, DV.flat, dload, DV.elems, reduceCtorEq, DV.lows, DV.low, DV.coe, DV.isD, dresults, dresult, withHeap, lowCells, LSt.isReady, srcElems, DV.int, DV.mkAgg, same, mnmx2, nilness, bound, fill, flatCells, allocCells, putCells, splitG, onG, insD, memD, seval, ↓joinK_t, ↓joinK_f, ↓reduceIte, stq]
    rfl
theorem joined1 (x : ByteArray) : joined [x] sp1 = x := by
  apply ByteArray.ext
  simp [joined, Lib.join, List.intercalate]
theorem joinedC (x y : ByteArray) (l : List ByteArray) : joined (x :: y :: l) sp1 = x ++ ⟨#[32]⟩ ++ joined (y :: l) sp1 := by
  apply ByteArray.ext
  simp only [joined, ByteArray.data_append, List.map_cons]
  rw [show sp1.data.toList = [32] from rfl, join_cons2]
  simp
theorem joined2 (x y : ByteArray) : joined [x, y] sp1 = x ++ ⟨#[32]⟩ ++ y := by rw [joinedC, joined1]
theorem joined3 (x y z : ByteArray) : joined [x, y, z] sp1 = x ++ ⟨#[32]⟩ ++ y ++ ⟨#[32]⟩ ++ z := by rw [joinedC, joined2]; simp only [ByteArray.append_assoc]
theorem joined4 (x y z w : ByteArray) : joined [x, y, z, w] sp1 = x ++ ⟨#[32]⟩ ++ y ++ ⟨#[32]⟩ ++ z ++ ⟨#[32]⟩ ++ w := by rw [joinedC, joined3]; simp only [ByteArray.append_assoc]
set_option maxHeartbeats 4000000 in
theorem rshow_ok (o a b c : Int) (h : List Res) : D env 16 [.d (.agg [.int .i64 o, .int .i64 a, .int .i64 b, .int .i64 c])] h = some (.val (.d (.str (showV o a b c))) h) := by
  have e8 := fun h => rfit_ok o a b c h
  unfold showV
  cases hf : fitV o a b c with
  | false =>
    rw [hf] at e8
    rw [D_dat (F := A16) rfl rfl rfl rfl]
    simp (maxSteps := 9999999) -implicitDefEqProofs only [A16, B16, e8, unnil, keyOk, keyEq, findE, appVec, slk, agreeS, idxS, keepS, lowS, dbin, dun, List.replicate, DV.cells, DV.flat, dload, DV.elems, reduceCtorEq, DV.lows, DV.low, DV.coe, DV.isD, dresults, dresult, withHeap, lowCells, LSt.isReady, srcElems, DV.int, DV.mkAgg, same, mnmx2, nilness, bound, fill, flatCells, allocCells, putCells, splitG, onG, insD, memD, seval, ↓joinK_t, ↓joinK_f, ↓reduceIte, stq]
  | true =>
    rw [hf] at e8
    obtain ⟨ha, hb, hc, hnm⟩ := fit_bounds hf
    obtain ⟨r, hr, hm, hfr, he⟩ := ofV_true hf
    have hw : wordsV o a b c = r.nm :: ([a, b, c].take (numsV r).toNat).map itoaB := by unfold wordsV; rw [he]
    rw [he] at hnm
    have hnm : r.nm.size ≤ 10 := hnm
    have ho : ∃ k : Nat, k < 16 ∧ o = k ∧ rowsT[k]? = some r := by
      unfold rowOf at hr
      split at hr
      · exact ⟨o.toNat, by omega, by omega, hr⟩
      · cases hr
    obtain ⟨k, hk, rfl, hk2⟩ := ho
    have e30 := fun h => name_ok k hk hk2 h
    have ia := fun h => digits_ok ha.1 ha.2 h
    have ib := fun h => digits_ok hb.1 hb.2 h
    have ic := fun h => digits_ok hc.1 hc.2 h
    have la := itoa_size a ha.1 ha.2
    have lb := itoa_size b hb.1 hb.2
    have lc := itoa_size c hc.1 hc.2
    have z1 : (itoaB a).size = (Lib.itoa a).length := rfl
    have z2 : (itoaB b).size = (Lib.itoa b).length := rfl
    have z3 : (itoaB c).size = (Lib.itoa c).length := rfl
    have zs : (⟨#[32]⟩ : ByteArray).size = 1 := rfl
    rw [hw]
    rcases numsV_cases r with hn | hn | hn | hn
    all_goals
      rw [hn] at e30
      rw [hn]
      rw [D_dat (F := A16) rfl rfl rfl rfl]
      simp (maxSteps := 9999999) -implicitDefEqProofs only [A16, B16, e8, e30, L_go, B16L6, wrap1, wrap2, wrap3, ia, ib, ic, unnil, keyOk, keyEq, findE, appVec, slk, agreeS, idxS, keepS, lowS, dbin, dun, List.replicate, DV.cells, DV.flat, dload, DV.elems, reduceCtorEq, DV.lows, DV.low, DV.coe, DV.isD, dresults, dresult, withHeap, lowCells, LSt.isReady, srcElems, DV.int, DV.mkAgg, same, mnmx2, nilness, bound, fill, flatCells, allocCells, putCells, splitG, onG, insD, memD, seval, ↓joinK_t, ↓joinK_f, ↓reduceIte, stq]
      first
        | (rw [show joined (r.nm :: List.map itoaB (List.take (Int.toNat 0) [a, b, c])) sp1 = r.nm from joined1 _]; done)
        | (rw [joined1]; done)
        | (rw [joined1]; rfl)
        | (repeat' rw [if_pos (by simp only [ByteArray.size_append, z1, z2, z3, zs]; omega)])
          first | rw [joined2] | rw [joined3] | rw [joined4]
set_option maxHeartbeats 4000000 in
theorem ints_ok (l m : List Int) (hl : l.length ≤ 1) (hm : m.length ≤ 1) (h : List Res) : D env 17 [.d (.slice 1 (intsF l)), .d (.slice 1 (intsF m))] h = some (.val (.d (.bool (decide (l = m)))) h) := by
  match l, m, hl, hm with
  | [], [], _, _ =>
    rw [D_dat (F := A17) rfl rfl rfl rfl]
    simp (maxSteps := 9999999) -implicitDefEqProofs only [A17, B17, intsF, L_go, B17L4, wrap1, wrap2, unnil, keyOk, keyEq, findE, appVec, slk, agreeS, idxS, keepS, lowS, dbin, dun, List.replicate, DV.cells, DV.flat, dload, DV.elems, reduceCtorEq, DV.lows, DV.low, DV.coe, DV.isD, dresults, dresult, withHeap, lowCells, LSt.isReady, srcElems, DV.int, DV.mkAgg, same, mnmx2, nilness, bound, fill, flatCells, allocCells, putCells, splitG, onG, insD, memD, seval, ↓joinK_t, ↓joinK_f, ↓reduceIte, stq]
    try rfl
  | [], [b], _, _ =>
    rw [D_dat (F := A17) rfl rfl rfl rfl]
    simp (maxSteps := 9999999) -implicitDefEqProofs only [A17, B17, intsF, L_go, B17L4, wrap1, wrap2, unnil, keyOk, keyEq, findE, appVec, slk, agreeS, idxS, keepS, lowS, dbin, dun, List.replicate, DV.cells, DV.flat, dload, DV.elems, reduceCtorEq, DV.lows, DV.low, DV.coe, DV.isD, dresults, dresult, withHeap, lowCells, LSt.isReady, srcElems, DV.int, DV.mkAgg, same, mnmx2, nilness, bound, fill, flatCells, allocCells, putCells, splitG, onG, insD, memD, seval, ↓joinK_t, ↓joinK_f, ↓reduceIte, stq]
    try rfl
  | [a], [], _, _ =>
    rw [D_dat (F := A17) rfl rfl rfl rfl]
    simp (maxSteps := 9999999) -implicitDefEqProofs only [A17, B17, intsF, L_go, B17L4, wrap1, wrap2, unnil, keyOk, keyEq, findE, appVec, slk, agreeS, idxS, keepS, lowS, dbin, dun, List.replicate, DV.cells, DV.flat, dload, DV.elems, reduceCtorEq, DV.lows, DV.low, DV.coe, DV.isD, dresults, dresult, withHeap, lowCells, LSt.isReady, srcElems, DV.int, DV.mkAgg, same, mnmx2, nilness, bound, fill, flatCells, allocCells, putCells, splitG, onG, insD, memD, seval, ↓joinK_t, ↓joinK_f, ↓reduceIte, stq]
    try rfl
  | [a], [b], _, _ =>
    rw [D_dat (F := A17) rfl rfl rfl rfl]
    simp (maxSteps := 9999999) -implicitDefEqProofs only [A17, B17, intsF, L_go, B17L4, wrap1, wrap2, unnil, keyOk, keyEq, findE, appVec, slk, agreeS, idxS, keepS, lowS, dbin, dun, List.replicate, DV.cells, DV.flat, dload, DV.elems, reduceCtorEq, DV.lows, DV.low, DV.coe, DV.isD, dresults, dresult, withHeap, lowCells, LSt.isReady, srcElems, DV.int, DV.mkAgg, same, mnmx2, nilness, bound, fill, flatCells, allocCells, putCells, splitG, onG, insD, memD, seval, ↓joinK_t, ↓joinK_f, ↓reduceIte, stq]
    by_cases e : a = b <;> simp [e]
end Go.Proofs.YtckmpipiginhaaaDoor.Codes
