/-
  The instruction that a text is, the program's.
  Conditions: none.
-/
import Derived.Test.YtckmpipiginhaaaDoorIE
set_option linter.unusedVariables false
set_option linter.unusedSimpArgs false
set_option maxRecDepth 100000
namespace Go.Proofs.YtckmpipiginhaaaDoor.Codes
open Go Go.Deepv

/-- The place of the row of a name. -/
def opL (w : ByteArray) : List Row → Int → Int
  | [], _ => -1
  | r :: l, k => if r.nm.toList = w.toList then k else opL w l (k + 1)
def opV (w : ByteArray) : Int := opL w rowsT 0
def splitV (s : ByteArray) : List ByteArray := Lib.splitB sp1 0 (Lib.countB s sp1) s
def atoB (s : ByteArray) : Option Int := match Lib.atoiAll s.data.toList with
  | .ok v => some v
  | _ => none
def numsRead (n : Int) (wt : List ByteArray) : Option (Int × Int × Int) := match wt with
  | [] => if n = 0 then some (0, 0, 0) else none
  | [x] => if n = 1 then (match atoB x with | some a => some (a, 0, 0) | none => none) else none
  | [x, y] => if n = 2 then (match atoB x, atoB y with | some a, some b => some (a, b, 0) | _, _ => none) else none
  | [x, y, z] => if n = 3 then (match atoB x, atoB y, atoB z with | some a, some b, some c => some (a, b, c) | _, _, _ => none) else none
  | _ => none
def readV (s : ByteArray) : Option (Int × Int × Int × Int) := match splitV s with
  | [] => none
  | w0 :: wt => match rowOf (opV w0) with
    | none => none
    | some r => match numsRead (numsV r) wt with
      | none => none
      | some (a, b, c) => if (showV (opV w0) a b c).toList = s.toList then some (opV w0, a, b, c) else none
def instF (p : Option (Int × Int × Int × Int)) : FV := match p with
  | some (o, a, b, c) => .tup [.agg [.int .i64 o, .int .i64 a, .int .i64 b, .int .i64 c], .int .i64 0]
  | none => .tup [.agg [.int .i64 0, .int .i64 0, .int .i64 0, .int .i64 0], .int .i64 19]

theorem clo_ok (r : Row) (w0 : ByteArray) (wt : List ByteArray) (t : Nat) {id : Nat} {h : List Res} (hb : h[id]? = some (.box [.d (.slice 1 ([FV.str w0] :: strsF wt))] t)) : D env 26 [.d (.agg r.enc), .ptr id 0] h = some (.val (.d (.bool (r.nm.toList == w0.toList))) h) := by
  rw [D_own (F := A26) rfl rfl rfl rfl]
  simp (maxSteps := 9999999) -implicitDefEqProofs only [A26, B26, Row.enc, hb, unnil, keyOk, keyEq, findE, appVec, slk, agreeS, idxS, keepS, lowS, dbin, dun, List.replicate, DV.cells, DV.flat, dload, DV.elems, reduceCtorEq, DV.lows, DV.low, DV.coe, DV.isD, dresults, dresult, withHeap, lowCells, LSt.isReady, srcElems, DV.int, DV.mkAgg, same, mnmx2, nilness, bound, fill, flatCells, allocCells, putCells, splitG, onG, insD, memD, seval, ↓joinK_t, ↓joinK_f, ↓reduceIte, stq]
set_option maxHeartbeats 4000000 in
theorem idx_ok (w0 : ByteArray) (wt : List ByteArray) (x0 x1 : Res) (t1 t2 : Nat) : D env 25 [.bslc 3 0 16, .clo (.func 26) [] [.ptr 2 0]] [x0, x1, .box [.d (.slice 1 ([FV.str w0] :: strsF wt))] t1, .box (tableV.map .d) t2] = some (.val (.d (.int .i64 (opV w0))) [x0, x1, .box [.d (.slice 1 ([FV.str w0] :: strsF wt))] t1, .box (tableV.map .d) t2]) := by
  have e26 := fun nm l0 m0 l1 m1 l2 m2 tk pt to nx => clo_ok ⟨nm, l0, m0, l1, m1, l2, m2, tk, pt, to, nx⟩ w0 wt t1 (id := 2) (h := [x0, x1, .box [.d (.slice 1 ([FV.str w0] :: strsF wt))] t1, .box (tableV.map .d) t2]) rfl
  rw [D_own (F := A25) rfl rfl rfl rfl]
  simp only [tableV, rowsT, List.flatMap_cons, List.flatMap_nil, Row.enc, List.cons_append, List.nil_append, List.append_nil, List.map_cons, List.map_nil] at e26 ⊢
  simp (maxSteps := 9999999) -implicitDefEqProofs only [A25, B25, L_go, B25L2, e26, unnil, keyOk, keyEq, findE, appVec, slk, agreeS, idxS, keepS, lowS, dbin, dun, List.replicate, DV.cells, DV.flat, dload, DV.elems, reduceCtorEq, DV.lows, DV.low, DV.coe, DV.isD, dresults, dresult, withHeap, lowCells, LSt.isReady, srcElems, DV.int, DV.mkAgg, same, mnmx2, nilness, bound, fill, flatCells, allocCells, putCells, splitG, onG, insD, memD, seval, ↓joinK_t, ↓joinK_f, ↓reduceIte, stq]
  simp only [opV, opL, rowsT, Int.reduceAdd, fac]
theorem opL_cases (w : ByteArray) : ∀ (l : List Row) (j : Nat), opL w l j = -1 ∨ ∃ (k : Nat) (r : Row), l[k]? = some r ∧ opL w l j = ((j + k : Nat) : Int)
  | [], j => .inl rfl
  | r :: l, j => by
    simp only [opL]
    split
    · exact .inr ⟨0, r, rfl, rfl⟩
    · rcases opL_cases w l (j + 1) with h | ⟨k, r', hk, h⟩
      · exact .inl h
      · exact .inr ⟨k + 1, r', hk, by rw [show (j : Int) + 1 = ((j + 1 : Nat) : Int) from rfl, h]; congr 1; omega⟩
theorem opV_cases (w : ByteArray) : (opV w = -1 ∧ rowOf (opV w) = none) ∨ ∃ (k : Nat) (r : Row), k < 16 ∧ rowsT[k]? = some r ∧ opV w = k ∧ rowOf (opV w) = some r := by
  rcases opL_cases w rowsT 0 with h | ⟨k, r, hk, h⟩
  · have h : opV w = -1 := h
    exact .inl ⟨h, by rw [h]; rfl⟩
  · have h : opV w = k := by unfold opV; rw [show (0 : Int) = ((0 : Nat) : Int) from rfl, h]; simp
    have hk16 : k < 16 := (List.getElem?_eq_some_iff.1 hk).1
    exact .inr ⟨k, r, hk16, hk, h, by rw [h]; unfold rowOf; rw [if_pos (by omega), Int.toNat_natCast, hk]⟩
theorem split_ok (s : ByteArray) (hs : s.size < 4294967281) (h : List Res) : D env 23 [.d (.str s), .d (.str ⟨#[32]⟩)] h = some (.val (.d (.slice 1 (strsF (splitV s)))) h) := by
  rw [D_ext (F := xSplit) rfl]
  simp only [xSplit]
  rw [if_pos ⟨hs, rfl⟩]
  rfl
theorem atoi_ok (x : ByteArray) (hx : x.size ≤ 281474976710656) (h : List Res) : D env 28 [.d (.str x)] h = some (.val (.d (.tup (match atoB x with | some v => [.int .i64 v, .nili] | none => match Lib.atoiAll x.data.toList with | .ok v => [] | .range => [.int .i64 (Lib.atoiSat x.data.toList), .iface 92 .undef] | _ => [.int .i64 0, .iface 92 .undef]))) h) := by
  rw [D_ext (F := xAtoi 92) rfl]
  simp only [xAtoi]
  rw [if_pos hx]
  unfold atoB
  cases Lib.atoiAll x.data.toList <;> rfl
theorem atoi_some {x : ByteArray} {v : Int} (hx : x.size ≤ 281474976710656) (ha : atoB x = some v) (h : List Res) : D env 28 [.d (.str x)] h = some (.val (.d (.tup [.int .i64 v, .nili])) h) := by
  rw [atoi_ok x hx, ha]
theorem atoi_none {x : ByteArray} (hx : x.size ≤ 281474976710656) (ha : atoB x = none) : ∃ v, ∀ h : List Res, D env 28 [.d (.str x)] h = some (.val (.d (.tup [.int .i64 v, .iface 92 .undef])) h) := by
  have e := fun h => atoi_ok x hx h
  rw [ha] at e
  unfold atoB at ha
  split at ha
  · cases ha
  · rename_i hne
    cases hA : Lib.atoiAll x.data.toList with
    | ok v => exact absurd hA (hne v)
    | range => rw [hA] at e; exact ⟨_, e⟩
    | _ => rw [hA] at e; exact ⟨_, e⟩
theorem splitB_size (sep : ByteArray) : ∀ (k : Nat) (s : ByteArray), ∀ x ∈ Lib.splitB sep 0 k s, x.size ≤ s.size
  | 0, s, x, hx => by
    rw [Lib.splitB_zero, List.mem_singleton] at hx
    rw [hx]
    exact Nat.le_refl _
  | k + 1, s, x, hx => by
    unfold Lib.splitB at hx
    split at hx
    · rw [List.mem_singleton] at hx
      rw [hx]
      exact Nat.le_refl _
    · rcases List.mem_cons.1 hx with rfl | hx
      · simp only [ByteArray.size_extract]; omega
      · have := splitB_size sep k _ x hx
        simp only [ByteArray.size_extract] at this
        omega
theorem splitV_cons (s : ByteArray) : ∃ w0 wt, splitV s = w0 :: wt ∧ ∀ x ∈ wt, x.size ≤ s.size := by
  have h := Lib.splitB_all sp1 (by decide) 0 (Lib.countB s sp1) s rfl
  have hz := splitB_size sp1 (Lib.countB s sp1) s
  unfold splitV
  cases hw : Lib.splitB sp1 0 (Lib.countB s sp1) s with
  | nil => rw [hw] at h; simp at h
  | cons x l => exact ⟨x, l, rfl, fun y hy => hz y (by rw [hw]; simp [hy])⟩
theorem lows_d (k : Nat) : ∀ l : List FV, DV.lows k (l.map DV.d) = true
  | [] => rfl
  | x :: l => by simp only [List.map_cons, DV.lows, DV.low, lows_d k l, Bool.and_self]
set_option maxHeartbeats 8000000 in
theorem read_ok (s : ByteArray) (hs : s.size < 4294967281) (h : List Res) : D env 10 [.d (.str s)] h = some (.val (.d (instF (readV s))) h) := by
  have e23 := fun h => split_ok s hs h
  have e24 := fun h => table_ok h
  have tl := tableV_len
  have lm : (List.map DV.d tableV).length = 176 := by rw [List.length_map, tl]
  have ha1 : (List.map DV.d tableV).all DV.one = true := by decide
  have hlw := fun k => lows_d k tableV
  obtain ⟨w0, wt, hw, hz⟩ := splitV_cons s
  replace hz : ∀ x ∈ wt, x.size ≤ 281474976710656 := fun x hx => by have := hz x hx; omega
  have e25 := fun x0 x1 t1 t2 => idx_ok w0 wt x0 x1 t1 t2
  unfold readV
  rw [hw] at e23 ⊢
  simp only [strsF, List.map_cons] at e23 e25
  rcases opV_cases w0 with ⟨ho, hr⟩ | ⟨k, r, hk, hr, ho, hro⟩
  · simp only [hr]
    rw [ho] at e25
    generalize tableV = TT at *
    rw [D_dat (F := A10) rfl rfl rfl rfl]
    simp (maxSteps := 9999999) -implicitDefEqProofs only [A10, B10, e23, e24, e25, tl, lm, ha1, hlw, instF, unnil, keyOk, keyEq, findE, appVec, slk, agreeS, idxS, keepS, lowS, dbin, dun, List.replicate, DV.cells, DV.flat, dload, DV.elems, reduceCtorEq, DV.lows, DV.low, DV.coe, DV.isD, dresults, dresult, withHeap, lowCells, LSt.isReady, srcElems, DV.int, DV.mkAgg, same, mnmx2, nilness, bound, fill, flatCells, allocCells, putCells, splitG, onG, insD, memD, seval, ↓joinK_t, ↓joinK_f, ↓reduceIte, stq]
  · simp only [hro]
    obtain ⟨r', hr', ht⟩ := row_at k hk
    have : r' = r := by rw [hr] at hr'; exact (Option.some.inj hr').symm
    subst this
    have e27 := fun h => numbers_ok r' h
    have hn := numsV_cases r'
    have e15 := fun a b c h => show_ok (opV w0) a b c h
    rw [ho] at e25 e15 ⊢
    have hk0 : ¬ ((k : Int) < 0) := by omega
    have hk1 : (k : Int) < 16 := by omega
    have hk2 : 0 ≤ (k : Int) := by omega
    have b1 : k * 11 + 11 ≤ 176 := by omega
    generalize tableV = TT at *
    simp only [Row.enc, List.map_cons, List.map_nil] at e27 ht
    have wl : ∀ n : Nat, n ≤ 10 → IntKind.i64.wrap (1 + n) = 1 + n := fun n hn => wrap_i64 (by omega) (by omega)
    match wt, hz with
    | [], hz =>
      simp only [List.map_nil] at e23 e25
      rcases hn with hn | hn | hn | hn
      all_goals
        rw [hn] at e27
        simp only [hn, numsRead]
        rw [D_dat (F := A10) rfl rfl rfl rfl]
        simp (maxSteps := 9999999) -implicitDefEqProofs only [A10, B10, e23, e24, e25, e27, e15, tl, lm, ha1, hlw, hk0, hk1, hk2, b1, ht, L_go, B10L8, instF, unnil, keyOk, keyEq, findE, appVec, slk, agreeS, idxS, keepS, lowS, dbin, dun, List.replicate, DV.cells, DV.flat, dload, DV.elems, reduceCtorEq, DV.lows, DV.low, DV.coe, DV.isD, dresults, dresult, withHeap, lowCells, LSt.isReady, srcElems, DV.int, DV.mkAgg, same, mnmx2, nilness, bound, fill, flatCells, allocCells, putCells, splitG, onG, insD, memD, seval, ↓joinK_t, ↓joinK_f, ↓reduceIte, stq]
      cases hq : ((showV (↑k) 0 0 0).toList == s.toList) <;> simp_all
    | [x], hz =>
      simp only [List.map_nil, List.map_cons] at e23 e25
      by_cases hm : numsV r' = 1
      · rw [hm] at e27
        have hn := hm
        cases q0 : atoB x with
        | none =>
          obtain ⟨v0, a0⟩ := atoi_none (hz x (by simp)) q0
          simp only [hn, numsRead, Int.reduceEq, if_true, if_false, q0]
          rw [D_dat (F := A10) rfl rfl rfl rfl]
          simp (maxSteps := 9999999) -implicitDefEqProofs only [A10, B10, e23, e24, e25, e27, e15, tl, lm, ha1, hlw, hk0, hk1, hk2, b1, ht, L_go, B10L8, instF, a0, unnil, keyOk, keyEq, findE, appVec, slk, agreeS, idxS, keepS, lowS, dbin, dun, List.replicate, DV.cells, DV.flat, dload, DV.elems, reduceCtorEq, DV.lows, DV.low, DV.coe, DV.isD, dresults, dresult, withHeap, lowCells, LSt.isReady, srcElems, DV.int, DV.mkAgg, same, mnmx2, nilness, bound, fill, flatCells, allocCells, putCells, splitG, onG, insD, memD, seval, ↓joinK_t, ↓joinK_f, ↓reduceIte, stq]
        | some v0 =>
          have a0 := fun h => atoi_some (hz x (by simp)) q0 h
          simp only [hn, numsRead, Int.reduceEq, if_true, if_false, q0]
          rw [D_dat (F := A10) rfl rfl rfl rfl]
          simp (maxSteps := 9999999) -implicitDefEqProofs only [A10, B10, e23, e24, e25, e27, e15, tl, lm, ha1, hlw, hk0, hk1, hk2, b1, ht, L_go, B10L8, instF, a0, unnil, keyOk, keyEq, findE, appVec, slk, agreeS, idxS, keepS, lowS, dbin, dun, List.replicate, DV.cells, DV.flat, dload, DV.elems, reduceCtorEq, DV.lows, DV.low, DV.coe, DV.isD, dresults, dresult, withHeap, lowCells, LSt.isReady, srcElems, DV.int, DV.mkAgg, same, mnmx2, nilness, bound, fill, flatCells, allocCells, putCells, splitG, onG, insD, memD, seval, ↓joinK_t, ↓joinK_f, ↓reduceIte, stq]
          cases hq : ((showV (↑k) v0 0 0).toList == s.toList) <;> simp_all
      · rcases hn with hn | hn | hn | hn
        all_goals
          first
          | exact absurd hn hm
          | rw [hn] at e27
            simp only [hn, numsRead, Int.reduceEq, if_true, if_false]
            rw [D_dat (F := A10) rfl rfl rfl rfl]
            simp (maxSteps := 9999999) -implicitDefEqProofs only [A10, B10, e23, e24, e25, e27, e15, tl, lm, ha1, hlw, hk0, hk1, hk2, b1, ht, L_go, B10L8, instF, unnil, keyOk, keyEq, findE, appVec, slk, agreeS, idxS, keepS, lowS, dbin, dun, List.replicate, DV.cells, DV.flat, dload, DV.elems, reduceCtorEq, DV.lows, DV.low, DV.coe, DV.isD, dresults, dresult, withHeap, lowCells, LSt.isReady, srcElems, DV.int, DV.mkAgg, same, mnmx2, nilness, bound, fill, flatCells, allocCells, putCells, splitG, onG, insD, memD, seval, ↓joinK_t, ↓joinK_f, ↓reduceIte, stq]
    | [x, y], hz =>
      simp only [List.map_nil, List.map_cons] at e23 e25
      by_cases hm : numsV r' = 2
      · rw [hm] at e27
        have hn := hm
        cases q0 : atoB x with
        | none =>
          obtain ⟨v0, a0⟩ := atoi_none (hz x (by simp)) q0
          simp only [hn, numsRead, Int.reduceEq, if_true, if_false, q0]
          rw [D_dat (F := A10) rfl rfl rfl rfl]
          simp (maxSteps := 9999999) -implicitDefEqProofs only [A10, B10, e23, e24, e25, e27, e15, tl, lm, ha1, hlw, hk0, hk1, hk2, b1, ht, L_go, B10L8, instF, a0, unnil, keyOk, keyEq, findE, appVec, slk, agreeS, idxS, keepS, lowS, dbin, dun, List.replicate, DV.cells, DV.flat, dload, DV.elems, reduceCtorEq, DV.lows, DV.low, DV.coe, DV.isD, dresults, dresult, withHeap, lowCells, LSt.isReady, srcElems, DV.int, DV.mkAgg, same, mnmx2, nilness, bound, fill, flatCells, allocCells, putCells, splitG, onG, insD, memD, seval, ↓joinK_t, ↓joinK_f, ↓reduceIte, stq]
        | some v0 =>
          have a0 := fun h => atoi_some (hz x (by simp)) q0 h
          cases q1 : atoB y with
          | none =>
            obtain ⟨v1, a1⟩ := atoi_none (hz y (by simp)) q1
            simp only [hn, numsRead, Int.reduceEq, if_true, if_false, q0, q1]
            rw [D_dat (F := A10) rfl rfl rfl rfl]
            simp (maxSteps := 9999999) -implicitDefEqProofs only [A10, B10, e23, e24, e25, e27, e15, tl, lm, ha1, hlw, hk0, hk1, hk2, b1, ht, L_go, B10L8, instF, a0, a1, unnil, keyOk, keyEq, findE, appVec, slk, agreeS, idxS, keepS, lowS, dbin, dun, List.replicate, DV.cells, DV.flat, dload, DV.elems, reduceCtorEq, DV.lows, DV.low, DV.coe, DV.isD, dresults, dresult, withHeap, lowCells, LSt.isReady, srcElems, DV.int, DV.mkAgg, same, mnmx2, nilness, bound, fill, flatCells, allocCells, putCells, splitG, onG, insD, memD, seval, ↓joinK_t, ↓joinK_f, ↓reduceIte, stq]
          | some v1 =>
            have a1 := fun h => atoi_some (hz y (by simp)) q1 h
            simp only [hn, numsRead, Int.reduceEq, if_true, if_false, q0, q1]
            rw [D_dat (F := A10) rfl rfl rfl rfl]
            simp (maxSteps := 9999999) -implicitDefEqProofs only [A10, B10, e23, e24, e25, e27, e15, tl, lm, ha1, hlw, hk0, hk1, hk2, b1, ht, L_go, B10L8, instF, a0, a1, unnil, keyOk, keyEq, findE, appVec, slk, agreeS, idxS, keepS, lowS, dbin, dun, List.replicate, DV.cells, DV.flat, dload, DV.elems, reduceCtorEq, DV.lows, DV.low, DV.coe, DV.isD, dresults, dresult, withHeap, lowCells, LSt.isReady, srcElems, DV.int, DV.mkAgg, same, mnmx2, nilness, bound, fill, flatCells, allocCells, putCells, splitG, onG, insD, memD, seval, ↓joinK_t, ↓joinK_f, ↓reduceIte, stq]
            cases hq : ((showV (↑k) v0 v1 0).toList == s.toList) <;> simp_all
      · rcases hn with hn | hn | hn | hn
        all_goals
          first
          | exact absurd hn hm
          | rw [hn] at e27
            simp only [hn, numsRead, Int.reduceEq, if_true, if_false]
            rw [D_dat (F := A10) rfl rfl rfl rfl]
            simp (maxSteps := 9999999) -implicitDefEqProofs only [A10, B10, e23, e24, e25, e27, e15, tl, lm, ha1, hlw, hk0, hk1, hk2, b1, ht, L_go, B10L8, instF, unnil, keyOk, keyEq, findE, appVec, slk, agreeS, idxS, keepS, lowS, dbin, dun, List.replicate, DV.cells, DV.flat, dload, DV.elems, reduceCtorEq, DV.lows, DV.low, DV.coe, DV.isD, dresults, dresult, withHeap, lowCells, LSt.isReady, srcElems, DV.int, DV.mkAgg, same, mnmx2, nilness, bound, fill, flatCells, allocCells, putCells, splitG, onG, insD, memD, seval, ↓joinK_t, ↓joinK_f, ↓reduceIte, stq]
    | [x, y, z], hz =>
      simp only [List.map_nil, List.map_cons] at e23 e25
      by_cases hm : numsV r' = 3
      · rw [hm] at e27
        have hn := hm
        cases q0 : atoB x with
        | none =>
          obtain ⟨v0, a0⟩ := atoi_none (hz x (by simp)) q0
          simp only [hn, numsRead, Int.reduceEq, if_true, if_false, q0]
          rw [D_dat (F := A10) rfl rfl rfl rfl]
          simp (maxSteps := 9999999) -implicitDefEqProofs only [A10, B10, e23, e24, e25, e27, e15, tl, lm, ha1, hlw, hk0, hk1, hk2, b1, ht, L_go, B10L8, instF, a0, unnil, keyOk, keyEq, findE, appVec, slk, agreeS, idxS, keepS, lowS, dbin, dun, List.replicate, DV.cells, DV.flat, dload, DV.elems, reduceCtorEq, DV.lows, DV.low, DV.coe, DV.isD, dresults, dresult, withHeap, lowCells, LSt.isReady, srcElems, DV.int, DV.mkAgg, same, mnmx2, nilness, bound, fill, flatCells, allocCells, putCells, splitG, onG, insD, memD, seval, ↓joinK_t, ↓joinK_f, ↓reduceIte, stq]
        | some v0 =>
          have a0 := fun h => atoi_some (hz x (by simp)) q0 h
          cases q1 : atoB y with
          | none =>
            obtain ⟨v1, a1⟩ := atoi_none (hz y (by simp)) q1
            simp only [hn, numsRead, Int.reduceEq, if_true, if_false, q0, q1]
            rw [D_dat (F := A10) rfl rfl rfl rfl]
            simp (maxSteps := 9999999) -implicitDefEqProofs only [A10, B10, e23, e24, e25, e27, e15, tl, lm, ha1, hlw, hk0, hk1, hk2, b1, ht, L_go, B10L8, instF, a0, a1, unnil, keyOk, keyEq, findE, appVec, slk, agreeS, idxS, keepS, lowS, dbin, dun, List.replicate, DV.cells, DV.flat, dload, DV.elems, reduceCtorEq, DV.lows, DV.low, DV.coe, DV.isD, dresults, dresult, withHeap, lowCells, LSt.isReady, srcElems, DV.int, DV.mkAgg, same, mnmx2, nilness, bound, fill, flatCells, allocCells, putCells, splitG, onG, insD, memD, seval, ↓joinK_t, ↓joinK_f, ↓reduceIte, stq]
          | some v1 =>
            have a1 := fun h => atoi_some (hz y (by simp)) q1 h
            cases q2 : atoB z with
            | none =>
              obtain ⟨v2, a2⟩ := atoi_none (hz z (by simp)) q2
              simp only [hn, numsRead, Int.reduceEq, if_true, if_false, q0, q1, q2]
              rw [D_dat (F := A10) rfl rfl rfl rfl]
              simp (maxSteps := 9999999) -implicitDefEqProofs only [A10, B10, e23, e24, e25, e27, e15, tl, lm, ha1, hlw, hk0, hk1, hk2, b1, ht, L_go, B10L8, instF, a0, a1, a2, unnil, keyOk, keyEq, findE, appVec, slk, agreeS, idxS, keepS, lowS, dbin, dun, List.replicate, DV.cells, DV.flat, dload, DV.elems, reduceCtorEq, DV.lows, DV.low, DV.coe, DV.isD, dresults, dresult, withHeap, lowCells, LSt.isReady, srcElems, DV.int, DV.mkAgg, same, mnmx2, nilness, bound, fill, flatCells, allocCells, putCells, splitG, onG, insD, memD, seval, ↓joinK_t, ↓joinK_f, ↓reduceIte, stq]
            | some v2 =>
              have a2 := fun h => atoi_some (hz z (by simp)) q2 h
              simp only [hn, numsRead, Int.reduceEq, if_true, if_false, q0, q1, q2]
              rw [D_dat (F := A10) rfl rfl rfl rfl]
              simp (maxSteps := 9999999) -implicitDefEqProofs only [A10, B10, e23, e24, e25, e27, e15, tl, lm, ha1, hlw, hk0, hk1, hk2, b1, ht, L_go, B10L8, instF, a0, a1, a2, unnil, keyOk, keyEq, findE, appVec, slk, agreeS, idxS, keepS, lowS, dbin, dun, List.replicate, DV.cells, DV.flat, dload, DV.elems, reduceCtorEq, DV.lows, DV.low, DV.coe, DV.isD, dresults, dresult, withHeap, lowCells, LSt.isReady, srcElems, DV.int, DV.mkAgg, same, mnmx2, nilness, bound, fill, flatCells, allocCells, putCells, splitG, onG, insD, memD, seval, ↓joinK_t, ↓joinK_f, ↓reduceIte, stq]
              cases hq : ((showV (↑k) v0 v1 v2).toList == s.toList) <;> simp_all
      · rcases hn with hn | hn | hn | hn
        all_goals
          first
          | exact absurd hn hm
          | rw [hn] at e27
            simp only [hn, numsRead, Int.reduceEq, if_true, if_false]
            rw [D_dat (F := A10) rfl rfl rfl rfl]
            simp (maxSteps := 9999999) -implicitDefEqProofs only [A10, B10, e23, e24, e25, e27, e15, tl, lm, ha1, hlw, hk0, hk1, hk2, b1, ht, L_go, B10L8, instF, unnil, keyOk, keyEq, findE, appVec, slk, agreeS, idxS, keepS, lowS, dbin, dun, List.replicate, DV.cells, DV.flat, dload, DV.elems, reduceCtorEq, DV.lows, DV.low, DV.coe, DV.isD, dresults, dresult, withHeap, lowCells, LSt.isReady, srcElems, DV.int, DV.mkAgg, same, mnmx2, nilness, bound, fill, flatCells, allocCells, putCells, splitG, onG, insD, memD, seval, ↓joinK_t, ↓joinK_f, ↓reduceIte, stq]
    | x :: y :: z :: u :: v, hz =>
      simp only [List.map_cons] at e23 e25
      rcases hn with hn | hn | hn | hn
      all_goals
        have hle : ∀ m : Int, m ≤ 4 → (((v.length + 1 + 1 + 1 + 1 + 1 : Nat) : Int) == m) = false := fun m hm => by simp; omega
        have hle := hle (1 + numsV r') (by omega)
        rw [hn] at e27 hle
        simp only [Int.reduceAdd] at hle
        simp only [numsRead]
        rw [D_dat (F := A10) rfl rfl rfl rfl]
        simp (maxSteps := 9999999) -implicitDefEqProofs only [A10, B10, e23, e24, e25, e27, e15, tl, lm, ha1, hlw, hk0, hk1, hk2, b1, ht, L_go, B10L8, instF, hle, bne, unnil, keyOk, keyEq, findE, appVec, slk, agreeS, idxS, keepS, lowS, dbin, dun, List.replicate, DV.cells, DV.flat, dload, DV.elems, reduceCtorEq, DV.lows, DV.low, DV.coe, DV.isD, dresults, dresult, withHeap, lowCells, LSt.isReady, srcElems, DV.int, DV.mkAgg, same, mnmx2, nilness, bound, fill, flatCells, allocCells, putCells, splitG, onG, insD, memD, seval, ↓joinK_t, ↓joinK_f, ↓reduceIte, stq]
end Go.Proofs.YtckmpipiginhaaaDoor.Codes
