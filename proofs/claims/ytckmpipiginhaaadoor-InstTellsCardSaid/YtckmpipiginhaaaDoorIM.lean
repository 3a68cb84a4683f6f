/-
  The reference: the number of a word.
  Conditions: none.
-/
import Derived.Test.YtckmpipiginhaaaDoorIL
set_option linter.unusedVariables false
set_option linter.unusedSimpArgs false
set_option maxRecDepth 100000
namespace Go.Proofs.YtckmpipiginhaaaDoor.Codes
open Go Go.Deepv

def valR : List UInt8 → Int → Int × Bool
  | [], n => (n, true)
  | b :: l, n => if (b.toNat : Int) < 48 ∨ 57 < (b.toNat : Int) ∨ 576460752303423488 < n then (n, false) else valR l (n * 10 + ((b.toNat : Int) - 48))
def st31 (s : ByteArray) (g : Bool) (n : Int) (i : Nat) : List DV := den 53 [(0, .d (.str s)), (4, .d (.bool g)), (5, .d (.int .i64 n)), (6, .d (.int .i64 (i : Int)))]
def out31 (s : ByteArray) (g : Bool) (r : Int × Bool) : DRun := if r.2 = true then (.exit 0, den 53 [(0, .d (.str s)), (4, .d (.bool g)), (5, .d (.int .i64 r.1))], []) else (.ret, den 53 [(0, .d (.str s)), (2, .d (.int .i64 0)), (3, .d (.bool false)), (4, .d (.bool g)), (5, .d (.int .i64 r.1))], [])
theorem valR_rng : ∀ (l : List UInt8) (n : Int), 0 ≤ n → n ≤ 5764607523034234889 → 0 ≤ (valR l n).1 ∧ (valR l n).1 ≤ 5764607523034234889
  | [], n, h1, h2 => ⟨h1, h2⟩
  | b :: l, n, h1, h2 => by
    unfold valR
    split
    · exact ⟨h1, h2⟩
    · exact valR_rng l _ (by omega) (by omega)
set_option maxHeartbeats 4000000 in
theorem loop31 (s : ByteArray) (g : Bool) (hs : s.size < 4294967281) : ∃ K, L env 0 true H31L6 X31L6 B31L6 = K ∧ ∀ (l : List UInt8) (i : Nat) (n : Int), s.data.toList.drop i = l → i ≤ s.size → 0 ≤ n → n ≤ 5764607523034234889 →
    K (st31 s g n i) [] = some (out31 s g (valR l n)) := by
  obtain ⟨K, hK⟩ : ∃ K, L env 0 true H31L6 X31L6 B31L6 = K := ⟨_, rfl⟩
  refine ⟨K, hK, ?_⟩
  have hsz : s.data.toList.length = s.size := rfl
  intro l
  induction l with
  | nil =>
    intro i n hl hi h1 h2
    have : s.data.toList.length ≤ i := List.drop_eq_nil_iff.1 hl
    have e : i = s.size := by omega
    have e2 : ¬ (i : Int) < (s.size : Int) := by omega
    rw [L_rnd hK]
    simp (maxSteps := 9999999) -implicitDefEqProofs only [st31, out31, valR, B31L6, e2, unnil, keyOk, keyEq, findE, appVec, slk, agreeS, idxS, keepS, lowS, dbin, dun, List.replicate, DV.cells, DV.flat, dload, DV.elems, reduceCtorEq, DV.lows, DV.low, DV.coe, DV.isD, dresults, dresult, withHeap, lowCells, LSt.isReady, srcElems, DV.int, DV.mkAgg, same, mnmx2, nilness, bound, fill, flatCells, allocCells, putCells, splitG, onG, insD, memD, seval, ↓joinK_t, ↓joinK_f, ↓reduceIte, stq]
  | cons b l ih =>
    intro i n hl hi h1 h2
    have hlt : i < s.data.toList.length := by
      rcases Nat.lt_or_ge i s.data.toList.length with h | h
      · exact h
      · rw [List.drop_eq_nil_of_le h] at hl; cases hl
    have hd : s.data.toList.drop (i + 1) = l := by
      rw [← List.drop_drop, hl]; rfl
    have hlt2 : (i : Int) < (s.size : Int) := by omega
    have g1 : s[i]? = some b := by
      rw [byte_at]
      have := congrArg (fun l => l[0]?) hl
      simpa using this
    have w1 : IntKind.i64.wrap ((i : Int) + 1) = ((i + 1 : Nat) : Int) := by rw [wrap_id (by omega) (by omega)]; omega
    by_cases hc : (b.toNat : Int) < 48 ∨ 57 < (b.toNat : Int) ∨ 576460752303423488 < n
    · by_cases c1 : (b.toNat : Int) < 48
      · rw [L_rnd hK]
        simp (maxSteps := 9999999) -implicitDefEqProofs only [st31, out31, valR, B31L6, hlt2, g1, c1, unnil, keyOk, keyEq, findE, appVec, slk, agreeS, idxS, keepS, lowS, dbin, dun, List.replicate, DV.cells, DV.flat, dload, DV.elems, reduceCtorEq, DV.lows, DV.low, DV.coe, DV.isD, dresults, dresult, withHeap, lowCells, LSt.isReady, srcElems, DV.int, DV.mkAgg, same, mnmx2, nilness, bound, fill, flatCells, allocCells, putCells, splitG, onG, insD, memD, seval, ↓joinK_t, ↓joinK_f, ↓reduceIte, stq]
      · by_cases c2 : 57 < (b.toNat : Int)
        · rw [L_rnd hK]
          simp (maxSteps := 9999999) -implicitDefEqProofs only [st31, out31, valR, B31L6, hlt2, g1, c1, c2, unnil, keyOk, keyEq, findE, appVec, slk, agreeS, idxS, keepS, lowS, dbin, dun, List.replicate, DV.cells, DV.flat, dload, DV.elems, reduceCtorEq, DV.lows, DV.low, DV.coe, DV.isD, dresults, dresult, withHeap, lowCells, LSt.isReady, srcElems, DV.int, DV.mkAgg, same, mnmx2, nilness, bound, fill, flatCells, allocCells, putCells, splitG, onG, insD, memD, seval, ↓joinK_t, ↓joinK_f, ↓reduceIte, stq]
        · have c3 : 576460752303423488 < n := by omega
          rw [L_rnd hK]
          simp (maxSteps := 9999999) -implicitDefEqProofs only [st31, out31, valR, B31L6, hlt2, g1, c1, c2, c3, unnil, keyOk, keyEq, findE, appVec, slk, agreeS, idxS, keepS, lowS, dbin, dun, List.replicate, DV.cells, DV.flat, dload, DV.elems, reduceCtorEq, DV.lows, DV.low, DV.coe, DV.isD, dresults, dresult, withHeap, lowCells, LSt.isReady, srcElems, DV.int, DV.mkAgg, same, mnmx2, nilness, bound, fill, flatCells, allocCells, putCells, splitG, onG, insD, memD, seval, ↓joinK_t, ↓joinK_f, ↓reduceIte, stq]
    · have c1 : ¬ (b.toNat : Int) < 48 := by omega
      have c2 : ¬ 57 < (b.toNat : Int) := by omega
      have c3 : ¬ 576460752303423488 < n := by omega
      have ih := ih (i + 1) (n * 10 + ((b.toNat : Int) - 48)) hd (by omega) (by omega) (by omega)
      simp only [st31, out31] at ih
      have w2 : IntKind.i64.wrap (n * 10) = n * 10 := wrap_id (by omega) (by omega)
      have w3 : IntKind.i64.wrap (IntKind.u8.wrap ((b.toNat : Int) - 48)) = (b.toNat : Int) - 48 := by
        have : IntKind.u8.wrap ((b.toNat : Int) - 48) = (b.toNat : Int) - 48 := by
          exact wrap_u8 (by omega) (by omega)
        rw [this, wrap_id (by omega) (by omega)]
      have w4 : IntKind.i64.wrap (n * 10 + ((b.toNat : Int) - 48)) = n * 10 + ((b.toNat : Int) - 48) := wrap_id (by omega) (by omega)
      rw [L_rnd hK]
      simp (maxSteps := 9999999) -implicitDefEqProofs only [st31, out31, valR, B31L6, hlt2, g1, c1, c2, c3, w1, w2, w3, w4, ih, unnil, keyOk, keyEq, findE, appVec, slk, agreeS, idxS, keepS, lowS, dbin, dun, List.replicate, DV.cells, DV.flat, dload, DV.elems, reduceCtorEq, DV.lows, DV.low, DV.coe, DV.isD, dresults, dresult, withHeap, lowCells, LSt.isReady, srcElems, DV.int, DV.mkAgg, same, mnmx2, nilness, bound, fill, flatCells, allocCells, putCells, splitG, onG, insD, memD, seval, ↓joinK_t, ↓joinK_f, ↓reduceIte, stq]
def tailB (s : ByteArray) : ByteArray := s.extract 1 s.size
theorem tailB_list (s : ByteArray) : (tailB s).data.toList = s.data.toList.drop 1 := by
  unfold tailB
  rw [ByteArray.data_extract, Array.toList_extract, List.extract_eq_take_drop]
  apply List.take_of_length_le
  have : s.data.toList.length = s.size := rfl
  simp only [List.length_drop]
  omega
def negV (s : ByteArray) : Bool := s.data.toList.head? == some 45
def valV (s : ByteArray) : Int × Bool :=
  let t := if negV s = true then tailB s else s
  let r := valR t.data.toList 0
  if r.2 = true then (if negV s = true then -r.1 else r.1, decide (0 < t.size)) else (0, false)
set_option maxHeartbeats 4000000 in
theorem value_ok (s : ByteArray) (hs : s.size < 4294967281) (h : List Res) : D env 31 [.d (.str s)] h = some (.val (.d (.tup [.int .i64 (valV s).1, .bool (valV s).2])) h) := by
  have hsz : s.data.toList.length = s.size := rfl
  unfold valV
  match hl : s.data.toList with
  | [] =>
    have z : s.size = 0 := by rw [← hsz, hl]; rfl
    have n0 : negV s = false := by unfold negV; rw [hl]; rfl
    have q : ¬ (0 : Int) < (s.size : Int) := by omega
    have q2 : ¬ 0 < s.size := by omega
    obtain ⟨K, hK, hk⟩ := loop31 s false hs
    have e := hk [] 0 0 hl (by omega) (by omega) (by omega)
    simp only [st31, out31, valR, if_true, Int.ofNat_zero] at e
    have e : K (den 53 [(0, DV.d (FV.str s)), (4, DV.d (FV.bool false)), (5, DV.d (FV.int IntKind.i64 0)), (6, DV.d (FV.int IntKind.i64 0))]) [] = _ := e
    rw [D_dat (F := A31) rfl rfl rfl rfl]
    simp (maxSteps := 9999999) -implicitDefEqProofs only [A31, B31, q, q2, hK, n0, e, hl, valR, unnil, keyOk, keyEq, findE, appVec, slk, agreeS, idxS, keepS, lowS, dbin, dun, List.replicate, DV.cells, DV.flat, dload, DV.elems, reduceCtorEq, DV.lows, DV.low, DV.coe, DV.isD, dresults, dresult, withHeap, lowCells, LSt.isReady, srcElems, DV.int, DV.mkAgg, same, mnmx2, nilness, bound, fill, flatCells, allocCells, putCells, splitG, onG, insD, memD, seval, ↓joinK_t, ↓joinK_f, ↓reduceIte, stq]
  | b :: l =>
    have q : (0 : Int) < (s.size : Int) := by rw [← hsz, hl]; simp
    have q2 : 0 < s.size := by omega
    have g1 : s[0]? = some b := by rw [byte_at, hl]; rfl
    by_cases hb : b = 45
    · have b1 : ((b.toNat : Nat) : Int) = 45 := by subst hb; rfl
      have n0 : negV s = true := by unfold negV; rw [hl, hb]; rfl
      have tl : (tailB s).data.toList = l := by rw [tailB_list, hl]; rfl
      have ts : (tailB s).size < 4294967281 := by
        show (tailB s).data.toList.length < _
        rw [tl]
        rw [hl] at hsz
        simp at hsz
        omega
      obtain ⟨K, hK, hk⟩ := loop31 (tailB s) true ts
      have e := hk l 0 0 tl (by omega) (by omega) (by omega)
      have rg := valR_rng l 0 (by omega) (by omega)
      simp only [st31, out31] at e
      have e : K (den 53 [(0, DV.d (FV.str (tailB s))), (4, DV.d (FV.bool true)), (5, DV.d (FV.int IntKind.i64 0)), (6, DV.d (FV.int IntKind.i64 0))]) [] = _ := e
      have x1 : s.extract 1 s.size = tailB s := rfl
      have o1 : (1 : Int) ≤ (s.size : Int) := by omega
      rcases hr : valR l 0 with ⟨v, ok⟩
      rw [hr] at e rg
      have w1 : IntKind.i64.wrap (0 - v) = -v := by rw [wrap_id (by omega) (by omega)]; omega
      cases ok with
      | true =>
        rw [D_dat (F := A31) rfl rfl rfl rfl]
        simp (maxSteps := 9999999) -implicitDefEqProofs only [A31, B31, q, q2, hK, n0, e, tl, hr, g1, b1, x1, o1, w1, unnil, keyOk, keyEq, findE, appVec, slk, agreeS, idxS, keepS, lowS, dbin, dun, List.replicate, DV.cells, DV.flat, dload, DV.elems, reduceCtorEq, DV.lows, DV.low, DV.coe, DV.isD, dresults, dresult, withHeap, lowCells, LSt.isReady, srcElems, DV.int, DV.mkAgg, same, mnmx2, nilness, bound, fill, flatCells, allocCells, putCells, splitG, onG, insD, memD, seval, ↓joinK_t, ↓joinK_f, ↓reduceIte, stq]
        rw [show decide (0 < ((tailB s).size : Int)) = decide (0 < (tailB s).size) from decide_eq_decide.2 (by omega)]
      | false =>
        rw [D_dat (F := A31) rfl rfl rfl rfl]
        simp (maxSteps := 9999999) -implicitDefEqProofs only [A31, B31, q, q2, hK, n0, e, tl, hr, g1, b1, x1, o1, unnil, keyOk, keyEq, findE, appVec, slk, agreeS, idxS, keepS, lowS, dbin, dun, List.replicate, DV.cells, DV.flat, dload, DV.elems, reduceCtorEq, DV.lows, DV.low, DV.coe, DV.isD, dresults, dresult, withHeap, lowCells, LSt.isReady, srcElems, DV.int, DV.mkAgg, same, mnmx2, nilness, bound, fill, flatCells, allocCells, putCells, splitG, onG, insD, memD, seval, ↓joinK_t, ↓joinK_f, ↓reduceIte, stq]
    · have b1 : ¬ ((b.toNat : Nat) : Int) = 45 := by
        intro h; apply hb; apply UInt8.toNat_inj.1; show b.toNat = 45; omega
      have b2 : ((b.toNat : Int) == 45) = false := by simpa using b1
      have q3 : decide (0 < (s.size : Int)) = true := by simpa using q
      have n0 : negV s = false := by unfold negV; rw [hl]; simp [hb]
      obtain ⟨K, hK, hk⟩ := loop31 s false hs
      have e := hk (b :: l) 0 0 hl (by omega) (by omega) (by omega)
      simp only [st31, out31] at e
      have e : K (den 53 [(0, DV.d (FV.str s)), (4, DV.d (FV.bool false)), (5, DV.d (FV.int IntKind.i64 0)), (6, DV.d (FV.int IntKind.i64 0))]) [] = _ := e
      rcases hr : valR (b :: l) 0 with ⟨v, ok⟩
      rw [hr] at e
      cases ok with
      | true =>
        rw [D_dat (F := A31) rfl rfl rfl rfl]
        simp (maxSteps := 9999999) -implicitDefEqProofs only [A31, B31, q, q2, hK, n0, e, hl, hr, g1, b2, q3, q2, unnil, keyOk, keyEq, findE, appVec, slk, agreeS, idxS, keepS, lowS, dbin, dun, List.replicate, DV.cells, DV.flat, dload, DV.elems, reduceCtorEq, DV.lows, DV.low, DV.coe, DV.isD, dresults, dresult, withHeap, lowCells, LSt.isReady, srcElems, DV.int, DV.mkAgg, same, mnmx2, nilness, bound, fill, flatCells, allocCells, putCells, splitG, onG, insD, memD, seval, ↓joinK_t, ↓joinK_f, ↓reduceIte, stq]
      | false =>
        rw [D_dat (F := A31) rfl rfl rfl rfl]
        simp (maxSteps := 9999999) -implicitDefEqProofs only [A31, B31, q, q2, hK, n0, e, hl, hr, g1, b2, q3, q2, unnil, keyOk, keyEq, findE, appVec, slk, agreeS, idxS, keepS, lowS, dbin, dun, List.replicate, DV.cells, DV.flat, dload, DV.elems, reduceCtorEq, DV.lows, DV.low, DV.coe, DV.isD, dresults, dresult, withHeap, lowCells, LSt.isReady, srcElems, DV.int, DV.mkAgg, same, mnmx2, nilness, bound, fill, flatCells, allocCells, putCells, splitG, onG, insD, memD, seval, ↓joinK_t, ↓joinK_f, ↓reduceIte, stq]
theorem valR_app : ∀ (l r : List UInt8) (n : Int), valR (l ++ r) n = if (valR l n).2 = true then valR r (valR l n).1 else valR l n
  | [], r, n => by simp [valR]
  | b :: l, r, n => by
    simp only [List.cons_append, valR]
    split
    · simp
    · exact valR_app l r _
theorem dec_val : ∀ (k u : Nat), u ≤ k → u ≤ 4611686018427387904 → valR (Lib.decDigits u) 0 = ((u : Int), true) := by
  intro k
  have one : ∀ d : Nat, d < 10 → ∀ n : Int, n ≤ 576460752303423488 → valR (Lib.decDigits d) n = (n * 10 + (d : Int), true) := by
    intro d hd n hn
    rw [Lib.decDigits_one hd]
    have e : ((UInt8.ofNat (48 + d)).toNat : Int) = 48 + (d : Int) := by rw [dig_toNat hd]; omega
    simp only [valR, e]
    rw [if_neg (by omega)]
    congr 1
    omega
  induction k with
  | zero =>
    intro u h1 h2
    rw [one u (by omega) 0 (by omega)]
    simp
  | succ k ih =>
    intro u h1 h2
    by_cases h9 : u < 10
    · rw [one u h9 0 (by omega)]
      simp
    · have e : Lib.decDigits u = Lib.decDigits (u / 10) ++ Lib.decDigits (u % 10) := by
        conv => lhs; rw [Lib.decDigits, dif_neg h9]
        rw [Lib.decDigits_one (i := u % 10) (by omega)]
      rw [e, valR_app, ih (u / 10) (by omega) (by omega)]
      simp only [if_true]
      rw [one (u % 10) (by omega) _ (by omega)]
      congr 1
      omega
theorem val_itoa {n : Int} (h1 : numL ≤ n) (h2 : n ≤ numM) : valV (itoaB n) = (n, true) := by
  unfold numL at h1
  unfold numM at h2
  by_cases h0 : n < 0
  · obtain ⟨u, rfl⟩ : ∃ u : Nat, n = -(u : Int) := ⟨n.natAbs, by omega⟩
    have e : (itoaB (-(u : Int))).data.toList = 45 :: Lib.decDigits u := by unfold itoaB; rw [Lib.itoa_neg u (by omega)]
    have n0 : negV (itoaB (-(u : Int))) = true := by unfold negV; rw [e]; rfl
    have t : (tailB (itoaB (-(u : Int)))).data.toList = Lib.decDigits u := by rw [tailB_list, e]; rfl
    have z : 0 < (tailB (itoaB (-(u : Int)))).size := by
      show 0 < (tailB (itoaB (-(u : Int)))).data.toList.length
      rw [t]
      exact List.length_pos_iff.2 (dec_digits u u (by omega)).1
    unfold valV
    simp only [n0, if_true, t, dec_val u u (by omega) (by omega), z, decide_true]
  · obtain ⟨u, rfl⟩ : ∃ u : Nat, n = (u : Int) := ⟨n.natAbs, by omega⟩
    have e : (itoaB (u : Int)).data.toList = Lib.decDigits u := by unfold itoaB; rw [Lib.itoa_nonneg]
    have dd := dec_digits u u (by omega)
    have n0 : negV (itoaB (u : Int)) = false := by
      unfold negV
      rw [e]
      match hd : Lib.decDigits u with
      | [] => rfl
      | b :: l =>
        have := dd.2 b (by rw [hd]; simp)
        simp
        intro h
        subst h
        exact absurd this.1 (by decide)
    have z : 0 < (itoaB (u : Int)).size := by
      show 0 < (itoaB (u : Int)).data.toList.length
      rw [e]
      exact List.length_pos_iff.2 dd.1
    unfold valV
    simp only [n0, Bool.false_eq_true, if_false, if_true, e, dec_val u u (by omega) (by omega), z, decide_true]
end Go.Proofs.YtckmpipiginhaaaDoor.Codes
