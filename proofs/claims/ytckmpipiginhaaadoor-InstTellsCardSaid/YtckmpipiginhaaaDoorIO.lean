/-
  The reference: the instruction of a text.
  Conditions: none.
-/
import Derived.Test.YtckmpipiginhaaaDoorIN
set_option linter.unusedVariables false
set_option linter.unusedSimpArgs false
set_option maxRecDepth 100000
namespace Go.Proofs.YtckmpipiginhaaaDoor.Codes
open Go Go.Deepv

/-- The instruction of words behind the first one, and whether all are numbers. -/
def instW (k : Int) : List ByteArray → (Int × Int × Int × Int) × Bool
  | [] => ((k, 0, 0, 0), true)
  | [x] => ((k, (valV x).1, 0, 0), (valV x).2)
  | [x, y] => ((k, (valV x).1, (valV y).1, 0), (valV x).2 && (valV y).2)
  | x :: y :: z :: _ => ((k, (valV x).1, (valV y).1, (valV z).1), (valV x).2 && (valV y).2 && (valV z).2)
def fit4 (i : Int × Int × Int × Int) : Bool := fitV i.1 i.2.1 i.2.2.1 i.2.2.2
def show4 (i : Int × Int × Int × Int) : ByteArray := showV i.1 i.2.1 i.2.2.1 i.2.2.2
def hitR (s w0 : ByteArray) (wt : List ByteArray) (r : Row) (k : Int) : Bool :=
  decide (r.nm.toList = w0.toList) && decide ((wt.length : Int) = numsV r) && (instW k wt).2 && fit4 (instW k wt).1 && decide ((show4 (instW k wt).1).toList = s.toList)
def rdL (s w0 : ByteArray) (wt : List ByteArray) : List Row → Int → Option (Int × Int × Int × Int)
  | [], _ => none
  | r :: l, k => if hitR s w0 wt r k = true then some (instW k wt).1 else rdL s w0 wt l (k + 1)
def box4 (i : Int × Int × Int × Int) : Res := .box [.d (.int .i64 i.1), .d (.int .i64 i.2.1), .d (.int .i64 i.2.2.1), .d (.int .i64 i.2.2.2)]
def st11 (s w0 : ByteArray) (wt : List ByteArray) (k : Int) : List DV := den 88 [(0, .d (.str s)), (2, .ptr 0 0), (4, .d (.slice 1 ([FV.str w0] :: strsF wt))), (5, .d (.int .i64 k))]
def out11 (r : Option (Int × Int × Int × Int)) : DRun := match r with
  | some i => (.ret, den 88 [(2, .ptr 0 0), (3, .d (.int .i64 0))], [box4 i])
  | none => (.exit 0, den 88 [(2, .ptr 0 0)], [box4 (0, 0, 0, 0)])
theorem iff_if {p q : Prop} [Decidable p] [Decidable q] (h : p ↔ q) {α : Sort _} {x y : α} : (if p then x else y) = if q then x else y := by
  by_cases hq : q
  · rw [if_pos hq, if_pos (h.2 hq)]
  · rw [if_neg hq, if_neg (mt h.1 hq)]
set_option maxHeartbeats 16000000 in
theorem loop11 (s w0 : ByteArray) (wt : List ByteArray) (hs : s.size < 4294967281) (hw : ∀ x ∈ wt, x.size < 4294967281) : ∃ K, L env 1 true H11L5 X11L5 B11L5 = K ∧ ∀ (l : List Row) (k : Nat), rowsT.drop k = l → k ≤ 16 →
    K (st11 s w0 wt (k : Int)) [box4 (0, 0, 0, 0)] = some (out11 (rdL s w0 wt l k)) := by
  obtain ⟨K, hK⟩ : ∃ K, L env 1 true H11L5 X11L5 B11L5 = K := ⟨_, rfl⟩
  refine ⟨K, hK, ?_⟩
  intro l
  induction l with
  | nil =>
    intro k hl hk
    have : rowsT.length ≤ k := List.drop_eq_nil_iff.1 hl
    have : rowsT.length = 16 := rfl
    have e : k = 16 := by omega
    subst e
    rw [L_rnd hK]
    simp (maxSteps := 9999999) -implicitDefEqProofs only [st11, out11, box4, B11L5, rdL, unnil, keyOk, keyEq, findE, appVec, slk, agreeS, idxS, keepS, lowS, dbin, dun, List.replicate, DV.cells, DV.flat, dload, DV.elems, reduceCtorEq, DV.lows, DV.low, DV.coe, DV.isD, dresults, dresult, withHeap, lowCells, LSt.isReady, srcElems, DV.int, DV.mkAgg, same, mnmx2, nilness, bound, fill, flatCells, allocCells, putCells, splitG, onG, insD, memD, seval, ↓joinK_t, ↓joinK_f, ↓reduceIte, stq]
  | cons r l ih =>
    intro k hl hk
    have hlt : k < 16 := by
      rcases Nat.lt_or_ge k 16 with h | h
      · exact h
      · rw [List.drop_eq_nil_of_le (by exact h)] at hl; cases hl
    have hr : rowsT[k]? = some r := by
      have := congrArg (fun l => l[0]?) hl
      simpa using this
    have hd : rowsT.drop (k + 1) = l := by
      rw [← List.drop_drop, hl]; rfl
    have ih := ih (k + 1) hd (by omega)
    have lt2 : (k : Int) < 16 := by omega
    have w1 : IntKind.i64.wrap ((k : Int) + 1) = ((k + 1 : Nat) : Int) := by rw [wrap_id (by omega) (by omega)]; omega
    have e30 := fun h => name_ok k hlt hr h
    have cast1 : (k : Int) + 1 = ((k + 1 : Nat) : Int) := by omega
    simp only [rdL]
    rw [cast1]
    generalize rdL s w0 wt l ((k + 1 : Nat) : Int) = rest at *
    simp only [st11, out11, box4] at ih
    by_cases h1 : r.nm.toList = w0.toList
    · by_cases h2 : (wt.length : Int) = numsV r
      · have e31 := fun x (hx : x ∈ wt) h => value_ok x (hw x hx) h
        have q : ¬ ((r.nm.toList == w0.toList) = false) := by rw [h1]; simp
        match wt, h2 with
        | [], h2 =>
          have hn : numsV r = 0 := by simpa using h2.symm
          rw [hn] at e30
          have e8 := fun h => rfit_ok k 0 0 0 h
          have e16 := fun h => rshow_ok k 0 0 0 h
          simp only [strsF, List.map_cons, List.map_nil] at ih
          have hh : hitR s w0 [] r k = true ↔ ((fitV k 0 0 0 = true) ∧ (showV k 0 0 0).toList = s.toList) := by
            unfold hitR instW
            simp [h1, hn, fit4, show4, and_assoc]
            repeat intro _
            exact decide_eq_true_iff
          rw [L_rnd hK]
          simp (maxSteps := 9999999) -implicitDefEqProofs only [st11, out11, box4, B11L5, lt2, e30, h1, w1, L_go, B11L12, strsF, e8, e16, ih, unnil, keyOk, keyEq, findE, appVec, slk, agreeS, idxS, keepS, lowS, dbin, dun, List.replicate, DV.cells, DV.flat, dload, DV.elems, reduceCtorEq, DV.lows, DV.low, DV.coe, DV.isD, dresults, dresult, withHeap, lowCells, LSt.isReady, srcElems, DV.int, DV.mkAgg, same, mnmx2, nilness, bound, fill, flatCells, allocCells, putCells, splitG, onG, insD, memD, seval, ↓joinK_t, ↓joinK_f, ↓reduceIte, stq]
          try simp only [and_assoc]
          try simp only [and_assoc] at hh
          rw [iff_if hh]
          split
          all_goals first | rfl | skip
        | [x], h2 =>
          have hn : numsV r = 1 := by simpa using h2.symm
          rw [hn] at e30
          have e31x := fun h => e31 x (by simp) h
          have e8 := fun h => rfit_ok k (valV x).1 0 0 h
          have e16 := fun h => rshow_ok k (valV x).1 0 0 h
          simp only [strsF, List.map_cons, List.map_nil] at ih
          have hh : hitR s w0 [x] r k = true ↔ (((valV x).2 = true ∧ fitV k (valV x).1 0 0 = true) ∧ (showV k (valV x).1 0 0).toList = s.toList) := by
            unfold hitR instW
            simp [h1, hn, fit4, show4, and_assoc]
            repeat intro _
            exact decide_eq_true_iff
          rw [L_rnd hK]
          simp (maxSteps := 9999999) -implicitDefEqProofs only [st11, out11, box4, B11L5, lt2, e30, h1, w1, L_go, B11L12, strsF, e31x, e8, e16, ih, unnil, keyOk, keyEq, findE, appVec, slk, agreeS, idxS, keepS, lowS, dbin, dun, List.replicate, DV.cells, DV.flat, dload, DV.elems, reduceCtorEq, DV.lows, DV.low, DV.coe, DV.isD, dresults, dresult, withHeap, lowCells, LSt.isReady, srcElems, DV.int, DV.mkAgg, same, mnmx2, nilness, bound, fill, flatCells, allocCells, putCells, splitG, onG, insD, memD, seval, ↓joinK_t, ↓joinK_f, ↓reduceIte, stq]
          try simp only [and_assoc]
          try simp only [and_assoc] at hh
          rw [iff_if hh]
          split
          all_goals first | rfl | skip
        | [x, y], h2 =>
          have hn : numsV r = 2 := by simpa using h2.symm
          rw [hn] at e30
          have e31x := fun h => e31 x (by simp) h
          have e31y := fun h => e31 y (by simp) h
          have e8 := fun h => rfit_ok k (valV x).1 (valV y).1 0 h
          have e16 := fun h => rshow_ok k (valV x).1 (valV y).1 0 h
          simp only [strsF, List.map_cons, List.map_nil] at ih
          have hh : hitR s w0 [x, y] r k = true ↔ (((valV x).2 = true ∧ (valV y).2 = true ∧ fitV k (valV x).1 (valV y).1 0 = true) ∧ (showV k (valV x).1 (valV y).1 0).toList = s.toList) := by
            unfold hitR instW
            simp [h1, hn, fit4, show4, and_assoc]
            repeat intro _
            exact decide_eq_true_iff
          rw [L_rnd hK]
          simp (maxSteps := 9999999) -implicitDefEqProofs only [st11, out11, box4, B11L5, lt2, e30, h1, w1, L_go, B11L12, strsF, e31x, e31y, e8, e16, ih, unnil, keyOk, keyEq, findE, appVec, slk, agreeS, idxS, keepS, lowS, dbin, dun, List.replicate, DV.cells, DV.flat, dload, DV.elems, reduceCtorEq, DV.lows, DV.low, DV.coe, DV.isD, dresults, dresult, withHeap, lowCells, LSt.isReady, srcElems, DV.int, DV.mkAgg, same, mnmx2, nilness, bound, fill, flatCells, allocCells, putCells, splitG, onG, insD, memD, seval, ↓joinK_t, ↓joinK_f, ↓reduceIte, stq]
          try simp only [and_assoc]
          try simp only [and_assoc] at hh
          rw [iff_if hh]
          split
          all_goals first | rfl | skip
        | [x, y, z], h2 =>
          have hn : numsV r = 3 := by simpa using h2.symm
          rw [hn] at e30
          have e31x := fun h => e31 x (by simp) h
          have e31y := fun h => e31 y (by simp) h
          have e31z := fun h => e31 z (by simp) h
          have e8 := fun h => rfit_ok k (valV x).1 (valV y).1 (valV z).1 h
          have e16 := fun h => rshow_ok k (valV x).1 (valV y).1 (valV z).1 h
          simp only [strsF, List.map_cons, List.map_nil] at ih
          have hh : hitR s w0 [x, y, z] r k = true ↔ (((valV x).2 = true ∧ (valV y).2 = true ∧ (valV z).2 = true ∧ fitV k (valV x).1 (valV y).1 (valV z).1 = true) ∧ (showV k (valV x).1 (valV y).1 (valV z).1).toList = s.toList) := by
            unfold hitR instW
            simp [h1, hn, fit4, show4, and_assoc]
            repeat intro _
            exact decide_eq_true_iff
          rw [L_rnd hK]
          simp (maxSteps := 9999999) -implicitDefEqProofs only [st11, out11, box4, B11L5, lt2, e30, h1, w1, L_go, B11L12, strsF, e31x, e31y, e31z, e8, e16, ih, unnil, keyOk, keyEq, findE, appVec, slk, agreeS, idxS, keepS, lowS, dbin, dun, List.replicate, DV.cells, DV.flat, dload, DV.elems, reduceCtorEq, DV.lows, DV.low, DV.coe, DV.isD, dresults, dresult, withHeap, lowCells, LSt.isReady, srcElems, DV.int, DV.mkAgg, same, mnmx2, nilness, bound, fill, flatCells, allocCells, putCells, splitG, onG, insD, memD, seval, ↓joinK_t, ↓joinK_f, ↓reduceIte, stq]
          try simp only [and_assoc]
          try simp only [and_assoc] at hh
          rw [iff_if hh]
          split
          all_goals first | rfl | skip
        | _ :: _ :: _ :: _ :: _, h2 => exact absurd h2 (by have := numsV_cases r; simp; omega)
      · have hh : hitR s w0 wt r k = false := by unfold hitR; simp [h1, h2]
        rw [hh]
        have n1 : numsV r = 0 ∨ numsV r = 1 ∨ numsV r = 2 ∨ numsV r = 3 := numsV_cases r
        have w2 : IntKind.i64.wrap (numsV r + 1) = numsV r + 1 := wrap_id (by omega) (by omega)
        have h3 : ¬ ((wt.length + 1 : Nat) : Int) = numsV r + 1 := by omega
        rw [L_rnd hK]
        simp (maxSteps := 9999999) -implicitDefEqProofs only [st11, out11, box4, B11L5, lt2, e30, h1, h3, w1, w2, strsF_len, ih, unnil, keyOk, keyEq, findE, appVec, slk, agreeS, idxS, keepS, lowS, dbin, dun, List.replicate, DV.cells, DV.flat, dload, DV.elems, reduceCtorEq, DV.lows, DV.low, DV.coe, DV.isD, dresults, dresult, withHeap, lowCells, LSt.isReady, srcElems, DV.int, DV.mkAgg, same, mnmx2, nilness, bound, fill, flatCells, allocCells, putCells, splitG, onG, insD, memD, seval, ↓joinK_t, ↓joinK_f, ↓reduceIte, stq]
    · have hh : hitR s w0 wt r k = false := by unfold hitR; simp [h1]
      rw [hh]
      rw [L_rnd hK]
      simp (maxSteps := 9999999) -implicitDefEqProofs only [st11, out11, box4, B11L5, lt2, e30, h1, w1, ih, unnil, keyOk, keyEq, findE, appVec, slk, agreeS, idxS, keepS, lowS, dbin, dun, List.replicate, DV.cells, DV.flat, dload, DV.elems, reduceCtorEq, DV.lows, DV.low, DV.coe, DV.isD, dresults, dresult, withHeap, lowCells, LSt.isReady, srcElems, DV.int, DV.mkAgg, same, mnmx2, nilness, bound, fill, flatCells, allocCells, putCells, splitG, onG, insD, memD, seval, ↓joinK_t, ↓joinK_f, ↓reduceIte, stq]
      rw [if_pos (.inl (by simpa using h1))]
def rinstF (p : Option (Int × Int × Int × Int)) : FV := match p with
  | some i => .tup [.agg [.int .i64 i.1, .int .i64 i.2.1, .int .i64 i.2.2.1, .int .i64 i.2.2.2], .int .i64 0]
  | none => .tup [.agg [.int .i64 0, .int .i64 0, .int .i64 0, .int .i64 0], .int .i64 19]
theorem wordsV_nm {o a b c : Int} {r : Row} (he : ofV o a b c = (r, true)) : wordsV o a b c = r.nm :: ([a, b, c].take (numsV r).toNat).map itoaB := by unfold wordsV; rw [he]
/-- What is found is what is read. -/
theorem rdL_some {s w0 : ByteArray} {wt : List ByteArray} {i : Int × Int × Int × Int} : ∀ (l : List Row) (k : Int), rdL s w0 wt l k = some i → fit4 i = true ∧ show4 i = s
  | [], k, h => by cases h
  | r :: l, k, h => by
    unfold rdL at h
    split at h
    · rename_i hh
      cases h
      unfold hitR at hh
      simp only [Bool.and_eq_true, decide_eq_true_eq] at hh
      exact ⟨hh.1.2, WideShapes.bytes_inj (by rw [← ByteArray.toList_eq, ← ByteArray.toList_eq]; exact hh.2)⟩
    · exact rdL_some l _ h
theorem rdL_none {s w0 : ByteArray} {wt : List ByteArray} : ∀ (l : List Row) (k : Int), rdL s w0 wt l k = none → ∀ (j : Nat) (r : Row), l[j]? = some r → hitR s w0 wt r (k + j) = false
  | [], k, h, j, r, hj => by cases hj
  | x :: l, k, h, j, r, hj => by
    unfold rdL at h
    split at h
    · cases h
    · rename_i hh
      cases j with
      | zero =>
        simp at hj
        subst hj
        simpa using hh
      | succ j =>
        have := rdL_none l (k + 1) h j r (by simpa using hj)
        rw [show k + ((j + 1 : Nat) : Int) = k + 1 + (j : Int) by omega]
        exact this
theorem rdL_read {s w0 : ByteArray} {wt : List ByteArray} (hw : splitV s = w0 :: wt) : rdL s w0 wt rowsT 0 = readV s := by
  cases hr : rdL s w0 wt rowsT 0 with
  | some i =>
    obtain ⟨h1, h2⟩ := rdL_some _ _ hr
    obtain ⟨o, a, b, c⟩ := i
    have := (show_fit h1).2
    rw [show showV o a b c = s from h2] at this
    exact this.symm
  | none =>
    cases hv : readV s with
    | none => rfl
    | some i =>
      exfalso
      obtain ⟨o, a, b, c⟩ := i
      obtain ⟨hf, hs⟩ := read_back hv
      have hall := rdL_none _ _ hr
      obtain ⟨r, hro, hm, hfr, he⟩ := ofV_true (o := o) (a := a) (b := b) (c := c) hf
      have ho : ∃ k : Nat, k < 16 ∧ o = k ∧ rowsT[k]? = some r := by
        unfold rowOf at hro
        split at hro
        · exact ⟨o.toNat, by omega, by omega, hro⟩
        · cases hro
      obtain ⟨k, hk, rfl, hk2⟩ := ho
      have hit := hall k r hk2
      obtain ⟨ha, hb, hc, _⟩ := fit_bounds hf
      have hwd : w0 :: wt = r.nm :: ([a, b, c].take (numsV r).toNat).map itoaB := by
        rw [← hw, ← hs, ← wordsV_nm he]
        have e : showV k a b c = joined (wordsV k a b c) sp1 := by unfold showV; rw [if_pos hf]
        rw [e]
        refine split_words (by rw [wordsV_nm he]; simp) ?_
        rw [wordsV_nm he]
        intro w hwm
        rcases List.mem_cons.1 hwm with rfl | hwm
        · exact (rows_words r hm).2
        · obtain ⟨n, _, rfl⟩ := List.mem_map.1 hwm
          exact itoa_blanks n
      obtain ⟨rfl, rfl⟩ := List.cons.inj hwd
      have fz := fit_zero r hm
      simp only [fitR, spanB, Bool.and_eq_true, decide_eq_true_eq] at hfr
      have : hitR s r.nm (([a, b, c].take (numsV r).toNat).map itoaB) r (0 + (k : Int)) = true := by
        rw [Int.zero_add]
        unfold hitR
        have va := val_itoa ha.1 ha.2
        have vb := val_itoa hb.1 hb.2
        have vc := val_itoa hc.1 hc.2
        have hi : instW k (([a, b, c].take (numsV r).toNat).map itoaB) = (((k : Int), a, b, c), true) := by
          rcases numsV_cases r with hn | hn | hn | hn
          · have := fz.1 hn
            rw [hn]
            show ((((k : Int), 0, 0, 0), true) : (Int × Int × Int × Int) × Bool) = _
            rw [show a = 0 by omega, show b = 0 by omega, show c = 0 by omega]
          · have := fz.2.1 hn
            rw [hn]
            show ((((k : Int), (valV (itoaB a)).1, 0, 0), (valV (itoaB a)).2) : (Int × Int × Int × Int) × Bool) = _
            rw [va, show b = 0 by omega, show c = 0 by omega]
          · have := fz.2.2 hn
            rw [hn]
            show ((((k : Int), (valV (itoaB a)).1, (valV (itoaB b)).1, 0), (valV (itoaB a)).2 && (valV (itoaB b)).2) : (Int × Int × Int × Int) × Bool) = _
            rw [va, vb, show c = 0 by omega]
            rfl
          · rw [hn]
            show ((((k : Int), (valV (itoaB a)).1, (valV (itoaB b)).1, (valV (itoaB c)).1), (valV (itoaB a)).2 && (valV (itoaB b)).2 && (valV (itoaB c)).2) : (Int × Int × Int × Int) × Bool) = _
            rw [va, vb, vc]
            rfl
        rw [hi]
        have hl : (((([a, b, c].take (numsV r).toNat).map itoaB).length : Nat) : Int) = numsV r := by
          rcases numsV_cases r with hn | hn | hn | hn <;> rw [hn] <;> rfl
        simp only [fit4, show4, hf, hs, hl, decide_true, Bool.and_self]
      rw [this] at hit
      cases hit
theorem read_long {s : ByteArray} (h : 100 < s.size) : readV s = none := by
  cases hv : readV s with
  | none => rfl
  | some i =>
    exfalso
    obtain ⟨o, a, b, c⟩ := i
    obtain ⟨hf, hs⟩ := read_back hv
    have := show_size o a b c
    rw [hs] at this
    omega
set_option maxHeartbeats 4000000 in
theorem rread_ok (s : ByteArray) (h : List Res) : D env 11 [.d (.str s)] h = some (.val (.d (rinstF (readV s))) h) := by
  by_cases hs : s.size ≤ 100
  · obtain ⟨w0, wt, hw, hz⟩ := splitV_cons s
    have hs2 : s.size < 4294967281 := by omega
    have e29 := fun h => words_ok s hs2 h
    rw [wordsN_split, hw] at e29
    obtain ⟨K, hK, hk⟩ := loop11 s w0 wt hs2 (fun x hx => by have := hz x hx; omega)
    have e := hk rowsT 0 rfl (by omega)
    rw [show ((0 : Nat) : Int) = 0 from rfl, rdL_read hw] at e
    have q : ¬ (100 : Int) < (s.size : Int) := by omega
    simp only [strsF, List.map_cons] at e29
    have e : K (den 88 [(0, .d (.str s)), (2, .ptr 0 0), (4, .d (.slice 1 ([FV.str w0] :: wt.map fun x => [FV.str x]))), (5, .d (.int .i64 0))]) [.box [.d (.int .i64 0), .d (.int .i64 0), .d (.int .i64 0), .d (.int .i64 0)]] = _ := e
    cases hr : readV s with
    | none =>
      rw [hr] at e
      simp only [out11, box4] at e
      rw [D_dat (F := A11) rfl rfl rfl rfl]
      simp (maxSteps := 9999999) -implicitDefEqProofs only [A11, B11, e29, q, hK, e, unnil, keyOk, keyEq, findE, appVec, slk, agreeS, idxS, keepS, lowS, dbin, dun, List.replicate, DV.cells, DV.flat, dload, DV.elems, reduceCtorEq, DV.lows, DV.low, DV.coe, DV.isD, dresults, dresult, withHeap, lowCells, LSt.isReady, srcElems, DV.int, DV.mkAgg, same, mnmx2, nilness, bound, fill, flatCells, allocCells, putCells, splitG, onG, insD, memD, seval, ↓joinK_t, ↓joinK_f, ↓reduceIte, stq]
      rfl
    | some i =>
      rw [hr] at e
      simp only [out11, box4] at e
      rw [D_dat (F := A11) rfl rfl rfl rfl]
      simp (maxSteps := 9999999) -implicitDefEqProofs only [A11, B11, e29, q, hK, e, unnil, keyOk, keyEq, findE, appVec, slk, agreeS, idxS, keepS, lowS, dbin, dun, List.replicate, DV.cells, DV.flat, dload, DV.elems, reduceCtorEq, DV.lows, DV.low, DV.coe, DV.isD, dresults, dresult, withHeap, lowCells, LSt.isReady, srcElems, DV.int, DV.mkAgg, same, mnmx2, nilness, bound, fill, flatCells, allocCells, putCells, splitG, onG, insD, memD, seval, ↓joinK_t, ↓joinK_f, ↓reduceIte, stq]
      rfl
  · rw [read_long (by omega)]
    have q : (100 : Int) < (s.size : Int) := by omega
    rw [D_dat (F := A11) rfl rfl rfl rfl]
    simp (maxSteps := 9999999) -implicitDefEqProofs only [A11, B11, q, unnil, keyOk, keyEq, findE, appVec, slk, agreeS, idxS, keepS, lowS, dbin, dun, List.replicate, DV.cells, DV.flat, dload, DV.elems, reduceCtorEq, DV.lows, DV.low, DV.coe, DV.isD, dresults, dresult, withHeap, lowCells, LSt.isReady, srcElems, DV.int, DV.mkAgg, same, mnmx2, nilness, bound, fill, flatCells, allocCells, putCells, splitG, onG, insD, memD, seval, ↓joinK_t, ↓joinK_f, ↓reduceIte, stq]
    rfl
end Go.Proofs.YtckmpipiginhaaaDoor.Codes
