/-
  The place of a rune among hex digits; bytes that stand behind a back-slash.
  What stands behind a back-slash.
  A quoted text is read.
  Conditions: none.
-/
import Derived.Test.YtoadpaaghjomnaaDoorMF
set_option linter.unusedVariables false
set_option linter.unusedSimpArgs false
set_option maxRecDepth 100000
namespace Go.Proofs.YtoadpaaghjomnaaDoor.Codes
open Go Go.Deepv

def hexes : ByteArray := ⟨#[48, 49, 50, 51, 52, 53, 54, 55, 56, 57, 97, 98, 99, 100, 101, 102]⟩
theorem indexByte_ok (s : ByteArray) (c : Int) (h : List Res) : D env 87 [.d (.str s), .d (.int .u8 c)] h = some (.val (.d (.int .i64 (Lib.indexByte s.data.toList c.toNat.toUInt8))) h) := by
  have e97 : ∀ h, D env 97 [.d (.str s), .d (.int .u8 c)] h = some (.val (.d (.int .i64 (Lib.indexByte s.data.toList c.toNat.toUInt8))) h) := fun h => by
    rw [D_dat (F := A97) rfl rfl rfl rfl]
    simp -implicitDefEqProofs only [A97, B97, dbody, dexec, ostep, dop, ev, put, wants, dbin, dun, List.replicate, Nat.reduceAdd, Nat.reduceSub, Nat.reduceLT, Nat.reduceLeDiff, Nat.reduceMul, DV.cells, DV.flat, dload, DV.elems, reduceCtorEq, mask, DV.lows, DV.low, DV.coe, DV.isD, dresults, dresult, withHeap, lowCells, LSt.isReady, srcElems, DV.int, DV.mkAgg, same, mnmx2, nilness, bound, fill, flatCells, Int.reduceLE, Int.reduceLT, Int.reduceAdd, Int.reduceSub, Int.reduceNeg, Int.reduceEq, Int.reduceBEq, Int.reduceBNe, Nat.reduceBEq, Nat.reduceEqDiff, Int.reduceToNat, allocCells, stp]
  rw [D_dat (F := A87) rfl rfl rfl rfl]
  simp -implicitDefEqProofs only [A87, B87, dbody, dexec, ostep, dop, ev, put, wants, dbin, dun, List.replicate, Nat.reduceAdd, Nat.reduceSub, Nat.reduceLT, Nat.reduceLeDiff, Nat.reduceMul, DV.cells, DV.flat, dload, DV.elems, reduceCtorEq, mask, DV.lows, DV.low, DV.coe, DV.isD, dresults, dresult, withHeap, lowCells, LSt.isReady, srcElems, DV.int, DV.mkAgg, same, mnmx2, nilness, bound, fill, flatCells, Int.reduceLE, Int.reduceLT, Int.reduceAdd, Int.reduceSub, Int.reduceNeg, Int.reduceEq, Int.reduceBEq, Int.reduceBNe, Nat.reduceBEq, Nat.reduceEqDiff, Int.reduceToNat, allocCells, stp, e97]

theorem hexes_at : ∀ x : Fin 128, Lib.indexByte hexes.data.toList ((x.val : Nat) : Int).toNat.toUInt8 = hexOf ((x.val : Nat) : Int) := by decide
theorem hexes_dec : ∀ x : Fin 16, Utf8.decode hexes x.val = ((hexes.data.toList.getD x.val 0).toNat, 1) ∧ (hexes.data.toList.getD x.val 0).toNat < 128 := by decide
theorem hexes_size : hexes.size = 16 := rfl

def st96 (pos : Nat) : List DV := List.replicate 175 (.d .undef) ++ [.ptr 0 0] ++ List.replicate 11 (.d .undef)
theorem loop96 : ∀ (n pos : Nat), pos + n = 16 → ∃ I, L env 1 true H96L38 X96L38 B96L38 (st96 pos) [.iter hexes pos] = some (.exit 9, List.replicate 187 (.d .undef), [I]) := by
  obtain ⟨K, hK⟩ : ∃ K, L env 1 true H96L38 X96L38 B96L38 = K := ⟨_, rfl⟩
  rw [hK]
  intro n
  induction n with
  | zero =>
    intro pos hp
    refine ⟨.iter hexes pos, ?_⟩
    have h1 : ¬ pos < hexes.size := by rw [hexes_size]; omega
    rw [L_round hK]
    simp -implicitDefEqProofs only [B96L38, st96, dbody, dexec, ostep, dop, ev, put, wants, dbin, dun, List.replicate, Nat.reduceAdd, Nat.reduceSub, Nat.reduceLT, Nat.reduceLeDiff, Nat.reduceMul, DV.cells, DV.flat, dload, DV.elems, reduceCtorEq, mask, DV.lows, DV.low, DV.coe, DV.isD, dresults, dresult, withHeap, lowCells, LSt.isReady, srcElems, DV.int, DV.mkAgg, same, mnmx2, nilness, bound, fill, flatCells, Int.reduceLE, Int.reduceLT, Int.reduceAdd, Int.reduceSub, Int.reduceNeg, Int.reduceEq, Int.reduceBEq, Int.reduceBNe, Nat.reduceBEq, Nat.reduceEqDiff, Int.reduceToNat, allocCells, stp, h1]
  | succ n ih =>
    intro pos hp
    obtain ⟨I, ih⟩ := ih (pos + 1) (by omega)
    refine ⟨I, ?_⟩
    have h1 : pos < hexes.size := by rw [hexes_size]; omega
    have hd := hexes_dec ⟨pos, by omega⟩
    simp only at hd
    have d1 : (Utf8.decode hexes pos).1 = (hexes.data.toList.getD pos 0).toNat := by rw [hd.1]
    have d2 : (Utf8.decode hexes pos).2 = 1 := by rw [hd.1]
    have hlt := hd.2
    generalize (hexes.data.toList.getD pos 0).toNat = r at *
    have hne : ((r : Int) == 65533) = false := by simp; omega
    simp only [st96, List.replicate, List.cons_append, List.nil_append] at ih
    rw [L_round hK]
    simp -implicitDefEqProofs only [B96L38, st96, dbody, dexec, ostep, dop, ev, put, wants, dbin, dun, List.replicate, Nat.reduceAdd, Nat.reduceSub, Nat.reduceLT, Nat.reduceLeDiff, Nat.reduceMul, DV.cells, DV.flat, dload, DV.elems, reduceCtorEq, mask, DV.lows, DV.low, DV.coe, DV.isD, dresults, dresult, withHeap, lowCells, LSt.isReady, srcElems, DV.int, DV.mkAgg, same, mnmx2, nilness, bound, fill, flatCells, Int.reduceLE, Int.reduceLT, Int.reduceAdd, Int.reduceSub, Int.reduceNeg, Int.reduceEq, Int.reduceBEq, Int.reduceBNe, Nat.reduceBEq, Nat.reduceEqDiff, Int.reduceToNat, allocCells, stp, h1, d1, d2, hne, ih]

theorem enc_last {c : Nat} (h : Utf8.valid (c : Int) = true) (h0 : 128 ≤ c) : ∃ n, 2 ≤ n ∧ n ≤ 4 ∧ (Utf8.encode (c : Int)).size = n ∧ (Utf8.encode (c : Int))[n - 1]? = some (UInt8.ofNat (128 + c % 64)) := by
  have he := encode_encL h
  generalize Utf8.encode (c : Int) = E at *
  have hs : E.size = (encL c).length := by rw [← he]; exact Array.length_toList.symm
  have hg : ∀ k, E[k]? = (encL c)[k]? := fun k => by
    have := ba_get E 0 k
    rw [he, Nat.zero_add] at this
    exact this
  rw [hs]
  refine ⟨(encL c).length, ?_⟩
  rw [hg]
  unfold encL
  rw [if_neg (by omega)]
  split
  · simp
  · split <;> simp
theorem extr1 : ∀ x : Fin 128, Lib.indexByte (hexes.extract 2 16).data.toList (((128 + x.val : Nat) : Int).toNat.toUInt8) = -1 := by decide
theorem extr2 : ∀ x : Fin 128, Lib.indexByte (hexes.extract 3 16).data.toList (((128 + x.val : Nat) : Int).toNat.toUInt8) = -1 := by decide
theorem extr3 : ∀ x : Fin 128, Lib.indexByte (hexes.extract 4 16).data.toList (((128 + x.val : Nat) : Int).toNat.toUInt8) = -1 := by decide
def st96b (E : ByteArray) (m : Int) (r : Int) : List DV := [.d (.str hexes), .d .undef, .d .undef, .d .undef, .d .undef, .d .undef, .d .undef, .d (.str E), .d (.int .i64 m), .d (.int .i64 m)] ++ List.replicate 177 (.d .undef)
def ex96b : List DV := [.d .undef, .d .undef, .d .undef, .d .undef, .d (.int .i64 (-1))] ++ List.replicate 182 (.d .undef)
theorem round96_1 (E : ByteArray) (r : Int) {x : Fin 64} (h1 : E[1]? = some (UInt8.ofNat (128 + x.val))) : L env 0 true H96L5 X96L5 B96L5 (st96b E 1 r) [] = some (.ret, ex96b, []) := by
  obtain ⟨K, hK⟩ : ∃ K, L env 0 true H96L5 X96L5 B96L5 = K := ⟨_, rfl⟩
  have hb : (UInt8.ofNat (128 + x.val)).toNat = 128 + x.val := ofNat_toNat (by omega)
  have e87 := fun h => indexByte_ok (hexes.extract 2 hexes.size) ((128 + x.val : Nat) : Int) h
  rw [hexes_size, extr1 ⟨x.val, by omega⟩] at e87
  have hat : hexes[1]? = some 49 := rfl
  have hbb : (49 : UInt8).toNat = 49 := rfl
  have hne : ((49 : Int) != ((128 + x.val : Nat) : Int)) = true := by simp; omega
  have w1 : IntKind.i64.wrap (1 + 1) = 2 := rfl
  have w2 : IntKind.i64.wrap 2 = 2 := rfl
  have z16 : ((16 : Nat) : Int) = 16 := rfl
  have zb : (((49 : Nat)) : Int) = 49 := rfl
  rw [hK, L_round hK]
  simp -implicitDefEqProofs only [B96L5, st96b, ex96b, dbody, dexec, ostep, dop, ev, put, wants, dbin, dun, List.replicate, Nat.reduceAdd, Nat.reduceSub, Nat.reduceLT, Nat.reduceLeDiff, Nat.reduceMul, DV.cells, DV.flat, dload, DV.elems, reduceCtorEq, mask, DV.lows, DV.low, DV.coe, DV.isD, dresults, dresult, withHeap, lowCells, LSt.isReady, srcElems, DV.int, DV.mkAgg, same, mnmx2, nilness, bound, fill, flatCells, Int.reduceLE, Int.reduceLT, Int.reduceAdd, Int.reduceSub, Int.reduceNeg, Int.reduceEq, Int.reduceBEq, Int.reduceBNe, Nat.reduceBEq, Nat.reduceEqDiff, Int.reduceToNat, allocCells, stp, hexes_size, z16, hat, hbb, zb, h1, hb, hne, w1, w2, e87]
theorem round96_2 (E : ByteArray) (r : Int) {x : Fin 64} (h1 : E[2]? = some (UInt8.ofNat (128 + x.val))) : L env 0 true H96L5 X96L5 B96L5 (st96b E 2 r) [] = some (.ret, ex96b, []) := by
  obtain ⟨K, hK⟩ : ∃ K, L env 0 true H96L5 X96L5 B96L5 = K := ⟨_, rfl⟩
  have hb : (UInt8.ofNat (128 + x.val)).toNat = 128 + x.val := ofNat_toNat (by omega)
  have e87 := fun h => indexByte_ok (hexes.extract 3 hexes.size) ((128 + x.val : Nat) : Int) h
  rw [hexes_size, extr2 ⟨x.val, by omega⟩] at e87
  have hat : hexes[2]? = some 50 := rfl
  have hbb : (50 : UInt8).toNat = 50 := rfl
  have hne : ((50 : Int) != ((128 + x.val : Nat) : Int)) = true := by simp; omega
  have w1 : IntKind.i64.wrap (2 + 1) = 3 := rfl
  have w2 : IntKind.i64.wrap 3 = 3 := rfl
  have z16 : ((16 : Nat) : Int) = 16 := rfl
  have zb : (((50 : Nat)) : Int) = 50 := rfl
  rw [hK, L_round hK]
  simp -implicitDefEqProofs only [B96L5, st96b, ex96b, dbody, dexec, ostep, dop, ev, put, wants, dbin, dun, List.replicate, Nat.reduceAdd, Nat.reduceSub, Nat.reduceLT, Nat.reduceLeDiff, Nat.reduceMul, DV.cells, DV.flat, dload, DV.elems, reduceCtorEq, mask, DV.lows, DV.low, DV.coe, DV.isD, dresults, dresult, withHeap, lowCells, LSt.isReady, srcElems, DV.int, DV.mkAgg, same, mnmx2, nilness, bound, fill, flatCells, Int.reduceLE, Int.reduceLT, Int.reduceAdd, Int.reduceSub, Int.reduceNeg, Int.reduceEq, Int.reduceBEq, Int.reduceBNe, Nat.reduceBEq, Nat.reduceEqDiff, Int.reduceToNat, allocCells, stp, hexes_size, z16, hat, hbb, zb, h1, hb, hne, w1, w2, e87]
theorem round96_3 (E : ByteArray) (r : Int) {x : Fin 64} (h1 : E[3]? = some (UInt8.ofNat (128 + x.val))) : L env 0 true H96L5 X96L5 B96L5 (st96b E 3 r) [] = some (.ret, ex96b, []) := by
  obtain ⟨K, hK⟩ : ∃ K, L env 0 true H96L5 X96L5 B96L5 = K := ⟨_, rfl⟩
  have hb : (UInt8.ofNat (128 + x.val)).toNat = 128 + x.val := ofNat_toNat (by omega)
  have e87 := fun h => indexByte_ok (hexes.extract 4 hexes.size) ((128 + x.val : Nat) : Int) h
  rw [hexes_size, extr3 ⟨x.val, by omega⟩] at e87
  have hat : hexes[3]? = some 51 := rfl
  have hbb : (51 : UInt8).toNat = 51 := rfl
  have hne : ((51 : Int) != ((128 + x.val : Nat) : Int)) = true := by simp; omega
  have w1 : IntKind.i64.wrap (3 + 1) = 4 := rfl
  have w2 : IntKind.i64.wrap 4 = 4 := rfl
  have z16 : ((16 : Nat) : Int) = 16 := rfl
  have zb : (((51 : Nat)) : Int) = 51 := rfl
  rw [hK, L_round hK]
  simp -implicitDefEqProofs only [B96L5, st96b, ex96b, dbody, dexec, ostep, dop, ev, put, wants, dbin, dun, List.replicate, Nat.reduceAdd, Nat.reduceSub, Nat.reduceLT, Nat.reduceLeDiff, Nat.reduceMul, DV.cells, DV.flat, dload, DV.elems, reduceCtorEq, mask, DV.lows, DV.low, DV.coe, DV.isD, dresults, dresult, withHeap, lowCells, LSt.isReady, srcElems, DV.int, DV.mkAgg, same, mnmx2, nilness, bound, fill, flatCells, Int.reduceLE, Int.reduceLT, Int.reduceAdd, Int.reduceSub, Int.reduceNeg, Int.reduceEq, Int.reduceBEq, Int.reduceBNe, Nat.reduceBEq, Nat.reduceEqDiff, Int.reduceToNat, allocCells, stp, hexes_size, z16, hat, hbb, zb, h1, hb, hne, w1, w2, e87]

theorem indexRune_ok (r : Int) (hr : r = -1 ∨ rScal r = true) (h : List Res) : D env 96 [.d (.str hexes), .d (.int .i32 r)] h = some (.val (.d (.int .i64 (hexOf r))) h) := by
  rw [D_dat (F := A96) rfl rfl rfl rfl]
  rcases hr with rfl | hr
  · have e75 := fun h => validRune_ok (-1) h
    have hv : rScal (-1) = false := by decide
    have ho : hexOf (-1) = -1 := by decide
    rw [hv] at e75
    rw [ho]
    simp -implicitDefEqProofs only [A96, B96, dbody, dexec, ostep, dop, ev, put, wants, dbin, dun, List.replicate, Nat.reduceAdd, Nat.reduceSub, Nat.reduceLT, Nat.reduceLeDiff, Nat.reduceMul, DV.cells, DV.flat, dload, DV.elems, reduceCtorEq, mask, DV.lows, DV.low, DV.coe, DV.isD, dresults, dresult, withHeap, lowCells, LSt.isReady, srcElems, DV.int, DV.mkAgg, same, mnmx2, nilness, bound, fill, flatCells, Int.reduceLE, Int.reduceLT, Int.reduceAdd, Int.reduceSub, Int.reduceNeg, Int.reduceEq, Int.reduceBEq, Int.reduceBNe, Nat.reduceBEq, Nat.reduceEqDiff, Int.reduceToNat, allocCells, stp, e75]
  · obtain ⟨h0, hv⟩ := (rScal_iff r).1 hr
    obtain ⟨c, rfl⟩ : ∃ c : Nat, r = c := ⟨r.toNat, (Int.toNat_of_nonneg h0).symm⟩
    rw [Int.toNat_natCast] at hv
    by_cases h1 : c < 128
    · have e87 := fun h => indexByte_ok hexes c h
      rw [hexes_at ⟨c, h1⟩] at e87
      have g1 : (c : Int) < 128 := by omega
      have wu : IntKind.u8.wrap (c : Int) = c := wrap_u8 (by omega) (by omega)
      simp -implicitDefEqProofs only [A96, B96, dbody, dexec, ostep, dop, ev, put, wants, dbin, dun, List.replicate, Nat.reduceAdd, Nat.reduceSub, Nat.reduceLT, Nat.reduceLeDiff, Nat.reduceMul, DV.cells, DV.flat, dload, DV.elems, reduceCtorEq, mask, DV.lows, DV.low, DV.coe, DV.isD, dresults, dresult, withHeap, lowCells, LSt.isReady, srcElems, DV.int, DV.mkAgg, same, mnmx2, nilness, bound, fill, flatCells, Int.reduceLE, Int.reduceLT, Int.reduceAdd, Int.reduceSub, Int.reduceNeg, Int.reduceEq, Int.reduceBEq, Int.reduceBNe, Nat.reduceBEq, Nat.reduceEqDiff, Int.reduceToNat, allocCells, stp, h0, g1, wu, e87]
    · have g1 : ¬ (c : Int) < 128 := by omega
      have ho : hexOf (c : Int) = -1 := by
        unfold hexOf
        rw [if_neg (by omega), if_neg (by omega)]
      rw [ho]
      by_cases h2 : c = 65533
      · subst h2
        obtain ⟨I, hl⟩ := loop96 16 0 rfl
        have z : ((65533 : Nat) : Int) = 65533 := rfl
        simp only [st96, List.replicate, List.cons_append, List.nil_append] at hl
        simp only [z]
        simp -implicitDefEqProofs only [A96, B96, dbody, dexec, ostep, dop, ev, put, wants, dbin, dun, List.replicate, Nat.reduceAdd, Nat.reduceSub, Nat.reduceLT, Nat.reduceLeDiff, Nat.reduceMul, DV.cells, DV.flat, dload, DV.elems, reduceCtorEq, mask, DV.lows, DV.low, DV.coe, DV.isD, dresults, dresult, withHeap, lowCells, LSt.isReady, srcElems, DV.int, DV.mkAgg, same, mnmx2, nilness, bound, fill, flatCells, Int.reduceLE, Int.reduceLT, Int.reduceAdd, Int.reduceSub, Int.reduceNeg, Int.reduceEq, Int.reduceBEq, Int.reduceBNe, Nat.reduceBEq, Nat.reduceEqDiff, Int.reduceToNat, allocCells, stp, hl]
      · have g2 : ((c : Int) == 65533) = false := by simp; omega
        have e75 := fun h => validRune_ok c h
        rw [hr] at e75
        obtain ⟨n, n1, n2, n3, n4⟩ := enc_last hv (by omega)
        have hn : n = 2 ∨ n = 3 ∨ n = 4 := by omega
        rcases hn with rfl | rfl | rfl
        · have hl := round96_1 (Utf8.encode (c : Int)) c (x := ⟨c % 64, by omega⟩) n4
          have z : ((2 : Nat) : Int) = 2 := rfl
          have w1 : IntKind.i64.wrap (2 - 1) = 1 := rfl
          have w2 : IntKind.i64.wrap 1 = 1 := rfl
          simp only [st96b, ex96b, hexes, List.replicate, List.cons_append, List.nil_append] at hl
          simp -implicitDefEqProofs only [A96, B96, dbody, dexec, ostep, dop, ev, put, wants, dbin, dun, List.replicate, Nat.reduceAdd, Nat.reduceSub, Nat.reduceLT, Nat.reduceLeDiff, Nat.reduceMul, DV.cells, DV.flat, dload, DV.elems, reduceCtorEq, mask, DV.lows, DV.low, DV.coe, DV.isD, dresults, dresult, withHeap, lowCells, LSt.isReady, srcElems, DV.int, DV.mkAgg, same, mnmx2, nilness, bound, fill, flatCells, Int.reduceLE, Int.reduceLT, Int.reduceAdd, Int.reduceSub, Int.reduceNeg, Int.reduceEq, Int.reduceBEq, Int.reduceBNe, Nat.reduceBEq, Nat.reduceEqDiff, Int.reduceToNat, allocCells, stp, h0, g1, g2, e75, n3, z, w1, w2, hl, hexes]
        · have hl := round96_2 (Utf8.encode (c : Int)) c (x := ⟨c % 64, by omega⟩) n4
          have z : ((3 : Nat) : Int) = 3 := rfl
          have w1 : IntKind.i64.wrap (3 - 1) = 2 := rfl
          have w2 : IntKind.i64.wrap 2 = 2 := rfl
          simp only [st96b, ex96b, hexes, List.replicate, List.cons_append, List.nil_append] at hl
          simp -implicitDefEqProofs only [A96, B96, dbody, dexec, ostep, dop, ev, put, wants, dbin, dun, List.replicate, Nat.reduceAdd, Nat.reduceSub, Nat.reduceLT, Nat.reduceLeDiff, Nat.reduceMul, DV.cells, DV.flat, dload, DV.elems, reduceCtorEq, mask, DV.lows, DV.low, DV.coe, DV.isD, dresults, dresult, withHeap, lowCells, LSt.isReady, srcElems, DV.int, DV.mkAgg, same, mnmx2, nilness, bound, fill, flatCells, Int.reduceLE, Int.reduceLT, Int.reduceAdd, Int.reduceSub, Int.reduceNeg, Int.reduceEq, Int.reduceBEq, Int.reduceBNe, Nat.reduceBEq, Nat.reduceEqDiff, Int.reduceToNat, allocCells, stp, h0, g1, g2, e75, n3, z, w1, w2, hl, hexes]
        · have hl := round96_3 (Utf8.encode (c : Int)) c (x := ⟨c % 64, by omega⟩) n4
          have z : ((4 : Nat) : Int) = 4 := rfl
          have w1 : IntKind.i64.wrap (4 - 1) = 3 := rfl
          have w2 : IntKind.i64.wrap 3 = 3 := rfl
          simp only [st96b, ex96b, hexes, List.replicate, List.cons_append, List.nil_append] at hl
          simp -implicitDefEqProofs only [A96, B96, dbody, dexec, ostep, dop, ev, put, wants, dbin, dun, List.replicate, Nat.reduceAdd, Nat.reduceSub, Nat.reduceLT, Nat.reduceLeDiff, Nat.reduceMul, DV.cells, DV.flat, dload, DV.elems, reduceCtorEq, mask, DV.lows, DV.low, DV.coe, DV.isD, dresults, dresult, withHeap, lowCells, LSt.isReady, srcElems, DV.int, DV.mkAgg, same, mnmx2, nilness, bound, fill, flatCells, Int.reduceLE, Int.reduceLT, Int.reduceAdd, Int.reduceSub, Int.reduceNeg, Int.reduceEq, Int.reduceBEq, Int.reduceBNe, Nat.reduceBEq, Nat.reduceEqDiff, Int.reduceToNat, allocCells, stp, h0, g1, g2, e75, n3, z, w1, w2, hl, hexes]
end Go.Proofs.YtoadpaaghjomnaaDoor.Codes

set_option linter.unusedVariables false
set_option linter.unusedSimpArgs false
set_option maxRecDepth 100000
namespace Go.Proofs.YtoadpaaghjomnaaDoor.Codes
open Go Go.Deepv

def escB (hi lo : Int) : Int := IntKind.u8.wrap (IntKind.i64.wrap ((BitVec.ofInt IntKind.i64.bits (IntKind.i64.wrap (hi * 16)) ||| BitVec.ofInt IntKind.i64.bits (IntKind.i64.wrap ((BitVec.ofInt IntKind.i64.bits lo &&& BitVec.ofInt IntKind.i64.bits 15).toNat : Nat))).toNat : Nat))
theorem escB_in : ∀ x y : Fin 16, escB (x.val : Nat) (y.val : Nat) = ((16 * x.val + y.val : Nat) : Int) := by decide
theorem hexOf_in (r : Int) : hexOf r = -1 ∨ 0 ≤ hexOf r ∧ hexOf r < 16 := by
  unfold hexOf
  split
  · omega
  · split
    · omega
    · exact .inl rfl
theorem escB_eq {a b : Int} (h1 : 0 ≤ hexOf a) (h2 : 0 ≤ hexOf b) : escB (hexOf a) (hexOf b) = 16 * hexOf a + hexOf b := by
  have h3 := hexOf_in a
  have h4 := hexOf_in b
  obtain ⟨x, hx⟩ : ∃ x : Nat, hexOf a = x := ⟨(hexOf a).toNat, (Int.toNat_of_nonneg h1).symm⟩
  obtain ⟨y, hy⟩ : ∃ y : Nat, hexOf b = y := ⟨(hexOf b).toNat, (Int.toNat_of_nonneg h2).symm⟩
  have hx1 : x < 16 := by omega
  have hy1 : y < 16 := by omega
  rw [hx, hy]
  have := escB_in ⟨x, hx1⟩ ⟨y, hy1⟩
  simp only at this
  rw [this]
  simp

/-- The byte, whether there is one, and how many runes were looked at. -/
def escV (rs : List Rn) (k : Nat) : Int × Bool × Nat :=
  if peekR rs k = 110 then (10, true, 1) else if peekR rs k = 116 then (9, true, 1) else if peekR rs k = 34 then (34, true, 1) else if peekR rs k = 92 then (92, true, 1)
  else if peekR rs k = 120 then (escB (hexOf (peekR rs (k + 1))) (hexOf (peekR rs (k + 2))), decide (0 ≤ hexOf (peekR rs (k + 1))) && decide (0 ≤ hexOf (peekR rs (k + 2))), 3)
  else (0, false, 1)

theorem peekR_sc {rs : List Rn} (hsc : ∀ x ∈ rs, rScal x.r = true) (k : Nat) : peekR rs k = -1 ∨ rScal (peekR rs k) = true := by
  unfold peekR
  split
  · rename_i x hx
    exact .inr (hsc x (List.mem_of_getElem? hx))
  · exact .inl rfl

theorem escape_ok {h : List Res} {id : Nat} {rs : List Rn} {k : Nat} {e l c : Int} (hq : h[id]? = some (rd rs k e l c)) (hk : k ≤ 1000000) (hsc : ∀ x ∈ rs, rScal x.r = true) :
    D env 85 [.ptr id 0] h = some (.val (.d (.tup [.int .u8 (escV rs k).1, .bool (escV rs k).2.1])) (h.set id (rd rs (k + (escV rs k).2.2) e l c))) := by
  have hid : id < h.length := (List.getElem?_eq_some_iff.1 hq).1
  have e61 := peek_ok hq 0 (by omega)
  have z0 : ((0 : Nat) : Int) = 0 := rfl
  rw [Nat.add_zero, z0] at e61
  have w1 : IntKind.i64.wrap ((k : Int) + 1) = ((k + 1 : Nat) : Int) := by rw [wrap_i64 (by omega) (by omega)]; simp
  rw [D_own (F := A85) rfl rfl rfl rfl]
  have hq' := hq
  simp only [rd] at hq'
  unfold escV
  by_cases c1 : peekR rs k = 110
  · rw [if_pos c1]
    rw [c1] at e61
    simp -implicitDefEqProofs only [A85, B85, dbody, dexec, ostep, dop, ev, put, wants, dbin, dun, List.replicate, Nat.reduceAdd, Nat.reduceSub, Nat.reduceLT, Nat.reduceLeDiff, Nat.reduceMul, DV.cells, DV.flat, dload, DV.elems, reduceCtorEq, mask, DV.lows, DV.low, DV.coe, DV.isD, dresults, dresult, withHeap, lowCells, LSt.isReady, srcElems, DV.int, DV.mkAgg, same, mnmx2, nilness, bound, fill, flatCells, Int.reduceLE, Int.reduceLT, Int.reduceAdd, Int.reduceSub, Int.reduceNeg, Int.reduceEq, Int.reduceBEq, Int.reduceBNe, Nat.reduceBEq, Nat.reduceEqDiff, Int.reduceToNat, allocCells, stp, rd, e61, hq', w1, putCells, take_set]
  rw [if_neg c1]
  have d1 : (peekR rs k == 110) = false := by simpa using c1
  by_cases c2 : peekR rs k = 116
  · rw [if_pos c2]
    rw [c2] at e61
    simp -implicitDefEqProofs only [A85, B85, dbody, dexec, ostep, dop, ev, put, wants, dbin, dun, List.replicate, Nat.reduceAdd, Nat.reduceSub, Nat.reduceLT, Nat.reduceLeDiff, Nat.reduceMul, DV.cells, DV.flat, dload, DV.elems, reduceCtorEq, mask, DV.lows, DV.low, DV.coe, DV.isD, dresults, dresult, withHeap, lowCells, LSt.isReady, srcElems, DV.int, DV.mkAgg, same, mnmx2, nilness, bound, fill, flatCells, Int.reduceLE, Int.reduceLT, Int.reduceAdd, Int.reduceSub, Int.reduceNeg, Int.reduceEq, Int.reduceBEq, Int.reduceBNe, Nat.reduceBEq, Nat.reduceEqDiff, Int.reduceToNat, allocCells, stp, rd, e61, hq', w1, putCells, take_set]
  rw [if_neg c2]
  have d2 : (peekR rs k == 116) = false := by simpa using c2
  by_cases c3 : peekR rs k = 34
  · rw [if_pos c3]
    rw [c3] at e61
    have wu : IntKind.u8.wrap 34 = 34 := rfl
    simp -implicitDefEqProofs only [A85, B85, dbody, dexec, ostep, dop, ev, put, wants, dbin, dun, List.replicate, Nat.reduceAdd, Nat.reduceSub, Nat.reduceLT, Nat.reduceLeDiff, Nat.reduceMul, DV.cells, DV.flat, dload, DV.elems, reduceCtorEq, mask, DV.lows, DV.low, DV.coe, DV.isD, dresults, dresult, withHeap, lowCells, LSt.isReady, srcElems, DV.int, DV.mkAgg, same, mnmx2, nilness, bound, fill, flatCells, Int.reduceLE, Int.reduceLT, Int.reduceAdd, Int.reduceSub, Int.reduceNeg, Int.reduceEq, Int.reduceBEq, Int.reduceBNe, Nat.reduceBEq, Nat.reduceEqDiff, Int.reduceToNat, allocCells, stp, rd, e61, hq', w1, wu, putCells, take_set]
  rw [if_neg c3]
  have d3 : (peekR rs k == 34) = false := by simpa using c3
  by_cases c4 : peekR rs k = 92
  · rw [if_pos c4]
    rw [c4] at e61
    have wu : IntKind.u8.wrap 92 = 92 := rfl
    simp -implicitDefEqProofs only [A85, B85, dbody, dexec, ostep, dop, ev, put, wants, dbin, dun, List.replicate, Nat.reduceAdd, Nat.reduceSub, Nat.reduceLT, Nat.reduceLeDiff, Nat.reduceMul, DV.cells, DV.flat, dload, DV.elems, reduceCtorEq, mask, DV.lows, DV.low, DV.coe, DV.isD, dresults, dresult, withHeap, lowCells, LSt.isReady, srcElems, DV.int, DV.mkAgg, same, mnmx2, nilness, bound, fill, flatCells, Int.reduceLE, Int.reduceLT, Int.reduceAdd, Int.reduceSub, Int.reduceNeg, Int.reduceEq, Int.reduceBEq, Int.reduceBNe, Nat.reduceBEq, Nat.reduceEqDiff, Int.reduceToNat, allocCells, stp, rd, e61, hq', w1, wu, putCells, take_set]
  rw [if_neg c4]
  have d4 : (peekR rs k == 92) = false := by simpa using c4
  by_cases c5 : peekR rs k = 120
  · rw [if_pos c5]
    rw [c5] at e61
    have hq2 : (h.set id (rd rs (k + 1) e l c))[id]? = some (rd rs (k + 1) e l c) := get_set hid _
    have e61a := peek_ok hq2 0 (by omega)
    have e61b := peek_ok hq2 1 (by omega)
    have z1 : ((1 : Nat) : Int) = 1 := rfl
    rw [Nat.add_zero, z0] at e61a
    rw [z1] at e61b
    have e96a := fun h => indexRune_ok (peekR rs (k + 1)) (peekR_sc hsc _) h
    have e96b := fun h => indexRune_ok (peekR rs (k + 1 + 1)) (peekR_sc hsc _) h
    have w2 : IntKind.i64.wrap (((k + 1 : Nat) : Int) + 2) = ((k + 3 : Nat) : Int) := by rw [wrap_i64 (by omega) (by omega)]; omega
    have m4 : min 4 IntKind.i64.bits = 4 := rfl
    have p4 : (2 : Int) ^ 4 = 16 := rfl
    have k2 : k + 1 + 1 = k + 2 := rfl
    rw [k2] at e61b e96b
    simp only [rd, hexes] at hq2 e61a e61b e96a e96b
    generalize hexOf (peekR rs (k + 1)) = hi at *
    generalize hexOf (peekR rs (k + 2)) = lo at *
    unfold escB
    by_cases g1 : 0 ≤ hi
    · simp -implicitDefEqProofs only [A85, B85, dbody, dexec, ostep, dop, ev, put, wants, dbin, dun, List.replicate, Nat.reduceAdd, Nat.reduceSub, Nat.reduceLT, Nat.reduceLeDiff, Nat.reduceMul, DV.cells, DV.flat, dload, DV.elems, reduceCtorEq, mask, DV.lows, DV.low, DV.coe, DV.isD, dresults, dresult, withHeap, lowCells, LSt.isReady, srcElems, DV.int, DV.mkAgg, same, mnmx2, nilness, bound, fill, flatCells, Int.reduceLE, Int.reduceLT, Int.reduceAdd, Int.reduceSub, Int.reduceNeg, Int.reduceEq, Int.reduceBEq, Int.reduceBNe, Nat.reduceBEq, Nat.reduceEqDiff, Int.reduceToNat, allocCells, stp, rd, e61, hq', hq2, e61a, e61b, e96a, e96b, w1, w2, m4, p4, g1, d1, d2, d3, d4, putCells, take_set]
    · simp -implicitDefEqProofs only [A85, B85, dbody, dexec, ostep, dop, ev, put, wants, dbin, dun, List.replicate, Nat.reduceAdd, Nat.reduceSub, Nat.reduceLT, Nat.reduceLeDiff, Nat.reduceMul, DV.cells, DV.flat, dload, DV.elems, reduceCtorEq, mask, DV.lows, DV.low, DV.coe, DV.isD, dresults, dresult, withHeap, lowCells, LSt.isReady, srcElems, DV.int, DV.mkAgg, same, mnmx2, nilness, bound, fill, flatCells, Int.reduceLE, Int.reduceLT, Int.reduceAdd, Int.reduceSub, Int.reduceNeg, Int.reduceEq, Int.reduceBEq, Int.reduceBNe, Nat.reduceBEq, Nat.reduceEqDiff, Int.reduceToNat, allocCells, stp, rd, e61, hq', hq2, e61a, e61b, e96a, e96b, w1, w2, m4, p4, g1, d1, d2, d3, d4, putCells, take_set]
  · rw [if_neg c5]
    have d5 : (peekR rs k == 120) = false := by simpa using c5
    simp -implicitDefEqProofs only [A85, B85, dbody, dexec, ostep, dop, ev, put, wants, dbin, dun, List.replicate, Nat.reduceAdd, Nat.reduceSub, Nat.reduceLT, Nat.reduceLeDiff, Nat.reduceMul, DV.cells, DV.flat, dload, DV.elems, reduceCtorEq, mask, DV.lows, DV.low, DV.coe, DV.isD, dresults, dresult, withHeap, lowCells, LSt.isReady, srcElems, DV.int, DV.mkAgg, same, mnmx2, nilness, bound, fill, flatCells, Int.reduceLE, Int.reduceLT, Int.reduceAdd, Int.reduceSub, Int.reduceNeg, Int.reduceEq, Int.reduceBEq, Int.reduceBNe, Nat.reduceBEq, Nat.reduceEqDiff, Int.reduceToNat, allocCells, stp, rd, e61, hq', w1, d1, d2, d3, d4, d5, putCells, take_set]
end Go.Proofs.YtoadpaaghjomnaaDoor.Codes

set_option linter.unusedVariables false
set_option linter.unusedSimpArgs false
set_option maxRecDepth 100000
namespace Go.Proofs.YtoadpaaghjomnaaDoor.Codes
open Go Go.Deepv

section
variable {h : List Res} {id : Nat} {r : Res}
theorem s_len : (h.set id r).length = h.length := List.length_set
theorem s_id (w : id < h.length) (l : List Res) : (h.set id r ++ l)[id]? = some r := by rw [app_lt (by simpa using w), get_set w]
theorem s_set (w : id < h.length) (l : List Res) (x : Res) : (h.set id r ++ l).set id x = h.set id x ++ l := by rw [app_set_lt (by simpa using w), List.set_set]
theorem s_at (l : List Res) (i : Nat) : (h.set id r ++ l)[h.length + i]? = l[i]? := by
  have := app_at (h.set id r) l i
  rwa [s_len] at this
theorem s_upd (l : List Res) (i : Nat) (x : Res) : (h.set id r ++ l).set (h.length + i) x = h.set id r ++ l.set i x := by
  have := app_set (h.set id r) l i x
  rwa [s_len] at this
theorem s_at0 (l : List Res) : (h.set id r ++ l)[h.length]? = l[0]? := s_at l 0
theorem s_upd0 (l : List Res) (x : Res) : (h.set id r ++ l).set h.length x = h.set id r ++ l.set 0 x := s_upd l 0 x
theorem s_take (l : List Res) (i : Nat) : (h.set id r ++ l).take (h.length + i) = h.set id r ++ l.take i := by
  have := take_appk (h.set id r) l i
  rwa [s_len] at this
end

def byteB (v : Int) : ByteArray := ⟨#[UInt8.ofNat v.toNat]⟩
theorem byteB_cells {v : Int} (h0 : 0 ≤ v) (h1 : v < 256) : strCells (byteB v) = [[.int .u8 v]] := by
  have : ((UInt8.ofNat v.toNat).toNat : Int) = v := by rw [ofNat_toNat (by omega)]; omega
  show [[FV.int .u8 ((UInt8.ofNat v.toNat).toNat : Int)]] = _
  rw [this]
theorem byteB_size (v : Int) : (byteB v).size = 1 := rfl
theorem escV_in {rs : List Rn} {k : Nat} (h : (escV rs k).2.1 = true) : 0 ≤ (escV rs k).1 ∧ (escV rs k).1 < 256 := by
  have hv : ∀ a b : Int, decide (0 ≤ hexOf a) && decide (0 ≤ hexOf b) = true → 0 ≤ escB (hexOf a) (hexOf b) ∧ escB (hexOf a) (hexOf b) < 256 := fun a b hab => by
    simp only [Bool.and_eq_true, decide_eq_true_eq] at hab
    rw [escB_eq hab.1 hab.2]
    have h3 := hexOf_in a
    have h4 := hexOf_in b
    omega
  unfold escV at h ⊢
  repeat' split
  all_goals simp_all
theorem escV_n (rs : List Rn) (k : Nat) : (escV rs k).2.2 ≤ 3 := by
  unfold escV
  repeat' split
  all_goals simp

/-- The bytes of a quoted text, and the place behind it. -/
def qtK (rs : List Rn) : Nat → Nat → ByteArray → Option (ByteArray × Nat)
  | 0, _, _ => none
  | f + 1, k, acc =>
    if peekR rs k < 0 ∨ peekR rs k = 10 then none
    else if peekR rs k = 34 then some (acc, k + 1)
    else if peekR rs k = 92 then (if (escV rs (k + 1)).2.1 = true then qtK rs f (k + 1 + (escV rs (k + 1)).2.2) (acc ++ byteB (escV rs (k + 1)).1) else none)
    else qtK rs f (k + 1) (acc ++ encB (peekR rs k))

/-- The heap as a text is read. -/
def th (H : List Res) (id : Nat) (R q0 b0 : Res) (acc : ByteArray) (kind : Int) (text : ByteArray) (num tl tc : Int) : List Res :=
  H.set id R ++ [q0, b0, rr 1 acc.size 5, tk kind text num (.row 1 (strCells acc) (H.length + 2)) tl tc]
def st66 (id tid : Nat) : List DV := [.ptr id 0, .ptr tid 0] ++ List.replicate 86 (.d .undef)

theorem loop66 {H : List Res} {id : Nat} {rs : List Rn} {l c num tl tc : Int} {text : ByteArray} {q0 b0 : Res} (hid : id < H.length) (hsc : ∀ x ∈ rs, rScal x.r = true) :
    ∀ (f k : Nat) (acc : ByteArray), rs.length < k + f → k + 4 * f ≤ 1000000 → acc.size + 4 * f ≤ 1000000 →
      ∃ fin, L env (H.length + 4) true H66L2 X66L2 B66L2 (st66 id (H.length + 3)) (th H id (rd rs k 0 l c) q0 b0 acc 4 text num tl tc) = some (.ret, List.replicate 88 (.d .undef), fin) ∧
        match qtK rs f k acc with
        | some (b, k') => fin = th H id (if 64 < b.size then rd rs k' 5 tl tc else rd rs k' 0 l c) q0 b0 b 4 text num tl tc
        | none => ∃ k' b, fin = th H id (rd rs k' 4 tl tc) q0 b0 b 4 text num tl tc := by
  obtain ⟨K, hK⟩ : ∃ K, L env (H.length + 4) true H66L2 X66L2 B66L2 = K := ⟨_, rfl⟩
  rw [hK]
  have bad : ∀ (k : Nat) (acc : ByteArray), k ≤ 1000000 → (peekR rs k < 0 ∨ peekR rs k = 10) →
      K (st66 id (H.length + 3)) (th H id (rd rs k 0 l c) q0 b0 acc 4 text num tl tc) = some (.ret, List.replicate 88 (.d .undef), th H id (rd rs k 4 tl tc) q0 b0 acc 4 text num tl tc) := fun k acc hk hb => by
    have e61 := fun L => peek_ok (s_id (r := rd rs k 0 l c) hid L) 0 (by omega)
    have z0 : ((0 : Nat) : Int) = 0 := rfl
    rw [Nat.add_zero, z0] at e61
    have e35 := fun L => fail_ok (s_id (r := rd rs k 0 l c) hid L) 4 tl tc
    simp only [if_true, s_set hid] at e35
    simp only [th, tk, rd] at *
    rw [L_round hK]
    by_cases h0 : peekR rs k < 0
    · simp -implicitDefEqProofs only [B66L2, st66, dbody, dexec, ostep, dop, ev, put, wants, dbin, dun, List.replicate, Nat.reduceAdd, Nat.reduceSub, Nat.reduceLT, Nat.reduceLeDiff, Nat.reduceMul, DV.cells, DV.flat, dload, DV.elems, reduceCtorEq, mask, DV.lows, DV.low, DV.coe, DV.isD, dresults, dresult, withHeap, lowCells, LSt.isReady, srcElems, DV.int, DV.mkAgg, same, mnmx2, nilness, bound, fill, flatCells, Int.reduceLE, Int.reduceLT, Int.reduceAdd, Int.reduceSub, Int.reduceNeg, Int.reduceEq, Int.reduceBEq, Int.reduceBNe, Nat.reduceBEq, Nat.reduceEqDiff, Int.reduceToNat, allocCells, stp, s_id hid, s_set hid, s_at, s_at0, s_upd, s_take, s_len, e61, e35, h0, hid]
    · have h1 : peekR rs k = 10 := by omega
      rw [h1] at e61
      simp -implicitDefEqProofs only [B66L2, st66, dbody, dexec, ostep, dop, ev, put, wants, dbin, dun, List.replicate, Nat.reduceAdd, Nat.reduceSub, Nat.reduceLT, Nat.reduceLeDiff, Nat.reduceMul, DV.cells, DV.flat, dload, DV.elems, reduceCtorEq, mask, DV.lows, DV.low, DV.coe, DV.isD, dresults, dresult, withHeap, lowCells, LSt.isReady, srcElems, DV.int, DV.mkAgg, same, mnmx2, nilness, bound, fill, flatCells, Int.reduceLE, Int.reduceLT, Int.reduceAdd, Int.reduceSub, Int.reduceNeg, Int.reduceEq, Int.reduceBEq, Int.reduceBNe, Nat.reduceBEq, Nat.reduceEqDiff, Int.reduceToNat, allocCells, stp, s_id hid, s_set hid, s_at, s_at0, s_upd, s_take, s_len, e61, e35, hid]
  intro f
  induction f with
  | zero =>
    intro k acc h1 h2 h3
    have hp : peekR rs k = -1 := by
      have : rs[k]? = none := by simp; omega
      simp [peekR, this]
    exact ⟨_, bad k acc (by omega) (.inl (by omega)), ⟨k, acc, rfl⟩⟩
  | succ f ih =>
    intro k acc h1 h2 h3
    by_cases hb : peekR rs k < 0 ∨ peekR rs k = 10
    · refine ⟨_, bad k acc (by omega) hb, ?_⟩
      simp only [qtK, hb, if_true]
      exact ⟨k, acc, rfl⟩
    · have n0 : ¬ peekR rs k < 0 := fun h => hb (.inl h)
      have n1 : (peekR rs k == 10) = false := by simp; exact fun h => hb (.inr h)
      have hlt : k < rs.length := by
        rcases Nat.lt_or_ge k rs.length with h | h
        · exact h
        · have : rs[k]? = none := by simp [h]
          simp [peekR, this] at n0
      have e61 := fun L => peek_ok (s_id (r := rd rs k 0 l c) hid L) 0 (by omega)
      have z0 : ((0 : Nat) : Int) = 0 := rfl
      rw [Nat.add_zero, z0] at e61
      have w1 : IntKind.i64.wrap ((k : Int) + 1) = ((k + 1 : Nat) : Int) := by rw [wrap_i64 (by omega) (by omega)]; simp
      have q1 : qtK rs (f + 1) k acc = if peekR rs k = 34 then some (acc, k + 1)
          else if peekR rs k = 92 then (if (escV rs (k + 1)).2.1 = true then qtK rs f (k + 1 + (escV rs (k + 1)).2.2) (acc ++ byteB (escV rs (k + 1)).1) else none)
          else qtK rs f (k + 1) (acc ++ encB (peekR rs k)) := by simp only [qtK, hb, if_false]
      rw [q1]
      by_cases c1 : peekR rs k = 34
      · rw [if_pos c1]
        refine ⟨_, ?_, rfl⟩
        rw [c1] at e61
        have e35 := fun L => fail_ok (s_id (r := rd rs (k + 1) 0 l c) hid L) 5 tl tc
        simp only [if_true, s_set hid] at e35
        simp only [th, tk, rd] at *
        rw [L_round hK]
        by_cases h64 : 64 < acc.size
        · have g64 : (64 : Int) < acc.size := by omega
          rw [if_pos h64]
          simp -implicitDefEqProofs only [B66L2, st66, dbody, dexec, ostep, dop, ev, put, wants, dbin, dun, List.replicate, Nat.reduceAdd, Nat.reduceSub, Nat.reduceLT, Nat.reduceLeDiff, Nat.reduceMul, DV.cells, DV.flat, dload, DV.elems, reduceCtorEq, mask, DV.lows, DV.low, DV.coe, DV.isD, dresults, dresult, withHeap, lowCells, LSt.isReady, srcElems, DV.int, DV.mkAgg, same, mnmx2, nilness, bound, fill, flatCells, Int.reduceLE, Int.reduceLT, Int.reduceAdd, Int.reduceSub, Int.reduceNeg, Int.reduceEq, Int.reduceBEq, Int.reduceBNe, Nat.reduceBEq, Nat.reduceEqDiff, Int.reduceToNat, allocCells, stp, s_id hid, s_set hid, s_at, s_at0, s_upd, s_take, s_len, e61, e35, w1, g64, strCells_len, putCells, hid]
        · have g64 : ¬ (64 : Int) < acc.size := by omega
          rw [if_neg h64]
          simp -implicitDefEqProofs only [B66L2, st66, dbody, dexec, ostep, dop, ev, put, wants, dbin, dun, List.replicate, Nat.reduceAdd, Nat.reduceSub, Nat.reduceLT, Nat.reduceLeDiff, Nat.reduceMul, DV.cells, DV.flat, dload, DV.elems, reduceCtorEq, mask, DV.lows, DV.low, DV.coe, DV.isD, dresults, dresult, withHeap, lowCells, LSt.isReady, srcElems, DV.int, DV.mkAgg, same, mnmx2, nilness, bound, fill, flatCells, Int.reduceLE, Int.reduceLT, Int.reduceAdd, Int.reduceSub, Int.reduceNeg, Int.reduceEq, Int.reduceBEq, Int.reduceBNe, Nat.reduceBEq, Nat.reduceEqDiff, Int.reduceToNat, allocCells, stp, s_id hid, s_set hid, s_at, s_at0, s_upd, s_take, s_len, e61, e35, w1, g64, strCells_len, putCells, hid]
      · rw [if_neg c1]
        have d1 : (peekR rs k == 34) = false := by simpa using c1
        have ap : ∀ (R : Res) (bs : ByteArray) (T : Res), bs.size ≤ 10 → appRow 1 1 (.row 1 (strCells acc) (H.length + 2)) (some (1, strCells bs)) (H.set id R ++ [q0, b0, rr 1 acc.size 5, T]) 5 =
            some (.val (.row 1 (strCells (acc ++ bs)) (H.length + 2)) (H.set id R ++ [q0, b0, rr 1 (acc ++ bs).size 5, T])) := fun R bs T hbs => by
          have := appRow_any (sz := 1) (bytes := 1) (et := 5) (l := strCells acc) (new := strCells bs) (t := H.length + 2) (h := H.set id R ++ [q0, b0, rr 1 acc.size 5, T]) (by rw [s_at, strCells_len]; rfl) (by rw [strCells_len, strCells_len]; omega) (by decide) (by decide) 1 rfl
          rw [this, s_upd, strCells_app, strCells_len, strCells_len, ByteArray.size_append]
          rfl
        by_cases c2 : peekR rs k = 92
        · rw [if_pos c2]
          rw [c2] at e61
          have e85 := fun L => escape_ok (s_id (r := rd rs (k + 1) 0 l c) hid L) (by omega) hsc
          simp only [s_set hid] at e85
          have hn := escV_n rs (k + 1)
          by_cases hok : (escV rs (k + 1)).2.1 = true
          · rw [if_pos hok]
            have hin := escV_in hok
            rw [hok] at e85
            obtain ⟨fin, g1, g2⟩ := ih (k + 1 + (escV rs (k + 1)).2.2) (acc ++ byteB (escV rs (k + 1)).1) (by omega) (by omega) (by rw [ByteArray.size_append, byteB_size]; omega)
            refine ⟨fin, ?_, g2⟩
            have ap' := fun R T => ap R (byteB (escV rs (k + 1)).1) T (by rw [byteB_size]; decide)
            rw [byteB_cells hin.1 hin.2] at ap'
            generalize (escV rs (k + 1)).2.2 = m at *
            generalize (escV rs (k + 1)).1 = v at *
            simp only [th, tk, rd, st66, List.replicate, List.cons_append, List.nil_append] at *
            have lw : H.length + 2 < H.length + 3 + 1 := by omega
            have lx : id < H.length + 4 := by omega
            have ly : H.length + 3 < H.length + 4 := by omega
            rw [L_round hK]
            simp -implicitDefEqProofs only [B66L2, dbody, dexec, ostep, dop, ev, put, wants, dbin, dun, List.replicate, Nat.reduceAdd, Nat.reduceSub, Nat.reduceLT, Nat.reduceLeDiff, Nat.reduceMul, DV.cells, DV.flat, dload, DV.elems, reduceCtorEq, mask, DV.lows, DV.low, DV.coe, DV.isD, dresults, dresult, withHeap, lowCells, LSt.isReady, srcElems, DV.int, DV.mkAgg, same, mnmx2, nilness, bound, fill, flatCells, Int.reduceLE, Int.reduceLT, Int.reduceAdd, Int.reduceSub, Int.reduceNeg, Int.reduceEq, Int.reduceBEq, Int.reduceBNe, Nat.reduceBEq, Nat.reduceEqDiff, Int.reduceToNat, allocCells, stp, s_id hid, s_set hid, s_at, s_at0, s_upd, s_take, s_len, e61, e85, n1, d1, w1, ap', g1, putCells, hid, lw, lx, ly]
          · rw [if_neg hok]
            have hok' : (escV rs (k + 1)).2.1 = false := by simpa using hok
            rw [hok'] at e85
            refine ⟨_, ?_, ⟨k + 1 + (escV rs (k + 1)).2.2, acc, rfl⟩⟩
            have e35 := fun L => fail_ok (s_id (r := rd rs (k + 1 + (escV rs (k + 1)).2.2) 0 l c) hid L) 4 tl tc
            simp only [if_true, s_set hid] at e35
            simp only [th, tk, rd] at *
            rw [L_round hK]
            simp -implicitDefEqProofs only [B66L2, st66, dbody, dexec, ostep, dop, ev, put, wants, dbin, dun, List.replicate, Nat.reduceAdd, Nat.reduceSub, Nat.reduceLT, Nat.reduceLeDiff, Nat.reduceMul, DV.cells, DV.flat, dload, DV.elems, reduceCtorEq, mask, DV.lows, DV.low, DV.coe, DV.isD, dresults, dresult, withHeap, lowCells, LSt.isReady, srcElems, DV.int, DV.mkAgg, same, mnmx2, nilness, bound, fill, flatCells, Int.reduceLE, Int.reduceLT, Int.reduceAdd, Int.reduceSub, Int.reduceNeg, Int.reduceEq, Int.reduceBEq, Int.reduceBNe, Nat.reduceBEq, Nat.reduceEqDiff, Int.reduceToNat, allocCells, stp, s_id hid, s_set hid, s_at, s_at0, s_upd, s_take, s_len, e61, e85, e35, n1, d1, w1, putCells, hid]
        · rw [if_neg c2]
          have d2 : (peekR rs k == 92) = false := by simpa using c2
          obtain ⟨fin, g1, g2⟩ := ih (k + 1) (acc ++ encB (peekR rs k)) (by omega) (by omega) (by
            rw [ByteArray.size_append, encB_size]
            have : (encI (peekR rs k)).length ≤ 4 := encL_le _
            omega)
          refine ⟨fin, ?_, g2⟩
          have hw : rScal (peekR rs k) = true := by
            rcases peekR_sc hsc k with h | h
            · omega
            · exact h
          have e86 := fun h => put_ok (peekR rs k) hw h
          have ap' := fun R T => ap R (encB (peekR rs k)) T (by
            rw [encB_size]
            have : (encI (peekR rs k)).length ≤ 4 := encL_le _
            omega)
          generalize peekR rs k = w at *
          simp only [th, tk, rd, st66, List.replicate, List.cons_append, List.nil_append] at *
          have lw : H.length + 2 < H.length + 3 + 1 := by omega
          have lx : id < H.length + 4 := by omega
          have ly : H.length + 3 < H.length + 4 := by omega
          rw [L_round hK]
          simp -implicitDefEqProofs only [B66L2, dbody, dexec, ostep, dop, ev, put, wants, dbin, dun, List.replicate, Nat.reduceAdd, Nat.reduceSub, Nat.reduceLT, Nat.reduceLeDiff, Nat.reduceMul, DV.cells, DV.flat, dload, DV.elems, reduceCtorEq, mask, DV.lows, DV.low, DV.coe, DV.isD, dresults, dresult, withHeap, lowCells, LSt.isReady, srcElems, DV.int, DV.mkAgg, same, mnmx2, nilness, bound, fill, flatCells, Int.reduceLE, Int.reduceLT, Int.reduceAdd, Int.reduceSub, Int.reduceNeg, Int.reduceEq, Int.reduceBEq, Int.reduceBNe, Nat.reduceBEq, Nat.reduceEqDiff, Int.reduceToNat, allocCells, stp, s_id hid, s_set hid, s_at, s_at0, s_upd, s_take, s_len, e61, e86, n0, n1, d1, d2, w1, ap', g1, putCells, hid, lw, lx, ly]
end Go.Proofs.YtoadpaaghjomnaaDoor.Codes
