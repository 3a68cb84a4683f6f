/-
  A rune's bytes are appended.
  A rune's bytes; a rune is written to a builder.
  The reader and the token under way in one heap; a name is read.
  A name is read.
  A number is read.
  Conditions: none.
-/
import Derived.Test.YtoadpaaghjomnaaDoorME
set_option linter.unusedVariables false
set_option linter.unusedSimpArgs false
set_option maxRecDepth 100000
namespace Go.Proofs.YtoadpaaghjomnaaDoor.Codes
open Go Go.Deepv

theorem strCells_len (s : ByteArray) : (strCells s).length = s.size := by
  unfold strCells
  rw [List.length_map]
  rfl
theorem strCells_app (a b : ByteArray) : strCells a ++ strCells b = strCells (a ++ b) := by
  unfold strCells
  rw [ByteArray.data_append, Array.toList_append, List.map_append]
def encB (w : Int) : ByteArray := ⟨(encI w).toArray⟩
theorem encB_size (w : Int) : (encB w).size = (encI w).length := List.size_toArray ..
theorem encB_cells (w : Int) : strCells (encB w) = (encI w).map fun b => [FV.int .u8 b.toNat] := rfl

theorem w8 (n : Nat) : IntKind.u8.wrap (n : Int) = ((n % 256 : Nat) : Int) := by
  simp only [IntKind.wrap, IntKind.signed, IntKind.bits, Bool.false_and, Bool.false_eq_true, if_false]
  omega
theorem and63 (n : Nat) (h : n < 256) : IntKind.u8.wrap ((BitVec.ofInt IntKind.u8.bits (n : Int) &&& BitVec.ofInt IntKind.u8.bits 63).toNat : Nat) = ((n % 64 : Nat) : Int) := by
  have : ∀ x : Fin 256, IntKind.u8.wrap ((BitVec.ofInt IntKind.u8.bits ((x.val : Nat) : Int) &&& BitVec.ofInt IntKind.u8.bits 63).toNat : Nat) = ((x.val % 64 : Nat) : Int) := by decide
  exact this ⟨n, h⟩
theorem or128 (n : Nat) (h : n < 64) : IntKind.u8.wrap ((BitVec.ofInt IntKind.u8.bits 128 ||| BitVec.ofInt IntKind.u8.bits (n : Int)).toNat : Nat) = ((128 + n : Nat) : Int) := by
  have : ∀ x : Fin 64, IntKind.u8.wrap ((BitVec.ofInt IntKind.u8.bits 128 ||| BitVec.ofInt IntKind.u8.bits ((x.val : Nat) : Int)).toNat : Nat) = ((128 + x.val : Nat) : Int) := by decide
  exact this ⟨n, h⟩
theorem or192 (n : Nat) (h : n < 32) : IntKind.u8.wrap ((BitVec.ofInt IntKind.u8.bits 192 ||| BitVec.ofInt IntKind.u8.bits (n : Int)).toNat : Nat) = ((192 + n : Nat) : Int) := by
  have : ∀ x : Fin 32, IntKind.u8.wrap ((BitVec.ofInt IntKind.u8.bits 192 ||| BitVec.ofInt IntKind.u8.bits ((x.val : Nat) : Int)).toNat : Nat) = ((192 + x.val : Nat) : Int) := by decide
  exact this ⟨n, h⟩
theorem or224 (n : Nat) (h : n < 16) : IntKind.u8.wrap ((BitVec.ofInt IntKind.u8.bits 224 ||| BitVec.ofInt IntKind.u8.bits (n : Int)).toNat : Nat) = ((224 + n : Nat) : Int) := by
  have : ∀ x : Fin 16, IntKind.u8.wrap ((BitVec.ofInt IntKind.u8.bits 224 ||| BitVec.ofInt IntKind.u8.bits ((x.val : Nat) : Int)).toNat : Nat) = ((224 + x.val : Nat) : Int) := by decide
  exact this ⟨n, h⟩
theorem or240 (n : Nat) (h : n < 8) : IntKind.u8.wrap ((BitVec.ofInt IntKind.u8.bits 240 ||| BitVec.ofInt IntKind.u8.bits (n : Int)).toNat : Nat) = ((240 + n : Nat) : Int) := by
  have : ∀ x : Fin 8, IntKind.u8.wrap ((BitVec.ofInt IntKind.u8.bits 240 ||| BitVec.ofInt IntKind.u8.bits ((x.val : Nat) : Int)).toNat : Nat) = ((240 + x.val : Nat) : Int) := by decide
  exact this ⟨n, h⟩
theorem wrap_u32 {n : Int} (h0 : 0 ≤ n) (h1 : n < 4294967296) : IntKind.u32.wrap n = n := by
  simp only [IntKind.wrap, IntKind.signed, IntKind.bits, Bool.false_and, Bool.false_eq_true, if_false]
  omega
theorem fdiv_lit (c k : Nat) : ((c : Int).fdiv (k : Int)) = ((c / k : Nat) : Int) := by
  rw [Int.fdiv_eq_ediv_of_nonneg _ (by omega)]
  rfl

theorem D_raw {E : Env} {f : FuncId} {F : AFunc} {args : List DV} (he : E.ext f = none) (ha : E.af f = some F) (hc : F.coe = false) (hd : (F.keep == 0 && args.all DV.isD) = false) (h : List Res) :
    D E f args h = dbody (Dc E) (L E) F args h := by
  rw [D_eq]
  unfold dcallF
  rw [he, ha]
  simp only [hc, hd, Bool.false_eq_true, if_false]
theorem enc2 {c : Nat} (h1 : 128 ≤ c) (h2 : c < 2048) : encB c = ⟨#[UInt8.ofNat (192 + c / 64), UInt8.ofNat (128 + c % 64)]⟩ := by
  unfold encB encI encL
  rw [Int.toNat_natCast, if_neg (by omega), if_pos (by omega)]
set_option maxHeartbeats 2000000 in
theorem append2_ok {h : List Res} {ri : Nat} {acc : ByteArray} {w : Int} (hw : rScal w = true) (h7 : 128 ≤ w) (hr : h[ri]? = some (rr 1 acc.size 5)) (hs : acc.size ≤ 1000000) :
    D env 104 [.row 1 (strCells acc) ri, .d (.int .i32 w)] h = some (.val (.row 1 (strCells (acc ++ encB w)) ri) (h.set ri (rr 1 (acc ++ encB w).size 5))) := by
  rw [D_raw (F := A104) rfl rfl rfl rfl]
  have hv := (rScal_iff w).1 hw
  obtain ⟨c, rfl⟩ : ∃ c : Nat, w = c := ⟨w.toNat, (Int.toNat_of_nonneg hv.1).symm⟩
  rw [Int.toNat_natCast, valid_iff] at hv
  have app : ∀ new : List (List FV), new.length ≤ 10 → appRow 1 1 (.row 1 (strCells acc) ri) (some (1, new)) h 5 = some (.val (.row 1 (strCells acc ++ new) ri) (h.set ri (rr 1 ((strCells acc).length + new.length) 5))) := fun new hn =>
    appRow_any (by rw [strCells_len]; exact hr) (by rw [strCells_len]; omega) (by decide) (by decide) 1 rfl
  have hri : ri < h.length := (List.getElem?_eq_some_iff.1 hr).1
  rw [← strCells_app, ByteArray.size_append, encB_size, encB_cells]
  unfold encI encL
  rw [Int.toNat_natCast]
  have wu : IntKind.u32.wrap (c : Int) = c := wrap_u32 (by omega) (by omega)
  have a0 : ¬ c < 128 := by omega
  have m6 : (min 6 IntKind.i32.bits) = 6 := rfl
  have m12 : (min 12 IntKind.i32.bits) = 12 := rfl
  have m18 : (min 18 IntKind.i32.bits) = 18 := rfl
  have p6 : (2 : Int) ^ 6 = ((64 : Nat) : Int) := rfl
  have p12 : (2 : Int) ^ 12 = ((4096 : Nat) : Int) := rfl
  have p18 : (2 : Int) ^ 18 = ((262144 : Nat) : Int) := rfl
  have d6 : (c : Int).fdiv 64 = ((c / 64 : Nat) : Int) := fdiv_lit c 64
  have d12 : (c : Int).fdiv 4096 = ((c / 4096 : Nat) : Int) := fdiv_lit c 4096
  have d18 : (c : Int).fdiv 262144 = ((c / 262144 : Nat) : Int) := fdiv_lit c 262144
  have v0 := w8 c
  have v6 := w8 (c / 64)
  have v12 := w8 (c / 4096)
  have b0 := and63 (c % 256) (Nat.mod_lt _ (by decide))
  have b6 := and63 (c / 64 % 256) (Nat.mod_lt _ (by decide))
  have b12 := and63 (c / 4096 % 256) (Nat.mod_lt _ (by decide))
  have x0 : c % 256 % 64 = c % 64 := by omega
  have x6 : c / 64 % 256 % 64 = c / 64 % 64 := by omega
  have x12 : c / 4096 % 256 % 64 = c / 4096 % 64 := by omega
  rw [x0] at b0
  rw [x6] at b6
  rw [x12] at b12
  have r0 := or128 (c % 64) (Nat.mod_lt _ (by decide))
  have r6 := or128 (c / 64 % 64) (Nat.mod_lt _ (by decide))
  have r12 := or128 (c / 4096 % 64) (Nat.mod_lt _ (by decide))
  have o0 : (UInt8.ofNat (128 + c % 64)).toNat = 128 + c % 64 := ofNat_toNat (by omega)
  have o6 : (UInt8.ofNat (128 + c / 64 % 64)).toNat = 128 + c / 64 % 64 := ofNat_toNat (by omega)
  have o12 : (UInt8.ofNat (128 + c / 4096 % 64)).toNat = 128 + c / 4096 % 64 := ofNat_toNat (by omega)
  rw [if_neg a0]
  by_cases c1 : c < 2048
  · rw [if_pos c1]
    have g1 : (c : Int) ≤ 2047 := by omega
    have v6' : IntKind.u8.wrap ((c / 64 : Nat) : Int) = ((c / 64 : Nat) : Int) := by rw [v6]; congr 1; omega
    have u0 := or192 (c / 64) (by omega)
    have oh : (UInt8.ofNat (192 + c / 64)).toNat = 192 + c / 64 := ofNat_toNat (by omega)
    have ap := app [[FV.int .u8 ((192 + c / 64 : Nat) : Int)], [FV.int .u8 ((128 + c % 64 : Nat) : Int)]] (by simp)
    simp only [strCells_len, List.length_cons, List.length_nil, Nat.zero_add, Nat.reduceAdd] at ap
    simp -implicitDefEqProofs only [A104, B104, dbody, dexec, ostep, dop, ev, put, wants, dbin, dun, List.replicate, Nat.reduceAdd, Nat.reduceSub, Nat.reduceLT, Nat.reduceLeDiff, Nat.reduceMul, DV.cells, DV.flat, dload, DV.elems, reduceCtorEq, mask, DV.lows, DV.low, DV.coe, DV.isD, dresults, dresult, withHeap, lowCells, LSt.isReady, srcElems, DV.int, DV.mkAgg, same, mnmx2, nilness, bound, fill, flatCells, Int.reduceLE, Int.reduceLT, Int.reduceAdd, Int.reduceSub, Int.reduceNeg, Int.reduceEq, Int.reduceBEq, Int.reduceBNe, Nat.reduceBEq, Nat.reduceEqDiff, Int.reduceToNat, allocCells, stp, wu, g1, m6, p6, d6, v6', u0, v0, b0, r0, ap, oh, o0, hri, take_set, strCells_len]
  rw [if_neg c1]
  have g1 : ¬ (c : Int) ≤ 2047 := by omega
  by_cases c2 : c < 65536
  · rw [if_pos c2]
    have v12' : IntKind.u8.wrap ((c / 4096 : Nat) : Int) = ((c / 4096 : Nat) : Int) := by rw [v12]; congr 1; omega
    have u0 := or224 (c / 4096) (by omega)
    have oh : (UInt8.ofNat (224 + c / 4096)).toNat = 224 + c / 4096 := ofNat_toNat (by omega)
    have ap := app [[FV.int .u8 ((224 + c / 4096 : Nat) : Int)], [FV.int .u8 ((128 + c / 64 % 64 : Nat) : Int)], [FV.int .u8 ((128 + c % 64 : Nat) : Int)]] (by simp)
    simp only [strCells_len, List.length_cons, List.length_nil, Nat.zero_add, Nat.reduceAdd] at ap
    by_cases c3 : c < 55296
    · have g2 : (c : Int) < 55296 := by omega
      simp -implicitDefEqProofs only [A104, B104, dbody, dexec, ostep, dop, ev, put, wants, dbin, dun, List.replicate, Nat.reduceAdd, Nat.reduceSub, Nat.reduceLT, Nat.reduceLeDiff, Nat.reduceMul, DV.cells, DV.flat, dload, DV.elems, reduceCtorEq, mask, DV.lows, DV.low, DV.coe, DV.isD, dresults, dresult, withHeap, lowCells, LSt.isReady, srcElems, DV.int, DV.mkAgg, same, mnmx2, nilness, bound, fill, flatCells, Int.reduceLE, Int.reduceLT, Int.reduceAdd, Int.reduceSub, Int.reduceNeg, Int.reduceEq, Int.reduceBEq, Int.reduceBNe, Nat.reduceBEq, Nat.reduceEqDiff, Int.reduceToNat, allocCells, stp, wu, g1, g2, m6, p6, m12, p12, d6, d12, v6, v12', b6, r6, u0, v0, b0, r0, ap, oh, o0, o6, hri, take_set, strCells_len]
    · have g2 : ¬ (c : Int) < 55296 := by omega
      have g3 : (57343 : Int) < c := by omega
      have g4 : (c : Int) ≤ 65535 := by omega
      simp -implicitDefEqProofs only [A104, B104, dbody, dexec, ostep, dop, ev, put, wants, dbin, dun, List.replicate, Nat.reduceAdd, Nat.reduceSub, Nat.reduceLT, Nat.reduceLeDiff, Nat.reduceMul, DV.cells, DV.flat, dload, DV.elems, reduceCtorEq, mask, DV.lows, DV.low, DV.coe, DV.isD, dresults, dresult, withHeap, lowCells, LSt.isReady, srcElems, DV.int, DV.mkAgg, same, mnmx2, nilness, bound, fill, flatCells, Int.reduceLE, Int.reduceLT, Int.reduceAdd, Int.reduceSub, Int.reduceNeg, Int.reduceEq, Int.reduceBEq, Int.reduceBNe, Nat.reduceBEq, Nat.reduceEqDiff, Int.reduceToNat, allocCells, stp, wu, g1, g2, g3, g4, m6, p6, m12, p12, d6, d12, v6, v12', b6, r6, u0, v0, b0, r0, ap, oh, o0, o6, hri, take_set, strCells_len]
  rw [if_neg c2]
  have g2 : ¬ (c : Int) < 55296 := by omega
  have g3 : (57343 : Int) < c := by omega
  have g4 : ¬ (c : Int) ≤ 65535 := by omega
  have g5 : (65535 : Int) < c := by omega
  have g6 : (c : Int) ≤ 1114111 := by omega
  have v18' : IntKind.u8.wrap ((c / 262144 : Nat) : Int) = ((c / 262144 : Nat) : Int) := by rw [w8]; congr 1; omega
  have u0 := or240 (c / 262144) (by omega)
  have oh : (UInt8.ofNat (240 + c / 262144)).toNat = 240 + c / 262144 := ofNat_toNat (by omega)
  have ap := app [[FV.int .u8 ((240 + c / 262144 : Nat) : Int)], [FV.int .u8 ((128 + c / 4096 % 64 : Nat) : Int)], [FV.int .u8 ((128 + c / 64 % 64 : Nat) : Int)], [FV.int .u8 ((128 + c % 64 : Nat) : Int)]] (by simp)
  simp only [strCells_len, List.length_cons, List.length_nil, Nat.zero_add, Nat.reduceAdd] at ap
  simp -implicitDefEqProofs only [A104, B104, dbody, dexec, ostep, dop, ev, put, wants, dbin, dun, List.replicate, Nat.reduceAdd, Nat.reduceSub, Nat.reduceLT, Nat.reduceLeDiff, Nat.reduceMul, DV.cells, DV.flat, dload, DV.elems, reduceCtorEq, mask, DV.lows, DV.low, DV.coe, DV.isD, dresults, dresult, withHeap, lowCells, LSt.isReady, srcElems, DV.int, DV.mkAgg, same, mnmx2, nilness, bound, fill, flatCells, Int.reduceLE, Int.reduceLT, Int.reduceAdd, Int.reduceSub, Int.reduceNeg, Int.reduceEq, Int.reduceBEq, Int.reduceBNe, Nat.reduceBEq, Nat.reduceEqDiff, Int.reduceToNat, allocCells, stp, wu, g1, g2, g3, g4, g5, g6, m6, p6, m12, p12, m18, p18, d6, d12, d18, v6, v12, v18', b6, r6, b12, r12, u0, v0, b0, r0, ap, oh, o0, o6, o12, hri, take_set, strCells_len]

theorem append_ok {h : List Res} {ri : Nat} {acc : ByteArray} {w : Int} (hw : rScal w = true) (hr : h[ri]? = some (rr 1 acc.size 5)) (hs : acc.size ≤ 1000000) :
    D env 95 [.row 1 (strCells acc) ri, .d (.int .i32 w)] h = some (.val (.row 1 (strCells (acc ++ encB w)) ri) (h.set ri (rr 1 (acc ++ encB w).size 5))) := by
  rw [D_raw (F := A95) rfl rfl rfl rfl]
  have hri : ri < h.length := (List.getElem?_eq_some_iff.1 hr).1
  have hv := (rScal_iff w).1 hw
  by_cases h7 : 128 ≤ w
  · have e := append2_ok hw h7 hr hs
    have wu : IntKind.u32.wrap w = w := by
      have := hv.2
      rw [valid_iff] at this
      exact wrap_u32 (by omega) (by omega)
    have g1 : ¬ w ≤ 127 := by omega
    simp -implicitDefEqProofs only [A95, B95, dbody, dexec, ostep, dop, ev, put, wants, dbin, dun, List.replicate, Nat.reduceAdd, Nat.reduceSub, Nat.reduceLT, Nat.reduceLeDiff, Nat.reduceMul, DV.cells, DV.flat, dload, DV.elems, reduceCtorEq, mask, DV.lows, DV.low, DV.coe, DV.isD, dresults, dresult, withHeap, lowCells, LSt.isReady, srcElems, DV.int, DV.mkAgg, same, mnmx2, nilness, bound, fill, flatCells, Int.reduceLE, Int.reduceLT, Int.reduceAdd, Int.reduceSub, Int.reduceNeg, Int.reduceEq, Int.reduceBEq, Int.reduceBNe, Nat.reduceBEq, Nat.reduceEqDiff, Int.reduceToNat, allocCells, stp, wu, g1, e, hri, take_set]
  · obtain ⟨c, rfl⟩ : ∃ c : Nat, w = c := ⟨w.toNat, (Int.toNat_of_nonneg hv.1).symm⟩
    have wu : IntKind.u32.wrap (c : Int) = c := wrap_u32 (by omega) (by omega)
    have g1 : (c : Int) ≤ 127 := by omega
    have v0 : IntKind.u8.wrap (c : Int) = c := by rw [w8]; congr 1; omega
    have ap : appRow 1 1 (.row 1 (strCells acc) ri) (some (1, [[FV.int .u8 (c : Int)]])) h 5 = some (.val (.row 1 (strCells acc ++ [[FV.int .u8 (c : Int)]]) ri) (h.set ri (rr 1 ((strCells acc).length + 1) 5))) :=
      appRow_any (by rw [strCells_len]; exact hr) (by rw [strCells_len]; simp; omega) (by decide) (by decide) 1 rfl
    simp only [strCells_len] at ap
    rw [← strCells_app, ByteArray.size_append, encB_size, encB_cells]
    unfold encI encL
    rw [Int.toNat_natCast, if_pos (by omega)]
    have oh : (UInt8.ofNat c).toNat = c := ofNat_toNat (by omega)
    simp -implicitDefEqProofs only [A95, B95, dbody, dexec, ostep, dop, ev, put, wants, dbin, dun, List.replicate, Nat.reduceAdd, Nat.reduceSub, Nat.reduceLT, Nat.reduceLeDiff, Nat.reduceMul, DV.cells, DV.flat, dload, DV.elems, reduceCtorEq, mask, DV.lows, DV.low, DV.coe, DV.isD, dresults, dresult, withHeap, lowCells, LSt.isReady, srcElems, DV.int, DV.mkAgg, same, mnmx2, nilness, bound, fill, flatCells, Int.reduceLE, Int.reduceLT, Int.reduceAdd, Int.reduceSub, Int.reduceNeg, Int.reduceEq, Int.reduceBEq, Int.reduceBNe, Nat.reduceBEq, Nat.reduceEqDiff, Int.reduceToNat, allocCells, stp, wu, g1, v0, ap, oh, hri, take_set, strCells_len]
end Go.Proofs.YtoadpaaghjomnaaDoor.Codes

set_option linter.unusedVariables false
set_option linter.unusedSimpArgs false
set_option maxRecDepth 100000
namespace Go.Proofs.YtoadpaaghjomnaaDoor.Codes
open Go Go.Deepv

theorem cells_nil : strCells ⟨#[]⟩ = [] := rfl
theorem empty_app (s : ByteArray) : (⟨#[]⟩ : ByteArray) ++ s = s := by
  have : (⟨#[]⟩ : ByteArray) = ByteArray.empty := rfl
  rw [this, ByteArray.empty_append]
theorem put_ok (w : Int) (hw : rScal w = true) (h : List Res) : D env 86 [.d (.int .i32 w)] h = some (.val (.d (.slice 1 (strCells (encB w)))) h) := by
  rw [D_dat (F := A86) rfl rfl rfl rfl]
  have e1 := fun h => validRune_ok w h
  rw [hw] at e1
  have e2 := append_ok (h := [.nilrow]) (ri := 0) (acc := ⟨#[]⟩) hw rfl (by decide)
  rw [empty_app] at e2
  simp only [cells_nil] at e2
  have e3 : Dc env (.fn 95) [.row 1 [] 0, .d (.int .i32 w)] [.nilrow] = some (.val (.row 1 (strCells (encB w)) 0) ([Res.nilrow].set 0 (rr 1 (encB w).size 5))) := e2
  simp -implicitDefEqProofs only [A86, B86, dbody, dexec, ostep, dop, ev, put, wants, dbin, dun, List.replicate, Nat.reduceAdd, Nat.reduceSub, Nat.reduceLT, Nat.reduceLeDiff, Nat.reduceMul, DV.cells, DV.flat, dload, DV.elems, reduceCtorEq, mask, DV.lows, DV.low, DV.coe, DV.isD, dresults, dresult, withHeap, lowCells, LSt.isReady, srcElems, DV.int, DV.mkAgg, same, mnmx2, nilness, bound, fill, flatCells, Int.reduceLE, Int.reduceLT, Int.reduceAdd, Int.reduceSub, Int.reduceNeg, Int.reduceEq, Int.reduceBEq, Int.reduceBNe, Nat.reduceBEq, Nat.reduceEqDiff, Int.reduceToNat, allocCells, stp, e1, e3]

theorem D_ext {E : Env} {f : FuncId} {F : List DV → List Res → Option DOut} (he : E.ext f = some F) (args : List DV) (h : List Res) : D E f args h = F args h := by
  rw [D_eq]
  unfold dcallF
  rw [he]
theorem copyc_ok {h : List Res} {bi : Nat} {x y : DV} (hb : h[bi]? = some (.box [x, y] 76)) (hx : x = .d .nilp ∨ x = .ptr bi 0) : D env 53 [.ptr bi 0] h = some (.val (.d (.tup [])) (h.set bi (.box [.ptr bi 0, y] 76))) := by
  rw [D_ext (F := xCopy 76) rfl]
  rcases hx with rfl | rfl
  · simp [xCopy, hb]
  · simp [xCopy, hb]
    exact (set_self hb).symm
def bld (t : List Res) (x : DV) (acc : ByteArray) (l : List Res) : List Res := t ++ (rr 1 acc.size 5 :: .box [x, .row 1 (strCells acc) t.length] 76 :: l)
theorem writeRune_ok {t l : List Res} {x : DV} {acc : ByteArray} {w : Int} (hw : rScal w = true) (hx : x = .d .nilp ∨ x = .ptr (t.length + 1) 0) (hs : acc.size ≤ 1000000) :
    D env 84 [.ptr (t.length + 1) 0, .d (.int .i32 w)] (bld t x acc l) = some (.val (.d (.tup [.int .i64 (IntKind.i64.wrap (((acc ++ encB w).size : Nat) - (acc.size : Nat))), .nili])) (bld t (.ptr (t.length + 1) 0) (acc ++ encB w) l)) := by
  have e1 : D env 53 [.ptr (t.length + 1) 0] (bld t x acc l) = some (.val (.d (.tup [])) (bld t (.ptr (t.length + 1) 0) acc l)) := by
    have := copyc_ok (h := bld t x acc l) (bi := t.length + 1) (x := x) (y := .row 1 (strCells acc) t.length) (by rw [bld, app_at]; rfl) hx
    rw [this]
    simp only [bld, app_set, List.set_cons_succ, List.set_cons_zero]
  have e2 := append_ok (h := bld t (.ptr (t.length + 1) 0) acc l) (ri := t.length) (acc := acc) hw (by rw [bld, app_at0]; rfl) hs
  rw [D_own (F := A84) rfl rfl rfl rfl]
  simp only [bld, app_set0, List.set_cons_zero] at e1 e2
  have hsz : (acc ++ encB w).size = acc.size + (encB w).size := ByteArray.size_append
  have hlt : t.length < t.length + (l.length + 2) := by omega
  have hlt2 : t.length < t.length + 1 + 1 := by omega
  have tk : ∀ a b : Res, (t ++ a :: b :: l).take (t.length + (l.length + 1 + 1)) = t ++ a :: b :: l := fun a b => List.take_of_length_le (by simp)
  simp -implicitDefEqProofs only [A84, B84, dbody, dexec, ostep, dop, ev, put, wants, dbin, dun, List.replicate, Nat.reduceAdd, Nat.reduceSub, Nat.reduceLT, Nat.reduceLeDiff, Nat.reduceMul, DV.cells, DV.flat, dload, DV.elems, reduceCtorEq, mask, DV.lows, DV.low, DV.coe, DV.isD, dresults, dresult, withHeap, lowCells, LSt.isReady, srcElems, DV.int, DV.mkAgg, same, mnmx2, nilness, bound, fill, flatCells, Int.reduceLE, Int.reduceLT, Int.reduceAdd, Int.reduceSub, Int.reduceNeg, Int.reduceEq, Int.reduceBEq, Int.reduceBNe, Nat.reduceBEq, Nat.reduceEqDiff, Int.reduceToNat, allocCells, stp, bld, e1, e2, app_at, app_at0, app_set, putCells, hlt, hlt2, tk, strCells_len]

theorem nums_ok (s : ByteArray) : numsOf (strCells s) = some (s.data.toList.map fun b => (b.toNat : Int)) := by
  unfold strCells
  generalize s.data.toList = l
  induction l with
  | nil => rfl
  | cons x l ih => simp only [numsOf, List.map_cons, List.mapM_cons] at ih ⊢; rw [ih]; rfl
theorem strOf_ok (s : ByteArray) : strOfNums (s.data.toList.map fun b => (b.toNat : Int)) = s := by
  unfold strOfNums
  rw [List.map_map]
  have : (s.data.toList.map ((fun n : Int => UInt8.ofNat n.toNat) ∘ fun b => (b.toNat : Int))) = s.data.toList := by
    conv => rhs; rw [← List.map_id s.data.toList]
    refine List.map_congr_left fun x _ => ?_
    simp
  rw [this]
theorem nums_in (s : ByteArray) : (s.data.toList.all fun b => decide ((b.toNat : Int) < 256)) = true := by
  rw [List.all_eq_true]
  intro x _
  have := x.toNat_lt
  simp
  omega
theorem string_ok {t l : List Res} {x : DV} {acc : ByteArray} (hne : acc.size ≠ 0) (hs : acc.size ≤ 140737488355328) :
    D env 28 [.ptr (t.length + 1) 0] (bld t x acc l) = some (.val (.d (.str acc)) (t ++ .dead :: .box [x, .row 1 (strCells acc) t.length] 76 :: l)) := by
  rw [D_own (F := A28) rfl rfl rfl rfl]
  have e1 : rr 1 acc.size 5 = .row 1 acc.size 5 := by simp [rr, hne]
  have e2 : 0 < acc.size := by omega
  have e3 : strCells acc ≠ [] := by
    intro h
    have := strCells_len acc
    rw [h] at this
    exact hne this.symm
  have e4 : acc.size ≤ 9223372036854775807 := by omega
  have tk : ∀ a b : Res, (t ++ a :: b :: l).take (t.length + (l.length + 1 + 1)) = t ++ a :: b :: l := fun a b => List.take_of_length_le (by simp)
  simp -implicitDefEqProofs only [A28, B28, dbody, dexec, ostep, dop, ev, put, wants, dbin, dun, List.replicate, Nat.reduceAdd, Nat.reduceSub, Nat.reduceLT, Nat.reduceLeDiff, Nat.reduceMul, DV.cells, DV.flat, dload, DV.elems, reduceCtorEq, mask, DV.lows, DV.low, DV.coe, DV.isD, dresults, dresult, withHeap, lowCells, LSt.isReady, srcElems, DV.int, DV.mkAgg, same, mnmx2, nilness, bound, fill, flatCells, Int.reduceLE, Int.reduceLT, Int.reduceAdd, Int.reduceSub, Int.reduceNeg, Int.reduceEq, Int.reduceBEq, Int.reduceBNe, Nat.reduceBEq, Nat.reduceEqDiff, Int.reduceToNat, allocCells, stp, bld, e1, e2, e3, e4, nums_ok, strOf_ok, nums_in, strCells_len, app_at, app_at0, app_set0, tk]
end Go.Proofs.YtoadpaaghjomnaaDoor.Codes

set_option linter.unusedVariables false
set_option linter.unusedSimpArgs false
set_option maxRecDepth 100000
namespace Go.Proofs.YtoadpaaghjomnaaDoor.Codes
open Go Go.Deepv

/-- A heap with what stands at two places. -/
def two (h : List Res) (id tid : Nat) (r t : Res) : List Res := (h.set id r).set tid t
structure Two (h : List Res) (id tid : Nat) : Prop where
  l1 : id < h.length
  l2 : tid < h.length
  ne : id ≠ tid
section
variable {h : List Res} {id tid : Nat} {r t : Res}
theorem two_len : (two h id tid r t).length = h.length := by simp [two]
theorem two_id (w : Two h id tid) (l : List Res) : (two h id tid r t ++ l)[id]? = some r := by
  rw [List.getElem?_append_left (by rw [two_len]; exact w.l1), two, List.getElem?_set_ne (Ne.symm w.ne), List.getElem?_set_self w.l1]
theorem two_tid (w : Two h id tid) (l : List Res) : (two h id tid r t ++ l)[tid]? = some t := by
  rw [List.getElem?_append_left (by rw [two_len]; exact w.l2), two, List.getElem?_set_self (by simpa using w.l2)]
theorem two_setid (w : Two h id tid) (l : List Res) (x : Res) : (two h id tid r t ++ l).set id x = two h id tid x t ++ l := by
  rw [List.set_append_left _ _ (by rw [two_len]; exact w.l1), two, two, List.set_comm _ _ (Ne.symm w.ne), List.set_set]
theorem two_settid (w : Two h id tid) (l : List Res) (x : Res) : (two h id tid r t ++ l).set tid x = two h id tid r x ++ l := by
  rw [List.set_append_left _ _ (by rw [two_len]; exact w.l2), two, two, List.set_set]
theorem two_at (l : List Res) (i : Nat) : (two h id tid r t ++ l)[h.length + i]? = l[i]? := by
  have := app_at (two h id tid r t) l i
  rwa [two_len] at this
theorem two_at0 (l : List Res) : (two h id tid r t ++ l)[h.length]? = l[0]? := two_at l 0
theorem two_set (l : List Res) (i : Nat) (x : Res) : (two h id tid r t ++ l).set (h.length + i) x = two h id tid r t ++ l.set i x := by
  have := app_set (two h id tid r t) l i x
  rwa [two_len] at this
theorem two_set0 (l : List Res) (x : Res) : (two h id tid r t ++ l).set h.length x = two h id tid r t ++ l.set 0 x := two_set l 0 x
theorem two_take (l : List Res) (i : Nat) : (two h id tid r t ++ l).take (h.length + i) = two h id tid r t ++ l.take i := by
  have := take_appk (two h id tid r t) l i
  rwa [two_len] at this
theorem two_take0 (l : List Res) : (two h id tid r t ++ l).take h.length = two h id tid r t := by
  have := two_take (h := h) (id := id) (tid := tid) (r := r) (t := t) l 0
  simpa using this
theorem two_nil : two h id tid r t = two h id tid r t ++ [] := by simp
theorem two_self (h1 : h[id]? = some r) (h2 : h[tid]? = some t) : two h id tid r t = h := by
  rw [two, set_self h1, set_self h2]
end

/-- The token under way. -/
def tk (kind : Int) (text : ByteArray) (num : Int) (b : DV) (l c : Int) : Res := .box [.d (.int .i64 kind), .d (.str text), .d (.int .i64 num), b, .d (.int .i64 l), .d (.int .i64 c)]
/-- Runes as a text. -/
def textR (l : List Rn) : ByteArray := l.foldl (fun a x => a ++ encB x.r) ⟨#[]⟩
theorem textR_snoc (l : List Rn) (x : Rn) : textR (l ++ [x]) = textR l ++ encB x.r := by simp [textR]
theorem textR_size (l : List Rn) : l.length ≤ (textR l).size ∧ (textR l).size ≤ 4 * l.length := by
  suffices h : ∀ (l : List Rn) (a : ByteArray), a.size + l.length ≤ (l.foldl (fun a x => a ++ encB x.r) a).size ∧ (l.foldl (fun a x => a ++ encB x.r) a).size ≤ a.size + 4 * l.length by
    have := h l ⟨#[]⟩
    have z : (⟨#[]⟩ : ByteArray).size = 0 := rfl
    rw [z] at this
    unfold textR
    omega
  intro l
  induction l with
  | nil => intro a; simp
  | cons x l ih =>
    intro a
    have h1 := ih (a ++ encB x.r)
    have h2 := encI_pos x.r
    have h3 := encL_le x.r.toNat
    rw [ByteArray.size_append, encB_size] at h1
    have h4 : (encI x.r).length ≤ 4 := h3
    simp only [List.foldl_cons, List.length_cons]
    omega

def nameKind (txt : ByteArray) (r : Int) : Int := if isWord txt then 5 else if rUp r then 2 else 1
def nameLP (n0 : Nat) (st : LSt) : Res := .loop [18] N63R0 B63R0 ([.d .undef, .d .undef, .d .undef, .d .undef, .ptr (n0 + 1) 0, .ptr (n0 + 2) 0] ++ List.replicate 37 (.d .undef)) st
/-- One rune of a name. -/
theorem name_round {T : List Res} {x : DV} {acc : ByteArray} {w : Int} {n id : Nat} (hw : rScal w = true) (hx : x = .d .nilp ∨ x = .ptr (T.length + 1) 0) (hs : acc.size ≤ 1000000) (hn : n ≤ 1000000) :
    Y env (T.length + 3 + 2) [.d (.int .i32 w)] (T ++ [rr 1 acc.size 5, .box [x, .row 1 (strCells acc) T.length] 76, .box [.d (.int .i64 n)]] ++ [.box [.ptr id 0], .box [.d (.func (.func 45) [] [])], nameLP T.length .ready]) =
      some (.val (.d (.bool true)) (T ++ [rr 1 (acc ++ encB w).size 5, .box [.ptr (T.length + 1) 0, .row 1 (strCells (acc ++ encB w)) T.length] 76, .box [.d (.int .i64 (n + 1 : Nat))]] ++ [.box [.ptr id 0], .box [.d (.func (.func 45) [] [])], nameLP T.length .ready])) := by
  have e1 := fun l => writeRune_ok (t := T) (l := l) (acc := acc) hw hx hs
  simp only [bld] at e1
  have w1 : IntKind.i64.wrap ((n : Int) + 1) = ((n + 1 : Nat) : Int) := by rw [wrap_i64 (by omega) (by omega)]; simp
  rw [Y_eq]
  simp -implicitDefEqProofs only [dyield, setAll, markLoop, endLoop, List.zip_cons_cons, List.zip_nil_right, List.foldl_cons, List.foldl_nil, nameLP, N63R0, B63R0, dbody, dexec, ostep, dop, ev, put, wants, dbin, dun, List.replicate, Nat.reduceAdd, Nat.reduceSub, Nat.reduceLT, Nat.reduceLeDiff, Nat.reduceMul, DV.cells, DV.flat, dload, DV.elems, reduceCtorEq, mask, DV.lows, DV.low, DV.coe, DV.isD, dresults, dresult, withHeap, lowCells, LSt.isReady, srcElems, DV.int, DV.mkAgg, same, mnmx2, nilness, bound, fill, flatCells, Int.reduceLE, Int.reduceLT, Int.reduceAdd, Int.reduceSub, Int.reduceNeg, Int.reduceEq, Int.reduceBEq, Int.reduceBNe, Nat.reduceBEq, Nat.reduceEqDiff, Int.reduceToNat, allocCells, stp, app_at, app_at0, app_set, app_set0, take_appk, Nat.add_assoc, e1, w1, putCells]
end Go.Proofs.YtoadpaaghjomnaaDoor.Codes

set_option linter.unusedVariables false
set_option linter.unusedSimpArgs false
set_option maxRecDepth 100000
namespace Go.Proofs.YtoadpaaghjomnaaDoor.Codes
open Go Go.Deepv

section
variable {h : List Res} {id tid : Nat} {r t : Res}
theorem two_id' (w : Two h id tid) : (two h id tid r t)[id]? = some r := by
  have := two_id (r := r) (t := t) w []
  simpa using this
theorem two_tid' (w : Two h id tid) : (two h id tid r t)[tid]? = some t := by
  have := two_tid (r := r) (t := t) w []
  simpa using this
theorem two_setid' (w : Two h id tid) (x : Res) : (two h id tid r t).set id x = two h id tid x t := by
  have := two_setid (r := r) (t := t) w [] x
  simpa using this
theorem two_settid' (w : Two h id tid) (x : Res) : (two h id tid r t).set tid x = two h id tid r x := by
  have := two_settid (r := r) (t := t) w [] x
  simpa using this
end

/-- What name needs of its runes, one by one. -/
def nameTs (h : List Res) (id tid : Nat) (rs : List Rn) (k : Nat) (e l c : Int) (T0 : Res) (i : Nat) : List Res :=
  two h id tid (rd rs (k + i) e l c) T0 ++ [rr 1 (textR ((rs.drop k).take i)).size 5, .box [if i = 0 then .d .nilp else .ptr (h.length + 1) 0, .row 1 (strCells (textR ((rs.drop k).take i))) h.length] 76, .box [.d (.int .i64 i)]]
theorem name_range {h : List Res} {id tid : Nat} {rs : List Rn} {k : Nat} {e l c : Int} {T0 : Res} (W : Two h id tid) (hsz : rs.length ≤ 100000) (hk : k ≤ rs.length) (hsc : ∀ x ∈ rs, rScal x.r = true) :
    D env 83 [.yld (h.length + 3 + 2), .ptr (h.length + 3) 0, .ptr (h.length + 3 + 1) 0] (nameTs h id tid rs k e l c T0 0 ++ [.box [.ptr id 0], .box [.d (.func (.func 45) [] [])], nameLP h.length .ready]) =
      some (.val (.d (.tup [])) (nameTs h id tid rs k e l c T0 (cnt rPart (rs.drop k)) ++ [.box [.ptr id 0], .box [.d (.func (.func 45) [] [])], nameLP h.length .ready])) := by
  have hc := cnt_drop rPart rs k
  have hm := cnt_le rPart (rs.drop k)
  rw [List.length_drop] at hm
  refine rtake (cf := 45) (id := id) (e := e) (l := l) (c := c) (n0 := h.length + 3) (k := k) (m := cnt rPart (rs.drop k)) (Ts := nameTs h id tid rs k e l c T0) (by omega) (fun r t => part_ok r t) (fun i => two_id W _) (fun i => by simp [nameTs, two_len]) hc.1 hc.2 (fun i hi => ?_)
  obtain ⟨h1, h2⟩ := hc.1 i hi
  generalize hx : rs.getD (k + i) ⟨0, 0, 0, 0⟩ = x at *
  have hmem : x ∈ rs := List.mem_of_getElem? h1
  have htk : (rs.drop k).take (i + 1) = (rs.drop k).take i ++ [x] := by
    rw [List.take_add_one, List.getElem?_drop, h1]
    rfl
  have hsize := textR_size ((rs.drop k).take i)
  have hlen : ((rs.drop k).take i).length ≤ rs.length := by simp; omega
  have hr := name_round (T := two h id tid (rd rs (k + i + 1) e l c) T0) (x := if i = 0 then .d .nilp else .ptr (h.length + 1) 0) (acc := textR ((rs.drop k).take i)) (w := x.r) (n := i) (id := id) (hsc x hmem) (by
    rw [two_len]
    split
    · exact .inl rfl
    · exact .inr rfl) (by omega) (by omega)
  rw [two_len] at hr
  unfold nameTs
  rw [two_setid W, htk, textR_snoc]
  simpa [Nat.add_assoc] using hr

theorem name_ok {h : List Res} {id tid : Nat} {rs : List Rn} {k : Nat} {l c kind num tl tc : Int} {text : ByteArray} {b : DV} (W : Two h id tid) (hsz : rs.length ≤ 100000) (hk : k ≤ rs.length) (hsc : ∀ x ∈ rs, rScal x.r = true) (hm1 : 1 ≤ cnt rPart (rs.drop k)) :
    D env 63 [.ptr id 0, .ptr tid 0] (two h id tid (rd rs k 0 l c) (tk kind text num b tl tc)) =
      some (.val (.d (.tup [])) (two h id tid (if 24 < cnt rPart (rs.drop k) then rd rs (k + cnt rPart (rs.drop k)) 5 tl tc else rd rs (k + cnt rPart (rs.drop k)) 0 l c)
        (tk (nameKind (textR ((rs.drop k).take (cnt rPart (rs.drop k)))) (peekR rs k)) (textR ((rs.drop k).take (cnt rPart (rs.drop k)))) num b tl tc))) := by
  have hid : ∀ t, (two h id tid (rd rs k 0 l c) t)[id]? = some (rd rs k 0 l c) := fun t => two_id' W
  have e61 := fun t => peek_ok (hid t) 0 (by omega)
  have z0 : ((0 : Nat) : Int) = 0 := rfl
  rw [Nat.add_zero, z0] at e61
  have e46 := fun h => up_ok (peekR rs k) h
  have nr := fun T0 => name_range (e := 0) (l := l) (c := c) (T0 := T0) W hsz hk hsc
  have hm := cnt_le rPart (rs.drop k)
  rw [List.length_drop] at hm
  have hsize := textR_size ((rs.drop k).take (cnt rPart (rs.drop k)))
  have hlen : ((rs.drop k).take (cnt rPart (rs.drop k))).length = cnt rPart (rs.drop k) := by simp; omega
  rw [hlen] at hsize
  generalize cnt rPart (rs.drop k) = m at *
  have hm0 : ¬ m = 0 := by omega
  have hm0' : (m == 0) = false := by simpa using hm0
  have e28 := fun t l' => string_ok (t := two h id tid (rd rs (k + m) 0 l c) t) (l := l') (x := .ptr (h.length + 1) 0) (acc := textR ((rs.drop k).take m)) (by omega) (by omega)
  have e59 := fun t L => take_ok (id := id) (h := two h id tid (rd rs k 0 l c) t ++ L) (by rw [List.length_append, two_len]; have := W.l1; omega) 45
  have e18 := fun h => word_ok (textR ((rs.drop k).take m)) h
  have e35 := fun t L => fail_ok (h := two h id tid (rd rs (k + m) 0 l c) t ++ L) (two_id W L) 5 tl tc
  have hl0 : (rs.drop k).take 0 = [] := rfl
  have ht0 : textR [] = ⟨#[]⟩ := rfl
  have hr0 : rr 1 (⟨#[]⟩ : ByteArray).size 5 = .nilrow := rfl
  simp only [nameTs, nameLP, List.replicate, List.cons_append, List.nil_append, Nat.add_assoc, Nat.reduceAdd, hl0, ht0, hr0, cells_nil, if_true, hm0, if_false, Nat.add_zero, z0, List.append_assoc] at nr
  simp only [bld, two_len] at e28
  simp only [two_len, List.length_append, List.append_assoc] at e59
  simp only [if_true, two_setid W] at e35
  simp only [tk, rd] at *
  generalize textR ((rs.drop k).take m) = txt at *
  rw [D_own (F := A63) rfl rfl rfl rfl]
  unfold nameKind
  by_cases h24 : 24 < m
  · have g24 : (24 : Int) < m := by omega
    rw [if_pos h24]
    cases hu : rUp (peekR rs k) <;> cases hw : isWord txt <;> rw [hu] at e46 <;> rw [hw] at e18 <;>
      simp -implicitDefEqProofs only [A63, B63, dbody, dexec, ostep, dop, ev, put, wants, dbin, dun, List.replicate, Nat.reduceAdd, Nat.reduceSub, Nat.reduceLT, Nat.reduceLeDiff, Nat.reduceMul, DV.cells, DV.flat, dload, DV.elems, reduceCtorEq, mask, DV.lows, DV.low, DV.coe, DV.isD, dresults, dresult, withHeap, lowCells, LSt.isReady, srcElems, DV.int, DV.mkAgg, same, mnmx2, nilness, bound, fill, flatCells, Int.reduceLE, Int.reduceLT, Int.reduceAdd, Int.reduceSub, Int.reduceNeg, Int.reduceEq, Int.reduceBEq, Int.reduceBNe, Nat.reduceBEq, Nat.reduceEqDiff, Int.reduceToNat, allocCells, stp, two_len, two_id W, two_tid W, two_id' W, two_tid' W, two_setid W, two_settid W, two_setid' W, two_settid' W, two_at, two_at0, two_set, two_set0, two_take, two_take0, e61, e46, e59, nr, e28, e35, e18, g24, putCells, Nat.add_assoc]
  · have g24 : ¬ (24 : Int) < m := by omega
    rw [if_neg h24]
    cases hu : rUp (peekR rs k) <;> cases hw : isWord txt <;> rw [hu] at e46 <;> rw [hw] at e18 <;>
      simp -implicitDefEqProofs only [A63, B63, dbody, dexec, ostep, dop, ev, put, wants, dbin, dun, List.replicate, Nat.reduceAdd, Nat.reduceSub, Nat.reduceLT, Nat.reduceLeDiff, Nat.reduceMul, DV.cells, DV.flat, dload, DV.elems, reduceCtorEq, mask, DV.lows, DV.low, DV.coe, DV.isD, dresults, dresult, withHeap, lowCells, LSt.isReady, srcElems, DV.int, DV.mkAgg, same, mnmx2, nilness, bound, fill, flatCells, Int.reduceLE, Int.reduceLT, Int.reduceAdd, Int.reduceSub, Int.reduceNeg, Int.reduceEq, Int.reduceBEq, Int.reduceBNe, Nat.reduceBEq, Nat.reduceEqDiff, Int.reduceToNat, allocCells, stp, two_len, two_id W, two_tid W, two_id' W, two_tid' W, two_setid W, two_settid W, two_setid' W, two_settid' W, two_at, two_at0, two_set, two_set0, two_take, two_take0, e61, e46, e59, nr, e28, e35, e18, g24, putCells, Nat.add_assoc]
end Go.Proofs.YtoadpaaghjomnaaDoor.Codes

set_option linter.unusedVariables false
set_option linter.unusedSimpArgs false
set_option maxRecDepth 100000
namespace Go.Proofs.YtoadpaaghjomnaaDoor.Codes
open Go Go.Deepv

def mostN : Int := 4611686018427387903
/-- One digit more; true: too great. -/
def numStep (s : Bool × Int) (r : Int) : Bool × Int := if s.1 then s else if mostN < s.2 * 10 + (r - 48) then (true, s.2) else (false, s.2 * 10 + (r - 48))
def numF (l : List Rn) : Bool × Int := l.foldl (fun s x => numStep s x.r) (false, 0)
theorem numF_snoc (l : List Rn) (x : Rn) : numF (l ++ [x]) = numStep (numF l) x.r := by simp [numF]
theorem numStep_in {s : Bool × Int} {r : Int} (h0 : 0 ≤ s.2) (h1 : s.2 ≤ mostN) (h2 : 48 ≤ r) : 0 ≤ (numStep s r).2 ∧ (numStep s r).2 ≤ mostN := by
  unfold numStep
  split
  · exact ⟨h0, h1⟩
  · split
    · exact ⟨h0, h1⟩
    · simp only
      omega
theorem numF_in (l : List Rn) (hd : ∀ x ∈ l, rDig x.r = true) : 0 ≤ (numF l).2 ∧ (numF l).2 ≤ mostN := by
  suffices h : ∀ (l : List Rn) (s : Bool × Int), (∀ x ∈ l, rDig x.r = true) → 0 ≤ s.2 → s.2 ≤ mostN → 0 ≤ (l.foldl (fun s x => numStep s x.r) s).2 ∧ (l.foldl (fun s x => numStep s x.r) s).2 ≤ mostN by
    exact h l (false, 0) hd (by simp) (by simp [mostN])
  intro l
  induction l with
  | nil => intro s _ h0 h1; exact ⟨h0, h1⟩
  | cons x l ih =>
    intro s hd h0 h1
    have hx := hd x List.mem_cons_self
    simp only [rDig, Bool.and_eq_true, decide_eq_true_eq] at hx
    have := numStep_in (r := x.r) h0 h1 hx.1
    exact ih _ (fun y hy => hd y (List.mem_cons_of_mem _ hy)) this.1 this.2

def numLP (n0 : Nat) (st : LSt) : Res := .loop [12] N65R0 B65R0 ([.d .undef, .d .undef, .d .undef, .ptr n0 0, .ptr (n0 + 1) 0] ++ List.replicate 41 (.d .undef)) st
theorem num_round {h : List Res} {id tid : Nat} {R : Res} {text : ByteArray} {b : DV} {v r tl tc : Int} {g : Bool} (W : Two h id tid) (hr : rDig r = true) (h0 : 0 ≤ v) (h1 : v ≤ mostN) :
    Y env (h.length + 2 + 2) [.d (.int .i32 r)] (two h id tid R (tk 3 text v b tl tc) ++ [.box [.ptr tid 0], .box [.d (.bool g)]] ++ [.box [.ptr id 0], .box [.d (.func (.func 64) [] [])], numLP h.length .ready]) =
      some (.val (.d (.bool true)) (two h id tid R (tk 3 text (numStep (g, v) r).2 b tl tc) ++ [.box [.ptr tid 0], .box [.d (.bool (numStep (g, v) r).1)]] ++ [.box [.ptr id 0], .box [.d (.func (.func 64) [] [])], numLP h.length .ready])) := by
  simp only [rDig, Bool.and_eq_true, decide_eq_true_eq] at hr
  unfold mostN at h1
  have w1 : IntKind.i32.wrap (r - 48) = r - 48 := wrap_i32 (by omega) (by omega)
  have w2 : IntKind.i64.wrap (r - 48) = r - 48 := wrap_i64 (by omega) (by omega)
  have w3 : IntKind.i64.wrap (4611686018427387903 - (r - 48)) = 4611686018427387903 - (r - 48) := wrap_i64 (by omega) (by omega)
  have w4 : (4611686018427387903 - (r - 48)).tdiv 10 = (4611686018427387903 - (r - 48)) / 10 := Int.tdiv_eq_ediv_of_nonneg (by omega)
  have w5 : IntKind.i64.wrap ((4611686018427387903 - (r - 48)) / 10) = (4611686018427387903 - (r - 48)) / 10 := wrap_i64 (by omega) (by omega)
  have ten : (10 : Int) = 0 ↔ False := by simp
  rw [Y_eq]
  unfold numStep mostN
  cases g with
  | true =>
    simp -implicitDefEqProofs only [dyield, setAll, markLoop, endLoop, List.zip_cons_cons, List.zip_nil_right, List.foldl_cons, List.foldl_nil, numLP, N65R0, B65R0, tk, dbody, dexec, ostep, dop, ev, put, wants, dbin, dun, List.replicate, Nat.reduceAdd, Nat.reduceSub, Nat.reduceLT, Nat.reduceLeDiff, Nat.reduceMul, DV.cells, DV.flat, dload, DV.elems, reduceCtorEq, mask, DV.lows, DV.low, DV.coe, DV.isD, dresults, dresult, withHeap, lowCells, LSt.isReady, srcElems, DV.int, DV.mkAgg, same, mnmx2, nilness, bound, fill, flatCells, Int.reduceLE, Int.reduceLT, Int.reduceAdd, Int.reduceSub, Int.reduceNeg, Int.reduceEq, Int.reduceBEq, Int.reduceBNe, Nat.reduceBEq, Nat.reduceEqDiff, Int.reduceToNat, allocCells, stp, two_len, two_id W, two_tid W, two_setid W, two_settid W, two_at, two_at0, two_set, two_set0, two_take, two_take0, Nat.add_assoc, w1, w2, w3, w4, w5, ten, putCells]
  | false =>
    by_cases hg : 4611686018427387903 < v * 10 + (r - 48)
    · have g1 : (4611686018427387903 - (r - 48)) / 10 < v := by omega
      rw [if_neg (by simp), if_pos hg]
      simp -implicitDefEqProofs only [dyield, setAll, markLoop, endLoop, List.zip_cons_cons, List.zip_nil_right, List.foldl_cons, List.foldl_nil, numLP, N65R0, B65R0, tk, dbody, dexec, ostep, dop, ev, put, wants, dbin, dun, List.replicate, Nat.reduceAdd, Nat.reduceSub, Nat.reduceLT, Nat.reduceLeDiff, Nat.reduceMul, DV.cells, DV.flat, dload, DV.elems, reduceCtorEq, mask, DV.lows, DV.low, DV.coe, DV.isD, dresults, dresult, withHeap, lowCells, LSt.isReady, srcElems, DV.int, DV.mkAgg, same, mnmx2, nilness, bound, fill, flatCells, Int.reduceLE, Int.reduceLT, Int.reduceAdd, Int.reduceSub, Int.reduceNeg, Int.reduceEq, Int.reduceBEq, Int.reduceBNe, Nat.reduceBEq, Nat.reduceEqDiff, Int.reduceToNat, allocCells, stp, two_len, two_id W, two_tid W, two_setid W, two_settid W, two_at, two_at0, two_set, two_set0, two_take, two_take0, Nat.add_assoc, w1, w2, w3, w4, w5, ten, g1, putCells]
    · have g1 : ¬ (4611686018427387903 - (r - 48)) / 10 < v := by omega
      have w6 : IntKind.i64.wrap (v * 10) = v * 10 := wrap_i64 (by omega) (by omega)
      have w7 : IntKind.i64.wrap (v * 10 + (r - 48)) = v * 10 + (r - 48) := wrap_i64 (by omega) (by omega)
      rw [if_neg (by simp), if_neg hg]
      simp -implicitDefEqProofs only [dyield, setAll, markLoop, endLoop, List.zip_cons_cons, List.zip_nil_right, List.foldl_cons, List.foldl_nil, numLP, N65R0, B65R0, tk, dbody, dexec, ostep, dop, ev, put, wants, dbin, dun, List.replicate, Nat.reduceAdd, Nat.reduceSub, Nat.reduceLT, Nat.reduceLeDiff, Nat.reduceMul, DV.cells, DV.flat, dload, DV.elems, reduceCtorEq, mask, DV.lows, DV.low, DV.coe, DV.isD, dresults, dresult, withHeap, lowCells, LSt.isReady, srcElems, DV.int, DV.mkAgg, same, mnmx2, nilness, bound, fill, flatCells, Int.reduceLE, Int.reduceLT, Int.reduceAdd, Int.reduceSub, Int.reduceNeg, Int.reduceEq, Int.reduceBEq, Int.reduceBNe, Nat.reduceBEq, Nat.reduceEqDiff, Int.reduceToNat, allocCells, stp, two_len, two_id W, two_tid W, two_setid W, two_settid W, two_at, two_at0, two_set, two_set0, two_take, two_take0, Nat.add_assoc, w1, w2, w3, w4, w5, w6, w7, ten, g1, putCells]

def numTs (h : List Res) (id tid : Nat) (rs : List Rn) (k : Nat) (e l c : Int) (text : ByteArray) (b : DV) (tl tc : Int) (i : Nat) : List Res :=
  two h id tid (rd rs (k + i) e l c) (tk 3 text (numF ((rs.drop k).take i)).2 b tl tc) ++ [.box [.ptr tid 0], .box [.d (.bool (numF ((rs.drop k).take i)).1)]]
theorem num_range {h : List Res} {id tid : Nat} {rs : List Rn} {k : Nat} {e l c tl tc : Int} {text : ByteArray} {b : DV} (W : Two h id tid) (hsz : rs.length ≤ 100000) (hk : k ≤ rs.length) :
    D env 83 [.yld (h.length + 2 + 2), .ptr (h.length + 2) 0, .ptr (h.length + 2 + 1) 0] (numTs h id tid rs k e l c text b tl tc 0 ++ [.box [.ptr id 0], .box [.d (.func (.func 64) [] [])], numLP h.length .ready]) =
      some (.val (.d (.tup [])) (numTs h id tid rs k e l c text b tl tc (cnt rDig (rs.drop k)) ++ [.box [.ptr id 0], .box [.d (.func (.func 64) [] [])], numLP h.length .ready])) := by
  have hc := cnt_drop rDig rs k
  have hm := cnt_le rDig (rs.drop k)
  rw [List.length_drop] at hm
  refine rtake (cf := 64) (id := id) (e := e) (l := l) (c := c) (n0 := h.length + 2) (k := k) (m := cnt rDig (rs.drop k)) (Ts := numTs h id tid rs k e l c text b tl tc) (by omega) (fun r t => digit_ok r t) (fun i => two_id W _) (fun i => by simp [numTs, two_len]) hc.1 hc.2 (fun i hi => ?_)
  obtain ⟨h1, h2⟩ := hc.1 i hi
  have hall : ∀ x ∈ (rs.drop k).take i, rDig x.r = true := fun x hx => by
    obtain ⟨j, hj⟩ := List.getElem?_of_mem hx
    rw [List.getElem?_take] at hj
    split at hj
    · obtain ⟨y, y1, y2⟩ := cnt_at rDig _ j (show j < cnt rDig (rs.drop k) by omega)
      rw [hj] at y1
      exact (Option.some.inj y1) ▸ y2
    · cases hj
  generalize hx : rs.getD (k + i) ⟨0, 0, 0, 0⟩ = x at *
  have htk : (rs.drop k).take (i + 1) = (rs.drop k).take i ++ [x] := by
    rw [List.take_add_one, List.getElem?_drop, h1]
    rfl
  have hin := numF_in _ hall
  have hr := num_round (R := rd rs (k + i + 1) e l c) (text := text) (b := b) (tl := tl) (tc := tc) (g := (numF ((rs.drop k).take i)).1) (v := (numF ((rs.drop k).take i)).2) W h2 hin.1 hin.2
  unfold numTs
  rw [two_setid W, htk, numF_snoc]
  simpa [Nat.add_assoc] using hr

theorem number_ok {h : List Res} {id tid : Nat} {rs : List Rn} {k : Nat} {l c kind tl tc : Int} {text : ByteArray} {b : DV} (W : Two h id tid) (hsz : rs.length ≤ 100000) (hk : k ≤ rs.length) :
    D env 65 [.ptr id 0, .ptr tid 0] (two h id tid (rd rs k 0 l c) (tk kind text 0 b tl tc)) =
      some (.val (.d (.tup [])) (two h id tid (if (numF ((rs.drop k).take (cnt rDig (rs.drop k)))).1 then rd rs (k + cnt rDig (rs.drop k)) 3 tl tc else rd rs (k + cnt rDig (rs.drop k)) 0 l c)
        (tk 3 text (numF ((rs.drop k).take (cnt rDig (rs.drop k)))).2 b tl tc))) := by
  have nr := num_range (e := 0) (l := l) (c := c) (text := text) (b := b) (tl := tl) (tc := tc) W hsz hk
  generalize cnt rDig (rs.drop k) = m at *
  have z0 : ((0 : Nat) : Int) = 0 := rfl
  have e59 := fun t L => take_ok (id := id) (h := two h id tid (rd rs k 0 l c) t ++ L) (by rw [List.length_append, two_len]; have := W.l1; omega) 64
  have e35 := fun t L => fail_ok (h := two h id tid (rd rs (k + m) 0 l c) t ++ L) (two_id W L) 3 tl tc
  have hl0 : (rs.drop k).take 0 = [] := rfl
  have hn0 : numF [] = (false, 0) := rfl
  have wt := W.l2
  have wt2 : tid < h.length + 1 := by omega
  simp only [numTs, numLP, List.replicate, List.cons_append, List.nil_append, Nat.add_assoc, Nat.reduceAdd, hl0, hn0, Nat.add_zero, z0, List.append_assoc] at nr
  simp only [two_len, List.length_append, List.append_assoc] at e59
  simp only [if_true, two_setid W] at e35
  simp only [tk, rd] at *
  generalize numF ((rs.drop k).take m) = q at *
  rcases q with ⟨g, v⟩
  rw [D_own (F := A65) rfl rfl rfl rfl]
  cases g <;>
    simp -implicitDefEqProofs only [A65, B65, dbody, dexec, ostep, dop, ev, put, wants, dbin, dun, List.replicate, Nat.reduceAdd, Nat.reduceSub, Nat.reduceLT, Nat.reduceLeDiff, Nat.reduceMul, DV.cells, DV.flat, dload, DV.elems, reduceCtorEq, mask, DV.lows, DV.low, DV.coe, DV.isD, dresults, dresult, withHeap, lowCells, LSt.isReady, srcElems, DV.int, DV.mkAgg, same, mnmx2, nilness, bound, fill, flatCells, Int.reduceLE, Int.reduceLT, Int.reduceAdd, Int.reduceSub, Int.reduceNeg, Int.reduceEq, Int.reduceBEq, Int.reduceBNe, Nat.reduceBEq, Nat.reduceEqDiff, Int.reduceToNat, allocCells, stp, two_len, two_id W, two_tid W, two_id' W, two_tid' W, two_setid W, two_settid W, two_setid' W, two_settid' W, two_at, two_at0, two_set, two_set0, two_take, two_take0, e59, nr, e35, wt, wt2, putCells, Nat.add_assoc]
end Go.Proofs.YtoadpaaghjomnaaDoor.Codes
