/-
  A token as a text, the document's.
  What can be a name, in both.
  Conditions: none.
-/
import Derived.Test.YtoadpaaghjomnaaDoorMN
set_option linter.unusedVariables false
set_option linter.unusedSimpArgs false
set_option maxRecDepth 100000
namespace Go.Proofs.YtoadpaaghjomnaaDoor.Codes
open Go Go.Deepv

def st42 (u : Nat) (s : ByteArray) : List DV := [.d (.int .i64 u), .d .undef, .d .undef, .d (.str s)] ++ List.replicate 20 (.d .undef)
theorem app_toList (a b : ByteArray) : (a ++ b).data.toList = a.data.toList ++ b.data.toList := by
  rw [ByteArray.data_append, Array.toList_append]
theorem loop42 : ∀ (u : Nat) (s : ByteArray), s.size + u ≤ 9223372036854775807 → (s.size = 0 ∨ 1 ≤ u) →
    ∃ (u' : Nat) (s' : ByteArray), u' ≤ 9 ∧ s'.size + 1 ≤ 9223372036854775807 ∧ byteB (48 + u' : Nat) ++ s' = ⟨(Lib.decDigits u).toArray⟩ ++ s ∧ L env 0 true H42L2 X42L2 B42L2 (st42 u s) [] = some (.exit 0, st42 u' s', []) := by
  obtain ⟨K, hK⟩ : ∃ K, L env 0 true H42L2 X42L2 B42L2 = K := ⟨_, rfl⟩
  rw [hK]
  intro u
  induction u using Nat.strongRecOn with
  | _ u ih =>
    intro s h1 h2
    by_cases hu : u < 10
    · refine ⟨u, s, by omega, by omega, ?_, ?_⟩
      · rw [Lib.decDigits, dif_pos hu]
        apply ba_ext
        rw [app_toList, app_toList]
        rfl
      · have g1 : ¬ (9 : Int) < u := by omega
        rw [L_round hK]
        simp -implicitDefEqProofs only [B42L2, st42, dbody, dexec, ostep, dop, ev, put, wants, dbin, dun, List.replicate, Nat.reduceAdd, Nat.reduceSub, Nat.reduceLT, Nat.reduceLeDiff, Nat.reduceMul, DV.cells, DV.flat, dload, DV.elems, reduceCtorEq, mask, DV.lows, DV.low, DV.coe, DV.isD, dresults, dresult, withHeap, lowCells, LSt.isReady, srcElems, DV.int, DV.mkAgg, same, mnmx2, nilness, bound, fill, flatCells, Int.reduceLE, Int.reduceLT, Int.reduceAdd, Int.reduceSub, Int.reduceNeg, Int.reduceEq, Int.reduceBEq, Int.reduceBNe, Nat.reduceBEq, Nat.reduceEqDiff, Int.reduceToNat, allocCells, stp, g1]
    · have hsz : (byteB (48 + u % 10 : Nat) ++ s).size = s.size + 1 := by rw [ByteArray.size_append, byteB_size]; omega
      obtain ⟨u', s', g1, g2, g3, g4⟩ := ih (u / 10) (by omega) (byteB (48 + u % 10 : Nat) ++ s) (by omega) (by omega)
      refine ⟨u', s', g1, g2, ?_, ?_⟩
      · rw [g3, Lib.decDigits.eq_def u, dif_neg hu]
        apply ba_ext
        rw [app_toList, app_toList, app_toList]
        show Lib.decDigits (u / 10) ++ ([UInt8.ofNat (((48 + u % 10 : Nat) : Int).toNat)] ++ s.data.toList) = Lib.decDigits (u / 10) ++ [UInt8.ofNat (48 + u % 10)] ++ s.data.toList
        rw [Int.toNat_natCast, List.append_assoc]
      · have c1 : (9 : Int) < u := by omega
        have m1 : (u : Int).tmod 10 = ((u % 10 : Nat) : Int) := tmod_lit u 10
        have d1 : (u : Int).tdiv 10 = ((u / 10 : Nat) : Int) := tdiv_lit u 10
        have w1 : IntKind.i64.wrap (48 + ((u % 10 : Nat) : Int)) = ((48 + u % 10 : Nat) : Int) := by rw [wrap_i64 (by omega) (by omega)]; omega
        have w2 : IntKind.u8.wrap ((48 + u % 10 : Nat) : Int) = ((48 + u % 10 : Nat) : Int) := wrap_u8 (by omega) (by omega)
        have w3 : IntKind.i64.wrap ((u / 10 : Nat) : Int) = ((u / 10 : Nat) : Int) := wrap_i64 (by omega) (by omega)
        have hbs : numsOf [[FV.int .u8 ((48 + u % 10 : Nat) : Int)]] = some [((48 + u % 10 : Nat) : Int)] := rfl
        have hso : strOfNums [((48 + u % 10 : Nat) : Int)] = byteB (48 + u % 10 : Nat) := rfl
        have hadd : (byteB (48 + u % 10 : Nat)).size + s.size ≤ 9223372036854775807 := by rw [byteB_size]; omega
        have ten : (10 : Int) = 0 ↔ False := by simp
        generalize hR : some (DExit.exit 0, st42 u' s', ([] : List Res)) = RR at *
        simp only [st42, List.replicate, List.cons_append, List.nil_append] at g4
        rw [L_round hK]
        simp -implicitDefEqProofs only [B42L2, st42, dbody, dexec, ostep, dop, ev, put, wants, dbin, dun, List.replicate, Nat.reduceAdd, Nat.reduceSub, Nat.reduceLT, Nat.reduceLeDiff, Nat.reduceMul, DV.cells, DV.flat, dload, DV.elems, reduceCtorEq, mask, DV.lows, DV.low, DV.coe, DV.isD, dresults, dresult, withHeap, lowCells, LSt.isReady, srcElems, DV.int, DV.mkAgg, same, mnmx2, nilness, bound, fill, flatCells, Int.reduceLE, Int.reduceLT, Int.reduceAdd, Int.reduceSub, Int.reduceNeg, Int.reduceEq, Int.reduceBEq, Int.reduceBNe, Nat.reduceBEq, Nat.reduceEqDiff, Int.reduceToNat, allocCells, stp, c1, m1, d1, w1, w2, w3, ten, hbs, hso, hadd, g4]

theorem digits_ok (n : Int) (hn : n ≤ 9223372036854775807) (h : List Res) : D env 42 [.d (.int .i64 n)] h = some (.val (.d (.str (digitsB n))) h) := by
  rw [D_dat (F := A42) rfl rfl rfl rfl]
  unfold digitsB Lib.itoa
  rw [if_neg (by omega)]
  by_cases h0 : n < 0
  · have hl : L env 0 true H42L2 X42L2 B42L2 ([.d (.int .i64 n), .d .undef, .d .undef, .d (.str ⟨#[]⟩)] ++ List.replicate 20 (.d .undef)) [] = some (.exit 0, [.d (.int .i64 n), .d .undef, .d .undef, .d (.str ⟨#[]⟩)] ++ List.replicate 20 (.d .undef), []) := by
      obtain ⟨K, hK⟩ : ∃ K, L env 0 true H42L2 X42L2 B42L2 = K := ⟨_, rfl⟩
      have g1 : ¬ (9 : Int) < n := by omega
      rw [hK, L_round hK]
      simp -implicitDefEqProofs only [B42L2, dbody, dexec, ostep, dop, ev, put, wants, dbin, dun, List.replicate, Nat.reduceAdd, Nat.reduceSub, Nat.reduceLT, Nat.reduceLeDiff, Nat.reduceMul, DV.cells, DV.flat, dload, DV.elems, reduceCtorEq, mask, DV.lows, DV.low, DV.coe, DV.isD, dresults, dresult, withHeap, lowCells, LSt.isReady, srcElems, DV.int, DV.mkAgg, same, mnmx2, nilness, bound, fill, flatCells, Int.reduceLE, Int.reduceLT, Int.reduceAdd, Int.reduceSub, Int.reduceNeg, Int.reduceEq, Int.reduceBEq, Int.reduceBNe, Nat.reduceBEq, Nat.reduceEqDiff, Int.reduceToNat, allocCells, stp, g1]
    have hm : max n 0 = 0 := by omega
    have w1 : IntKind.i64.wrap (48 + 0) = 48 := rfl
    have w1' : IntKind.i64.wrap 48 = 48 := rfl
    have w2 : IntKind.u8.wrap 48 = 48 := rfl
    have hbs : numsOf [[FV.int .u8 48]] = some [48] := rfl
    have hso : strOfNums [48] = ⟨#[48]⟩ := rfl
    have hadd : (⟨#[48]⟩ : ByteArray).size + (⟨#[]⟩ : ByteArray).size ≤ 9223372036854775807 := by decide
    have hap : (⟨#[48]⟩ : ByteArray) ++ ⟨#[]⟩ = ⟨#[48]⟩ := rfl
    have hd : (⟨(Lib.decDigits (Int.toNat 0)).toArray⟩ : ByteArray) = ⟨#[48]⟩ := by
      rw [Int.toNat_zero, Lib.decDigits, dif_pos (by decide)]
      rfl
    rw [hm, hd]
    simp only [List.replicate, List.cons_append, List.nil_append] at hl
    simp -implicitDefEqProofs only [A42, B42, dbody, dexec, ostep, dop, ev, put, wants, dbin, dun, List.replicate, Nat.reduceAdd, Nat.reduceSub, Nat.reduceLT, Nat.reduceLeDiff, Nat.reduceMul, DV.cells, DV.flat, dload, DV.elems, reduceCtorEq, mask, DV.lows, DV.low, DV.coe, DV.isD, dresults, dresult, withHeap, lowCells, LSt.isReady, srcElems, DV.int, DV.mkAgg, same, mnmx2, nilness, bound, fill, flatCells, Int.reduceLE, Int.reduceLT, Int.reduceAdd, Int.reduceSub, Int.reduceNeg, Int.reduceEq, Int.reduceBEq, Int.reduceBNe, Nat.reduceBEq, Nat.reduceEqDiff, Int.reduceToNat, allocCells, stp, hl, h0, w1, w1', w2, hbs, hso, hadd, hap]
  · obtain ⟨u, rfl⟩ : ∃ u : Nat, n = u := ⟨n.toNat, (Int.toNat_of_nonneg (by omega)).symm⟩
    have s0 : (⟨#[]⟩ : ByteArray).size = 0 := rfl
    obtain ⟨u', s', g1, g2, g3, g4⟩ := loop42 u ⟨#[]⟩ (by omega) (.inl s0)
    have hm : (max (u : Int) 0).toNat = u := by omega
    rw [hm]
    have ha : (⟨(Lib.decDigits u).toArray⟩ : ByteArray) ++ ⟨#[]⟩ = ⟨(Lib.decDigits u).toArray⟩ := by
      apply ba_ext
      rw [app_toList]
      simp
    rw [ha] at g3
    rw [← g3]
    have n0 : ¬ (u' : Int) < 0 := by omega
    have w1 : IntKind.i64.wrap (48 + (u' : Int)) = ((48 + u' : Nat) : Int) := by rw [wrap_i64 (by omega) (by omega)]; omega
    have w2 : IntKind.u8.wrap ((48 + u' : Nat) : Int) = ((48 + u' : Nat) : Int) := wrap_u8 (by omega) (by omega)
    have hbs : numsOf [[FV.int .u8 ((48 + u' : Nat) : Int)]] = some [((48 + u' : Nat) : Int)] := rfl
    have hso : strOfNums [((48 + u' : Nat) : Int)] = byteB (48 + u' : Nat) := rfl
    have hadd : (byteB (48 + u' : Nat)).size + s'.size ≤ 9223372036854775807 := by rw [byteB_size]; omega
    simp only [st42, List.replicate, List.cons_append, List.nil_append] at g4
    simp -implicitDefEqProofs only [A42, B42, dbody, dexec, ostep, dop, ev, put, wants, dbin, dun, List.replicate, Nat.reduceAdd, Nat.reduceSub, Nat.reduceLT, Nat.reduceLeDiff, Nat.reduceMul, DV.cells, DV.flat, dload, DV.elems, reduceCtorEq, mask, DV.lows, DV.low, DV.coe, DV.isD, dresults, dresult, withHeap, lowCells, LSt.isReady, srcElems, DV.int, DV.mkAgg, same, mnmx2, nilness, bound, fill, flatCells, Int.reduceLE, Int.reduceLT, Int.reduceAdd, Int.reduceSub, Int.reduceNeg, Int.reduceEq, Int.reduceBEq, Int.reduceBNe, Nat.reduceBEq, Nat.reduceEqDiff, Int.reduceToNat, allocCells, stp, g4, n0, w1, w2, hbs, hso, hadd]

def rfl17 (t : List FV) : DV := .d (.ref t 0)
def st17 (t : List FV) (acc : ByteArray) (i : Nat) : List DV := [.d .undef, .d (.ref t 0), .d .undef, .d (.str hexes), .d (.str acc), .d (.int .i64 i)] ++ List.replicate 67 (.d .undef)
def ex17 (acc : ByteArray) : List DV := [.d .undef, .d .undef, .d .undef, .d .undef, .d (.str acc)] ++ List.replicate 68 (.d .undef)
theorem loop17 (k n l0 c0 : Int) (tx b : ByteArray) (hb : b.size ≤ 100000) :
    ∀ (l : List UInt8) (i : Nat) (acc : ByteArray), b.data.toList.drop i = l → i ≤ b.size → acc.size ≤ 4 * i + 1 →
      L env 0 true H17L13 X17L13 B17L13 (st17 [.int .i64 k, .str tx, .int .i64 n, .slice 1 (strCells b), .int .i64 l0, .int .i64 c0] acc i) [] = some (.exit 1, ex17 (l.foldl (fun a c => a ++ escA c) acc), []) := by
  obtain ⟨K, hK⟩ : ∃ K, L env 0 true H17L13 X17L13 B17L13 = K := ⟨_, rfl⟩
  rw [hK]
  have hlen : b.data.toList.length = b.size := Array.length_toList
  intro l
  induction l with
  | nil =>
    intro i acc h1 h2 h3
    have hk : ¬ (i : Int) < b.size := by
      have := congrArg List.length h1
      rw [List.length_drop, List.length_nil] at this
      omega
    rw [List.foldl_nil, L_round hK]
    simp -implicitDefEqProofs only [B17L13, st17, ex17, dbody, dexec, ostep, dop, ev, put, wants, dbin, dun, List.replicate, Nat.reduceAdd, Nat.reduceSub, Nat.reduceLT, Nat.reduceLeDiff, Nat.reduceMul, DV.cells, DV.flat, dload, DV.elems, reduceCtorEq, mask, DV.lows, DV.low, DV.coe, DV.isD, dresults, dresult, withHeap, lowCells, LSt.isReady, srcElems, DV.int, DV.mkAgg, same, mnmx2, nilness, bound, fill, flatCells, Int.reduceLE, Int.reduceLT, Int.reduceAdd, Int.reduceSub, Int.reduceNeg, Int.reduceEq, Int.reduceBEq, Int.reduceBNe, Nat.reduceBEq, Nat.reduceEqDiff, Int.reduceToNat, allocCells, stp, strCells_len, hk]
  | cons c l ih =>
    intro i acc h1 h2 h3
    have hx : b.data.toList[i]? = some c := by
      have := List.getElem?_drop (xs := b.data.toList) (i := i) (j := 0)
      rw [h1] at this
      simpa using this.symm
    have hlt := (List.getElem?_eq_some_iff.1 hx).1
    have hx' : (strCells b)[i]? = some [.int .u8 c.toNat] := by
      unfold strCells
      rw [List.getElem?_map, hx]
      rfl
    have hk : (i : Int) < b.size := by omega
    have hd : b.data.toList.drop (i + 1) = l := by rw [← List.drop_drop, h1]; rfl
    have hsz := escA_size c
    have ih := ih (i + 1) (acc ++ escA c) hd (by omega) (by rw [ByteArray.size_append]; omega)
    have w1 : IntKind.i64.wrap ((i : Int) + 1) = ((i + 1 : Nat) : Int) := by rw [wrap_i64 (by omega) (by omega)]; simp
    have hadd : acc.size + (escA c).size ≤ 9223372036854775807 := by omega
    have hc := c.toNat_lt
    rw [List.foldl_cons]
    generalize hR : some (DExit.exit 1, ex17 (l.foldl (fun a c => a ++ escA c) (acc ++ escA c)), ([] : List Res)) = RR at *
    simp only [st17, hexes, List.replicate, List.cons_append, List.nil_append] at ih
    have hnum := nums_ok (escA c)
    have hstr := strOf_ok (escA c)
    have cells : strCells (escA c) = (escShow c).map fun x => [FV.int .u8 x.toNat] := rfl
    rw [cells] at hnum
    generalize (escA c).data.toList.map (fun b => (b.toNat : Int)) = ns at *
    generalize escA c = ec at *
    unfold escShow at hnum
    rw [L_round hK]
    by_cases c1 : c.toNat = 34
    · have e : ((c.toNat : Nat) : Int) = 34 := by omega
      have z92 : ((92 : UInt8).toNat : Int) = 92 := rfl
      rw [if_pos (.inl c1)] at hnum
      rw [e] at hx'
      simp only [List.map_cons, List.map_nil, z92, e] at hnum
      simp -implicitDefEqProofs only [B17L13, st17, hexes, dbody, dexec, ostep, dop, ev, put, wants, dbin, dun, List.replicate, Nat.reduceAdd, Nat.reduceSub, Nat.reduceLT, Nat.reduceLeDiff, Nat.reduceMul, DV.cells, DV.flat, dload, DV.elems, reduceCtorEq, mask, DV.lows, DV.low, DV.coe, DV.isD, dresults, dresult, withHeap, lowCells, LSt.isReady, srcElems, DV.int, DV.mkAgg, same, mnmx2, nilness, bound, fill, flatCells, Int.reduceLE, Int.reduceLT, Int.reduceAdd, Int.reduceSub, Int.reduceNeg, Int.reduceEq, Int.reduceBEq, Int.reduceBNe, Nat.reduceBEq, Nat.reduceEqDiff, Int.reduceToNat, allocCells, stp, strCells_len, hk, hx', hnum, hstr, hadd, w1, ih]
    have f1 : (((c.toNat : Nat) : Int) == 34) = false := by simp; omega
    by_cases c2 : c.toNat = 92
    · have e : ((c.toNat : Nat) : Int) = 92 := by omega
      have z92 : ((92 : UInt8).toNat : Int) = 92 := rfl
      rw [if_pos (.inr c2)] at hnum
      rw [e] at hx'
      simp only [List.map_cons, List.map_nil, z92, e] at hnum
      simp -implicitDefEqProofs only [B17L13, st17, hexes, dbody, dexec, ostep, dop, ev, put, wants, dbin, dun, List.replicate, Nat.reduceAdd, Nat.reduceSub, Nat.reduceLT, Nat.reduceLeDiff, Nat.reduceMul, DV.cells, DV.flat, dload, DV.elems, reduceCtorEq, mask, DV.lows, DV.low, DV.coe, DV.isD, dresults, dresult, withHeap, lowCells, LSt.isReady, srcElems, DV.int, DV.mkAgg, same, mnmx2, nilness, bound, fill, flatCells, Int.reduceLE, Int.reduceLT, Int.reduceAdd, Int.reduceSub, Int.reduceNeg, Int.reduceEq, Int.reduceBEq, Int.reduceBNe, Nat.reduceBEq, Nat.reduceEqDiff, Int.reduceToNat, allocCells, stp, strCells_len, hk, hx', hnum, hstr, hadd, w1, ih]
    have f2 : (((c.toNat : Nat) : Int) == 92) = false := by simp; omega
    rw [if_neg (by omega)] at hnum
    by_cases c3 : 32 ≤ c.toNat ∧ c.toNat ≤ 126
    · have g1 : (32 : Int) ≤ c.toNat := by omega
      have g2 : (c.toNat : Int) ≤ 126 := by omega
      rw [if_pos c3] at hnum
      simp only [List.map_cons, List.map_nil] at hnum
      simp -implicitDefEqProofs only [B17L13, st17, hexes, dbody, dexec, ostep, dop, ev, put, wants, dbin, dun, List.replicate, Nat.reduceAdd, Nat.reduceSub, Nat.reduceLT, Nat.reduceLeDiff, Nat.reduceMul, DV.cells, DV.flat, dload, DV.elems, reduceCtorEq, mask, DV.lows, DV.low, DV.coe, DV.isD, dresults, dresult, withHeap, lowCells, LSt.isReady, srcElems, DV.int, DV.mkAgg, same, mnmx2, nilness, bound, fill, flatCells, Int.reduceLE, Int.reduceLT, Int.reduceAdd, Int.reduceSub, Int.reduceNeg, Int.reduceEq, Int.reduceBEq, Int.reduceBNe, Nat.reduceBEq, Nat.reduceEqDiff, Int.reduceToNat, allocCells, stp, strCells_len, hk, hx', f1, f2, g1, g2, hnum, hstr, hadd, w1, ih]
    · rw [if_neg c3] at hnum
      have z92 : ((92 : UInt8).toNat : Int) = 92 := rfl
      have z120 : ((120 : UInt8).toNat : Int) = 120 := rfl
      have d4 : (c.toNat : Int).tdiv 16 = ((c.toNat / 16 : Nat) : Int) := tdiv_lit c.toNat 16
      have m4 : (c.toNat : Int).tmod 16 = ((c.toNat % 16 : Nat) : Int) := tmod_lit c.toNat 16
      have w4 : IntKind.u8.wrap ((c.toNat / 16 : Nat) : Int) = ((c.toNat / 16 : Nat) : Int) := wrap_u8 (by omega) (by omega)
      have sixteen : (16 : Int) = 0 ↔ False := by simp
      have h1 := hexes_get ⟨c.toNat / 16, by omega⟩
      have h2 := hexes_get ⟨c.toNat % 16, by omega⟩
      simp only [hexes] at h1 h2
      simp only [List.map_cons, List.map_nil, z92, z120] at hnum
      by_cases g1 : (32 : Int) ≤ c.toNat
      · have g2 : ¬ (c.toNat : Int) ≤ 126 := by omega
        simp -implicitDefEqProofs only [B17L13, st17, hexes, dbody, dexec, ostep, dop, ev, put, wants, dbin, dun, List.replicate, Nat.reduceAdd, Nat.reduceSub, Nat.reduceLT, Nat.reduceLeDiff, Nat.reduceMul, DV.cells, DV.flat, dload, DV.elems, reduceCtorEq, mask, DV.lows, DV.low, DV.coe, DV.isD, dresults, dresult, withHeap, lowCells, LSt.isReady, srcElems, DV.int, DV.mkAgg, same, mnmx2, nilness, bound, fill, flatCells, Int.reduceLE, Int.reduceLT, Int.reduceAdd, Int.reduceSub, Int.reduceNeg, Int.reduceEq, Int.reduceBEq, Int.reduceBNe, Nat.reduceBEq, Nat.reduceEqDiff, Int.reduceToNat, allocCells, stp, strCells_len, hk, hx', f1, f2, g1, g2, d4, m4, w4, sixteen, h1, h2, hnum, hstr, hadd, w1, ih]
      · simp -implicitDefEqProofs only [B17L13, st17, hexes, dbody, dexec, ostep, dop, ev, put, wants, dbin, dun, List.replicate, Nat.reduceAdd, Nat.reduceSub, Nat.reduceLT, Nat.reduceLeDiff, Nat.reduceMul, DV.cells, DV.flat, dload, DV.elems, reduceCtorEq, mask, DV.lows, DV.low, DV.coe, DV.isD, dresults, dresult, withHeap, lowCells, LSt.isReady, srcElems, DV.int, DV.mkAgg, same, mnmx2, nilness, bound, fill, flatCells, Int.reduceLE, Int.reduceLT, Int.reduceAdd, Int.reduceSub, Int.reduceNeg, Int.reduceEq, Int.reduceBEq, Int.reduceBNe, Nat.reduceBEq, Nat.reduceEqDiff, Int.reduceToNat, allocCells, stp, strCells_len, hk, hx', f1, f2, g1, d4, m4, w4, sixteen, h1, h2, hnum, hstr, hadd, w1, ih]

theorem rshow_ok (t : Tk) (l c : Int) (hb : t.bytes.size ≤ 100000) (hn : t.num ≤ 9223372036854775807) (h : List Res) : D env 17 [.d (.agg (t.enc l c))] h = some (.val (.d (.str (showV t))) h) := by
  rw [D_dat (F := A17) rfl rfl rfl rfl]
  obtain ⟨k, tx, n, b⟩ := t
  simp only at hb hn
  unfold showV
  simp only [Tk.enc]
  by_cases k1 : k = 1
  · subst k1
    rw [if_pos (by decide)]
    simp -implicitDefEqProofs only [A17, B17, dbody, dexec, ostep, dop, ev, put, wants, dbin, dun, List.replicate, Nat.reduceAdd, Nat.reduceSub, Nat.reduceLT, Nat.reduceLeDiff, Nat.reduceMul, DV.cells, DV.flat, dload, DV.elems, reduceCtorEq, mask, DV.lows, DV.low, DV.coe, DV.isD, dresults, dresult, withHeap, lowCells, LSt.isReady, srcElems, DV.int, DV.mkAgg, same, mnmx2, nilness, bound, fill, flatCells, Int.reduceLE, Int.reduceLT, Int.reduceAdd, Int.reduceSub, Int.reduceNeg, Int.reduceEq, Int.reduceBEq, Int.reduceBNe, Nat.reduceBEq, Nat.reduceEqDiff, Int.reduceToNat, allocCells, stp]
  by_cases k2 : k = 2
  · subst k2
    rw [if_pos (by decide)]
    simp -implicitDefEqProofs only [A17, B17, dbody, dexec, ostep, dop, ev, put, wants, dbin, dun, List.replicate, Nat.reduceAdd, Nat.reduceSub, Nat.reduceLT, Nat.reduceLeDiff, Nat.reduceMul, DV.cells, DV.flat, dload, DV.elems, reduceCtorEq, mask, DV.lows, DV.low, DV.coe, DV.isD, dresults, dresult, withHeap, lowCells, LSt.isReady, srcElems, DV.int, DV.mkAgg, same, mnmx2, nilness, bound, fill, flatCells, Int.reduceLE, Int.reduceLT, Int.reduceAdd, Int.reduceSub, Int.reduceNeg, Int.reduceEq, Int.reduceBEq, Int.reduceBNe, Nat.reduceBEq, Nat.reduceEqDiff, Int.reduceToNat, allocCells, stp]
  by_cases k5 : k = 5
  · subst k5
    rw [if_pos (by decide)]
    simp -implicitDefEqProofs only [A17, B17, dbody, dexec, ostep, dop, ev, put, wants, dbin, dun, List.replicate, Nat.reduceAdd, Nat.reduceSub, Nat.reduceLT, Nat.reduceLeDiff, Nat.reduceMul, DV.cells, DV.flat, dload, DV.elems, reduceCtorEq, mask, DV.lows, DV.low, DV.coe, DV.isD, dresults, dresult, withHeap, lowCells, LSt.isReady, srcElems, DV.int, DV.mkAgg, same, mnmx2, nilness, bound, fill, flatCells, Int.reduceLE, Int.reduceLT, Int.reduceAdd, Int.reduceSub, Int.reduceNeg, Int.reduceEq, Int.reduceBEq, Int.reduceBNe, Nat.reduceBEq, Nat.reduceEqDiff, Int.reduceToNat, allocCells, stp]
  by_cases k6 : k = 6
  · subst k6
    rw [if_pos (by decide)]
    simp -implicitDefEqProofs only [A17, B17, dbody, dexec, ostep, dop, ev, put, wants, dbin, dun, List.replicate, Nat.reduceAdd, Nat.reduceSub, Nat.reduceLT, Nat.reduceLeDiff, Nat.reduceMul, DV.cells, DV.flat, dload, DV.elems, reduceCtorEq, mask, DV.lows, DV.low, DV.coe, DV.isD, dresults, dresult, withHeap, lowCells, LSt.isReady, srcElems, DV.int, DV.mkAgg, same, mnmx2, nilness, bound, fill, flatCells, Int.reduceLE, Int.reduceLT, Int.reduceAdd, Int.reduceSub, Int.reduceNeg, Int.reduceEq, Int.reduceBEq, Int.reduceBNe, Nat.reduceBEq, Nat.reduceEqDiff, Int.reduceToNat, allocCells, stp]
  rw [if_neg (by omega)]
  by_cases k3 : k = 3
  · subst k3
    rw [if_pos rfl]
    have e42 := fun h => digits_ok n hn h
    simp -implicitDefEqProofs only [A17, B17, dbody, dexec, ostep, dop, ev, put, wants, dbin, dun, List.replicate, Nat.reduceAdd, Nat.reduceSub, Nat.reduceLT, Nat.reduceLeDiff, Nat.reduceMul, DV.cells, DV.flat, dload, DV.elems, reduceCtorEq, mask, DV.lows, DV.low, DV.coe, DV.isD, dresults, dresult, withHeap, lowCells, LSt.isReady, srcElems, DV.int, DV.mkAgg, same, mnmx2, nilness, bound, fill, flatCells, Int.reduceLE, Int.reduceLT, Int.reduceAdd, Int.reduceSub, Int.reduceNeg, Int.reduceEq, Int.reduceBEq, Int.reduceBNe, Nat.reduceBEq, Nat.reduceEqDiff, Int.reduceToNat, allocCells, stp, e42]
  rw [if_neg k3]
  have f1 : (k == 1) = false := by simpa using k1
  have f2 : (k == 2) = false := by simpa using k2
  have f3 : (k == 3) = false := by simpa using k3
  have f5 : (k == 5) = false := by simpa using k5
  have f6 : (k == 6) = false := by simpa using k6
  by_cases k4 : k = 4
  · subst k4
    rw [if_pos rfl]
    have hlo := loop17 4 n l c tx b hb b.data.toList 0 ⟨#[34]⟩ rfl (by omega) (by have : (⟨#[34]⟩ : ByteArray).size = 1 := rfl; omega)
    have hfs := fold_size b.data.toList ⟨#[34]⟩
    have hlen : b.data.toList.length = b.size := Array.length_toList
    have s34 : (⟨#[34]⟩ : ByteArray).size = 1 := rfl
    have z0 : ((0 : Nat) : Int) = 0 := rfl
    rw [s34, hlen] at hfs
    unfold quoteB
    generalize b.data.toList.foldl (fun a c => a ++ escA c) ⟨#[34]⟩ = acc at *
    have hadd : acc.size + (⟨#[34]⟩ : ByteArray).size ≤ 9223372036854775807 := by rw [s34]; omega
    simp only [st17, ex17, hexes, List.replicate, List.cons_append, List.nil_append, z0] at hlo
    simp -implicitDefEqProofs only [A17, B17, dbody, dexec, ostep, dop, ev, put, wants, dbin, dun, List.replicate, Nat.reduceAdd, Nat.reduceSub, Nat.reduceLT, Nat.reduceLeDiff, Nat.reduceMul, DV.cells, DV.flat, dload, DV.elems, reduceCtorEq, mask, DV.lows, DV.low, DV.coe, DV.isD, dresults, dresult, withHeap, lowCells, LSt.isReady, srcElems, DV.int, DV.mkAgg, same, mnmx2, nilness, bound, fill, flatCells, Int.reduceLE, Int.reduceLT, Int.reduceAdd, Int.reduceSub, Int.reduceNeg, Int.reduceEq, Int.reduceBEq, Int.reduceBNe, Nat.reduceBEq, Nat.reduceEqDiff, Int.reduceToNat, allocCells, stp, strCells_len, hlo, hadd]
  · have f4 : (k == 4) = false := by simpa using k4
    rw [if_neg k4]
    simp -implicitDefEqProofs only [A17, B17, dbody, dexec, ostep, dop, ev, put, wants, dbin, dun, List.replicate, Nat.reduceAdd, Nat.reduceSub, Nat.reduceLT, Nat.reduceLeDiff, Nat.reduceMul, DV.cells, DV.flat, dload, DV.elems, reduceCtorEq, mask, DV.lows, DV.low, DV.coe, DV.isD, dresults, dresult, withHeap, lowCells, LSt.isReady, srcElems, DV.int, DV.mkAgg, same, mnmx2, nilness, bound, fill, flatCells, Int.reduceLE, Int.reduceLT, Int.reduceAdd, Int.reduceSub, Int.reduceNeg, Int.reduceEq, Int.reduceBEq, Int.reduceBNe, Nat.reduceBEq, Nat.reduceEqDiff, Int.reduceToNat, allocCells, stp, f1, f2, f3, f4, f5, f6]
end Go.Proofs.YtoadpaaghjomnaaDoor.Codes

set_option linter.unusedVariables false
set_option linter.unusedSimpArgs false
set_option maxRecDepth 100000
namespace Go.Proofs.YtoadpaaghjomnaaDoor.Codes
open Go Go.Deepv

theorem decodeL_decL (l : List UInt8) : Lib.decodeL l = decL l := by
  unfold Lib.decodeL
  rw [decode_decL]
  rfl
theorem decL_run {w : Int} (hw : rScal w = true) (u : List UInt8) : decL (encI w ++ u) = (w.toNat, (encI w).length) := decL_encL ((rScal_iff w).1 hw).2 u
theorem valid_go : ∀ (ws : List Int) (n : Nat) (t : List UInt8), Sc ws → (encLs ws ++ t).length ≤ n → Lib.validGoD n (encLs ws ++ t) = Lib.validGoD (n - ws.length) t := by
  intro ws
  induction ws with
  | nil => intro n t _ _; rfl
  | cons w ws ih =>
    intro n t hs hn
    have hw := hs w List.mem_cons_self
    rw [encLs_cons] at hn ⊢
    have hp := encI_pos w
    match n, hn with
    | 0, hn => rw [List.length_append] at hn; omega
    | n + 1, hn =>
      have hne := encI_ne w (encLs ws ++ t)
      have hd := decL_run hw (encLs ws ++ t)
      have h1 : ¬ ((Lib.decodeL (encI w ++ (encLs ws ++ t))).1 = 65533 ∧ (Lib.decodeL (encI w ++ (encLs ws ++ t))).2 = 1) := by
        rw [decodeL_decL, hd]
        intro ⟨a, b⟩
        simp only at a b
        have : encI w = [239, 191, 189] := by unfold encI; rw [a]; decide
        rw [this] at b
        simp at b
      have h2 : (encI w ++ (encLs ws ++ t)).drop (Lib.decodeL (encI w ++ (encLs ws ++ t))).2 = encLs ws ++ t := by
        rw [decodeL_decL, hd, List.drop_left]
      have hlen : (encLs ws ++ t).length ≤ n := by rw [List.length_append] at hn; omega
      simp only [Lib.validGoD, hne, if_false, h1, h2]
      rw [ih n t (fun x hx => hs x (List.mem_cons_of_mem _ hx)) hlen, List.length_cons]
      congr 1
      omega
theorem valid_all {s : ByteArray} {ws : List Int} (hs : Sc ws) (h : s.data.toList = encLs ws) : Lib.validD s.data.toList = true := by
  have := valid_go ws (encLs ws).length [] hs (by simp)
  unfold Lib.validD
  rw [h]
  simp only [List.append_nil] at this
  rw [this]
  cases (encLs ws).length - ws.length with
  | zero => rfl
  | succ n => simp [Lib.validGoD]
theorem valid_bad {s : ByteArray} {ws : List Int} {t : List UInt8} (hs : Sc ws) (ht : bad t) (h : s.data.toList = encLs ws ++ t) : Lib.validD s.data.toList = false := by
  have := valid_go ws (encLs ws ++ t).length t hs (Nat.le_refl _)
  unfold Lib.validD
  rw [h, this]
  have hl := encLs_size ws
  have ht1 : 0 < t.length := List.length_pos_iff.2 ht.1
  obtain ⟨m, hm⟩ : ∃ m, (encLs ws ++ t).length - ws.length = m + 1 := ⟨(encLs ws ++ t).length - ws.length - 1, by rw [List.length_append]; omega⟩
  rw [hm]
  have hd := bad_dec ht
  simp only [Lib.validGoD, ht.1, if_false, decodeL_decL, hd]
  rfl

def okHead (up : Bool) (w : Int) : Bool := if up then rUp w else rLow w
def nm (up : Bool) : Bool → List Int → Bool
  | _, [] => true
  | true, w :: ws => rPart w && (okHead up w && nm up false ws)
  | false, w :: ws => rPart w && nm up false ws
/-- What can be a name. -/
def namedV (s : ByteArray) (up : Bool) : Bool := match spl s s.size 0 1 1 with
  | (rs, none) => (decide (1 ≤ rs.length) && decide (rs.length ≤ 24)) && (nm up true (rs.map Rn.r) && !isWord s)
  | _ => false

def st44 (n : Nat) : List DV := [.d .undef, .d .undef, .d (.int .i64 n), .d .undef, .ptr 0 0] ++ List.replicate 5 (.d .undef)
def ex44 (n : Nat) : List DV := [.d .undef, .d .undef, .d (.int .i64 n)] ++ List.replicate 7 (.d .undef)
theorem loop44 (s : ByteArray) (hs : s.size ≤ 100000) : ∀ (ws : List Int) (pos n : Nat), Sc ws → s.data.toList.drop pos = encLs ws → n ≤ pos →
    ∃ I, L env 1 true H44L2 X44L2 B44L2 (st44 n) [.iter s pos] = some (.exit 0, ex44 (n + ws.length), [I]) := by
  obtain ⟨K, hK⟩ : ∃ K, L env 1 true H44L2 X44L2 B44L2 = K := ⟨_, rfl⟩
  rw [hK]
  intro ws
  induction ws with
  | nil =>
    intro pos n h1 h2 h3
    refine ⟨.iter s pos, ?_⟩
    have hp := drop_ge h2
    rw [L_round hK]
    simp -implicitDefEqProofs only [B44L2, st44, ex44, dbody, dexec, ostep, dop, ev, put, wants, dbin, dun, List.replicate, Nat.reduceAdd, Nat.reduceSub, Nat.reduceLT, Nat.reduceLeDiff, Nat.reduceMul, DV.cells, DV.flat, dload, DV.elems, reduceCtorEq, mask, DV.lows, DV.low, DV.coe, DV.isD, dresults, dresult, withHeap, lowCells, LSt.isReady, srcElems, DV.int, DV.mkAgg, same, mnmx2, nilness, bound, fill, flatCells, Int.reduceLE, Int.reduceLT, Int.reduceAdd, Int.reduceSub, Int.reduceNeg, Int.reduceEq, Int.reduceBEq, Int.reduceBNe, Nat.reduceBEq, Nat.reduceEqDiff, Int.reduceToNat, allocCells, stp, hp]
  | cons w ws ih =>
    intro pos n h1 h2 h3
    have hw := h1 w List.mem_cons_self
    rw [show encLs (w :: ws) = encI w ++ encLs ws from rfl] at h2
    have hp := drop_lt h2 (encI_ne _ _)
    have hd := dec_good hw h2
    have hd2 : (Utf8.decode s pos).2 = (encI w).length := by rw [hd]
    have hn := encI_pos w
    have hnx := drop_next h2
    generalize (encI w).length = m at *
    obtain ⟨I, ih⟩ := ih (pos + m) (n + 1) (fun x hx => h1 x (List.mem_cons_of_mem _ hx)) hnx (by omega)
    refine ⟨I, ?_⟩
    have w1 : IntKind.i64.wrap ((n : Int) + 1) = ((n + 1 : Nat) : Int) := by rw [wrap_i64 (by omega) (by omega)]; simp
    have e : n + (w :: ws).length = n + 1 + ws.length := by simp only [List.length_cons]; omega
    rw [e]
    simp only [st44, List.replicate, List.cons_append, List.nil_append] at ih
    rw [L_round hK]
    simp -implicitDefEqProofs only [B44L2, st44, dbody, dexec, ostep, dop, ev, put, wants, dbin, dun, List.replicate, Nat.reduceAdd, Nat.reduceSub, Nat.reduceLT, Nat.reduceLeDiff, Nat.reduceMul, DV.cells, DV.flat, dload, DV.elems, reduceCtorEq, mask, DV.lows, DV.low, DV.coe, DV.isD, dresults, dresult, withHeap, lowCells, LSt.isReady, srcElems, DV.int, DV.mkAgg, same, mnmx2, nilness, bound, fill, flatCells, Int.reduceLE, Int.reduceLT, Int.reduceAdd, Int.reduceSub, Int.reduceNeg, Int.reduceEq, Int.reduceBEq, Int.reduceBNe, Nat.reduceBEq, Nat.reduceEqDiff, Int.reduceToNat, allocCells, stp, hp, hd2, w1, ih]
theorem count_ok (s : ByteArray) (ws : List Int) (hs : s.size ≤ 100000) (hsc : Sc ws) (hB : s.data.toList = encLs ws) (h : List Res) : D env 44 [.d (.str s)] h = some (.val (.d (.int .i64 ws.length)) h) := by
  rw [D_dat (F := A44) rfl rfl rfl rfl]
  obtain ⟨I, hl⟩ := loop44 s hs ws 0 0 hsc (by simpa using hB) (by omega)
  have z0 : ((0 : Nat) : Int) = 0 := rfl
  simp only [st44, ex44, List.replicate, List.cons_append, List.nil_append, z0, Nat.zero_add] at hl
  simp -implicitDefEqProofs only [A44, B44, dbody, dexec, ostep, dop, ev, put, wants, dbin, dun, List.replicate, Nat.reduceAdd, Nat.reduceSub, Nat.reduceLT, Nat.reduceLeDiff, Nat.reduceMul, DV.cells, DV.flat, dload, DV.elems, reduceCtorEq, mask, DV.lows, DV.low, DV.coe, DV.isD, dresults, dresult, withHeap, lowCells, LSt.isReady, srcElems, DV.int, DV.mkAgg, same, mnmx2, nilness, bound, fill, flatCells, Int.reduceLE, Int.reduceLT, Int.reduceAdd, Int.reduceSub, Int.reduceNeg, Int.reduceEq, Int.reduceBEq, Int.reduceBNe, Nat.reduceBEq, Nat.reduceEqDiff, Int.reduceToNat, allocCells, stp, hl]

def st20 (up : Bool) : List DV := [.d .undef, .d (.bool up)] ++ List.replicate 22 (.d .undef) ++ [.ptr 0 0] ++ List.replicate 28 (.d .undef)
def ex20 (v : FV) : List DV := [.d .undef, .d .undef, .d .undef, .d .undef, .d v] ++ List.replicate 48 (.d .undef)
theorem loop20 (s : ByteArray) (up : Bool) (hs : s.size ≤ 100000) : ∀ (ws : List Int) (pos : Nat), Sc ws → s.data.toList.drop pos = encLs ws →
    ∃ I, L env 1 true H20L4 X20L4 B20L4 (st20 up) [.iter s pos] = if nm up (decide (pos = 0)) ws = true then some (.exit 0, ex20 .undef, [I]) else some (.ret, ex20 (.bool false), [I]) := by
  obtain ⟨K, hK⟩ : ∃ K, L env 1 true H20L4 X20L4 B20L4 = K := ⟨_, rfl⟩
  rw [hK]
  intro ws
  induction ws with
  | nil =>
    intro pos h1 h2
    refine ⟨.iter s pos, ?_⟩
    have hp := drop_ge h2
    have : nm up (decide (pos = 0)) [] = true := by cases decide (pos = 0) <;> rfl
    rw [if_pos this, L_round hK]
    simp -implicitDefEqProofs only [B20L4, st20, ex20, dbody, dexec, ostep, dop, ev, put, wants, dbin, dun, List.replicate, Nat.reduceAdd, Nat.reduceSub, Nat.reduceLT, Nat.reduceLeDiff, Nat.reduceMul, DV.cells, DV.flat, dload, DV.elems, reduceCtorEq, mask, DV.lows, DV.low, DV.coe, DV.isD, dresults, dresult, withHeap, lowCells, LSt.isReady, srcElems, DV.int, DV.mkAgg, same, mnmx2, nilness, bound, fill, flatCells, Int.reduceLE, Int.reduceLT, Int.reduceAdd, Int.reduceSub, Int.reduceNeg, Int.reduceEq, Int.reduceBEq, Int.reduceBNe, Nat.reduceBEq, Nat.reduceEqDiff, Int.reduceToNat, allocCells, stp, hp]
  | cons w ws ih =>
    intro pos h1 h2
    have hw := h1 w List.mem_cons_self
    rw [show encLs (w :: ws) = encI w ++ encLs ws from rfl] at h2
    have hp := drop_lt h2 (encI_ne _ _)
    have hd := dec_good hw h2
    have hd1 : (Utf8.decode s pos).1 = w.toNat := by rw [hd]
    have hd2 : (Utf8.decode s pos).2 = (encI w).length := by rw [hd]
    have hcast : ((w.toNat : Nat) : Int) = w := Int.toNat_of_nonneg ((rScal_iff w).1 hw).1
    have hn := encI_pos w
    have hnx := drop_next h2
    generalize (encI w).length = m at *
    obtain ⟨I, ih⟩ := ih (pos + m) (fun x hx => h1 x (List.mem_cons_of_mem _ hx)) hnx
    have hp0 : decide (pos + m = 0) = false := by simp; omega
    rw [hp0] at ih
    have e45 := fun h => part_ok w h
    have e46 := fun h => up_ok w h
    have e47 := fun h => low_ok w h
    cases hpart : rPart w with
    | false =>
      rw [hpart] at e45
      have : nm up (decide (pos = 0)) (w :: ws) = false := by cases decide (pos = 0) <;> simp [nm, hpart]
      refine ⟨.iter s (pos + m), ?_⟩
      rw [this, if_neg (by simp), L_round hK]
      simp -implicitDefEqProofs only [B20L4, st20, ex20, dbody, dexec, ostep, dop, ev, put, wants, dbin, dun, List.replicate, Nat.reduceAdd, Nat.reduceSub, Nat.reduceLT, Nat.reduceLeDiff, Nat.reduceMul, DV.cells, DV.flat, dload, DV.elems, reduceCtorEq, mask, DV.lows, DV.low, DV.coe, DV.isD, dresults, dresult, withHeap, lowCells, LSt.isReady, srcElems, DV.int, DV.mkAgg, same, mnmx2, nilness, bound, fill, flatCells, Int.reduceLE, Int.reduceLT, Int.reduceAdd, Int.reduceSub, Int.reduceNeg, Int.reduceEq, Int.reduceBEq, Int.reduceBNe, Nat.reduceBEq, Nat.reduceEqDiff, Int.reduceToNat, allocCells, stp, hp, hd1, hd2, hcast, e45]
    | true =>
      rw [hpart] at e45
      by_cases h0 : pos = 0
      · subst h0
        have hnm : nm up (decide ((0 : Nat) = 0)) (w :: ws) = (okHead up w && nm up false ws) := by simp [nm, hpart]
        have z0 : ((0 : Nat) : Int) = 0 := rfl
        rw [hnm]
        unfold okHead
        cases up with
        | true =>
          cases hu : rUp w with
          | false =>
            rw [hu] at e46
            refine ⟨.iter s (0 + m), ?_⟩
            rw [if_neg (by simp), L_round hK]
            simp -implicitDefEqProofs only [B20L4, st20, ex20, dbody, dexec, ostep, dop, ev, put, wants, dbin, dun, List.replicate, Nat.reduceAdd, Nat.reduceSub, Nat.reduceLT, Nat.reduceLeDiff, Nat.reduceMul, DV.cells, DV.flat, dload, DV.elems, reduceCtorEq, mask, DV.lows, DV.low, DV.coe, DV.isD, dresults, dresult, withHeap, lowCells, LSt.isReady, srcElems, DV.int, DV.mkAgg, same, mnmx2, nilness, bound, fill, flatCells, Int.reduceLE, Int.reduceLT, Int.reduceAdd, Int.reduceSub, Int.reduceNeg, Int.reduceEq, Int.reduceBEq, Int.reduceBNe, Nat.reduceBEq, Nat.reduceEqDiff, Int.reduceToNat, allocCells, stp, hp, hd1, hd2, hcast, e45, e46, z0]
          | true =>
            rw [hu] at e46
            refine ⟨I, ?_⟩
            simp only [if_true, Bool.true_and]
            generalize hR : (if nm true false ws = true then some (DExit.exit 0, ex20 .undef, [I]) else some (DExit.ret, ex20 (.bool false), [I])) = RR at *
            simp only [st20, List.replicate, List.cons_append, List.nil_append, Nat.zero_add] at ih
            rw [L_round hK]
            simp -implicitDefEqProofs only [B20L4, st20, dbody, dexec, ostep, dop, ev, put, wants, dbin, dun, List.replicate, Nat.reduceAdd, Nat.reduceSub, Nat.reduceLT, Nat.reduceLeDiff, Nat.reduceMul, DV.cells, DV.flat, dload, DV.elems, reduceCtorEq, mask, DV.lows, DV.low, DV.coe, DV.isD, dresults, dresult, withHeap, lowCells, LSt.isReady, srcElems, DV.int, DV.mkAgg, same, mnmx2, nilness, bound, fill, flatCells, Int.reduceLE, Int.reduceLT, Int.reduceAdd, Int.reduceSub, Int.reduceNeg, Int.reduceEq, Int.reduceBEq, Int.reduceBNe, Nat.reduceBEq, Nat.reduceEqDiff, Int.reduceToNat, allocCells, stp, hp, hd1, hd2, hcast, e45, e46, z0, ih]
        | false =>
          cases hl : rLow w with
          | false =>
            rw [hl] at e47
            refine ⟨.iter s (0 + m), ?_⟩
            rw [if_neg (by simp), L_round hK]
            simp -implicitDefEqProofs only [B20L4, st20, ex20, dbody, dexec, ostep, dop, ev, put, wants, dbin, dun, List.replicate, Nat.reduceAdd, Nat.reduceSub, Nat.reduceLT, Nat.reduceLeDiff, Nat.reduceMul, DV.cells, DV.flat, dload, DV.elems, reduceCtorEq, mask, DV.lows, DV.low, DV.coe, DV.isD, dresults, dresult, withHeap, lowCells, LSt.isReady, srcElems, DV.int, DV.mkAgg, same, mnmx2, nilness, bound, fill, flatCells, Int.reduceLE, Int.reduceLT, Int.reduceAdd, Int.reduceSub, Int.reduceNeg, Int.reduceEq, Int.reduceBEq, Int.reduceBNe, Nat.reduceBEq, Nat.reduceEqDiff, Int.reduceToNat, allocCells, stp, hp, hd1, hd2, hcast, e45, e47, z0]
          | true =>
            rw [hl] at e47
            refine ⟨I, ?_⟩
            simp only [Bool.false_eq_true, if_false, Bool.true_and]
            generalize hR : (if nm false false ws = true then some (DExit.exit 0, ex20 .undef, [I]) else some (DExit.ret, ex20 (.bool false), [I])) = RR at *
            simp only [st20, List.replicate, List.cons_append, List.nil_append, Nat.zero_add] at ih
            rw [L_round hK]
            simp -implicitDefEqProofs only [B20L4, st20, dbody, dexec, ostep, dop, ev, put, wants, dbin, dun, List.replicate, Nat.reduceAdd, Nat.reduceSub, Nat.reduceLT, Nat.reduceLeDiff, Nat.reduceMul, DV.cells, DV.flat, dload, DV.elems, reduceCtorEq, mask, DV.lows, DV.low, DV.coe, DV.isD, dresults, dresult, withHeap, lowCells, LSt.isReady, srcElems, DV.int, DV.mkAgg, same, mnmx2, nilness, bound, fill, flatCells, Int.reduceLE, Int.reduceLT, Int.reduceAdd, Int.reduceSub, Int.reduceNeg, Int.reduceEq, Int.reduceBEq, Int.reduceBNe, Nat.reduceBEq, Nat.reduceEqDiff, Int.reduceToNat, allocCells, stp, hp, hd1, hd2, hcast, e45, e47, z0, ih]
      · have hnm : nm up (decide (pos = 0)) (w :: ws) = nm up false ws := by simp [nm, hpart, h0]
        have h0' : ((pos : Int) == 0) = false := by simp; omega
        refine ⟨I, ?_⟩
        rw [hnm]
        generalize hR : (if nm up false ws = true then some (DExit.exit 0, ex20 .undef, [I]) else some (DExit.ret, ex20 (.bool false), [I])) = RR at *
        simp only [st20, List.replicate, List.cons_append, List.nil_append] at ih
        rw [L_round hK]
        simp -implicitDefEqProofs only [B20L4, st20, dbody, dexec, ostep, dop, ev, put, wants, dbin, dun, List.replicate, Nat.reduceAdd, Nat.reduceSub, Nat.reduceLT, Nat.reduceLeDiff, Nat.reduceMul, DV.cells, DV.flat, dload, DV.elems, reduceCtorEq, mask, DV.lows, DV.low, DV.coe, DV.isD, dresults, dresult, withHeap, lowCells, LSt.isReady, srcElems, DV.int, DV.mkAgg, same, mnmx2, nilness, bound, fill, flatCells, Int.reduceLE, Int.reduceLT, Int.reduceAdd, Int.reduceSub, Int.reduceNeg, Int.reduceEq, Int.reduceBEq, Int.reduceBNe, Nat.reduceBEq, Nat.reduceEqDiff, Int.reduceToNat, allocCells, stp, hp, hd1, hd2, hcast, e45, h0', ih]

theorem named_ok (s : ByteArray) (up : Bool) (hs : s.size ≤ 100000) (h : List Res) : D env 20 [.d (.str s), .d (.bool up)] h = some (.val (.d (.bool (namedV s up))) h) := by
  rw [D_dat (F := A20) rfl rfl rfl rfl]
  have e18 := fun h => word_ok s h
  have e43 : ∀ h, D env 43 [.d (.str s)] h = some (.val (.d (.bool (Lib.validD s.data.toList))) h) := fun h => by
    rw [D_ext (F := xValid) rfl]
    exact if_pos (by omega)
  have hem : (⟨#[]⟩ : ByteArray).toList = [] := by rw [ByteArray.toList_eq]
  have hsl : s.toList = s.data.toList := by rw [ByteArray.toList_eq]
  have hlen : s.data.toList.length = s.size := Array.length_toList
  unfold namedV
  obtain ⟨ws, hsc, hB | ⟨t, ht, hB⟩⟩ := text_cases _ s.data.toList (Nat.le_refl _)
  · rw [spl_all hsc hB]
    simp only [place_len, place_r]
    rw [valid_all hsc hB] at e43
    have e44 := fun h => count_ok s ws hs hsc hB h
    by_cases h0 : ws.length = 0
    · have : ws = [] := List.length_eq_zero_iff.1 h0
      subst this
      have he : (s.toList == (⟨#[]⟩ : ByteArray).toList) = true := by rw [hem, hsl, hB]; rfl
      simp -implicitDefEqProofs only [A20, B20, dbody, dexec, ostep, dop, ev, put, wants, dbin, dun, List.replicate, Nat.reduceAdd, Nat.reduceSub, Nat.reduceLT, Nat.reduceLeDiff, Nat.reduceMul, DV.cells, DV.flat, dload, DV.elems, reduceCtorEq, mask, DV.lows, DV.low, DV.coe, DV.isD, dresults, dresult, withHeap, lowCells, LSt.isReady, srcElems, DV.int, DV.mkAgg, same, mnmx2, nilness, bound, fill, flatCells, Int.reduceLE, Int.reduceLT, Int.reduceAdd, Int.reduceSub, Int.reduceNeg, Int.reduceEq, Int.reduceBEq, Int.reduceBNe, Nat.reduceBEq, Nat.reduceEqDiff, Int.reduceToNat, allocCells, stp, he]
    · have hws := encLs_size ws
      have he : (s.toList == (⟨#[]⟩ : ByteArray).toList) = false := by
        rw [hem, hsl, hB]
        cases hx : encLs ws with
        | nil => rw [hx] at hws; simp at hws; exact absurd hws (fun e => h0 (by rw [e]; rfl))
        | cons x y => rfl
      rw [decide_eq_true (show 1 ≤ ws.length by omega), Bool.true_and]
      cases hw : isWord s with
      | true =>
        rw [hw] at e18
        rw [Bool.not_true, Bool.and_false, Bool.and_false]
        simp -implicitDefEqProofs only [A20, B20, dbody, dexec, ostep, dop, ev, put, wants, dbin, dun, List.replicate, Nat.reduceAdd, Nat.reduceSub, Nat.reduceLT, Nat.reduceLeDiff, Nat.reduceMul, DV.cells, DV.flat, dload, DV.elems, reduceCtorEq, mask, DV.lows, DV.low, DV.coe, DV.isD, dresults, dresult, withHeap, lowCells, LSt.isReady, srcElems, DV.int, DV.mkAgg, same, mnmx2, nilness, bound, fill, flatCells, Int.reduceLE, Int.reduceLT, Int.reduceAdd, Int.reduceSub, Int.reduceNeg, Int.reduceEq, Int.reduceBEq, Int.reduceBNe, Nat.reduceBEq, Nat.reduceEqDiff, Int.reduceToNat, allocCells, stp, he, e18]
      | false =>
        rw [hw] at e18
        rw [Bool.not_false, Bool.and_true]
        by_cases h24 : ws.length ≤ 24
        · have g24 : ¬ (24 : Int) < ws.length := by omega
          rw [decide_eq_true h24, Bool.true_and]
          obtain ⟨I, hl⟩ := loop20 s up hs ws 0 hsc (by simpa using hB)
          have d0 : decide ((0 : Nat) = 0) = true := rfl
          rw [d0] at hl
          cases hn : nm up true ws with
          | true =>
            rw [hn, if_pos rfl] at hl
            simp only [st20, ex20, List.replicate, List.cons_append, List.nil_append] at hl
            simp -implicitDefEqProofs only [A20, B20, dbody, dexec, ostep, dop, ev, put, wants, dbin, dun, List.replicate, Nat.reduceAdd, Nat.reduceSub, Nat.reduceLT, Nat.reduceLeDiff, Nat.reduceMul, DV.cells, DV.flat, dload, DV.elems, reduceCtorEq, mask, DV.lows, DV.low, DV.coe, DV.isD, dresults, dresult, withHeap, lowCells, LSt.isReady, srcElems, DV.int, DV.mkAgg, same, mnmx2, nilness, bound, fill, flatCells, Int.reduceLE, Int.reduceLT, Int.reduceAdd, Int.reduceSub, Int.reduceNeg, Int.reduceEq, Int.reduceBEq, Int.reduceBNe, Nat.reduceBEq, Nat.reduceEqDiff, Int.reduceToNat, allocCells, stp, he, e18, e43, e44, g24, hl]
          | false =>
            rw [hn, if_neg (by simp)] at hl
            simp only [st20, ex20, List.replicate, List.cons_append, List.nil_append] at hl
            simp -implicitDefEqProofs only [A20, B20, dbody, dexec, ostep, dop, ev, put, wants, dbin, dun, List.replicate, Nat.reduceAdd, Nat.reduceSub, Nat.reduceLT, Nat.reduceLeDiff, Nat.reduceMul, DV.cells, DV.flat, dload, DV.elems, reduceCtorEq, mask, DV.lows, DV.low, DV.coe, DV.isD, dresults, dresult, withHeap, lowCells, LSt.isReady, srcElems, DV.int, DV.mkAgg, same, mnmx2, nilness, bound, fill, flatCells, Int.reduceLE, Int.reduceLT, Int.reduceAdd, Int.reduceSub, Int.reduceNeg, Int.reduceEq, Int.reduceBEq, Int.reduceBNe, Nat.reduceBEq, Nat.reduceEqDiff, Int.reduceToNat, allocCells, stp, he, e18, e43, e44, g24, hl]
        · have g24 : (24 : Int) < ws.length := by omega
          rw [decide_eq_false h24, Bool.false_and]
          simp -implicitDefEqProofs only [A20, B20, dbody, dexec, ostep, dop, ev, put, wants, dbin, dun, List.replicate, Nat.reduceAdd, Nat.reduceSub, Nat.reduceLT, Nat.reduceLeDiff, Nat.reduceMul, DV.cells, DV.flat, dload, DV.elems, reduceCtorEq, mask, DV.lows, DV.low, DV.coe, DV.isD, dresults, dresult, withHeap, lowCells, LSt.isReady, srcElems, DV.int, DV.mkAgg, same, mnmx2, nilness, bound, fill, flatCells, Int.reduceLE, Int.reduceLT, Int.reduceAdd, Int.reduceSub, Int.reduceNeg, Int.reduceEq, Int.reduceBEq, Int.reduceBNe, Nat.reduceBEq, Nat.reduceEqDiff, Int.reduceToNat, allocCells, stp, he, e18, e43, e44, g24]
  · have e := spl_all_bad hsc ht hB
    rw [valid_bad hsc ht hB] at e43
    generalize spl s s.size 0 1 1 = x at *
    rcases x with ⟨x1, x2⟩
    simp only at e
    subst e
    simp only
    have he : (s.toList == (⟨#[]⟩ : ByteArray).toList) = false := by
      rw [hem, hsl, hB]
      cases hx : encLs ws ++ t with
      | nil =>
        have := congrArg List.length hx
        have ht1 : 0 < t.length := List.length_pos_iff.2 ht.1
        rw [List.length_append, List.length_nil] at this
        omega
      | cons x y => rfl
    cases hw : isWord s with
    | true =>
      rw [hw] at e18
      simp -implicitDefEqProofs only [A20, B20, dbody, dexec, ostep, dop, ev, put, wants, dbin, dun, List.replicate, Nat.reduceAdd, Nat.reduceSub, Nat.reduceLT, Nat.reduceLeDiff, Nat.reduceMul, DV.cells, DV.flat, dload, DV.elems, reduceCtorEq, mask, DV.lows, DV.low, DV.coe, DV.isD, dresults, dresult, withHeap, lowCells, LSt.isReady, srcElems, DV.int, DV.mkAgg, same, mnmx2, nilness, bound, fill, flatCells, Int.reduceLE, Int.reduceLT, Int.reduceAdd, Int.reduceSub, Int.reduceNeg, Int.reduceEq, Int.reduceBEq, Int.reduceBNe, Nat.reduceBEq, Nat.reduceEqDiff, Int.reduceToNat, allocCells, stp, he, e18]
    | false =>
      rw [hw] at e18
      simp -implicitDefEqProofs only [A20, B20, dbody, dexec, ostep, dop, ev, put, wants, dbin, dun, List.replicate, Nat.reduceAdd, Nat.reduceSub, Nat.reduceLT, Nat.reduceLeDiff, Nat.reduceMul, DV.cells, DV.flat, dload, DV.elems, reduceCtorEq, mask, DV.lows, DV.low, DV.coe, DV.isD, dresults, dresult, withHeap, lowCells, LSt.isReady, srcElems, DV.int, DV.mkAgg, same, mnmx2, nilness, bound, fill, flatCells, Int.reduceLE, Int.reduceLT, Int.reduceAdd, Int.reduceSub, Int.reduceNeg, Int.reduceEq, Int.reduceBEq, Int.reduceBNe, Nat.reduceBEq, Nat.reduceEqDiff, Int.reduceToNat, allocCells, stp, he, e18, e43]
end Go.Proofs.YtoadpaaghjomnaaDoor.Codes
