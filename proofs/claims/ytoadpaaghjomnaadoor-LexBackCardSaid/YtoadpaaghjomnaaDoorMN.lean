/-
  Whether tokens are the same.
  A token as a text, in both.
  Conditions: none.
-/
import Derived.Test.YtoadpaaghjomnaaDoorMM
set_option linter.unusedVariables false
set_option linter.unusedSimpArgs false
set_option maxRecDepth 100000
namespace Go.Proofs.YtoadpaaghjomnaaDoor.Codes
open Go Go.Deepv

def eqT (p : Bool) (x y : Tk × Int × Int) : Bool := (x.1.kind == y.1.kind) && ((x.1.text.toList == y.1.text.toList) && ((x.1.num == y.1.num) && ((x.1.bytes.toList == y.1.bytes.toList) && (!p || ((x.2.1 == y.2.1) && (x.2.2 == y.2.2))))))
def sameT (p : Bool) : List (Tk × Int × Int) → List (Tk × Int × Int) → Bool
  | [], [] => true
  | x :: a, y :: b => eqT p x y && sameT p a b
  | _, _ => false
theorem sameT_len {p : Bool} : ∀ {a b : List (Tk × Int × Int)}, sameT p a b = true → a.length = b.length
  | [], [], _ => rfl
  | x :: a, y :: b, h => by
    simp only [sameT, Bool.and_eq_true] at h
    simp [sameT_len h.2]
  | [], _ :: _, h => by simp [sameT] at h
  | _ :: _, [], h => by simp [sameT] at h

def encP (x : Tk × Int × Int) : List FV := x.1.enc x.2.1 x.2.2
theorem encT_eq (a : List (Tk × Int × Int)) : encT a = a.map encP := rfl
def st15 (a b : List (Tk × Int × Int)) (p : Bool) (i : Nat) : List DV := [.d (.slice 6 (encT a)), .d (.slice 6 (encT b)), .d (.bool p), .d .undef, .d .undef, .d .undef, .d .undef, .d (.int .i64 i)] ++ List.replicate 59 (.d .undef)
def ex15 (v : FV) : List DV := [.d .undef, .d .undef, .d .undef, .d .undef, .d .undef, .d .undef, .d v] ++ List.replicate 60 (.d .undef)
set_option maxHeartbeats 1000000 in
theorem loop15 (a b : List (Tk × Int × Int)) (p : Bool) (hsz : a.length ≤ 1000000) (hl : a.length = b.length) :
    ∀ (n i : Nat), i + n = a.length → L env 0 true H15L4 X15L4 B15L4 (st15 a b p i) [] = if sameT p (a.drop i) (b.drop i) = true then some (.exit 0, ex15 .undef, []) else some (.ret, ex15 (.bool false), []) := by
  obtain ⟨K, hK⟩ : ∃ K, L env 0 true H15L4 X15L4 B15L4 = K := ⟨_, rfl⟩
  rw [hK]
  have la : (encT a).length = a.length := by simp [encT]
  have lb : (encT b).length = b.length := by simp [encT]
  intro n
  induction n with
  | zero =>
    intro i hi
    have hk : ¬ (i : Int) < a.length := by omega
    rw [List.drop_eq_nil_of_le (by omega), List.drop_eq_nil_of_le (by omega), show sameT p [] [] = true from rfl, if_pos rfl, L_round hK]
    simp -implicitDefEqProofs only [B15L4, st15, ex15, dbody, dexec, ostep, dop, ev, put, wants, dbin, dun, List.replicate, Nat.reduceAdd, Nat.reduceSub, Nat.reduceLT, Nat.reduceLeDiff, Nat.reduceMul, DV.cells, DV.flat, dload, DV.elems, reduceCtorEq, mask, DV.lows, DV.low, DV.coe, DV.isD, dresults, dresult, withHeap, lowCells, LSt.isReady, srcElems, DV.int, DV.mkAgg, same, mnmx2, nilness, bound, fill, flatCells, Int.reduceLE, Int.reduceLT, Int.reduceAdd, Int.reduceSub, Int.reduceNeg, Int.reduceEq, Int.reduceBEq, Int.reduceBNe, Nat.reduceBEq, Nat.reduceEqDiff, Int.reduceToNat, allocCells, stp, la, hk]
  | succ n ih =>
    intro i hi
    have hk : (i : Int) < a.length := by omega
    have hx : a[i]? = some a[i] := List.getElem?_eq_getElem _
    have hy : b[i]? = some b[i] := List.getElem?_eq_getElem _
    have hda : a.drop i = a[i] :: a.drop (i + 1) := by simp
    have hdb : b.drop i = b[i] :: b.drop (i + 1) := by simp
    generalize a[i] = x at *
    generalize b[i] = y at *
    have hx' : (encT a)[i]? = some (x.1.enc x.2.1 x.2.2) := by simp [encT, hx]
    have hy' : (encT b)[i]? = some (y.1.enc y.2.1 y.2.2) := by simp [encT, hy]
    rw [hda, hdb, show sameT p (x :: a.drop (i + 1)) (y :: b.drop (i + 1)) = (eqT p x y && sameT p (a.drop (i + 1)) (b.drop (i + 1))) from rfl]
    have ih := ih (i + 1) (by omega)
    have w1 : IntKind.i64.wrap ((i : Int) + 1) = ((i + 1 : Nat) : Int) := by rw [wrap_i64 (by omega) (by omega)]; simp
    obtain ⟨⟨xk, xt, xn, xb⟩, xl, xc⟩ := x
    obtain ⟨⟨yk, yt, yn, yb⟩, yl, yc⟩ := y
    simp only [Tk.enc] at hx' hy'
    have stop : eqT p ⟨⟨xk, xt, xn, xb⟩, xl, xc⟩ ⟨⟨yk, yt, yn, yb⟩, yl, yc⟩ = false → (K (st15 a b p i) [] = some (.ret, ex15 (.bool false), [])) →
        K (st15 a b p i) [] = if (eqT p ⟨⟨xk, xt, xn, xb⟩, xl, xc⟩ ⟨⟨yk, yt, yn, yb⟩, yl, yc⟩ && sameT p (a.drop (i + 1)) (b.drop (i + 1))) = true then some (.exit 0, ex15 .undef, []) else some (.ret, ex15 (.bool false), []) := fun h1 h2 => by
      rw [h1, Bool.false_and, if_neg (by simp)]
      exact h2
    cases e1 : xk == yk with
    | false =>
      have f1 : (xk != yk) = true := by simp [bne, e1]
      refine stop (by simp [eqT, e1]) ?_
      rw [L_round hK]
      simp -implicitDefEqProofs only [B15L4, st15, ex15, dbody, dexec, ostep, dop, ev, put, wants, dbin, dun, List.replicate, Nat.reduceAdd, Nat.reduceSub, Nat.reduceLT, Nat.reduceLeDiff, Nat.reduceMul, DV.cells, DV.flat, dload, DV.elems, reduceCtorEq, mask, DV.lows, DV.low, DV.coe, DV.isD, dresults, dresult, withHeap, lowCells, LSt.isReady, srcElems, DV.int, DV.mkAgg, same, mnmx2, nilness, bound, fill, flatCells, Int.reduceLE, Int.reduceLT, Int.reduceAdd, Int.reduceSub, Int.reduceNeg, Int.reduceEq, Int.reduceBEq, Int.reduceBNe, Nat.reduceBEq, Nat.reduceEqDiff, Int.reduceToNat, allocCells, stp, la, hk, hx', hy', f1, putCells]
    | true =>
    have f1 : (xk != yk) = false := by simp [bne, e1]
    cases e2 : xt.toList == yt.toList with
    | false =>
      refine stop (by simp only [eqT, e2, Bool.false_and, Bool.and_false]) ?_
      rw [L_round hK]
      simp -implicitDefEqProofs only [B15L4, st15, ex15, dbody, dexec, ostep, dop, ev, put, wants, dbin, dun, List.replicate, Nat.reduceAdd, Nat.reduceSub, Nat.reduceLT, Nat.reduceLeDiff, Nat.reduceMul, DV.cells, DV.flat, dload, DV.elems, reduceCtorEq, mask, DV.lows, DV.low, DV.coe, DV.isD, dresults, dresult, withHeap, lowCells, LSt.isReady, srcElems, DV.int, DV.mkAgg, same, mnmx2, nilness, bound, fill, flatCells, Int.reduceLE, Int.reduceLT, Int.reduceAdd, Int.reduceSub, Int.reduceNeg, Int.reduceEq, Int.reduceBEq, Int.reduceBNe, Nat.reduceBEq, Nat.reduceEqDiff, Int.reduceToNat, allocCells, stp, la, hk, hx', hy', f1, e2, putCells]
    | true =>
    cases e3 : xn == yn with
    | false =>
      have f3 : (xn != yn) = true := by simp [bne, e3]
      refine stop (by simp only [eqT, e3, Bool.false_and, Bool.and_false]) ?_
      rw [L_round hK]
      simp -implicitDefEqProofs only [B15L4, st15, ex15, dbody, dexec, ostep, dop, ev, put, wants, dbin, dun, List.replicate, Nat.reduceAdd, Nat.reduceSub, Nat.reduceLT, Nat.reduceLeDiff, Nat.reduceMul, DV.cells, DV.flat, dload, DV.elems, reduceCtorEq, mask, DV.lows, DV.low, DV.coe, DV.isD, dresults, dresult, withHeap, lowCells, LSt.isReady, srcElems, DV.int, DV.mkAgg, same, mnmx2, nilness, bound, fill, flatCells, Int.reduceLE, Int.reduceLT, Int.reduceAdd, Int.reduceSub, Int.reduceNeg, Int.reduceEq, Int.reduceBEq, Int.reduceBNe, Nat.reduceBEq, Nat.reduceEqDiff, Int.reduceToNat, allocCells, stp, la, hk, hx', hy', f1, e2, f3, putCells]
    | true =>
    have f3 : (xn != yn) = false := by simp [bne, e3]
    cases e4 : xb.toList == yb.toList with
    | false =>
      refine stop (by simp only [eqT, e4, Bool.false_and, Bool.and_false]) ?_
      rw [L_round hK]
      simp -implicitDefEqProofs only [B15L4, st15, ex15, dbody, dexec, ostep, dop, ev, put, wants, dbin, dun, List.replicate, Nat.reduceAdd, Nat.reduceSub, Nat.reduceLT, Nat.reduceLeDiff, Nat.reduceMul, DV.cells, DV.flat, dload, DV.elems, reduceCtorEq, mask, DV.lows, DV.low, DV.coe, DV.isD, dresults, dresult, withHeap, lowCells, LSt.isReady, srcElems, DV.int, DV.mkAgg, same, mnmx2, nilness, bound, fill, flatCells, Int.reduceLE, Int.reduceLT, Int.reduceAdd, Int.reduceSub, Int.reduceNeg, Int.reduceEq, Int.reduceBEq, Int.reduceBNe, Nat.reduceBEq, Nat.reduceEqDiff, Int.reduceToNat, allocCells, stp, la, hk, hx', hy', f1, e2, f3, nums_ok, strOf_ok, e4, putCells]
    | true =>
    have go : eqT p ⟨⟨xk, xt, xn, xb⟩, xl, xc⟩ ⟨⟨yk, yt, yn, yb⟩, yl, yc⟩ = true → (K (st15 a b p i) [] = K (st15 a b p (i + 1)) []) →
        K (st15 a b p i) [] = if (eqT p ⟨⟨xk, xt, xn, xb⟩, xl, xc⟩ ⟨⟨yk, yt, yn, yb⟩, yl, yc⟩ && sameT p (a.drop (i + 1)) (b.drop (i + 1))) = true then some (.exit 0, ex15 .undef, []) else some (.ret, ex15 (.bool false), []) := fun h1 h2 => by
      rw [h1, Bool.true_and, h2]
      exact ih
    generalize hR : K (st15 a b p (i + 1)) [] = RR at go
    simp only [st15, List.replicate, List.cons_append, List.nil_append] at hR
    cases p with
    | false =>
      refine go (by simp only [eqT, e1, e2, e3, e4]; rfl) ?_
      rw [L_round hK]
      simp -implicitDefEqProofs only [B15L4, st15, dbody, dexec, ostep, dop, ev, put, wants, dbin, dun, List.replicate, Nat.reduceAdd, Nat.reduceSub, Nat.reduceLT, Nat.reduceLeDiff, Nat.reduceMul, DV.cells, DV.flat, dload, DV.elems, reduceCtorEq, mask, DV.lows, DV.low, DV.coe, DV.isD, dresults, dresult, withHeap, lowCells, LSt.isReady, srcElems, DV.int, DV.mkAgg, same, mnmx2, nilness, bound, fill, flatCells, Int.reduceLE, Int.reduceLT, Int.reduceAdd, Int.reduceSub, Int.reduceNeg, Int.reduceEq, Int.reduceBEq, Int.reduceBNe, Nat.reduceBEq, Nat.reduceEqDiff, Int.reduceToNat, allocCells, stp, la, hk, hx', hy', f1, e2, f3, nums_ok, strOf_ok, e4, w1, hR, putCells]
    | true =>
      cases e5 : xl == yl with
      | false =>
        refine stop (by simp only [eqT, e5, Bool.false_and, Bool.and_false, Bool.not_true, Bool.false_or]) ?_
        rw [L_round hK]
        simp -implicitDefEqProofs only [B15L4, st15, ex15, dbody, dexec, ostep, dop, ev, put, wants, dbin, dun, List.replicate, Nat.reduceAdd, Nat.reduceSub, Nat.reduceLT, Nat.reduceLeDiff, Nat.reduceMul, DV.cells, DV.flat, dload, DV.elems, reduceCtorEq, mask, DV.lows, DV.low, DV.coe, DV.isD, dresults, dresult, withHeap, lowCells, LSt.isReady, srcElems, DV.int, DV.mkAgg, same, mnmx2, nilness, bound, fill, flatCells, Int.reduceLE, Int.reduceLT, Int.reduceAdd, Int.reduceSub, Int.reduceNeg, Int.reduceEq, Int.reduceBEq, Int.reduceBNe, Nat.reduceBEq, Nat.reduceEqDiff, Int.reduceToNat, allocCells, stp, la, hk, hx', hy', f1, e2, f3, nums_ok, strOf_ok, e4, e5, eqCells, eqFV, putCells]
      | true =>
      cases e6 : xc == yc with
      | false =>
        refine stop (by simp only [eqT, e6, Bool.false_and, Bool.and_false, Bool.not_true, Bool.false_or]) ?_
        rw [L_round hK]
        simp -implicitDefEqProofs only [B15L4, st15, ex15, dbody, dexec, ostep, dop, ev, put, wants, dbin, dun, List.replicate, Nat.reduceAdd, Nat.reduceSub, Nat.reduceLT, Nat.reduceLeDiff, Nat.reduceMul, DV.cells, DV.flat, dload, DV.elems, reduceCtorEq, mask, DV.lows, DV.low, DV.coe, DV.isD, dresults, dresult, withHeap, lowCells, LSt.isReady, srcElems, DV.int, DV.mkAgg, same, mnmx2, nilness, bound, fill, flatCells, Int.reduceLE, Int.reduceLT, Int.reduceAdd, Int.reduceSub, Int.reduceNeg, Int.reduceEq, Int.reduceBEq, Int.reduceBNe, Nat.reduceBEq, Nat.reduceEqDiff, Int.reduceToNat, allocCells, stp, la, hk, hx', hy', f1, e2, f3, nums_ok, strOf_ok, e4, e5, e6, eqCells, eqFV, putCells]
      | true =>
        refine go (by simp only [eqT, e1, e2, e3, e4, e5, e6]; rfl) ?_
        rw [L_round hK]
        simp -implicitDefEqProofs only [B15L4, st15, dbody, dexec, ostep, dop, ev, put, wants, dbin, dun, List.replicate, Nat.reduceAdd, Nat.reduceSub, Nat.reduceLT, Nat.reduceLeDiff, Nat.reduceMul, DV.cells, DV.flat, dload, DV.elems, reduceCtorEq, mask, DV.lows, DV.low, DV.coe, DV.isD, dresults, dresult, withHeap, lowCells, LSt.isReady, srcElems, DV.int, DV.mkAgg, same, mnmx2, nilness, bound, fill, flatCells, Int.reduceLE, Int.reduceLT, Int.reduceAdd, Int.reduceSub, Int.reduceNeg, Int.reduceEq, Int.reduceBEq, Int.reduceBNe, Nat.reduceBEq, Nat.reduceEqDiff, Int.reduceToNat, allocCells, stp, la, hk, hx', hy', f1, e2, f3, nums_ok, strOf_ok, e4, e5, e6, eqCells, eqFV, w1, hR, putCells]

theorem same_ok (a b : List (Tk × Int × Int)) (p : Bool) (hsz : a.length ≤ 1000000) (h : List Res) : D env 15 [.d (.slice 6 (encT a)), .d (.slice 6 (encT b)), .d (.bool p)] h = some (.val (.d (.bool (sameT p a b))) h) := by
  rw [D_dat (F := A15) rfl rfl rfl rfl]
  have la : (encT a).length = a.length := by simp [encT]
  have lb : (encT b).length = b.length := by simp [encT]
  by_cases hl : a.length = b.length
  · have f1 : ((a.length : Int) != b.length) = false := by simp; omega
    have hlo := loop15 a b p hsz hl a.length 0 (by omega)
    simp only [List.drop_zero] at hlo
    have z0 : ((0 : Nat) : Int) = 0 := rfl
    cases hs : sameT p a b with
    | true =>
      rw [hs, if_pos rfl] at hlo
      simp only [st15, ex15, List.replicate, List.cons_append, List.nil_append, z0] at hlo
      simp -implicitDefEqProofs only [A15, B15, dbody, dexec, ostep, dop, ev, put, wants, dbin, dun, List.replicate, Nat.reduceAdd, Nat.reduceSub, Nat.reduceLT, Nat.reduceLeDiff, Nat.reduceMul, DV.cells, DV.flat, dload, DV.elems, reduceCtorEq, mask, DV.lows, DV.low, DV.coe, DV.isD, dresults, dresult, withHeap, lowCells, LSt.isReady, srcElems, DV.int, DV.mkAgg, same, mnmx2, nilness, bound, fill, flatCells, Int.reduceLE, Int.reduceLT, Int.reduceAdd, Int.reduceSub, Int.reduceNeg, Int.reduceEq, Int.reduceBEq, Int.reduceBNe, Nat.reduceBEq, Nat.reduceEqDiff, Int.reduceToNat, allocCells, stp, la, lb, f1, hlo]
    | false =>
      rw [hs, if_neg (by simp)] at hlo
      simp only [st15, ex15, List.replicate, List.cons_append, List.nil_append, z0] at hlo
      simp -implicitDefEqProofs only [A15, B15, dbody, dexec, ostep, dop, ev, put, wants, dbin, dun, List.replicate, Nat.reduceAdd, Nat.reduceSub, Nat.reduceLT, Nat.reduceLeDiff, Nat.reduceMul, DV.cells, DV.flat, dload, DV.elems, reduceCtorEq, mask, DV.lows, DV.low, DV.coe, DV.isD, dresults, dresult, withHeap, lowCells, LSt.isReady, srcElems, DV.int, DV.mkAgg, same, mnmx2, nilness, bound, fill, flatCells, Int.reduceLE, Int.reduceLT, Int.reduceAdd, Int.reduceSub, Int.reduceNeg, Int.reduceEq, Int.reduceBEq, Int.reduceBNe, Nat.reduceBEq, Nat.reduceEqDiff, Int.reduceToNat, allocCells, stp, la, lb, f1, hlo]
  · have f1 : ((a.length : Int) != b.length) = true := by simp; omega
    have hs : sameT p a b = false := by
      cases hs : sameT p a b with
      | true => exact absurd (sameT_len hs) hl
      | false => rfl
    rw [hs]
    simp -implicitDefEqProofs only [A15, B15, dbody, dexec, ostep, dop, ev, put, wants, dbin, dun, List.replicate, Nat.reduceAdd, Nat.reduceSub, Nat.reduceLT, Nat.reduceLeDiff, Nat.reduceMul, DV.cells, DV.flat, dload, DV.elems, reduceCtorEq, mask, DV.lows, DV.low, DV.coe, DV.isD, dresults, dresult, withHeap, lowCells, LSt.isReady, srcElems, DV.int, DV.mkAgg, same, mnmx2, nilness, bound, fill, flatCells, Int.reduceLE, Int.reduceLT, Int.reduceAdd, Int.reduceSub, Int.reduceNeg, Int.reduceEq, Int.reduceBEq, Int.reduceBNe, Nat.reduceBEq, Nat.reduceEqDiff, Int.reduceToNat, allocCells, stp, la, lb, f1]
end Go.Proofs.YtoadpaaghjomnaaDoor.Codes

set_option linter.unusedVariables false
set_option linter.unusedSimpArgs false
set_option maxRecDepth 100000
namespace Go.Proofs.YtoadpaaghjomnaaDoor.Codes
open Go Go.Deepv

def hexD (n : Nat) : UInt8 := hexes.data.toList.getD n 0
/-- A byte as it is shown. -/
def escShow (c : UInt8) : List UInt8 := if c.toNat = 34 ∨ c.toNat = 92 then [92, c] else if 32 ≤ c.toNat ∧ c.toNat ≤ 126 then [c] else [92, 120, hexD (c.toNat / 16), hexD (c.toNat % 16)]
def escA (c : UInt8) : ByteArray := ⟨(escShow c).toArray⟩
def quoteB (b : ByteArray) : ByteArray := b.data.toList.foldl (fun a c => a ++ escA c) ⟨#[34]⟩ ++ ⟨#[34]⟩
def digitsB (n : Int) : ByteArray := ⟨(Lib.itoa (max n 0)).toArray⟩
def showV (t : Tk) : ByteArray := if t.kind = 1 ∨ t.kind = 2 ∨ t.kind = 5 ∨ t.kind = 6 then t.text else if t.kind = 3 then digitsB t.num else if t.kind = 4 then quoteB t.bytes else ⟨#[]⟩

theorem hexes_get : ∀ x : Fin 16, hexes[x.val]? = some (hexD x.val) := by decide
theorem and15 (n : Nat) (h : n < 256) : IntKind.u8.wrap ((BitVec.ofInt IntKind.u8.bits (n : Int) &&& BitVec.ofInt IntKind.u8.bits 15).toNat : Nat) = ((n % 16 : Nat) : Int) := by
  have : ∀ x : Fin 256, IntKind.u8.wrap ((BitVec.ofInt IntKind.u8.bits ((x.val : Nat) : Int) &&& BitVec.ofInt IntKind.u8.bits 15).toNat : Nat) = ((x.val % 16 : Nat) : Int) := by decide
  exact this ⟨n, h⟩
theorem escA_size (c : UInt8) : (escA c).size ≤ 4 := by
  show (escShow c).toArray.size ≤ 4
  rw [List.size_toArray]
  unfold escShow
  repeat' split
  all_goals simp

def st16 (b acc : ByteArray) (i : Nat) : List DV := [.d .undef, .d .undef, .d .undef, .row 1 (strCells acc) 0] ++ List.replicate 21 (.d .undef) ++ [.d (.slice 1 (strCells b)), .d (.int .i64 b.size), .d (.int .i64 i)] ++ List.replicate 39 (.d .undef)
def ex16 (acc : ByteArray) : List DV := [.d .undef, .d .undef, .d .undef, .row 1 (strCells acc) 0] ++ List.replicate 63 (.d .undef)
theorem loop16 (b : ByteArray) (hb : b.size ≤ 100000) :
    ∀ (l : List UInt8) (i : Nat) (acc : ByteArray), b.data.toList.drop i = l → i ≤ b.size → acc.size ≤ 4 * i + 1 →
      L env 1 true H16L12 X16L12 B16L12 (st16 b acc i) [rr 1 acc.size 5] = some (.exit 1, ex16 (l.foldl (fun a c => a ++ escA c) acc), [rr 1 (l.foldl (fun a c => a ++ escA c) acc).size 5]) := by
  obtain ⟨K, hK⟩ : ∃ K, L env 1 true H16L12 X16L12 B16L12 = K := ⟨_, rfl⟩
  rw [hK]
  have hlen : b.data.toList.length = b.size := Array.length_toList
  intro l
  induction l with
  | nil =>
    intro i acc h1 h2 h3
    have hk : ¬ (i : Int) < b.size := by
      have := congrArg List.length h1
      rw [List.length_drop, List.length_nil] at this
      omega
    rw [List.foldl_nil, L_round hK]
    simp -implicitDefEqProofs only [B16L12, st16, ex16, dbody, dexec, ostep, dop, ev, put, wants, dbin, dun, List.replicate, Nat.reduceAdd, Nat.reduceSub, Nat.reduceLT, Nat.reduceLeDiff, Nat.reduceMul, DV.cells, DV.flat, dload, DV.elems, reduceCtorEq, mask, DV.lows, DV.low, DV.coe, DV.isD, dresults, dresult, withHeap, lowCells, LSt.isReady, srcElems, DV.int, DV.mkAgg, same, mnmx2, nilness, bound, fill, flatCells, Int.reduceLE, Int.reduceLT, Int.reduceAdd, Int.reduceSub, Int.reduceNeg, Int.reduceEq, Int.reduceBEq, Int.reduceBNe, Nat.reduceBEq, Nat.reduceEqDiff, Int.reduceToNat, allocCells, stp, hk]
  | cons c l ih =>
    intro i acc h1 h2 h3
    have hx : b.data.toList[i]? = some c := by
      have := List.getElem?_drop (xs := b.data.toList) (i := i) (j := 0)
      rw [h1] at this
      simpa using this.symm
    have hlt := (List.getElem?_eq_some_iff.1 hx).1
    have hx' : (strCells b)[i]? = some [.int .u8 c.toNat] := by
      unfold strCells
      rw [List.getElem?_map, hx]
      rfl
    have hk : (i : Int) < b.size := by omega
    have hd : b.data.toList.drop (i + 1) = l := by rw [← List.drop_drop, h1]; rfl
    have hsz := escA_size c
    have ih := ih (i + 1) (acc ++ escA c) hd (by omega) (by rw [ByteArray.size_append]; omega)
    have w1 : IntKind.i64.wrap ((i : Int) + 1) = ((i + 1 : Nat) : Int) := by rw [wrap_i64 (by omega) (by omega)]; simp
    have ap : appRow 1 1 (.row 1 (strCells acc) 0) (some (1, strCells (escA c))) [rr 1 acc.size 5] 5 = some (.val (.row 1 (strCells (acc ++ escA c)) 0) [rr 1 (acc ++ escA c).size 5]) := by
      have := appRow_any (sz := 1) (bytes := 1) (et := 5) (l := strCells acc) (new := strCells (escA c)) (t := 0) (h := [rr 1 acc.size 5]) (by rw [strCells_len]; rfl) (by rw [strCells_len, strCells_len]; omega) (by decide) (by decide) 1 rfl
      rw [this, strCells_app, strCells_len, strCells_len, ByteArray.size_append]
      rfl
    have hc := c.toNat_lt
    rw [List.foldl_cons]
    generalize hR : some (DExit.exit 1, ex16 (l.foldl (fun a c => a ++ escA c) (acc ++ escA c)), [rr 1 (l.foldl (fun a c => a ++ escA c) (acc ++ escA c)).size 5]) = RR at *
    simp only [st16, List.replicate, List.cons_append, List.nil_append] at ih
    have cells : strCells (escA c) = (escShow c).map fun x => [FV.int .u8 x.toNat] := rfl
    generalize acc ++ escA c = acc2 at *
    rw [cells] at ap
    unfold escShow at ap
    rw [L_round hK]
    by_cases c1 : c.toNat = 34
    · have e : ((c.toNat : Nat) : Int) = 34 := by omega
      have z92 : ((92 : UInt8).toNat : Int) = 92 := rfl
      rw [if_pos (.inl c1)] at ap
      rw [e] at hx'
      simp only [List.map_cons, List.map_nil, z92, e] at ap
      simp -implicitDefEqProofs only [B16L12, st16, dbody, dexec, ostep, dop, ev, put, wants, dbin, dun, List.replicate, Nat.reduceAdd, Nat.reduceSub, Nat.reduceLT, Nat.reduceLeDiff, Nat.reduceMul, DV.cells, DV.flat, dload, DV.elems, reduceCtorEq, mask, DV.lows, DV.low, DV.coe, DV.isD, dresults, dresult, withHeap, lowCells, LSt.isReady, srcElems, DV.int, DV.mkAgg, same, mnmx2, nilness, bound, fill, flatCells, Int.reduceLE, Int.reduceLT, Int.reduceAdd, Int.reduceSub, Int.reduceNeg, Int.reduceEq, Int.reduceBEq, Int.reduceBNe, Nat.reduceBEq, Nat.reduceEqDiff, Int.reduceToNat, allocCells, stp, hk, hx', ap, w1, ih]
    have f1 : (((c.toNat : Nat) : Int) == 34) = false := by simp; omega
    by_cases c2 : c.toNat = 92
    · have e : ((c.toNat : Nat) : Int) = 92 := by omega
      have z92 : ((92 : UInt8).toNat : Int) = 92 := rfl
      rw [if_pos (.inr c2)] at ap
      rw [e] at hx'
      simp only [List.map_cons, List.map_nil, z92, e] at ap
      simp -implicitDefEqProofs only [B16L12, st16, dbody, dexec, ostep, dop, ev, put, wants, dbin, dun, List.replicate, Nat.reduceAdd, Nat.reduceSub, Nat.reduceLT, Nat.reduceLeDiff, Nat.reduceMul, DV.cells, DV.flat, dload, DV.elems, reduceCtorEq, mask, DV.lows, DV.low, DV.coe, DV.isD, dresults, dresult, withHeap, lowCells, LSt.isReady, srcElems, DV.int, DV.mkAgg, same, mnmx2, nilness, bound, fill, flatCells, Int.reduceLE, Int.reduceLT, Int.reduceAdd, Int.reduceSub, Int.reduceNeg, Int.reduceEq, Int.reduceBEq, Int.reduceBNe, Nat.reduceBEq, Nat.reduceEqDiff, Int.reduceToNat, allocCells, stp, hk, hx', ap, w1, ih]
    have f2 : (((c.toNat : Nat) : Int) == 92) = false := by simp; omega
    rw [if_neg (by omega)] at ap
    by_cases c3 : 32 ≤ c.toNat ∧ c.toNat ≤ 126
    · have g1 : (32 : Int) ≤ c.toNat := by omega
      have g2 : (c.toNat : Int) ≤ 126 := by omega
      rw [if_pos c3] at ap
      simp only [List.map_cons, List.map_nil] at ap
      simp -implicitDefEqProofs only [B16L12, st16, dbody, dexec, ostep, dop, ev, put, wants, dbin, dun, List.replicate, Nat.reduceAdd, Nat.reduceSub, Nat.reduceLT, Nat.reduceLeDiff, Nat.reduceMul, DV.cells, DV.flat, dload, DV.elems, reduceCtorEq, mask, DV.lows, DV.low, DV.coe, DV.isD, dresults, dresult, withHeap, lowCells, LSt.isReady, srcElems, DV.int, DV.mkAgg, same, mnmx2, nilness, bound, fill, flatCells, Int.reduceLE, Int.reduceLT, Int.reduceAdd, Int.reduceSub, Int.reduceNeg, Int.reduceEq, Int.reduceBEq, Int.reduceBNe, Nat.reduceBEq, Nat.reduceEqDiff, Int.reduceToNat, allocCells, stp, hk, hx', f1, f2, g1, g2, ap, w1, ih]
    · rw [if_neg c3] at ap
      have z92 : ((92 : UInt8).toNat : Int) = 92 := rfl
      have z120 : ((120 : UInt8).toNat : Int) = 120 := rfl
      have m4 : (min 4 IntKind.u8.bits) = 4 := rfl
      have p4 : (2 : Int) ^ 4 = ((16 : Nat) : Int) := rfl
      have d4 : (c.toNat : Int).fdiv 16 = ((c.toNat / 16 : Nat) : Int) := fdiv_lit c.toNat 16
      have a15 := and15 c.toNat hc
      have h1 := hexes_get ⟨c.toNat / 16, by omega⟩
      have h2 := hexes_get ⟨c.toNat % 16, by omega⟩
      simp only [hexes] at h1 h2
      simp only [List.map_cons, List.map_nil, z92, z120] at ap
      by_cases g1 : (32 : Int) ≤ c.toNat
      · have g2 : ¬ (c.toNat : Int) ≤ 126 := by omega
        simp -implicitDefEqProofs only [B16L12, st16, dbody, dexec, ostep, dop, ev, put, wants, dbin, dun, List.replicate, Nat.reduceAdd, Nat.reduceSub, Nat.reduceLT, Nat.reduceLeDiff, Nat.reduceMul, DV.cells, DV.flat, dload, DV.elems, reduceCtorEq, mask, DV.lows, DV.low, DV.coe, DV.isD, dresults, dresult, withHeap, lowCells, LSt.isReady, srcElems, DV.int, DV.mkAgg, same, mnmx2, nilness, bound, fill, flatCells, Int.reduceLE, Int.reduceLT, Int.reduceAdd, Int.reduceSub, Int.reduceNeg, Int.reduceEq, Int.reduceBEq, Int.reduceBNe, Nat.reduceBEq, Nat.reduceEqDiff, Int.reduceToNat, allocCells, stp, hk, hx', f1, f2, g1, g2, m4, p4, d4, a15, h1, h2, ap, w1, ih]
      · simp -implicitDefEqProofs only [B16L12, st16, dbody, dexec, ostep, dop, ev, put, wants, dbin, dun, List.replicate, Nat.reduceAdd, Nat.reduceSub, Nat.reduceLT, Nat.reduceLeDiff, Nat.reduceMul, DV.cells, DV.flat, dload, DV.elems, reduceCtorEq, mask, DV.lows, DV.low, DV.coe, DV.isD, dresults, dresult, withHeap, lowCells, LSt.isReady, srcElems, DV.int, DV.mkAgg, same, mnmx2, nilness, bound, fill, flatCells, Int.reduceLE, Int.reduceLT, Int.reduceAdd, Int.reduceSub, Int.reduceNeg, Int.reduceEq, Int.reduceBEq, Int.reduceBNe, Nat.reduceBEq, Nat.reduceEqDiff, Int.reduceToNat, allocCells, stp, hk, hx', f1, f2, g1, m4, p4, d4, a15, h1, h2, ap, w1, ih]

theorem fold_size (l : List UInt8) (acc : ByteArray) : (l.foldl (fun a c => a ++ escA c) acc).size ≤ acc.size + 4 * l.length := by
  induction l generalizing acc with
  | nil => simp
  | cons c l ih =>
    have := ih (acc ++ escA c)
    have := escA_size c
    rw [ByteArray.size_append] at *
    simp only [List.foldl_cons, List.length_cons]
    omega
theorem itoa_in {n : Int} (h1 : n ≤ 9223372036854775807) : -9223372036854775808 ≤ max n 0 ∧ max n 0 ≤ 9223372036854775807 := by omega
theorem show_ok (t : Tk) (l c : Int) (hb : t.bytes.size ≤ 100000) (hn : t.num ≤ 9223372036854775807) (h : List Res) : D env 16 [.d (.agg (t.enc l c))] h = some (.val (.d (.str (showV t))) h) := by
  rw [D_dat (F := A16) rfl rfl rfl rfl]
  obtain ⟨k, tx, n, b⟩ := t
  simp only at hb hn
  unfold showV
  simp only [Tk.enc]
  by_cases k1 : k = 1
  · subst k1
    rw [if_pos (by decide)]
    simp -implicitDefEqProofs only [A16, B16, dbody, dexec, ostep, dop, ev, put, wants, dbin, dun, List.replicate, Nat.reduceAdd, Nat.reduceSub, Nat.reduceLT, Nat.reduceLeDiff, Nat.reduceMul, DV.cells, DV.flat, dload, DV.elems, reduceCtorEq, mask, DV.lows, DV.low, DV.coe, DV.isD, dresults, dresult, withHeap, lowCells, LSt.isReady, srcElems, DV.int, DV.mkAgg, same, mnmx2, nilness, bound, fill, flatCells, Int.reduceLE, Int.reduceLT, Int.reduceAdd, Int.reduceSub, Int.reduceNeg, Int.reduceEq, Int.reduceBEq, Int.reduceBNe, Nat.reduceBEq, Nat.reduceEqDiff, Int.reduceToNat, allocCells, stp]
  by_cases k2 : k = 2
  · subst k2
    rw [if_pos (by decide)]
    simp -implicitDefEqProofs only [A16, B16, dbody, dexec, ostep, dop, ev, put, wants, dbin, dun, List.replicate, Nat.reduceAdd, Nat.reduceSub, Nat.reduceLT, Nat.reduceLeDiff, Nat.reduceMul, DV.cells, DV.flat, dload, DV.elems, reduceCtorEq, mask, DV.lows, DV.low, DV.coe, DV.isD, dresults, dresult, withHeap, lowCells, LSt.isReady, srcElems, DV.int, DV.mkAgg, same, mnmx2, nilness, bound, fill, flatCells, Int.reduceLE, Int.reduceLT, Int.reduceAdd, Int.reduceSub, Int.reduceNeg, Int.reduceEq, Int.reduceBEq, Int.reduceBNe, Nat.reduceBEq, Nat.reduceEqDiff, Int.reduceToNat, allocCells, stp]
  by_cases k5 : k = 5
  · subst k5
    rw [if_pos (by decide)]
    simp -implicitDefEqProofs only [A16, B16, dbody, dexec, ostep, dop, ev, put, wants, dbin, dun, List.replicate, Nat.reduceAdd, Nat.reduceSub, Nat.reduceLT, Nat.reduceLeDiff, Nat.reduceMul, DV.cells, DV.flat, dload, DV.elems, reduceCtorEq, mask, DV.lows, DV.low, DV.coe, DV.isD, dresults, dresult, withHeap, lowCells, LSt.isReady, srcElems, DV.int, DV.mkAgg, same, mnmx2, nilness, bound, fill, flatCells, Int.reduceLE, Int.reduceLT, Int.reduceAdd, Int.reduceSub, Int.reduceNeg, Int.reduceEq, Int.reduceBEq, Int.reduceBNe, Nat.reduceBEq, Nat.reduceEqDiff, Int.reduceToNat, allocCells, stp]
  by_cases k6 : k = 6
  · subst k6
    rw [if_pos (by decide)]
    simp -implicitDefEqProofs only [A16, B16, dbody, dexec, ostep, dop, ev, put, wants, dbin, dun, List.replicate, Nat.reduceAdd, Nat.reduceSub, Nat.reduceLT, Nat.reduceLeDiff, Nat.reduceMul, DV.cells, DV.flat, dload, DV.elems, reduceCtorEq, mask, DV.lows, DV.low, DV.coe, DV.isD, dresults, dresult, withHeap, lowCells, LSt.isReady, srcElems, DV.int, DV.mkAgg, same, mnmx2, nilness, bound, fill, flatCells, Int.reduceLE, Int.reduceLT, Int.reduceAdd, Int.reduceSub, Int.reduceNeg, Int.reduceEq, Int.reduceBEq, Int.reduceBNe, Nat.reduceBEq, Nat.reduceEqDiff, Int.reduceToNat, allocCells, stp]
  rw [if_neg (by omega)]
  by_cases k3 : k = 3
  · subst k3
    rw [if_pos rfl]
    have hmax : max n 0 = if n < 0 then 0 else n := by
      split <;> omega
    have e41 : ∀ h, D env 41 [.d (.int .i64 (if n < 0 then 0 else n)), .d (.int .i64 10)] h = some (.val (.d (.str (digitsB n))) h) := fun h => by
      rw [D_ext (F := xFormat) rfl]
      unfold digitsB
      rw [← hmax]
      have hi := itoa_in hn
      generalize max n 0 = m at *
      exact if_pos ⟨rfl, hi.1, hi.2⟩
    simp -implicitDefEqProofs only [A16, B16, dbody, dexec, ostep, dop, ev, put, wants, dbin, dun, List.replicate, Nat.reduceAdd, Nat.reduceSub, Nat.reduceLT, Nat.reduceLeDiff, Nat.reduceMul, DV.cells, DV.flat, dload, DV.elems, reduceCtorEq, mask, DV.lows, DV.low, DV.coe, DV.isD, dresults, dresult, withHeap, lowCells, LSt.isReady, srcElems, DV.int, DV.mkAgg, same, mnmx2, nilness, bound, fill, flatCells, Int.reduceLE, Int.reduceLT, Int.reduceAdd, Int.reduceSub, Int.reduceNeg, Int.reduceEq, Int.reduceBEq, Int.reduceBNe, Nat.reduceBEq, Nat.reduceEqDiff, Int.reduceToNat, allocCells, stp, e41]
  rw [if_neg k3]
  have f1 : (k == 1) = false := by simpa using k1
  have f2 : (k == 2) = false := by simpa using k2
  have f3 : (k == 3) = false := by simpa using k3
  have f5 : (k == 5) = false := by simpa using k5
  have f6 : (k == 6) = false := by simpa using k6
  by_cases k4 : k = 4
  · subst k4
    rw [if_pos rfl]
    have hlo := loop16 b hb b.data.toList 0 ⟨#[34]⟩ rfl (by omega) (by have : (⟨#[34]⟩ : ByteArray).size = 1 := rfl; omega)
    have hfs := fold_size b.data.toList ⟨#[34]⟩
    have hlen : b.data.toList.length = b.size := Array.length_toList
    have s34 : (⟨#[34]⟩ : ByteArray).size = 1 := rfl
    have r34 : rr 1 1 5 = .row 1 1 5 := rfl
    have c34 : strCells ⟨#[34]⟩ = [[.int .u8 34]] := rfl
    have z0 : ((0 : Nat) : Int) = 0 := rfl
    rw [s34, hlen] at hfs
    rw [s34, r34] at hlo
    unfold quoteB
    generalize b.data.toList.foldl (fun a c => a ++ escA c) ⟨#[34]⟩ = acc at *
    have ap : appRow 1 1 (.row 1 (strCells acc) 0) (some (1, [[.int .u8 34]])) [rr 1 acc.size 5] 5 = some (.val (.row 1 (strCells (acc ++ ⟨#[34]⟩)) 0) [rr 1 (acc ++ ⟨#[34]⟩).size 5]) := by
      have := appRow_any (sz := 1) (bytes := 1) (et := 5) (l := strCells acc) (new := [[.int .u8 34]]) (t := 0) (h := [rr 1 acc.size 5]) (by rw [strCells_len]; rfl) (by rw [strCells_len]; simp; omega) (by decide) (by decide) 1 rfl
      rw [this, ← c34, strCells_app, strCells_len, strCells_len, ByteArray.size_append]
      rfl
    simp only [st16, ex16, c34, List.replicate, List.cons_append, List.nil_append, z0] at hlo
    simp -implicitDefEqProofs only [A16, B16, dbody, dexec, ostep, dop, ev, put, wants, dbin, dun, List.replicate, Nat.reduceAdd, Nat.reduceSub, Nat.reduceLT, Nat.reduceLeDiff, Nat.reduceMul, DV.cells, DV.flat, dload, DV.elems, reduceCtorEq, mask, DV.lows, DV.low, DV.coe, DV.isD, dresults, dresult, withHeap, lowCells, LSt.isReady, srcElems, DV.int, DV.mkAgg, same, mnmx2, nilness, bound, fill, flatCells, Int.reduceLE, Int.reduceLT, Int.reduceAdd, Int.reduceSub, Int.reduceNeg, Int.reduceEq, Int.reduceBEq, Int.reduceBNe, Nat.reduceBEq, Nat.reduceEqDiff, Int.reduceToNat, allocCells, stp, strCells_len, hlo, ap, nums_ok, strOf_ok]
  · have f4 : (k == 4) = false := by simpa using k4
    rw [if_neg k4]
    simp -implicitDefEqProofs only [A16, B16, dbody, dexec, ostep, dop, ev, put, wants, dbin, dun, List.replicate, Nat.reduceAdd, Nat.reduceSub, Nat.reduceLT, Nat.reduceLeDiff, Nat.reduceMul, DV.cells, DV.flat, dload, DV.elems, reduceCtorEq, mask, DV.lows, DV.low, DV.coe, DV.isD, dresults, dresult, withHeap, lowCells, LSt.isReady, srcElems, DV.int, DV.mkAgg, same, mnmx2, nilness, bound, fill, flatCells, Int.reduceLE, Int.reduceLT, Int.reduceAdd, Int.reduceSub, Int.reduceNeg, Int.reduceEq, Int.reduceBEq, Int.reduceBNe, Nat.reduceBEq, Nat.reduceEqDiff, Int.reduceToNat, allocCells, stp, f1, f2, f3, f4, f5, f6]
end Go.Proofs.YtoadpaaghjomnaaDoor.Codes
