/-
  The reader: peek, over, fail; the walker; places.
  Places: the walker, the document's next; hex digits.
  Whether a text begins with another.
  A text's runes with their places: the program's Split.
  A text's runes with their places: the program's Split, whole.
  Hex digits of the document.
  Conditions: none.
-/
import Derived.Test.YtoadpaaghjomnaaDoorMA
set_option linter.unusedVariables false
set_option linter.unusedSimpArgs false
set_option maxRecDepth 100000
namespace Go.Proofs.YtoadpaaghjomnaaDoor.Codes
open Go.Deepv

/-- A rune with its place. -/
structure Rn where
  r : Int
  off : Int
  l : Int
  c : Int
def Rn.enc (x : Rn) : List FV := [.int .i32 x.r, .int .i64 x.off, .int .i64 x.l, .int .i64 x.c]
/-- The reader's box. -/
def rd (rs : List Rn) (at_ : Nat) (e l c : Int) : Res := .box [.d (.slice 4 (rs.map Rn.enc)), .d (.int .i64 at_), .d (.int .i64 e), .d (.int .i64 l), .d (.int .i64 c)]
def peekR (rs : List Rn) (k : Nat) : Int := match rs[k]? with
  | some x => x.r
  | none => -1
theorem rmap_at {α β : Type} {f : α → β} {l : List α} {i : Nat} {x : α} (h : l[i]? = some x) : (l.map f)[i]? = some (f x) := by simp [h]

theorem peek_ok {h : List Res} {id : Nat} {rs : List Rn} {k : Nat} {e l c : Int} (hq : h[id]? = some (rd rs k e l c)) (n : Nat) (hk : k + n ≤ 1000000000000) :
    D env 61 [.ptr id 0, .d (.int .i64 n)] h = some (.val (.d (.int .i32 (peekR rs (k + n)))) h) := by
  rw [D_own (F := A61) rfl rfl rfl rfl]
  have w1 : IntKind.i64.wrap ((k : Int) + n) = ((k + n : Nat) : Int) := by rw [wrap_i64 (by omega) (by omega)]; simp
  simp only [rd] at hq
  by_cases hl : k + n < rs.length
  · obtain ⟨x, hx⟩ : ∃ x, rs[k + n]? = some x := ⟨rs[k + n], by simp [hl]⟩
    have hx' := rmap_at (f := Rn.enc) hx
    have h1 : ¬ (rs.length : Int) ≤ ((k + n : Nat) : Int) := by omega
    have h2 : ((k + n : Nat) : Int) < rs.length := by omega
    have h3 : peekR rs (k + n) = x.r := by simp [peekR, hx]
    rw [h3]
    generalize k + n = m at *
    simp -implicitDefEqProofs only [A61, B61, dbody, dexec, ostep, dop, ev, put, wants, dbin, dun, List.replicate, Nat.reduceAdd, Nat.reduceSub, Nat.reduceLT, Nat.reduceLeDiff, Nat.reduceMul, DV.cells, DV.flat, dload, DV.elems, reduceCtorEq, mask, DV.lows, DV.low, DV.coe, DV.isD, dresults, dresult, withHeap, lowCells, LSt.isReady, srcElems, DV.int, DV.mkAgg, same, mnmx2, nilness, bound, fill, flatCells, Int.reduceLE, Int.reduceLT, Int.reduceAdd, Int.reduceSub, Int.reduceNeg, Int.reduceEq, Int.reduceBEq, Int.reduceBNe, Nat.reduceBEq, Nat.reduceEqDiff, Int.reduceToNat, allocCells, stp, hq, w1, h1, h2, hx, hx', Rn.enc, List.take_length]
  · have h1 : (rs.length : Int) ≤ ((k + n : Nat) : Int) := by omega
    have h3 : peekR rs (k + n) = -1 := by
      have : rs[k + n]? = none := by simp; omega
      simp [peekR, this]
    rw [h3]
    generalize k + n = m at *
    simp -implicitDefEqProofs only [A61, B61, dbody, dexec, ostep, dop, ev, put, wants, dbin, dun, List.replicate, Nat.reduceAdd, Nat.reduceSub, Nat.reduceLT, Nat.reduceLeDiff, Nat.reduceMul, DV.cells, DV.flat, dload, DV.elems, reduceCtorEq, mask, DV.lows, DV.low, DV.coe, DV.isD, dresults, dresult, withHeap, lowCells, LSt.isReady, srcElems, DV.int, DV.mkAgg, same, mnmx2, nilness, bound, fill, flatCells, Int.reduceLE, Int.reduceLT, Int.reduceAdd, Int.reduceSub, Int.reduceNeg, Int.reduceEq, Int.reduceBEq, Int.reduceBNe, Nat.reduceBEq, Nat.reduceEqDiff, Int.reduceToNat, allocCells, stp, hq, w1, h1, List.take_length]

theorem over_ok {h : List Res} {id : Nat} {rs : List Rn} {k : Nat} {e l c : Int} (hq : h[id]? = some (rd rs k e l c)) :
    D env 33 [.ptr id 0] h = some (.val (.d (.bool (decide (rs.length ≤ k)))) h) := by
  rw [D_own (F := A33) rfl rfl rfl rfl]
  simp only [rd] at hq
  have h1 : decide ((rs.length : Int) ≤ (k : Int)) = decide (rs.length ≤ k) := by simp
  simp -implicitDefEqProofs only [A33, B33, dbody, dexec, ostep, dop, ev, put, wants, dbin, dun, List.replicate, Nat.reduceAdd, Nat.reduceSub, Nat.reduceLT, Nat.reduceLeDiff, Nat.reduceMul, DV.cells, DV.flat, dload, DV.elems, reduceCtorEq, mask, DV.lows, DV.low, DV.coe, DV.isD, dresults, dresult, withHeap, lowCells, LSt.isReady, srcElems, DV.int, DV.mkAgg, same, mnmx2, nilness, bound, fill, flatCells, Int.reduceLE, Int.reduceLT, Int.reduceAdd, Int.reduceSub, Int.reduceNeg, Int.reduceEq, Int.reduceBEq, Int.reduceBNe, Nat.reduceBEq, Nat.reduceEqDiff, Int.reduceToNat, allocCells, stp, hq, h1, List.take_length]

theorem fail_ok {h : List Res} {id : Nat} {rs : List Rn} {k : Nat} {e l c : Int} (hq : h[id]? = some (rd rs k e l c)) (x pl pc : Int) :
    D env 35 [.ptr id 0, .d (.int .i64 x), .d (.agg [.int .i64 pl, .int .i64 pc])] h = some (.val (.d (.tup [])) (if e = 0 then h.set id (rd rs k x pl pc) else h)) := by
  rw [D_own (F := A35) rfl rfl rfl rfl]
  have hl : (h.set id (rd rs k x pl pc)).length = h.length := List.length_set
  have ht : (h.set id (rd rs k x pl pc)).take h.length = h.set id (rd rs k x pl pc) := by rw [← hl, List.take_length]
  simp only [rd] at hq ht ⊢
  by_cases h0 : e = 0
  · subst h0
    simp -implicitDefEqProofs only [A35, B35, dbody, dexec, ostep, dop, ev, put, wants, dbin, dun, List.replicate, Nat.reduceAdd, Nat.reduceSub, Nat.reduceLT, Nat.reduceLeDiff, Nat.reduceMul, DV.cells, DV.flat, dload, DV.elems, reduceCtorEq, mask, DV.lows, DV.low, DV.coe, DV.isD, dresults, dresult, withHeap, lowCells, LSt.isReady, srcElems, DV.int, DV.mkAgg, same, mnmx2, nilness, bound, fill, flatCells, Int.reduceLE, Int.reduceLT, Int.reduceAdd, Int.reduceSub, Int.reduceNeg, Int.reduceEq, Int.reduceBEq, Int.reduceBNe, Nat.reduceBEq, Nat.reduceEqDiff, Int.reduceToNat, allocCells, stp, hq, putCells, ht, List.take_length]
  · have h1 : (e == 0) = false := by simpa using h0
    simp -implicitDefEqProofs only [A35, B35, dbody, dexec, ostep, dop, ev, put, wants, dbin, dun, List.replicate, Nat.reduceAdd, Nat.reduceSub, Nat.reduceLT, Nat.reduceLeDiff, Nat.reduceMul, DV.cells, DV.flat, dload, DV.elems, reduceCtorEq, mask, DV.lows, DV.low, DV.coe, DV.isD, dresults, dresult, withHeap, lowCells, LSt.isReady, srcElems, DV.int, DV.mkAgg, same, mnmx2, nilness, bound, fill, flatCells, Int.reduceLE, Int.reduceLT, Int.reduceAdd, Int.reduceSub, Int.reduceNeg, Int.reduceEq, Int.reduceBEq, Int.reduceBNe, Nat.reduceBEq, Nat.reduceEqDiff, Int.reduceToNat, allocCells, stp, hq, putCells, h0, h1, List.take_length]
end Go.Proofs.YtoadpaaghjomnaaDoor.Codes

set_option linter.unusedVariables false
set_option linter.unusedSimpArgs false
set_option maxRecDepth 100000
namespace Go.Proofs.YtoadpaaghjomnaaDoor.Codes
open Go.Deepv

def nxtL (l r : Int) : Int := if r = 10 then l + 1 else l
def nxtC (c r : Int) : Int := if r = 10 then 1 else c + 1
def small (n : Int) : Prop := 0 ≤ n ∧ n ≤ 1000000000000
theorem wrap1 {n : Int} (h : small n) : IntKind.i64.wrap (n + 1) = n + 1 := by
  obtain ⟨h1, h2⟩ := h
  exact wrap_i64 (by omega) (by omega)

theorem next_ok (l c r : Int) (hl : small l) (hc : small c) (h : List Res) : D env 68 [.d (.agg [.int .i64 l, .int .i64 c]), .d (.int .i32 r)] h = some (.val (.d (.agg [.int .i64 (nxtL l r), .int .i64 (nxtC c r)])) h) := by
  rw [D_dat (F := A68) rfl rfl rfl rfl]
  have w1 := wrap1 hl
  have w2 := wrap1 hc
  by_cases h0 : r = 10
  · subst h0
    simp -implicitDefEqProofs only [A68, B68, dbody, dexec, ostep, dop, ev, put, wants, dbin, dun, List.replicate, Nat.reduceAdd, Nat.reduceSub, Nat.reduceLT, Nat.reduceLeDiff, Nat.reduceMul, DV.cells, DV.flat, dload, DV.elems, reduceCtorEq, mask, DV.lows, DV.low, DV.coe, DV.isD, dresults, dresult, withHeap, lowCells, LSt.isReady, srcElems, DV.int, DV.mkAgg, same, mnmx2, nilness, bound, fill, flatCells, Int.reduceLE, Int.reduceLT, Int.reduceAdd, Int.reduceSub, Int.reduceNeg, Int.reduceEq, Int.reduceBEq, Int.reduceBNe, Nat.reduceBEq, Nat.reduceEqDiff, Int.reduceToNat, allocCells, stp, putCells, nxtL, nxtC, w1, w2]
  · have h1 : (r == 10) = false := by simpa using h0
    simp -implicitDefEqProofs only [A68, B68, dbody, dexec, ostep, dop, ev, put, wants, dbin, dun, List.replicate, Nat.reduceAdd, Nat.reduceSub, Nat.reduceLT, Nat.reduceLeDiff, Nat.reduceMul, DV.cells, DV.flat, dload, DV.elems, reduceCtorEq, mask, DV.lows, DV.low, DV.coe, DV.isD, dresults, dresult, withHeap, lowCells, LSt.isReady, srcElems, DV.int, DV.mkAgg, same, mnmx2, nilness, bound, fill, flatCells, Int.reduceLE, Int.reduceLT, Int.reduceAdd, Int.reduceSub, Int.reduceNeg, Int.reduceEq, Int.reduceBEq, Int.reduceBNe, Nat.reduceBEq, Nat.reduceEqDiff, Int.reduceToNat, allocCells, stp, putCells, nxtL, nxtC, w1, w2, h0, h1]

theorem begun_ok (h : List Res) : D env 56 [] h = some (.val (.ptr h.length 0) (h ++ [.box [.d (.int .i64 1), .d (.int .i64 1)]])) := by
  rw [D_own (F := A56) rfl rfl rfl rfl]
  have ht : (h ++ [Res.box [.d (.int .i64 1), .d (.int .i64 1)]]).take (h.length + 1) = h ++ [Res.box [.d (.int .i64 1), .d (.int .i64 1)]] := List.take_of_length_le (by simp)
  simp -implicitDefEqProofs only [A56, B56, dbody, dexec, ostep, dop, ev, put, wants, dbin, dun, List.replicate, Nat.reduceAdd, Nat.reduceSub, Nat.reduceLT, Nat.reduceLeDiff, Nat.reduceMul, DV.cells, DV.flat, dload, DV.elems, reduceCtorEq, mask, DV.lows, DV.low, DV.coe, DV.isD, dresults, dresult, withHeap, lowCells, LSt.isReady, srcElems, DV.int, DV.mkAgg, same, mnmx2, nilness, bound, fill, flatCells, Int.reduceLE, Int.reduceLT, Int.reduceAdd, Int.reduceSub, Int.reduceNeg, Int.reduceEq, Int.reduceBEq, Int.reduceBNe, Nat.reduceBEq, Nat.reduceEqDiff, Int.reduceToNat, allocCells, stp, ht, Nat.lt_succ_self]

theorem past_ok {h : List Res} {id : Nat} {l c : Int} (hq : h[id]? = some (.box [.d (.int .i64 l), .d (.int .i64 c)])) (hl : small l) (hc : small c) (r : Int) :
    D env 58 [.ptr id 0, .d (.int .i32 r)] h = some (.val (.d (.tup [])) (h.set id (.box [.d (.int .i64 (nxtL l r)), .d (.int .i64 (nxtC c r))]))) := by
  rw [D_own (F := A58) rfl rfl rfl rfl]
  have w1 := wrap1 hl
  have w2 := wrap1 hc
  have hlt : id < h.length := (List.getElem?_eq_some_iff.1 hq).1
  have hs : ∀ x : Res, (h.set id x)[id]? = some x := fun x => List.getElem?_set_self hlt
  have ht : ∀ x : Res, (h.set id x).take h.length = h.set id x := fun x => List.take_of_length_le (by simp)
  by_cases h0 : r = 10
  · subst h0
    simp -implicitDefEqProofs only [A58, B58, dbody, dexec, ostep, dop, ev, put, wants, dbin, dun, List.replicate, Nat.reduceAdd, Nat.reduceSub, Nat.reduceLT, Nat.reduceLeDiff, Nat.reduceMul, DV.cells, DV.flat, dload, DV.elems, reduceCtorEq, mask, DV.lows, DV.low, DV.coe, DV.isD, dresults, dresult, withHeap, lowCells, LSt.isReady, srcElems, DV.int, DV.mkAgg, same, mnmx2, nilness, bound, fill, flatCells, Int.reduceLE, Int.reduceLT, Int.reduceAdd, Int.reduceSub, Int.reduceNeg, Int.reduceEq, Int.reduceBEq, Int.reduceBNe, Nat.reduceBEq, Nat.reduceEqDiff, Int.reduceToNat, allocCells, stp, putCells, nxtL, nxtC, w1, w2, hq, hs, ht]
  · have h1 : (r == 10) = false := by simpa using h0
    simp -implicitDefEqProofs only [A58, B58, dbody, dexec, ostep, dop, ev, put, wants, dbin, dun, List.replicate, Nat.reduceAdd, Nat.reduceSub, Nat.reduceLT, Nat.reduceLeDiff, Nat.reduceMul, DV.cells, DV.flat, dload, DV.elems, reduceCtorEq, mask, DV.lows, DV.low, DV.coe, DV.isD, dresults, dresult, withHeap, lowCells, LSt.isReady, srcElems, DV.int, DV.mkAgg, same, mnmx2, nilness, bound, fill, flatCells, Int.reduceLE, Int.reduceLT, Int.reduceAdd, Int.reduceSub, Int.reduceNeg, Int.reduceEq, Int.reduceBEq, Int.reduceBNe, Nat.reduceBEq, Nat.reduceEqDiff, Int.reduceToNat, allocCells, stp, putCells, nxtL, nxtC, w1, w2, h0, h1, hq, hs, ht]

def hexOf (r : Int) : Int := if 48 ≤ r ∧ r ≤ 57 then r - 48 else if 97 ≤ r ∧ r ≤ 102 then r - 97 + 10 else -1
end Go.Proofs.YtoadpaaghjomnaaDoor.Codes

set_option linter.unusedVariables false
set_option linter.unusedSimpArgs false
set_option maxRecDepth 100000
namespace Go.Proofs.YtoadpaaghjomnaaDoor.Codes
open Go.Deepv

def hasPre (s p : ByteArray) : Bool := decide (p.size ≤ s.size) && ((s.extract 0 p.size).toList == p.toList)
theorem hasPrefix_ok (s p : ByteArray) (h : List Res) : D env 57 [.d (.str s), .d (.str p)] h = some (.val (.d (.bool (hasPre s p))) h) := by
  have e82 : ∀ h, D env 82 [.d (.str s), .d (.str p)] h = some (.val (.d (.bool (hasPre s p))) h) := fun h => by
    rw [D_dat (F := A82) rfl rfl rfl rfl]
    unfold hasPre
    by_cases h1 : p.size ≤ s.size
    · have h2 : (p.size : Int) ≤ s.size := by omega
      simp -implicitDefEqProofs only [A82, B82, dbody, dexec, ostep, dop, ev, put, wants, dbin, dun, List.replicate, Nat.reduceAdd, Nat.reduceSub, Nat.reduceLT, Nat.reduceLeDiff, Nat.reduceMul, DV.cells, DV.flat, dload, DV.elems, reduceCtorEq, mask, DV.lows, DV.low, DV.coe, DV.isD, dresults, dresult, withHeap, lowCells, LSt.isReady, srcElems, DV.int, DV.mkAgg, same, mnmx2, nilness, bound, fill, flatCells, Int.reduceLE, Int.reduceLT, Int.reduceAdd, Int.reduceSub, Int.reduceNeg, Int.reduceEq, Int.reduceBEq, Int.reduceBNe, Nat.reduceBEq, Nat.reduceEqDiff, Int.reduceToNat, allocCells, stp, h1, h2]
    · have h2 : ¬ (p.size : Int) ≤ s.size := by omega
      simp -implicitDefEqProofs only [A82, B82, dbody, dexec, ostep, dop, ev, put, wants, dbin, dun, List.replicate, Nat.reduceAdd, Nat.reduceSub, Nat.reduceLT, Nat.reduceLeDiff, Nat.reduceMul, DV.cells, DV.flat, dload, DV.elems, reduceCtorEq, mask, DV.lows, DV.low, DV.coe, DV.isD, dresults, dresult, withHeap, lowCells, LSt.isReady, srcElems, DV.int, DV.mkAgg, same, mnmx2, nilness, bound, fill, flatCells, Int.reduceLE, Int.reduceLT, Int.reduceAdd, Int.reduceSub, Int.reduceNeg, Int.reduceEq, Int.reduceBEq, Int.reduceBNe, Nat.reduceBEq, Nat.reduceEqDiff, Int.reduceToNat, allocCells, stp, h1, h2]
  rw [D_dat (F := A57) rfl rfl rfl rfl]
  simp -implicitDefEqProofs only [A57, B57, dbody, dexec, ostep, dop, ev, put, wants, dbin, dun, List.replicate, Nat.reduceAdd, Nat.reduceSub, Nat.reduceLT, Nat.reduceLeDiff, Nat.reduceMul, DV.cells, DV.flat, dload, DV.elems, reduceCtorEq, mask, DV.lows, DV.low, DV.coe, DV.isD, dresults, dresult, withHeap, lowCells, LSt.isReady, srcElems, DV.int, DV.mkAgg, same, mnmx2, nilness, bound, fill, flatCells, Int.reduceLE, Int.reduceLT, Int.reduceAdd, Int.reduceSub, Int.reduceNeg, Int.reduceEq, Int.reduceBEq, Int.reduceBNe, Nat.reduceBEq, Nat.reduceEqDiff, Int.reduceToNat, allocCells, stp, e82]
end Go.Proofs.YtoadpaaghjomnaaDoor.Codes

set_option linter.unusedVariables false
set_option linter.unusedSimpArgs false
set_option maxRecDepth 100000
namespace Go.Proofs.YtoadpaaghjomnaaDoor.Codes
open Go.Deepv

def badR (s : ByteArray) (pos : Nat) : Bool := decide ((Utf8.decode s pos).1 = 65533) && !hasPre (s.extract pos s.size) ⟨#[239, 191, 189]⟩
/-- The runes from a place on, and where one is none. -/
def spl (s : ByteArray) : Nat → Nat → Int → Int → List Rn × Option (Int × Int)
  | 0, _, _, _ => ([], none)
  | f + 1, pos, l, c =>
    if pos < s.size then
      if badR s pos then ([], some (l, c))
      else
        let d := Utf8.decode s pos
        let x := spl s f (pos + d.2) (nxtL l d.1) (nxtC c d.1)
        (⟨d.1, pos, l, c⟩ :: x.1, x.2)
    else ([], none)

theorem dec_pos (s : ByteArray) (pos : Nat) : 1 ≤ (Utf8.decode s pos).2 := by
  unfold Utf8.decode
  simp only
  repeat' split
  all_goals simp

def walkB (l c : Int) : Res := .box [.d (.int .i64 l), .d (.int .i64 c)]
def faultB (e l c : Int) : Res := .box [.d (.int .i64 e), .d (.int .i64 l), .d (.int .i64 c)]
def st31 (s : ByteArray) (acc : List Rn) : List DV := [.d (.str s), .d .undef, .d .undef, .ptr 0 0, .ptr 1 0, .row 4 (acc.map Rn.enc) 2] ++ List.replicate 12 (.d .undef) ++ [.ptr 3 0] ++ List.replicate 33 (.d .undef)
def ex31 (v : FV) (acc : List Rn) : List DV := [.d .undef, .d .undef, .d v, .ptr 0 0, .d .undef, .row 4 (acc.map Rn.enc) 2] ++ List.replicate 46 (.d .undef)

theorem loop31 (s : ByteArray) (hs : s.size ≤ 16384) :
    ∀ (f pos : Nat) (l c : Int) (acc : List Rn), s.size ≤ pos + f → 0 ≤ l → l ≤ pos + 1 → 0 ≤ c → c ≤ pos + 1 → acc.length ≤ pos →
      ∃ W I, L env 4 true H31L6 X31L6 B31L6 (st31 s acc) [faultB 0 0 0, walkB l c, rr 4 acc.length, .iter s pos] =
        match spl s f pos l c with
        | (rs, none) => some (.exit 0, ex31 .undef (acc ++ rs), [faultB 0 0 0, W, rr 4 (acc ++ rs).length, I])
        | (rs, some (fl, fc)) => some (.ret, ex31 (.slice 4 []) (acc ++ rs), [faultB 1 fl fc, W, rr 4 (acc ++ rs).length, I]) := by
  obtain ⟨K, hK⟩ : ∃ K, L env 4 true H31L6 X31L6 B31L6 = K := ⟨_, rfl⟩
  rw [hK]
  intro f
  induction f with
  | zero =>
    intro pos l c acc h1 h2 h3 h4 h5 h6
    refine ⟨walkB l c, .iter s pos, ?_⟩
    have hp : ¬ pos < s.size := by omega
    rw [L_round hK]
    simp -implicitDefEqProofs only [B31L6, st31, ex31, faultB, walkB, spl, dbody, dexec, ostep, dop, ev, put, wants, dbin, dun, List.replicate, Nat.reduceAdd, Nat.reduceSub, Nat.reduceLT, Nat.reduceLeDiff, Nat.reduceMul, DV.cells, DV.flat, dload, DV.elems, reduceCtorEq, mask, DV.lows, DV.low, DV.coe, DV.isD, dresults, dresult, withHeap, lowCells, LSt.isReady, srcElems, DV.int, DV.mkAgg, same, mnmx2, nilness, bound, fill, flatCells, Int.reduceLE, Int.reduceLT, Int.reduceAdd, Int.reduceSub, Int.reduceNeg, Int.reduceEq, Int.reduceBEq, Int.reduceBNe, Nat.reduceBEq, Nat.reduceEqDiff, Int.reduceToNat, allocCells, stp, hp]
  | succ f ihf =>
    intro pos l c acc h1 h2 h3 h4 h5 h6
    by_cases hp : pos < s.size
    · cases hb : badR s pos with
      | true =>
        refine ⟨walkB l c, .iter s (pos + (Utf8.decode s pos).2), ?_⟩
        have hb' := hb
        unfold badR at hb
        simp only [Bool.and_eq_true, decide_eq_true_eq, Bool.not_eq_true'] at hb
        have e1 : ((Utf8.decode s pos).1 : Int) = 65533 := by rw [hb.1]; rfl
        have e2 := fun h => hasPrefix_ok (s.extract pos s.size) ⟨#[239, 191, 189]⟩ h
        rw [hb.2] at e2
        have e3 : (pos : Int) ≤ s.size := by omega
        rw [L_round hK]
        simp -implicitDefEqProofs only [B31L6, st31, ex31, faultB, walkB, spl, dbody, dexec, ostep, dop, ev, put, wants, dbin, dun, List.replicate, Nat.reduceAdd, Nat.reduceSub, Nat.reduceLT, Nat.reduceLeDiff, Nat.reduceMul, DV.cells, DV.flat, dload, DV.elems, reduceCtorEq, mask, DV.lows, DV.low, DV.coe, DV.isD, dresults, dresult, withHeap, lowCells, LSt.isReady, srcElems, DV.int, DV.mkAgg, same, mnmx2, nilness, bound, fill, flatCells, Int.reduceLE, Int.reduceLT, Int.reduceAdd, Int.reduceSub, Int.reduceNeg, Int.reduceEq, Int.reduceBEq, Int.reduceBNe, Nat.reduceBEq, Nat.reduceEqDiff, Int.reduceToNat, allocCells, stp, hp, hb', e1, e2, e3, putCells]
      | false =>
        have hd := dec_pos s pos
        have hb' := hb
        generalize hr : (Utf8.decode s pos).1 = r at *
        generalize hn : (Utf8.decode s pos).2 = n at *
        obtain ⟨W, I, ih⟩ := ihf (pos + n) (nxtL l r) (nxtC c r) (acc ++ [⟨r, pos, l, c⟩]) (by omega) (by unfold nxtL; split <;> omega) (by unfold nxtL; split <;> omega) (by unfold nxtC; split <;> omega) (by unfold nxtC; split <;> omega) (by simp; omega)
        refine ⟨W, I, ?_⟩
        have hsmall : small l ∧ small c := ⟨⟨by omega, by omega⟩, ⟨by omega, by omega⟩⟩
        have e4 := past_ok (h := [faultB 0 0 0, walkB l c, rr 4 (acc.length + 1), .iter s (pos + n)]) (id := 1) (l := l) (c := c) rfl hsmall.1 hsmall.2 (r : Int)
        have e5 : appRow 4 32 (.row 4 (acc.map Rn.enc) 2) (some (4, [Rn.enc ⟨r, pos, l, c⟩])) [faultB 0 0 0, walkB l c, rr 4 acc.length, .iter s (pos + n)] = some (.val (.row 4 (acc.map Rn.enc ++ [Rn.enc ⟨r, pos, l, c⟩]) 2) ([faultB 0 0 0, walkB l c, rr 4 acc.length, .iter s (pos + n)].set 2 (rr 4 ((acc.map Rn.enc).length + 1)))) :=
          appRow_one (by simp) (by simp; omega) (by decide) (by decide) 4 rfl
        simp only [List.length_map, List.set_cons_succ, List.set_cons_zero] at e5
        have e3 : (pos : Int) ≤ s.size := by omega
        have e2 := fun h => hasPrefix_ok (s.extract pos s.size) ⟨#[239, 191, 189]⟩ h
        have len1 : (acc ++ [(⟨r, pos, l, c⟩ : Rn)]).length = acc.length + 1 := by simp
        have map1 : (acc ++ [(⟨r, pos, l, c⟩ : Rn)]).map Rn.enc = acc.map Rn.enc ++ [Rn.enc ⟨r, pos, l, c⟩] := by simp
        have hspl : spl s (f + 1) pos l c = (⟨r, pos, l, c⟩ :: (spl s f (pos + n) (nxtL l r) (nxtC c r)).1, (spl s f (pos + n) (nxtL l r) (nxtC c r)).2) := by
          simp only [spl, hp, hb', hr, hn, if_true, Bool.false_eq_true, if_false]
        rw [hspl]
        have fin : ∀ a h, K a h = (match spl s f (pos + n) (nxtL l r) (nxtC c r) with
            | (rs, none) => some (.exit 0, ex31 .undef (acc ++ [(⟨r, pos, l, c⟩ : Rn)] ++ rs), [faultB 0 0 0, W, rr 4 (acc ++ [(⟨r, pos, l, c⟩ : Rn)] ++ rs).length, I])
            | (rs, some (fl, fc)) => some (.ret, ex31 (.slice 4 []) (acc ++ [(⟨r, pos, l, c⟩ : Rn)] ++ rs), [faultB 1 fl fc, W, rr 4 (acc ++ [(⟨r, pos, l, c⟩ : Rn)] ++ rs).length, I])) →
            K a h = (match (((⟨r, pos, l, c⟩ : Rn) :: (spl s f (pos + n) (nxtL l r) (nxtC c r)).1, (spl s f (pos + n) (nxtL l r) (nxtC c r)).2) : List Rn × Option (Int × Int)) with
            | (rs, none) => some (.exit 0, ex31 .undef (acc ++ rs), [faultB 0 0 0, W, rr 4 (acc ++ rs).length, I])
            | (rs, some (fl, fc)) => some (.ret, ex31 (.slice 4 []) (acc ++ rs), [faultB 1 fl fc, W, rr 4 (acc ++ rs).length, I])) := fun a h hk => by
          rw [hk]
          generalize spl s f (pos + n) (nxtL l r) (nxtC c r) = x
          rcases x with ⟨rs, _ | ⟨fl, fc⟩⟩ <;> simp only [List.append_assoc, List.cons_append, List.nil_append]
        have ih2 := fin _ _ ih
        generalize (match (((⟨r, pos, l, c⟩ : Rn) :: (spl s f (pos + n) (nxtL l r) (nxtC c r)).1, (spl s f (pos + n) (nxtL l r) (nxtC c r)).2) : List Rn × Option (Int × Int)) with
            | (rs, none) => some (DExit.exit 0, ex31 .undef (acc ++ rs), [faultB 0 0 0, W, rr 4 (acc ++ rs).length, I])
            | (rs, some (fl, fc)) => some (DExit.ret, ex31 (.slice 4 []) (acc ++ rs), [faultB 1 fl fc, W, rr 4 (acc ++ rs).length, I])) = RHS at *
        simp only [st31, len1, map1, Rn.enc, List.replicate, List.cons_append, List.nil_append, walkB, faultB] at ih2
        simp only [Rn.enc, walkB, faultB] at e5
        simp only [walkB, faultB, List.set_cons_succ, List.set_cons_zero] at e4
        rw [L_round hK]
        by_cases h0 : r = 65533
        · subst h0
          have hpre : hasPre (s.extract pos s.size) ⟨#[239, 191, 189]⟩ = true := by
            unfold badR at hb
            rw [hr] at hb
            simpa using hb
          rw [hpre] at e2
          have e1 : ((65533 : Nat) : Int) = 65533 := rfl
          rw [e1] at e5
          try rw [e1] at e4
          simp only [e1] at ih2
          simp -implicitDefEqProofs only [B31L6, st31, faultB, walkB, dbody, dexec, ostep, dop, ev, put, wants, dbin, dun, List.replicate, Nat.reduceAdd, Nat.reduceSub, Nat.reduceLT, Nat.reduceLeDiff, Nat.reduceMul, DV.cells, DV.flat, dload, DV.elems, reduceCtorEq, mask, DV.lows, DV.low, DV.coe, DV.isD, dresults, dresult, withHeap, lowCells, LSt.isReady, srcElems, DV.int, DV.mkAgg, same, mnmx2, nilness, bound, fill, flatCells, Int.reduceLE, Int.reduceLT, Int.reduceAdd, Int.reduceSub, Int.reduceNeg, Int.reduceEq, Int.reduceBEq, Int.reduceBNe, Nat.reduceBEq, Nat.reduceEqDiff, Int.reduceToNat, allocCells, stp, hp, hr, hn, e1, e2, e3, e4, e5, ih2]
        · have e1 : ((r : Int) == 65533) = false := by simp; omega
          simp -implicitDefEqProofs only [B31L6, st31, faultB, walkB, dbody, dexec, ostep, dop, ev, put, wants, dbin, dun, List.replicate, Nat.reduceAdd, Nat.reduceSub, Nat.reduceLT, Nat.reduceLeDiff, Nat.reduceMul, DV.cells, DV.flat, dload, DV.elems, reduceCtorEq, mask, DV.lows, DV.low, DV.coe, DV.isD, dresults, dresult, withHeap, lowCells, LSt.isReady, srcElems, DV.int, DV.mkAgg, same, mnmx2, nilness, bound, fill, flatCells, Int.reduceLE, Int.reduceLT, Int.reduceAdd, Int.reduceSub, Int.reduceNeg, Int.reduceEq, Int.reduceBEq, Int.reduceBNe, Nat.reduceBEq, Nat.reduceEqDiff, Int.reduceToNat, allocCells, stp, hp, hr, hn, e1, e2, e3, e4, e5, ih2]
    · refine ⟨walkB l c, .iter s pos, ?_⟩
      rw [L_round hK]
      simp -implicitDefEqProofs only [B31L6, st31, ex31, faultB, walkB, spl, dbody, dexec, ostep, dop, ev, put, wants, dbin, dun, List.replicate, Nat.reduceAdd, Nat.reduceSub, Nat.reduceLT, Nat.reduceLeDiff, Nat.reduceMul, DV.cells, DV.flat, dload, DV.elems, reduceCtorEq, mask, DV.lows, DV.low, DV.coe, DV.isD, dresults, dresult, withHeap, lowCells, LSt.isReady, srcElems, DV.int, DV.mkAgg, same, mnmx2, nilness, bound, fill, flatCells, Int.reduceLE, Int.reduceLT, Int.reduceAdd, Int.reduceSub, Int.reduceNeg, Int.reduceEq, Int.reduceBEq, Int.reduceBNe, Nat.reduceBEq, Nat.reduceEqDiff, Int.reduceToNat, allocCells, stp, hp]
end Go.Proofs.YtoadpaaghjomnaaDoor.Codes

set_option linter.unusedVariables false
set_option linter.unusedSimpArgs false
set_option maxRecDepth 100000
namespace Go.Proofs.YtoadpaaghjomnaaDoor.Codes
open Go.Deepv

/-- What Split tells: the runes, and what is wrong. -/
def splitV (s : ByteArray) : FV :=
  if s.size ≤ 16384 then match spl s s.size 0 1 1 with
    | (rs, none) => .tup [.slice 4 (rs.map Rn.enc), .agg [.int .i64 0, .int .i64 0, .int .i64 0]]
    | (_, some (l, c)) => .tup [.slice 4 [], .agg [.int .i64 1, .int .i64 l, .int .i64 c]]
  else .tup [.slice 4 [], .agg [.int .i64 5, .int .i64 1, .int .i64 1]]

theorem split_ok (s : ByteArray) (h : List Res) : D env 31 [.d (.str s)] h = some (.val (.d (splitV s)) h) := by
  rw [D_dat (F := A31) rfl rfl rfl rfl]
  unfold splitV
  have eb := fun h => begun_ok h
  by_cases hs : s.size ≤ 16384
  · have h1 : ¬ (16384 : Int) < s.size := by omega
    obtain ⟨W, I, hl⟩ := loop31 s hs s.size 0 1 1 [] (by omega) (by omega) (by omega) (by omega) (by omega) (by simp)
    have r0 : rr 4 ([] : List Rn).length = .nilrow := rfl
    rw [r0] at hl
    rw [if_pos hs]
    generalize spl s s.size 0 1 1 = x at *
    rcases x with ⟨rs, _ | ⟨fl, fc⟩⟩
    · simp only [st31, ex31, walkB, faultB, List.map_nil, List.replicate, List.cons_append, List.nil_append] at hl
      simp -implicitDefEqProofs only [A31, B31, dbody, dexec, ostep, dop, ev, put, wants, dbin, dun, List.replicate, Nat.reduceAdd, Nat.reduceSub, Nat.reduceLT, Nat.reduceLeDiff, Nat.reduceMul, DV.cells, DV.flat, dload, DV.elems, reduceCtorEq, mask, DV.lows, DV.low, DV.coe, DV.isD, dresults, dresult, withHeap, lowCells, LSt.isReady, srcElems, DV.int, DV.mkAgg, same, mnmx2, nilness, bound, fill, flatCells, Int.reduceLE, Int.reduceLT, Int.reduceAdd, Int.reduceSub, Int.reduceNeg, Int.reduceEq, Int.reduceBEq, Int.reduceBNe, Nat.reduceBEq, Nat.reduceEqDiff, Int.reduceToNat, allocCells, stp, eb, h1, hl, putCells]
    · simp only [st31, ex31, walkB, faultB, List.map_nil, List.replicate, List.cons_append, List.nil_append] at hl
      simp -implicitDefEqProofs only [A31, B31, dbody, dexec, ostep, dop, ev, put, wants, dbin, dun, List.replicate, Nat.reduceAdd, Nat.reduceSub, Nat.reduceLT, Nat.reduceLeDiff, Nat.reduceMul, DV.cells, DV.flat, dload, DV.elems, reduceCtorEq, mask, DV.lows, DV.low, DV.coe, DV.isD, dresults, dresult, withHeap, lowCells, LSt.isReady, srcElems, DV.int, DV.mkAgg, same, mnmx2, nilness, bound, fill, flatCells, Int.reduceLE, Int.reduceLT, Int.reduceAdd, Int.reduceSub, Int.reduceNeg, Int.reduceEq, Int.reduceBEq, Int.reduceBNe, Nat.reduceBEq, Nat.reduceEqDiff, Int.reduceToNat, allocCells, stp, eb, h1, hl, putCells]
  · have h1 : (16384 : Int) < s.size := by omega
    rw [if_neg hs]
    simp -implicitDefEqProofs only [A31, B31, dbody, dexec, ostep, dop, ev, put, wants, dbin, dun, List.replicate, Nat.reduceAdd, Nat.reduceSub, Nat.reduceLT, Nat.reduceLeDiff, Nat.reduceMul, DV.cells, DV.flat, dload, DV.elems, reduceCtorEq, mask, DV.lows, DV.low, DV.coe, DV.isD, dresults, dresult, withHeap, lowCells, LSt.isReady, srcElems, DV.int, DV.mkAgg, same, mnmx2, nilness, bound, fill, flatCells, Int.reduceLE, Int.reduceLT, Int.reduceAdd, Int.reduceSub, Int.reduceNeg, Int.reduceEq, Int.reduceBEq, Int.reduceBNe, Nat.reduceBEq, Nat.reduceEqDiff, Int.reduceToNat, allocCells, stp, eb, h1, putCells]
end Go.Proofs.YtoadpaaghjomnaaDoor.Codes

set_option linter.unusedVariables false
set_option linter.unusedSimpArgs false
set_option maxRecDepth 100000
namespace Go.Proofs.YtoadpaaghjomnaaDoor.Codes
open Go.Deepv

theorem wrap_i32 {n : Int} (h0 : -2147483648 ≤ n) (h1 : n ≤ 2147483647) : IntKind.i32.wrap n = n := by
  simp only [IntKind.wrap, IntKind.signed, IntKind.bits]
  simp [Int.bmod]
  split <;> omega
theorem hex_ok (r : Int) (h : List Res) : D env 89 [.d (.int .i32 r)] h = some (.val (.d (.int .i64 (hexOf r))) h) := by
  rw [D_dat (F := A89) rfl rfl rfl rfl]
  unfold hexOf
  by_cases h1 : 48 ≤ r
  · by_cases h2 : r ≤ 57
    · have w1 : IntKind.i32.wrap (r - 48) = r - 48 := wrap_i32 (by omega) (by omega)
      have w2 : IntKind.i64.wrap (r - 48) = r - 48 := wrap_i64 (by omega) (by omega)
      simp -implicitDefEqProofs only [A89, B89, dbody, dexec, ostep, dop, ev, put, wants, dbin, dun, List.replicate, Nat.reduceAdd, Nat.reduceSub, Nat.reduceLT, Nat.reduceLeDiff, Nat.reduceMul, DV.cells, DV.flat, dload, DV.elems, reduceCtorEq, mask, DV.lows, DV.low, DV.coe, DV.isD, dresults, dresult, withHeap, lowCells, LSt.isReady, srcElems, DV.int, DV.mkAgg, same, mnmx2, nilness, bound, fill, flatCells, Int.reduceLE, Int.reduceLT, Int.reduceAdd, Int.reduceSub, Int.reduceNeg, Int.reduceEq, Int.reduceBEq, Int.reduceBNe, Nat.reduceBEq, Nat.reduceEqDiff, Int.reduceToNat, allocCells, stp, h1, h2, w1, w2]
    · by_cases h3 : 97 ≤ r
      · by_cases h4 : r ≤ 102
        · have w1 : IntKind.i32.wrap (r - 97) = r - 97 := wrap_i32 (by omega) (by omega)
          have w2 : IntKind.i64.wrap (r - 97) = r - 97 := wrap_i64 (by omega) (by omega)
          have w3 : IntKind.i64.wrap (r - 97 + 10) = r - 97 + 10 := wrap_i64 (by omega) (by omega)
          simp -implicitDefEqProofs only [A89, B89, dbody, dexec, ostep, dop, ev, put, wants, dbin, dun, List.replicate, Nat.reduceAdd, Nat.reduceSub, Nat.reduceLT, Nat.reduceLeDiff, Nat.reduceMul, DV.cells, DV.flat, dload, DV.elems, reduceCtorEq, mask, DV.lows, DV.low, DV.coe, DV.isD, dresults, dresult, withHeap, lowCells, LSt.isReady, srcElems, DV.int, DV.mkAgg, same, mnmx2, nilness, bound, fill, flatCells, Int.reduceLE, Int.reduceLT, Int.reduceAdd, Int.reduceSub, Int.reduceNeg, Int.reduceEq, Int.reduceBEq, Int.reduceBNe, Nat.reduceBEq, Nat.reduceEqDiff, Int.reduceToNat, allocCells, stp, h1, h2, h3, h4, w1, w2, w3]
        · simp -implicitDefEqProofs only [A89, B89, dbody, dexec, ostep, dop, ev, put, wants, dbin, dun, List.replicate, Nat.reduceAdd, Nat.reduceSub, Nat.reduceLT, Nat.reduceLeDiff, Nat.reduceMul, DV.cells, DV.flat, dload, DV.elems, reduceCtorEq, mask, DV.lows, DV.low, DV.coe, DV.isD, dresults, dresult, withHeap, lowCells, LSt.isReady, srcElems, DV.int, DV.mkAgg, same, mnmx2, nilness, bound, fill, flatCells, Int.reduceLE, Int.reduceLT, Int.reduceAdd, Int.reduceSub, Int.reduceNeg, Int.reduceEq, Int.reduceBEq, Int.reduceBNe, Nat.reduceBEq, Nat.reduceEqDiff, Int.reduceToNat, allocCells, stp, h1, h2, h3, h4]
      · simp -implicitDefEqProofs only [A89, B89, dbody, dexec, ostep, dop, ev, put, wants, dbin, dun, List.replicate, Nat.reduceAdd, Nat.reduceSub, Nat.reduceLT, Nat.reduceLeDiff, Nat.reduceMul, DV.cells, DV.flat, dload, DV.elems, reduceCtorEq, mask, DV.lows, DV.low, DV.coe, DV.isD, dresults, dresult, withHeap, lowCells, LSt.isReady, srcElems, DV.int, DV.mkAgg, same, mnmx2, nilness, bound, fill, flatCells, Int.reduceLE, Int.reduceLT, Int.reduceAdd, Int.reduceSub, Int.reduceNeg, Int.reduceEq, Int.reduceBEq, Int.reduceBNe, Nat.reduceBEq, Nat.reduceEqDiff, Int.reduceToNat, allocCells, stp, h1, h2, h3]
  · have h3 : ¬ 97 ≤ r := by omega
    simp -implicitDefEqProofs only [A89, B89, dbody, dexec, ostep, dop, ev, put, wants, dbin, dun, List.replicate, Nat.reduceAdd, Nat.reduceSub, Nat.reduceLT, Nat.reduceLeDiff, Nat.reduceMul, DV.cells, DV.flat, dload, DV.elems, reduceCtorEq, mask, DV.lows, DV.low, DV.coe, DV.isD, dresults, dresult, withHeap, lowCells, LSt.isReady, srcElems, DV.int, DV.mkAgg, same, mnmx2, nilness, bound, fill, flatCells, Int.reduceLE, Int.reduceLT, Int.reduceAdd, Int.reduceSub, Int.reduceNeg, Int.reduceEq, Int.reduceBEq, Int.reduceBNe, Nat.reduceBEq, Nat.reduceEqDiff, Int.reduceToNat, allocCells, stp, h1, h3]
end Go.Proofs.YtoadpaaghjomnaaDoor.Codes
