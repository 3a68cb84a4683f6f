/-
  A quoted text is read, whole; a sign is read.
  A sign is read, whole.
  A token is read.
  Conditions: none.
-/
import Derived.Test.YtoadpaaghjomnaaDoorMG
set_option linter.unusedVariables false
set_option linter.unusedSimpArgs false
set_option maxRecDepth 100000
namespace Go.Proofs.YtoadpaaghjomnaaDoor.Codes
open Go Go.Deepv

theorem text_ok {H : List Res} {id : Nat} {rs : List Rn} {k : Nat} {l c kind num tl tc : Int} {text : ByteArray} {q0 b0 : Res} (hid : id < H.length) (hsc : ∀ x ∈ rs, rScal x.r = true) (hsz : rs.length ≤ 100000) (hk : k ≤ rs.length) :
    ∃ fin, D env 66 [.ptr id 0, .ptr (H.length + 3) 0] (th H id (rd rs k 0 l c) q0 b0 ⟨#[]⟩ kind text num tl tc) = some (.val (.d (.tup [])) fin) ∧
      match qtK rs (rs.length + 1) (k + 1) ⟨#[]⟩ with
      | some (b, k') => fin = th H id (if 64 < b.size then rd rs k' 5 tl tc else rd rs k' 0 l c) q0 b0 b 4 text num tl tc
      | none => ∃ k' b, fin = th H id (rd rs k' 4 tl tc) q0 b0 b 4 text num tl tc := by
  obtain ⟨fin, g1, g2⟩ := loop66 (l := l) (c := c) (num := num) (tl := tl) (tc := tc) (text := text) (q0 := q0) (b0 := b0) hid hsc (rs.length + 1) (k + 1) ⟨#[]⟩ (by omega) (by omega) (by have : (⟨#[]⟩ : ByteArray).size = 0 := rfl; omega)
  refine ⟨fin, ?_, g2⟩
  have w1 : IntKind.i64.wrap ((k : Int) + 1) = ((k + 1 : Nat) : Int) := by rw [wrap_i64 (by omega) (by omega)]; simp
  have tk4 : fin.take (H.length + 4) = fin := by
    have : fin.length = H.length + 4 := by
      cases hq : qtK rs (rs.length + 1) (k + 1) ⟨#[]⟩ with
      | none =>
        rw [hq] at g2
        obtain ⟨k', b, rfl⟩ := g2
        simp [th]
      | some v =>
        rw [hq] at g2
        simp only at g2
        rw [g2]
        simp [th]
    exact List.take_of_length_le (by omega)
  rw [D_own (F := A66) rfl rfl rfl rfl]
  simp only [th, tk, rd, st66, List.replicate, List.cons_append, List.nil_append] at *
  simp -implicitDefEqProofs only [A66, B66, dbody, dexec, ostep, dop, ev, put, wants, dbin, dun, List.replicate, Nat.reduceAdd, Nat.reduceSub, Nat.reduceLT, Nat.reduceLeDiff, Nat.reduceMul, DV.cells, DV.flat, dload, DV.elems, reduceCtorEq, mask, DV.lows, DV.low, DV.coe, DV.isD, dresults, dresult, withHeap, lowCells, LSt.isReady, srcElems, DV.int, DV.mkAgg, same, mnmx2, nilness, bound, fill, flatCells, Int.reduceLE, Int.reduceLT, Int.reduceAdd, Int.reduceSub, Int.reduceNeg, Int.reduceEq, Int.reduceBEq, Int.reduceBNe, Nat.reduceBEq, Nat.reduceEqDiff, Int.reduceToNat, allocCells, stp, s_id hid, s_set hid, s_at, s_at0, s_upd, s_take, s_len, g1, w1, putCells, tk4]

def signsB : ByteArray := ⟨#[40, 41, 44, 124, 61, 58, 43, 45, 42, 47, 37, 60, 95, 126]⟩
def isSign (c : Int) : Bool := signsB.data.toList.any fun b => ((b.toNat : Nat) : Int) == c
theorem signs_at : ∀ x : Fin 127, decide (Lib.indexByte signsB.data.toList ((x.val : Nat) : Int).toNat.toUInt8 < 0) = !isSign ((x.val : Nat) : Int) := by decide
theorem isSign_lt {c : Int} (h : isSign c = true) : 0 ≤ c ∧ c < 127 := by
  unfold isSign signsB at h
  simp at h
  omega
/-- How many runes a sign has; 0: it is none. -/
def signN (c d : Int) : Nat := if c = 45 ∧ d = 62 ∨ c = 60 ∧ d = 61 ∨ c = 61 ∧ d = 61 then 2 else if isSign c then 1 else 0

theorem encode_encB {w : Int} (hw : rScal w = true) : Utf8.encode w = encB w := by
  obtain ⟨h0, hv⟩ := (rScal_iff w).1 hw
  obtain ⟨c, rfl⟩ : ∃ c : Nat, w = c := ⟨w.toNat, (Int.toNat_of_nonneg h0).symm⟩
  have := encode_encL hv
  rw [Int.toNat_natCast] at this
  unfold encB encI
  rw [Int.toNat_natCast, ← this]

def st67 (id tid n i : Nat) : List DV := [.ptr id 0, .ptr tid 0] ++ List.replicate 46 (.d .undef) ++ [.d (.int .i64 n), .d (.int .i64 i)] ++ List.replicate 19 (.d .undef)
theorem loop67 {h : List Res} {id tid : Nat} {rs : List Rn} {k n : Nat} {l c num tl tc : Int} {b : DV} (W : Two h id tid) (hsz : rs.length ≤ 100000) (hn : k + n ≤ rs.length) (hsc : ∀ x ∈ rs, rScal x.r = true) :
    ∀ (j i : Nat), i + j = n → L env h.length true H67L10 X67L10 B67L10 (st67 id tid n i) (two h id tid (rd rs (k + i) 0 l c) (tk 6 (textR ((rs.drop k).take i)) num b tl tc)) =
      some (.exit 1, List.replicate 69 (.d .undef), two h id tid (rd rs (k + n) 0 l c) (tk 6 (textR ((rs.drop k).take n)) num b tl tc)) := by
  obtain ⟨K, hK⟩ : ∃ K, L env h.length true H67L10 X67L10 B67L10 = K := ⟨_, rfl⟩
  rw [hK]
  have wl := W.l1
  have wl2 := W.l2
  have tk0 : ∀ R T, (two h id tid R T).take h.length = two h id tid R T := fun R T => List.take_of_length_le (by rw [two_len]; exact Nat.le_refl _)
  intro j
  induction j with
  | zero =>
    intro i hi
    have : i = n := by omega
    subst this
    rw [L_round hK]
    simp -implicitDefEqProofs only [B67L10, st67, dbody, dexec, ostep, dop, ev, put, wants, dbin, dun, List.replicate, Nat.reduceAdd, Nat.reduceSub, Nat.reduceLT, Nat.reduceLeDiff, Nat.reduceMul, DV.cells, DV.flat, dload, DV.elems, reduceCtorEq, mask, DV.lows, DV.low, DV.coe, DV.isD, dresults, dresult, withHeap, lowCells, LSt.isReady, srcElems, DV.int, DV.mkAgg, same, mnmx2, nilness, bound, fill, flatCells, Int.reduceLE, Int.reduceLT, Int.reduceAdd, Int.reduceSub, Int.reduceNeg, Int.reduceEq, Int.reduceBEq, Int.reduceBNe, Nat.reduceBEq, Nat.reduceEqDiff, Int.reduceToNat, allocCells, stp, tk0]
  | succ j ih =>
    intro i hi
    have hx : rs[k + i]? = some rs[k + i] := List.getElem?_eq_getElem _
    generalize rs[k + i] = x at hx
    have hs := hsc x (List.mem_of_getElem? hx)
    have htk : (rs.drop k).take (i + 1) = (rs.drop k).take i ++ [x] := by
      rw [List.take_add_one, List.getElem?_drop, hx]
      rfl
    have g1 : (i : Int) < n := by omega
    have e61 := fun T => peek_ok (two_id' (r := rd rs (k + i) 0 l c) (t := T) W) 0 (by omega)
    have hp : peekR rs (k + i + 0) = x.r := by simp [peekR, hx]
    have z0 : ((0 : Nat) : Int) = 0 := rfl
    rw [hp, z0] at e61
    have hsize := textR_size ((rs.drop k).take i)
    have hlen : ((rs.drop k).take i).length ≤ i := List.length_take_le ..
    have h5 : (encB x.r).size ≤ 4 := by rw [encB_size]; exact encL_le _
    have hadd : (textR ((rs.drop k).take i)).size + (encB x.r).size ≤ 9223372036854775807 := by omega
    have w1 : IntKind.i64.wrap ((i : Int) + 1) = ((i + 1 : Nat) : Int) := by rw [wrap_i64 (by omega) (by omega)]; simp
    have w2 : IntKind.i64.wrap (((k + i : Nat) : Int) + 1) = ((k + i + 1 : Nat) : Int) := by rw [wrap_i64 (by omega) (by omega)]; simp
    have ih := ih (i + 1) (by omega)
    rw [htk, textR_snoc, ← Nat.add_assoc] at ih
    have ee := encode_encB hs
    generalize textR ((rs.drop k).take i) = acc at *
    simp only [tk, rd, st67, List.replicate, List.cons_append, List.nil_append] at *
    rw [L_round hK]
    simp -implicitDefEqProofs only [B67L10, dbody, dexec, ostep, dop, ev, put, wants, dbin, dun, List.replicate, Nat.reduceAdd, Nat.reduceSub, Nat.reduceLT, Nat.reduceLeDiff, Nat.reduceMul, DV.cells, DV.flat, dload, DV.elems, reduceCtorEq, mask, DV.lows, DV.low, DV.coe, DV.isD, dresults, dresult, withHeap, lowCells, LSt.isReady, srcElems, DV.int, DV.mkAgg, same, mnmx2, nilness, bound, fill, flatCells, Int.reduceLE, Int.reduceLT, Int.reduceAdd, Int.reduceSub, Int.reduceNeg, Int.reduceEq, Int.reduceBEq, Int.reduceBNe, Nat.reduceBEq, Nat.reduceEqDiff, Int.reduceToNat, allocCells, stp, tk0, two_len, two_id' W, two_tid' W, two_setid' W, two_settid' W, e61, g1, w1, w2, ee, hadd, ih, wl, wl2, putCells]
end Go.Proofs.YtoadpaaghjomnaaDoor.Codes

set_option linter.unusedVariables false
set_option linter.unusedSimpArgs false
set_option maxRecDepth 100000
namespace Go.Proofs.YtoadpaaghjomnaaDoor.Codes
open Go Go.Deepv

set_option maxHeartbeats 2000000 in
theorem sign_ok {h : List Res} {id tid : Nat} {rs : List Rn} {k : Nat} {l c kind num tl tc : Int} {b : DV} (W : Two h id tid) (hsz : rs.length ≤ 100000) (hk : k < rs.length) (hsc : ∀ x ∈ rs, rScal x.r = true) :
    D env 67 [.ptr id 0, .ptr tid 0] (two h id tid (rd rs k 0 l c) (tk kind ⟨#[]⟩ num b tl tc)) =
      some (.val (.d (.tup [])) (if signN (peekR rs k) (peekR rs (k + 1)) = 0 then two h id tid (rd rs k 2 tl tc) (tk 6 ⟨#[]⟩ num b tl tc)
        else two h id tid (rd rs (k + signN (peekR rs k) (peekR rs (k + 1))) 0 l c) (tk 6 (textR ((rs.drop k).take (signN (peekR rs k) (peekR rs (k + 1))))) num b tl tc))) := by
  have e61 := fun T => peek_ok (two_id' (r := rd rs k 0 l c) (t := T) W) 0 (by omega)
  have e61b := fun T => peek_ok (two_id' (r := rd rs k 0 l c) (t := T) W) 1 (by omega)
  have z0 : ((0 : Nat) : Int) = 0 := rfl
  have z1 : ((1 : Nat) : Int) = 1 := rfl
  have z2 : ((2 : Nat) : Int) = 2 := rfl
  rw [Nat.add_zero, z0] at e61
  rw [z1] at e61b
  have hl := fun n (hn : k + n ≤ rs.length) => loop67 (n := n) (l := l) (c := c) (num := num) (tl := tl) (tc := tc) (b := b) W hsz hn hsc n 0 (by omega)
  have h0 : 0 ≤ peekR rs k := by
    have hx : rs[k]? = some rs[k] := List.getElem?_eq_getElem _
    have := hsc rs[k] (List.mem_of_getElem? hx)
    simp only [peekR, hx]
    exact ((rScal_iff _).1 this).1
  have hd : 0 ≤ peekR rs (k + 1) → k + 2 ≤ rs.length := fun hh => by
    rcases Nat.lt_or_ge (k + 1) rs.length with h | h
    · omega
    · have : rs[k + 1]? = none := by simp [h]
      simp [peekR, this] at hh
  have l1 := hl 1 (by omega)
  have l2 := fun hh => hl 2 (hd hh)
  have e35 := fail_ok (h := two h id tid (rd rs k 0 l c) (tk 6 ⟨#[]⟩ num b tl tc)) (two_id' W) 2 tl tc
  simp only [if_true, two_setid' W] at e35
  have e87 := fun h => indexByte_ok signsB (peekR rs k) h
  have wu : peekR rs k < 127 → IntKind.u8.wrap (peekR rs k) = peekR rs k := fun hh => wrap_u8 h0 (by omega)
  have hsn : ∀ hh : peekR rs k < 127, (Lib.indexByte signsB.data.toList (peekR rs k).toNat.toUInt8 < 0) ↔ isSign (peekR rs k) = false := fun hh => by
    have := signs_at ⟨(peekR rs k).toNat, by omega⟩
    simp only [Int.toNat_of_nonneg h0] at this
    rw [← decide_eq_true_iff (p := Lib.indexByte signsB.data.toList (peekR rs k).toNat.toUInt8 < 0), this]
    simp
  have t0 : textR ((rs.drop k).take 0) = ⟨#[]⟩ := rfl
  rw [Nat.add_zero, t0] at l1
  simp only [Nat.add_zero, t0] at l2
  have tk0 : ∀ R T, (two h id tid R T).take h.length = two h id tid R T := fun R T => List.take_of_length_le (by rw [two_len]; exact Nat.le_refl _)
  generalize hi : Lib.indexByte signsB.data.toList (peekR rs k).toNat.toUInt8 = ix at *
  simp only [tk, rd, st67, signsB, z0, z1, z2, List.replicate, List.cons_append, List.nil_append] at *
  rw [D_own (F := A67) rfl rfl rfl rfl]
  by_cases c1 : peekR rs k = 45 ∧ peekR rs (k + 1) = 62
  · have hs : signN (peekR rs k) (peekR rs (k + 1)) = 2 := by rw [c1.1, c1.2]; decide
    have l2 := l2 (by omega)
    rw [hs, if_neg (by decide)]
    rw [c1.1] at e61
    rw [c1.2] at e61b
    simp -implicitDefEqProofs only [A67, B67, dbody, dexec, ostep, dop, ev, put, wants, dbin, dun, List.replicate, Nat.reduceAdd, Nat.reduceSub, Nat.reduceLT, Nat.reduceLeDiff, Nat.reduceMul, DV.cells, DV.flat, dload, DV.elems, reduceCtorEq, mask, DV.lows, DV.low, DV.coe, DV.isD, dresults, dresult, withHeap, lowCells, LSt.isReady, srcElems, DV.int, DV.mkAgg, same, mnmx2, nilness, bound, fill, flatCells, Int.reduceLE, Int.reduceLT, Int.reduceAdd, Int.reduceSub, Int.reduceNeg, Int.reduceEq, Int.reduceBEq, Int.reduceBNe, Nat.reduceBEq, Nat.reduceEqDiff, Int.reduceToNat, allocCells, stp, two_len, two_id' W, two_tid' W, two_setid' W, two_settid' W, e61, e61b, tk0, putCells, l2]
  by_cases c2 : peekR rs k = 60 ∧ peekR rs (k + 1) = 61
  · have hs : signN (peekR rs k) (peekR rs (k + 1)) = 2 := by rw [c2.1, c2.2]; decide
    have l2 := l2 (by omega)
    rw [hs, if_neg (by decide)]
    rw [c2.1] at e61
    rw [c2.2] at e61b
    simp -implicitDefEqProofs only [A67, B67, dbody, dexec, ostep, dop, ev, put, wants, dbin, dun, List.replicate, Nat.reduceAdd, Nat.reduceSub, Nat.reduceLT, Nat.reduceLeDiff, Nat.reduceMul, DV.cells, DV.flat, dload, DV.elems, reduceCtorEq, mask, DV.lows, DV.low, DV.coe, DV.isD, dresults, dresult, withHeap, lowCells, LSt.isReady, srcElems, DV.int, DV.mkAgg, same, mnmx2, nilness, bound, fill, flatCells, Int.reduceLE, Int.reduceLT, Int.reduceAdd, Int.reduceSub, Int.reduceNeg, Int.reduceEq, Int.reduceBEq, Int.reduceBNe, Nat.reduceBEq, Nat.reduceEqDiff, Int.reduceToNat, allocCells, stp, two_len, two_id' W, two_tid' W, two_setid' W, two_settid' W, e61, e61b, tk0, putCells, l2]
  by_cases c3 : peekR rs k = 61 ∧ peekR rs (k + 1) = 61
  · have hs : signN (peekR rs k) (peekR rs (k + 1)) = 2 := by rw [c3.1, c3.2]; decide
    have l2 := l2 (by omega)
    rw [hs, if_neg (by decide)]
    rw [c3.1] at e61
    rw [c3.2] at e61b
    simp -implicitDefEqProofs only [A67, B67, dbody, dexec, ostep, dop, ev, put, wants, dbin, dun, List.replicate, Nat.reduceAdd, Nat.reduceSub, Nat.reduceLT, Nat.reduceLeDiff, Nat.reduceMul, DV.cells, DV.flat, dload, DV.elems, reduceCtorEq, mask, DV.lows, DV.low, DV.coe, DV.isD, dresults, dresult, withHeap, lowCells, LSt.isReady, srcElems, DV.int, DV.mkAgg, same, mnmx2, nilness, bound, fill, flatCells, Int.reduceLE, Int.reduceLT, Int.reduceAdd, Int.reduceSub, Int.reduceNeg, Int.reduceEq, Int.reduceBEq, Int.reduceBNe, Nat.reduceBEq, Nat.reduceEqDiff, Int.reduceToNat, allocCells, stp, two_len, two_id' W, two_tid' W, two_setid' W, two_settid' W, e61, e61b, tk0, putCells, l2]
  by_cases d1 : peekR rs k = 45
  · have hb : (peekR rs (k + 1) == 62) = false := by simp; exact fun h => c1 ⟨d1, h⟩
    have hs : signN (peekR rs k) (peekR rs (k + 1)) = 1 := by
      have h1 : isSign 45 = true := by decide
      unfold signN
      rw [d1, if_neg (by have := c1; omega), if_pos h1]
    have hx : ¬ ix < 0 := by
      rw [hsn (by omega), d1]
      decide
    have wu := wu (by omega)
    rw [hs, if_neg (by decide)]
    rw [d1] at e61 e87 wu
    simp -implicitDefEqProofs only [A67, B67, dbody, dexec, ostep, dop, ev, put, wants, dbin, dun, List.replicate, Nat.reduceAdd, Nat.reduceSub, Nat.reduceLT, Nat.reduceLeDiff, Nat.reduceMul, DV.cells, DV.flat, dload, DV.elems, reduceCtorEq, mask, DV.lows, DV.low, DV.coe, DV.isD, dresults, dresult, withHeap, lowCells, LSt.isReady, srcElems, DV.int, DV.mkAgg, same, mnmx2, nilness, bound, fill, flatCells, Int.reduceLE, Int.reduceLT, Int.reduceAdd, Int.reduceSub, Int.reduceNeg, Int.reduceEq, Int.reduceBEq, Int.reduceBNe, Nat.reduceBEq, Nat.reduceEqDiff, Int.reduceToNat, allocCells, stp, two_len, two_id' W, two_tid' W, two_setid' W, two_settid' W, e61, e61b, tk0, putCells, l1, hb, hx, wu, e87]
  by_cases d2 : peekR rs k = 60
  · have hb : (peekR rs (k + 1) == 61) = false := by simp; exact fun h => c2 ⟨d2, h⟩
    have hs : signN (peekR rs k) (peekR rs (k + 1)) = 1 := by
      have h1 : isSign 60 = true := by decide
      unfold signN
      rw [d2, if_neg (by have := c2; omega), if_pos h1]
    have hx : ¬ ix < 0 := by
      rw [hsn (by omega), d2]
      decide
    have wu := wu (by omega)
    rw [hs, if_neg (by decide)]
    rw [d2] at e61 e87 wu
    simp -implicitDefEqProofs only [A67, B67, dbody, dexec, ostep, dop, ev, put, wants, dbin, dun, List.replicate, Nat.reduceAdd, Nat.reduceSub, Nat.reduceLT, Nat.reduceLeDiff, Nat.reduceMul, DV.cells, DV.flat, dload, DV.elems, reduceCtorEq, mask, DV.lows, DV.low, DV.coe, DV.isD, dresults, dresult, withHeap, lowCells, LSt.isReady, srcElems, DV.int, DV.mkAgg, same, mnmx2, nilness, bound, fill, flatCells, Int.reduceLE, Int.reduceLT, Int.reduceAdd, Int.reduceSub, Int.reduceNeg, Int.reduceEq, Int.reduceBEq, Int.reduceBNe, Nat.reduceBEq, Nat.reduceEqDiff, Int.reduceToNat, allocCells, stp, two_len, two_id' W, two_tid' W, two_setid' W, two_settid' W, e61, e61b, tk0, putCells, l1, hb, hx, wu, e87]
  by_cases d3 : peekR rs k = 61
  · have hb : (peekR rs (k + 1) == 61) = false := by simp; exact fun h => c3 ⟨d3, h⟩
    have hs : signN (peekR rs k) (peekR rs (k + 1)) = 1 := by
      have h1 : isSign 61 = true := by decide
      unfold signN
      rw [d3, if_neg (by have := c3; omega), if_pos h1]
    have hx : ¬ ix < 0 := by
      rw [hsn (by omega), d3]
      decide
    have wu := wu (by omega)
    rw [hs, if_neg (by decide)]
    rw [d3] at e61 e87 wu
    simp -implicitDefEqProofs only [A67, B67, dbody, dexec, ostep, dop, ev, put, wants, dbin, dun, List.replicate, Nat.reduceAdd, Nat.reduceSub, Nat.reduceLT, Nat.reduceLeDiff, Nat.reduceMul, DV.cells, DV.flat, dload, DV.elems, reduceCtorEq, mask, DV.lows, DV.low, DV.coe, DV.isD, dresults, dresult, withHeap, lowCells, LSt.isReady, srcElems, DV.int, DV.mkAgg, same, mnmx2, nilness, bound, fill, flatCells, Int.reduceLE, Int.reduceLT, Int.reduceAdd, Int.reduceSub, Int.reduceNeg, Int.reduceEq, Int.reduceBEq, Int.reduceBNe, Nat.reduceBEq, Nat.reduceEqDiff, Int.reduceToNat, allocCells, stp, two_len, two_id' W, two_tid' W, two_setid' W, two_settid' W, e61, e61b, tk0, putCells, l1, hb, hx, wu, e87]
  have f1 : (peekR rs k == 45) = false := by simpa using d1
  have f2 : (peekR rs k == 60) = false := by simpa using d2
  have f3 : (peekR rs k == 61) = false := by simpa using d3
  have hs0 : signN (peekR rs k) (peekR rs (k + 1)) = if isSign (peekR rs k) then 1 else 0 := by
    unfold signN
    rw [if_neg (by omega)]
  cases hg : isSign (peekR rs k) with
  | true =>
    have hlt := (isSign_lt hg).2
    have hs : signN (peekR rs k) (peekR rs (k + 1)) = 1 := by rw [hs0, hg]; rfl
    have hx : ¬ ix < 0 := by
      rw [hsn hlt, hg]
      decide
    have g1 : ¬ 126 < peekR rs k := by omega
    have wu := wu hlt
    rw [hs, if_neg (by decide)]
    simp -implicitDefEqProofs only [A67, B67, dbody, dexec, ostep, dop, ev, put, wants, dbin, dun, List.replicate, Nat.reduceAdd, Nat.reduceSub, Nat.reduceLT, Nat.reduceLeDiff, Nat.reduceMul, DV.cells, DV.flat, dload, DV.elems, reduceCtorEq, mask, DV.lows, DV.low, DV.coe, DV.isD, dresults, dresult, withHeap, lowCells, LSt.isReady, srcElems, DV.int, DV.mkAgg, same, mnmx2, nilness, bound, fill, flatCells, Int.reduceLE, Int.reduceLT, Int.reduceAdd, Int.reduceSub, Int.reduceNeg, Int.reduceEq, Int.reduceBEq, Int.reduceBNe, Nat.reduceBEq, Nat.reduceEqDiff, Int.reduceToNat, allocCells, stp, two_len, two_id' W, two_tid' W, two_setid' W, two_settid' W, e61, e61b, tk0, putCells, l1, f1, f2, f3, g1, hx, wu, e87]
  | false =>
    have hs : signN (peekR rs k) (peekR rs (k + 1)) = 0 := by rw [hs0, hg]; rfl
    rw [hs, if_pos rfl]
    by_cases g1 : 126 < peekR rs k
    · simp -implicitDefEqProofs only [A67, B67, dbody, dexec, ostep, dop, ev, put, wants, dbin, dun, List.replicate, Nat.reduceAdd, Nat.reduceSub, Nat.reduceLT, Nat.reduceLeDiff, Nat.reduceMul, DV.cells, DV.flat, dload, DV.elems, reduceCtorEq, mask, DV.lows, DV.low, DV.coe, DV.isD, dresults, dresult, withHeap, lowCells, LSt.isReady, srcElems, DV.int, DV.mkAgg, same, mnmx2, nilness, bound, fill, flatCells, Int.reduceLE, Int.reduceLT, Int.reduceAdd, Int.reduceSub, Int.reduceNeg, Int.reduceEq, Int.reduceBEq, Int.reduceBNe, Nat.reduceBEq, Nat.reduceEqDiff, Int.reduceToNat, allocCells, stp, two_len, two_id' W, two_tid' W, two_setid' W, two_settid' W, e61, e61b, tk0, putCells, f1, f2, f3, g1, e35]
    · have hlt : peekR rs k < 127 := by omega
      have hx : ix < 0 := by
        rw [hsn hlt, hg]
      have wu := wu hlt
      simp -implicitDefEqProofs only [A67, B67, dbody, dexec, ostep, dop, ev, put, wants, dbin, dun, List.replicate, Nat.reduceAdd, Nat.reduceSub, Nat.reduceLT, Nat.reduceLeDiff, Nat.reduceMul, DV.cells, DV.flat, dload, DV.elems, reduceCtorEq, mask, DV.lows, DV.low, DV.coe, DV.isD, dresults, dresult, withHeap, lowCells, LSt.isReady, srcElems, DV.int, DV.mkAgg, same, mnmx2, nilness, bound, fill, flatCells, Int.reduceLE, Int.reduceLT, Int.reduceAdd, Int.reduceSub, Int.reduceNeg, Int.reduceEq, Int.reduceBEq, Int.reduceBNe, Nat.reduceBEq, Nat.reduceEqDiff, Int.reduceToNat, allocCells, stp, two_len, two_id' W, two_tid' W, two_setid' W, two_settid' W, e61, e61b, tk0, putCells, f1, f2, f3, g1, e35, hx, wu, e87]
end Go.Proofs.YtoadpaaghjomnaaDoor.Codes

set_option linter.unusedVariables false
set_option linter.unusedSimpArgs false
set_option maxRecDepth 100000
namespace Go.Proofs.YtoadpaaghjomnaaDoor.Codes
open Go Go.Deepv

/-- A token without its place. -/
structure Tk where
  kind : Int
  text : ByteArray
  num : Int
  bytes : ByteArray
def Tk.enc (t : Tk) (l c : Int) : List FV := [.int .i64 t.kind, .str t.text, .int .i64 t.num, .slice 1 (strCells t.bytes), .int .i64 l, .int .i64 c]

/-- The token that begins at a place, and the place behind it; or what is wrong. -/
def tokK (rs : List Rn) (k : Nat) : Except Int (Tk × Nat) :=
  if rLow (peekR rs k) || rUp (peekR rs k) then
    if 24 < cnt rPart (rs.drop k) then .error 5
    else .ok (⟨nameKind (textR ((rs.drop k).take (cnt rPart (rs.drop k)))) (peekR rs k), textR ((rs.drop k).take (cnt rPart (rs.drop k))), 0, ⟨#[]⟩⟩, k + cnt rPart (rs.drop k))
  else if rDig (peekR rs k) then
    if (numF ((rs.drop k).take (cnt rDig (rs.drop k)))).1 then .error 3
    else .ok (⟨3, ⟨#[]⟩, (numF ((rs.drop k).take (cnt rDig (rs.drop k)))).2, ⟨#[]⟩⟩, k + cnt rDig (rs.drop k))
  else if peekR rs k = 34 then
    match qtK rs (rs.length + 1) (k + 1) ⟨#[]⟩ with
    | some (b, k') => if 64 < b.size then .error 5 else .ok (⟨4, ⟨#[]⟩, 0, b⟩, k')
    | none => .error 4
  else if signN (peekR rs k) (peekR rs (k + 1)) = 0 then .error 2
  else .ok (⟨6, textR ((rs.drop k).take (signN (peekR rs k) (peekR rs (k + 1)))), 0, ⟨#[]⟩⟩, k + signN (peekR rs k) (peekR rs (k + 1)))

theorem s_take0 {h : List Res} {id : Nat} {r : Res} (l : List Res) : (h.set id r ++ l).take h.length = h.set id r := by
  have := take_app0 (h.set id r) l
  rwa [s_len] at this
theorem two_struct (h : List Res) (id : Nat) (hid : id < h.length) (a b c d R T : Res) : two (h ++ [a, b, c, d]) id (h.length + 3) R T = h.set id R ++ [a, b, c, T] := by
  rw [two, app_set_lt hid]
  have := app_set (h.set id R) [a, b, c, d] 3 T
  rw [List.length_set] at this
  rw [this]
  rfl
theorem two_ok {h : List Res} {id : Nat} (hid : id < h.length) (a b c d : Res) : Two (h ++ [a, b, c, d]) id (h.length + 3) := ⟨by simp; omega, by simp, by omega⟩

theorem token_ok {h : List Res} {id : Nat} {rs : List Rn} {k : Nat} {l c : Int} {x : Rn} (hq : h[id]? = some (rd rs k 0 l c)) (hsz : rs.length ≤ 100000) (hx : rs[k]? = some x) (hsc : ∀ x ∈ rs, rScal x.r = true) :
    match tokK rs k with
    | .ok (v, k') => D env 34 [.ptr id 0] h = some (.val (.d (.agg (v.enc x.l x.c))) (h.set id (rd rs k' 0 l c)))
    | .error e => ∃ (v : Tk) (k' : Nat), D env 34 [.ptr id 0] h = some (.val (.d (.agg (v.enc x.l x.c))) (h.set id (rd rs k' e x.l x.c))) := by
  have hk : k < rs.length := (List.getElem?_eq_some_iff.1 hx).1
  have hid : id < h.length := (List.getElem?_eq_some_iff.1 hq).1
  have hp : peekR rs k = x.r := by simp [peekR, hx]
  have hx' := rmap_at (f := Rn.enc) hx
  have hself := set_self hq
  have z0 : ((0 : Nat) : Int) = 0 := rfl
  have e61 := fun L => peek_ok (h := h ++ L) (by rw [app_lt hid]; exact hq) 0 (by omega)
  rw [Nat.add_zero, z0, hp] at e61
  have e47 := fun h => low_ok x.r h
  have e46 := fun h => up_ok x.r h
  have e64 := fun h => digit_ok x.r h
  -- the run, by what the four readers leave
  have run : ∀ (f : Nat), (f = 63 ∧ (rLow x.r || rUp x.r) = true ∨ f = 65 ∧ (rLow x.r || rUp x.r) = false ∧ rDig x.r = true ∨ f = 66 ∧ (rLow x.r || rUp x.r) = false ∧ rDig x.r = false ∧ x.r = 34 ∨ f = 67 ∧ (rLow x.r || rUp x.r) = false ∧ rDig x.r = false ∧ ¬ x.r = 34) →
      ∀ (kind num : Int) (text acc : ByteArray) (R : Res),
      D env f [.ptr id 0, .ptr (h.length + 3) 0] (h ++ [.nilrow, .box [.d (.int .i64 0), .d (.str ⟨#[]⟩), .d (.int .i64 0), .row 1 [] h.length, .d (.int .i64 0), .d (.int .i64 0)], .nilrow, tk 0 ⟨#[]⟩ 0 (.row 1 [] (h.length + 2)) x.l x.c]) =
        some (.val (.d (.tup [])) (h.set id R ++ [.nilrow, .box [.d (.int .i64 0), .d (.str ⟨#[]⟩), .d (.int .i64 0), .row 1 [] h.length, .d (.int .i64 0), .d (.int .i64 0)], rr 1 acc.size 5, tk kind text num (.row 1 (strCells acc) (h.length + 2)) x.l x.c])) →
      D env 34 [.ptr id 0] h = some (.val (.d (.agg (Tk.enc ⟨kind, text, num, acc⟩ x.l x.c))) (h.set id R)) := by
    intro f hf kind num text acc R hrun
    rw [D_own (F := A34) rfl rfl rfl rfl]
    have ln : (h.set id R).length = h.length := List.length_set
    have lt1 : h.length < h.length + 1 + 1 := by omega
    have lt2 : h.length + 2 < h.length + 3 + 1 := by omega
    have nlt : ¬ h.length + 2 < h.length + 1 + 1 := by omega
    have hq' := hq
    simp only [rd, tk, Tk.enc] at *
    rcases hf with ⟨rfl, f1⟩ | ⟨rfl, f1, f2⟩ | ⟨rfl, f1, f2, f3⟩ | ⟨rfl, f1, f2, f3⟩
    · cases hl : rLow x.r with
      | true =>
        rw [hl] at e47
        simp -implicitDefEqProofs only [A34, B34, dbody, dexec, ostep, dop, ev, put, wants, dbin, dun, List.replicate, Nat.reduceAdd, Nat.reduceSub, Nat.reduceLT, Nat.reduceLeDiff, Nat.reduceMul, DV.cells, DV.flat, dload, DV.elems, reduceCtorEq, mask, DV.lows, DV.low, DV.coe, DV.isD, dresults, dresult, withHeap, lowCells, LSt.isReady, srcElems, DV.int, DV.mkAgg, same, mnmx2, nilness, bound, fill, flatCells, Int.reduceLE, Int.reduceLT, Int.reduceAdd, Int.reduceSub, Int.reduceNeg, Int.reduceEq, Int.reduceBEq, Int.reduceBNe, Nat.reduceBEq, Nat.reduceEqDiff, Int.reduceToNat, allocCells, stp, hq', hx, hx', Rn.enc, e61, e47, e46, e64, hrun, app_lt hid, app_at, app_at0, app_set, s_at, s_at0, s_upd, s_take, s_take0, take_app0, ln, keepNil, putCells, lt1, lt2, nlt, Nat.add_assoc]
      | false =>
        have hu : rUp x.r = true := by rw [hl] at f1; simpa using f1
        rw [hl] at e47
        rw [hu] at e46
        simp -implicitDefEqProofs only [A34, B34, dbody, dexec, ostep, dop, ev, put, wants, dbin, dun, List.replicate, Nat.reduceAdd, Nat.reduceSub, Nat.reduceLT, Nat.reduceLeDiff, Nat.reduceMul, DV.cells, DV.flat, dload, DV.elems, reduceCtorEq, mask, DV.lows, DV.low, DV.coe, DV.isD, dresults, dresult, withHeap, lowCells, LSt.isReady, srcElems, DV.int, DV.mkAgg, same, mnmx2, nilness, bound, fill, flatCells, Int.reduceLE, Int.reduceLT, Int.reduceAdd, Int.reduceSub, Int.reduceNeg, Int.reduceEq, Int.reduceBEq, Int.reduceBNe, Nat.reduceBEq, Nat.reduceEqDiff, Int.reduceToNat, allocCells, stp, hq', hx, hx', Rn.enc, e61, e47, e46, e64, hrun, app_lt hid, app_at, app_at0, app_set, s_at, s_at0, s_upd, s_take, s_take0, take_app0, ln, keepNil, putCells, lt1, lt2, nlt, Nat.add_assoc]
    all_goals
      have hl : rLow x.r = false := by cases h : rLow x.r <;> simp_all
      have hu : rUp x.r = false := by cases h : rUp x.r <;> simp_all
      rw [hl] at e47
      rw [hu] at e46
    · rw [f2] at e64
      simp -implicitDefEqProofs only [A34, B34, dbody, dexec, ostep, dop, ev, put, wants, dbin, dun, List.replicate, Nat.reduceAdd, Nat.reduceSub, Nat.reduceLT, Nat.reduceLeDiff, Nat.reduceMul, DV.cells, DV.flat, dload, DV.elems, reduceCtorEq, mask, DV.lows, DV.low, DV.coe, DV.isD, dresults, dresult, withHeap, lowCells, LSt.isReady, srcElems, DV.int, DV.mkAgg, same, mnmx2, nilness, bound, fill, flatCells, Int.reduceLE, Int.reduceLT, Int.reduceAdd, Int.reduceSub, Int.reduceNeg, Int.reduceEq, Int.reduceBEq, Int.reduceBNe, Nat.reduceBEq, Nat.reduceEqDiff, Int.reduceToNat, allocCells, stp, hq', hx, hx', Rn.enc, e61, e47, e46, e64, hrun, app_lt hid, app_at, app_at0, app_set, s_at, s_at0, s_upd, s_take, s_take0, take_app0, ln, keepNil, putCells, lt1, lt2, nlt, Nat.add_assoc]
    · rw [f2] at e64
      rw [f3] at e61 e47 e46 e64
      simp -implicitDefEqProofs only [A34, B34, dbody, dexec, ostep, dop, ev, put, wants, dbin, dun, List.replicate, Nat.reduceAdd, Nat.reduceSub, Nat.reduceLT, Nat.reduceLeDiff, Nat.reduceMul, DV.cells, DV.flat, dload, DV.elems, reduceCtorEq, mask, DV.lows, DV.low, DV.coe, DV.isD, dresults, dresult, withHeap, lowCells, LSt.isReady, srcElems, DV.int, DV.mkAgg, same, mnmx2, nilness, bound, fill, flatCells, Int.reduceLE, Int.reduceLT, Int.reduceAdd, Int.reduceSub, Int.reduceNeg, Int.reduceEq, Int.reduceBEq, Int.reduceBNe, Nat.reduceBEq, Nat.reduceEqDiff, Int.reduceToNat, allocCells, stp, hq', hx, hx', Rn.enc, e61, e47, e46, e64, hrun, app_lt hid, app_at, app_at0, app_set, s_at, s_at0, s_upd, s_take, s_take0, take_app0, ln, keepNil, putCells, lt1, lt2, nlt, Nat.add_assoc, f3]
    · rw [f2] at e64
      have f4 : (x.r == 34) = false := by simpa using f3
      simp -implicitDefEqProofs only [A34, B34, dbody, dexec, ostep, dop, ev, put, wants, dbin, dun, List.replicate, Nat.reduceAdd, Nat.reduceSub, Nat.reduceLT, Nat.reduceLeDiff, Nat.reduceMul, DV.cells, DV.flat, dload, DV.elems, reduceCtorEq, mask, DV.lows, DV.low, DV.coe, DV.isD, dresults, dresult, withHeap, lowCells, LSt.isReady, srcElems, DV.int, DV.mkAgg, same, mnmx2, nilness, bound, fill, flatCells, Int.reduceLE, Int.reduceLT, Int.reduceAdd, Int.reduceSub, Int.reduceNeg, Int.reduceEq, Int.reduceBEq, Int.reduceBNe, Nat.reduceBEq, Nat.reduceEqDiff, Int.reduceToNat, allocCells, stp, hq', hx, hx', Rn.enc, e61, e47, e46, e64, hrun, app_lt hid, app_at, app_at0, app_set, s_at, s_at0, s_upd, s_take, s_take0, take_app0, ln, keepNil, putCells, lt1, lt2, nlt, Nat.add_assoc, f4]
  have nil0 : ∀ T : Res, two (h ++ [.nilrow, .box [.d (.int .i64 0), .d (.str ⟨#[]⟩), .d (.int .i64 0), .row 1 [] h.length, .d (.int .i64 0), .d (.int .i64 0)], .nilrow, T]) id (h.length + 3) (rd rs k 0 l c) T =
      h ++ [.nilrow, .box [.d (.int .i64 0), .d (.str ⟨#[]⟩), .d (.int .i64 0), .row 1 [] h.length, .d (.int .i64 0), .d (.int .i64 0)], .nilrow, T] := fun T => by rw [two_struct h id hid, hself]
  have W := two_ok hid .nilrow (.box [.d (.int .i64 0), .d (.str ⟨#[]⟩), .d (.int .i64 0), .row 1 [] h.length, .d (.int .i64 0), .d (.int .i64 0)]) .nilrow (tk 0 ⟨#[]⟩ 0 (.row 1 [] (h.length + 2)) x.l x.c)
  unfold tokK
  rw [hp]
  have hdr : rs.drop k = x :: rs.drop (k + 1) := by
    have := (List.getElem?_eq_some_iff.1 hx).2
    rw [← this]
    simp
  cases f1 : rLow x.r || rUp x.r with
  | true =>
    have hpart : rPart x.r = true := by
      unfold rPart
      cases h1 : rLow x.r <;> simp_all
    have hm1 : 1 ≤ cnt rPart (rs.drop k) := by
      rw [hdr]
      simp only [cnt, hpart, if_true]
      omega
    have e := name_ok (l := l) (c := c) (kind := 0) (num := 0) (tl := x.l) (tc := x.c) (text := ⟨#[]⟩) (b := .row 1 [] (h.length + 2)) W hsz (Nat.le_of_lt hk) hsc hm1
    rw [nil0, two_struct h id hid, hp] at e
    have r := run 63 (.inl ⟨rfl, f1⟩) _ _ _ ⟨#[]⟩ _ e
    simp only [if_true]
    by_cases h24 : 24 < cnt rPart (rs.drop k)
    · simp only [h24, if_true] at r ⊢
      exact ⟨_, _, r⟩
    · simp only [h24, if_false] at r ⊢
      exact r
  | false =>
    simp only [Bool.false_eq_true, if_false]
    cases f2 : rDig x.r with
    | true =>
      have e := number_ok (l := l) (c := c) (kind := 0) (tl := x.l) (tc := x.c) (text := ⟨#[]⟩) (b := .row 1 [] (h.length + 2)) W hsz (Nat.le_of_lt hk)
      rw [nil0, two_struct h id hid] at e
      have r := run 65 (.inr (.inl ⟨rfl, f1, f2⟩)) _ _ _ ⟨#[]⟩ _ e
      simp only [if_true]
      cases hg : (numF ((rs.drop k).take (cnt rDig (rs.drop k)))).1 with
      | true =>
        rw [hg] at r
        simp only [if_true] at r ⊢
        exact ⟨_, _, r⟩
      | false =>
        rw [hg] at r
        simp only [Bool.false_eq_true, if_false] at r ⊢
        exact r
    | false =>
      simp only [Bool.false_eq_true, if_false]
      by_cases f3 : x.r = 34
      · simp only [f3, if_true]
        obtain ⟨fin, g1, g2⟩ := text_ok (l := l) (c := c) (kind := 0) (num := 0) (tl := x.l) (tc := x.c) (text := ⟨#[]⟩) (q0 := .nilrow) (b0 := .box [.d (.int .i64 0), .d (.str ⟨#[]⟩), .d (.int .i64 0), .row 1 [] h.length, .d (.int .i64 0), .d (.int .i64 0)]) hid hsc hsz (Nat.le_of_lt hk)
        have g1' : D env 66 [.ptr id 0, .ptr (h.length + 3) 0] (h ++ [.nilrow, .box [.d (.int .i64 0), .d (.str ⟨#[]⟩), .d (.int .i64 0), .row 1 [] h.length, .d (.int .i64 0), .d (.int .i64 0)], .nilrow, tk 0 ⟨#[]⟩ 0 (.row 1 [] (h.length + 2)) x.l x.c]) = some (.val (.d (.tup [])) fin) := by
          rw [← g1, th, hself]
          rfl
        cases hq66 : qtK rs (rs.length + 1) (k + 1) ⟨#[]⟩ with
        | none =>
          rw [hq66] at g2
          obtain ⟨k', b, rfl⟩ := g2
          exact ⟨_, _, run 66 (.inr (.inr (.inl ⟨rfl, f1, f2, f3⟩))) _ _ _ b _ g1'⟩
        | some v =>
          obtain ⟨b, k'⟩ := v
          rw [hq66] at g2
          simp only at g2
          rw [g2] at g1'
          have r := run 66 (.inr (.inr (.inl ⟨rfl, f1, f2, f3⟩))) _ _ _ b _ g1'
          by_cases h64 : 64 < b.size
          · simp only [h64, if_true] at r ⊢
            exact ⟨_, _, r⟩
          · simp only [h64, if_false] at r ⊢
            exact r
      · simp only [f3, if_false]
        have e := sign_ok (l := l) (c := c) (kind := 0) (num := 0) (tl := x.l) (tc := x.c) (b := .row 1 [] (h.length + 2)) W hsz hk hsc
        rw [hp] at e
        by_cases h0 : signN x.r (peekR rs (k + 1)) = 0
        · simp only [h0, if_true] at e ⊢
          rw [nil0, two_struct h id hid] at e
          exact ⟨_, _, run 67 (.inr (.inr (.inr ⟨rfl, f1, f2, f3⟩))) _ _ _ ⟨#[]⟩ _ e⟩
        · simp only [h0, if_false] at e ⊢
          rw [nil0, two_struct h id hid] at e
          exact run 67 (.inr (.inr (.inr ⟨rfl, f1, f2, f3⟩))) _ _ _ ⟨#[]⟩ _ e
end Go.Proofs.YtoadpaaghjomnaaDoor.Codes
