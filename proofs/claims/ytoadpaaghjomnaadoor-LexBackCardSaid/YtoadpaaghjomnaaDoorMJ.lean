/-
  The document's signs.
  Conditions: none.
-/
import Derived.Test.YtoadpaaghjomnaaDoorMI
set_option linter.unusedVariables false
set_option linter.unusedSimpArgs false
set_option maxRecDepth 100000
namespace Go.Proofs.YtoadpaaghjomnaaDoor.Codes
open Go Go.Deepv

theorem ba_ext {a b : ByteArray} (h : a.data.toList = b.data.toList) : a = b := by
  cases a
  cases b
  simp only at h
  rw [Array.toList_inj.1 h]
theorem encB_byteB {w : Int} (h0 : 0 ≤ w) (h1 : w < 128) : encB w = byteB w := by
  unfold encB encI encL byteB
  rw [if_pos (by omega)]
theorem signs_ex : ∀ x : Fin 14, (signsB.extract x.val (x.val + 1)).data.toList = [signsB.data.toList.getD x.val 0] ∧ signsB[x.val]? = some (signsB.data.toList.getD x.val 0) ∧ (signsB.data.toList.getD x.val 0).toNat < 128 := by decide
theorem signs_size : signsB.size = 14 := rfl

def st72 (c : Int) (k : Nat) : List DV := [.d .undef, .d .undef, .d .undef, .d .undef, .d .undef, .d (.int .i32 c), .d .undef, .d (.str signsB), .d (.int .i64 k)] ++ List.replicate 54 (.d .undef)
def ex72 (v : FV) : List DV := [.d .undef, .d .undef, .d .undef, .d .undef, .d v] ++ List.replicate 58 (.d .undef)
theorem loop72 (c : Int) : ∀ (n k : Nat), k + n = 14 → L env 0 true H72L13 X72L13 B72L13 (st72 c k) [] =
    if ((signsB.data.toList.drop k).any fun b => ((b.toNat : Nat) : Int) == c) = true then some (.ret, ex72 (.str (byteB c)), []) else some (.exit 1, ex72 .undef, []) := by
  obtain ⟨K, hK⟩ : ∃ K, L env 0 true H72L13 X72L13 B72L13 = K := ⟨_, rfl⟩
  rw [hK]
  intro n
  induction n with
  | zero =>
    intro k hk
    have : k = 14 := by omega
    subst this
    have hd : signsB.data.toList.drop 14 = [] := rfl
    have z14 : ((14 : Nat) : Int) = 14 := rfl
    rw [hd, if_neg (by simp), L_round hK]
    simp -implicitDefEqProofs only [B72L13, st72, ex72, dbody, dexec, ostep, dop, ev, put, wants, dbin, dun, List.replicate, Nat.reduceAdd, Nat.reduceSub, Nat.reduceLT, Nat.reduceLeDiff, Nat.reduceMul, DV.cells, DV.flat, dload, DV.elems, reduceCtorEq, mask, DV.lows, DV.low, DV.coe, DV.isD, dresults, dresult, withHeap, lowCells, LSt.isReady, srcElems, DV.int, DV.mkAgg, same, mnmx2, nilness, bound, fill, flatCells, Int.reduceLE, Int.reduceLT, Int.reduceAdd, Int.reduceSub, Int.reduceNeg, Int.reduceEq, Int.reduceBEq, Int.reduceBNe, Nat.reduceBEq, Nat.reduceEqDiff, Int.reduceToNat, allocCells, stp, signs_size, z14]
  | succ n ih =>
    intro k hk
    obtain ⟨s1, s2, s3⟩ := signs_ex ⟨k, by omega⟩
    simp only at s1 s2 s3
    have hlen : signsB.data.toList.length = 14 := rfl
    have hd : signsB.data.toList.drop k = signsB.data.toList.getD k 0 :: signsB.data.toList.drop (k + 1) := by
      rw [List.getD_eq_getElem?_getD, List.getElem?_eq_getElem (by rw [hlen]; omega), Option.getD_some, ← List.drop_eq_getElem_cons]
    rw [hd, List.any_cons]
    have z14 : ((14 : Nat) : Int) = 14 := rfl
    have g1 : (k : Int) < 14 := by omega
    have g2 : (k : Int) + 1 ≤ 14 := by omega
    have w1 : IntKind.i64.wrap ((k : Int) + 1) = ((k + 1 : Nat) : Int) := by rw [wrap_i64 (by omega) (by omega)]; simp
    have ih := ih (k + 1) (by omega)
    generalize signsB.data.toList.getD k 0 = b at *
    have wb : IntKind.i32.wrap (b.toNat : Int) = b.toNat := wrap_i32 (by omega) (by omega)
    have g3 : ((k + 1 : Nat) : Int) ≤ 14 := by omega
    have g4 : (k : Int) ≤ ((k + 1 : Nat) : Int) := by omega
    have g5 : (0 : Int) ≤ ((k + 1 : Nat) : Int) := by omega
    by_cases hc : ((b.toNat : Nat) : Int) = c
    · have hc' : (((b.toNat : Nat) : Int) == c) = true := by simpa using hc
      rw [if_pos (by rw [hc', Bool.true_or])]
      have hex : signsB.extract k (k + 1) = byteB c := by
        apply ba_ext
        rw [s1, ← hc]
        unfold byteB
        simp
      have wc : IntKind.i32.wrap c = c := wrap_i32 (by omega) (by omega)
      rw [L_round hK]
      simp -implicitDefEqProofs only [B72L13, st72, ex72, dbody, dexec, ostep, dop, ev, put, wants, dbin, dun, List.replicate, Nat.reduceAdd, Nat.reduceSub, Nat.reduceLT, Nat.reduceLeDiff, Nat.reduceMul, DV.cells, DV.flat, dload, DV.elems, reduceCtorEq, mask, DV.lows, DV.low, DV.coe, DV.isD, dresults, dresult, withHeap, lowCells, LSt.isReady, srcElems, DV.int, DV.mkAgg, same, mnmx2, nilness, bound, fill, flatCells, Int.reduceLE, Int.reduceLT, Int.reduceAdd, Int.reduceSub, Int.reduceNeg, Int.reduceEq, Int.reduceBEq, Int.reduceBNe, Nat.reduceBEq, Nat.reduceEqDiff, Int.reduceToNat, allocCells, stp, signs_size, z14, g1, g3, g4, g5, s2, wb, wc, hc', hc, w1, hex]
    · have hc' : (((b.toNat : Nat) : Int) == c) = false := by simpa using hc
      rw [hc', Bool.false_or]
      simp only [st72, List.replicate, List.cons_append, List.nil_append] at ih
      rw [L_round hK]
      simp -implicitDefEqProofs only [B72L13, st72, dbody, dexec, ostep, dop, ev, put, wants, dbin, dun, List.replicate, Nat.reduceAdd, Nat.reduceSub, Nat.reduceLT, Nat.reduceLeDiff, Nat.reduceMul, DV.cells, DV.flat, dload, DV.elems, reduceCtorEq, mask, DV.lows, DV.low, DV.coe, DV.isD, dresults, dresult, withHeap, lowCells, LSt.isReady, srcElems, DV.int, DV.mkAgg, same, mnmx2, nilness, bound, fill, flatCells, Int.reduceLE, Int.reduceLT, Int.reduceAdd, Int.reduceSub, Int.reduceNeg, Int.reduceEq, Int.reduceBEq, Int.reduceBNe, Nat.reduceBEq, Nat.reduceEqDiff, Int.reduceToNat, allocCells, stp, signs_size, z14, g1, s2, wb, hc', hc, w1, ih]

theorem rsign_ok {rs : List Rn} (hsz : rs.length ≤ 100000) (hsc : ∀ x ∈ rs, rScal x.r = true) {k : Nat} (hk : k < rs.length) (h : List Res) :
    D env 72 [.d (.slice 4 (rs.map Rn.enc)), .d (.int .i64 k)] h = some (.val (.d (.str (textR ((rs.drop k).take (signN (peekR rs k) (peekR rs (k + 1))))))) h) := by
  rw [D_dat (F := A72) rfl rfl rfl rfl]
  have hx : rs[k]? = some rs[k] := List.getElem?_eq_getElem _
  generalize rs[k] = x at hx
  have hx' := rmap_at (f := Rn.enc) hx
  have hp : peekR rs k = x.r := by simp [peekR, hx]
  have h0 := ((rScal_iff _).1 (hsc x (List.mem_of_getElem? hx))).1
  have hdr : rs.drop k = x :: rs.drop (k + 1) := by
    have := (List.getElem?_eq_some_iff.1 hx).2
    rw [← this]
    simp
  have w1 : IntKind.i64.wrap ((k : Int) + 1) = ((k + 1 : Nat) : Int) := by rw [wrap_i64 (by omega) (by omega)]; simp
  have hl := loop72 x.r 14 0 rfl
  rw [List.drop_zero, show (signsB.data.toList.any fun b => ((b.toNat : Nat) : Int) == x.r) = isSign x.r from rfl] at hl
  have t1 : textR [x] = encB x.r := by
    unfold textR
    rw [List.foldl_cons, List.foldl_nil, empty_app]
  rw [hp, hdr]
  have z0 : ((0 : Nat) : Int) = 0 := rfl
  simp only [st72, ex72, List.replicate, List.cons_append, List.nil_append, signsB, z0] at hl
  -- the rest, once the second rune d is known
  have main : ∀ d : Int, (x.r = 45 ∧ d = 62 → False) → (x.r = 60 ∧ d = 61 → False) → (x.r = 61 ∧ d = 61 → False) → (((k + 1 : Nat) : Int) < rs.length ∧ (∃ y, rs[k + 1]? = some y ∧ y.r = d) ∨ ¬ ((k + 1 : Nat) : Int) < rs.length ∧ d = 0) →
      (dbody (Dc env) (L env) A72 [.d (.slice 4 (rs.map Rn.enc)), .d (.int .i64 k)] []).map (withHeap h) = some (.val (.d (.str (if isSign x.r then byteB x.r else ⟨#[]⟩))) h) := fun d n1 n2 n3 hd => by
    have f1 : x.r = 45 → (d == 62) = false := fun e => by simp; exact fun h => n1 ⟨e, h⟩
    have f2 : x.r = 60 → (d == 61) = false := fun e => by simp; exact fun h => n2 ⟨e, h⟩
    have f3 : x.r = 61 → (d == 61) = false := fun e => by simp; exact fun h => n3 ⟨e, h⟩
    by_cases c1 : x.r = 45
    · have f1 := f1 c1
      have hs : isSign 45 = true := by decide
      rw [c1, hs] at hl
      rw [c1, hs]
      simp only [if_true] at hl ⊢
      rcases hd with ⟨g, y, hy, rfl⟩ | ⟨g, rfl⟩
      · have hy' := rmap_at (f := Rn.enc) hy
        simp -implicitDefEqProofs only [A72, B72, dbody, dexec, ostep, dop, ev, put, wants, dbin, dun, List.replicate, Nat.reduceAdd, Nat.reduceSub, Nat.reduceLT, Nat.reduceLeDiff, Nat.reduceMul, DV.cells, DV.flat, dload, DV.elems, reduceCtorEq, mask, DV.lows, DV.low, DV.coe, DV.isD, dresults, dresult, withHeap, lowCells, LSt.isReady, srcElems, DV.int, DV.mkAgg, same, mnmx2, nilness, bound, fill, flatCells, Int.reduceLE, Int.reduceLT, Int.reduceAdd, Int.reduceSub, Int.reduceNeg, Int.reduceEq, Int.reduceBEq, Int.reduceBNe, Nat.reduceBEq, Nat.reduceEqDiff, Int.reduceToNat, allocCells, stp, hx, hx', Rn.enc, w1, g, hl, hy, hy', c1, f1]
      · simp -implicitDefEqProofs only [A72, B72, dbody, dexec, ostep, dop, ev, put, wants, dbin, dun, List.replicate, Nat.reduceAdd, Nat.reduceSub, Nat.reduceLT, Nat.reduceLeDiff, Nat.reduceMul, DV.cells, DV.flat, dload, DV.elems, reduceCtorEq, mask, DV.lows, DV.low, DV.coe, DV.isD, dresults, dresult, withHeap, lowCells, LSt.isReady, srcElems, DV.int, DV.mkAgg, same, mnmx2, nilness, bound, fill, flatCells, Int.reduceLE, Int.reduceLT, Int.reduceAdd, Int.reduceSub, Int.reduceNeg, Int.reduceEq, Int.reduceBEq, Int.reduceBNe, Nat.reduceBEq, Nat.reduceEqDiff, Int.reduceToNat, allocCells, stp, hx, hx', Rn.enc, w1, g, hl, c1, f1]
    by_cases c2 : x.r = 60
    · have f2 := f2 c2
      have hs : isSign 60 = true := by decide
      rw [c2, hs] at hl
      rw [c2, hs]
      simp only [if_true] at hl ⊢
      rcases hd with ⟨g, y, hy, rfl⟩ | ⟨g, rfl⟩
      · have hy' := rmap_at (f := Rn.enc) hy
        simp -implicitDefEqProofs only [A72, B72, dbody, dexec, ostep, dop, ev, put, wants, dbin, dun, List.replicate, Nat.reduceAdd, Nat.reduceSub, Nat.reduceLT, Nat.reduceLeDiff, Nat.reduceMul, DV.cells, DV.flat, dload, DV.elems, reduceCtorEq, mask, DV.lows, DV.low, DV.coe, DV.isD, dresults, dresult, withHeap, lowCells, LSt.isReady, srcElems, DV.int, DV.mkAgg, same, mnmx2, nilness, bound, fill, flatCells, Int.reduceLE, Int.reduceLT, Int.reduceAdd, Int.reduceSub, Int.reduceNeg, Int.reduceEq, Int.reduceBEq, Int.reduceBNe, Nat.reduceBEq, Nat.reduceEqDiff, Int.reduceToNat, allocCells, stp, hx, hx', Rn.enc, w1, g, hl, hy, hy', c2, f2]
      · simp -implicitDefEqProofs only [A72, B72, dbody, dexec, ostep, dop, ev, put, wants, dbin, dun, List.replicate, Nat.reduceAdd, Nat.reduceSub, Nat.reduceLT, Nat.reduceLeDiff, Nat.reduceMul, DV.cells, DV.flat, dload, DV.elems, reduceCtorEq, mask, DV.lows, DV.low, DV.coe, DV.isD, dresults, dresult, withHeap, lowCells, LSt.isReady, srcElems, DV.int, DV.mkAgg, same, mnmx2, nilness, bound, fill, flatCells, Int.reduceLE, Int.reduceLT, Int.reduceAdd, Int.reduceSub, Int.reduceNeg, Int.reduceEq, Int.reduceBEq, Int.reduceBNe, Nat.reduceBEq, Nat.reduceEqDiff, Int.reduceToNat, allocCells, stp, hx, hx', Rn.enc, w1, g, hl, c2, f2]
    by_cases c3 : x.r = 61
    · have f3 := f3 c3
      have hs : isSign 61 = true := by decide
      rw [c3, hs] at hl
      rw [c3, hs]
      simp only [if_true] at hl ⊢
      rcases hd with ⟨g, y, hy, rfl⟩ | ⟨g, rfl⟩
      · have hy' := rmap_at (f := Rn.enc) hy
        simp -implicitDefEqProofs only [A72, B72, dbody, dexec, ostep, dop, ev, put, wants, dbin, dun, List.replicate, Nat.reduceAdd, Nat.reduceSub, Nat.reduceLT, Nat.reduceLeDiff, Nat.reduceMul, DV.cells, DV.flat, dload, DV.elems, reduceCtorEq, mask, DV.lows, DV.low, DV.coe, DV.isD, dresults, dresult, withHeap, lowCells, LSt.isReady, srcElems, DV.int, DV.mkAgg, same, mnmx2, nilness, bound, fill, flatCells, Int.reduceLE, Int.reduceLT, Int.reduceAdd, Int.reduceSub, Int.reduceNeg, Int.reduceEq, Int.reduceBEq, Int.reduceBNe, Nat.reduceBEq, Nat.reduceEqDiff, Int.reduceToNat, allocCells, stp, hx, hx', Rn.enc, w1, g, hl, hy, hy', c3, f3]
      · simp -implicitDefEqProofs only [A72, B72, dbody, dexec, ostep, dop, ev, put, wants, dbin, dun, List.replicate, Nat.reduceAdd, Nat.reduceSub, Nat.reduceLT, Nat.reduceLeDiff, Nat.reduceMul, DV.cells, DV.flat, dload, DV.elems, reduceCtorEq, mask, DV.lows, DV.low, DV.coe, DV.isD, dresults, dresult, withHeap, lowCells, LSt.isReady, srcElems, DV.int, DV.mkAgg, same, mnmx2, nilness, bound, fill, flatCells, Int.reduceLE, Int.reduceLT, Int.reduceAdd, Int.reduceSub, Int.reduceNeg, Int.reduceEq, Int.reduceBEq, Int.reduceBNe, Nat.reduceBEq, Nat.reduceEqDiff, Int.reduceToNat, allocCells, stp, hx, hx', Rn.enc, w1, g, hl, c3, f3]
    have d1 : (x.r == 45) = false := by simpa using c1
    have d2 : (x.r == 60) = false := by simpa using c2
    have d3 : (x.r == 61) = false := by simpa using c3
    cases hs : isSign x.r with
    | true =>
      rw [hs] at hl
      simp only [if_true] at hl ⊢
      rcases hd with ⟨g, y, hy, rfl⟩ | ⟨g, rfl⟩
      · have hy' := rmap_at (f := Rn.enc) hy
        simp -implicitDefEqProofs only [A72, B72, dbody, dexec, ostep, dop, ev, put, wants, dbin, dun, List.replicate, Nat.reduceAdd, Nat.reduceSub, Nat.reduceLT, Nat.reduceLeDiff, Nat.reduceMul, DV.cells, DV.flat, dload, DV.elems, reduceCtorEq, mask, DV.lows, DV.low, DV.coe, DV.isD, dresults, dresult, withHeap, lowCells, LSt.isReady, srcElems, DV.int, DV.mkAgg, same, mnmx2, nilness, bound, fill, flatCells, Int.reduceLE, Int.reduceLT, Int.reduceAdd, Int.reduceSub, Int.reduceNeg, Int.reduceEq, Int.reduceBEq, Int.reduceBNe, Nat.reduceBEq, Nat.reduceEqDiff, Int.reduceToNat, allocCells, stp, hx, hx', Rn.enc, w1, g, hl, hy, hy', d1, d2, d3]
      · simp -implicitDefEqProofs only [A72, B72, dbody, dexec, ostep, dop, ev, put, wants, dbin, dun, List.replicate, Nat.reduceAdd, Nat.reduceSub, Nat.reduceLT, Nat.reduceLeDiff, Nat.reduceMul, DV.cells, DV.flat, dload, DV.elems, reduceCtorEq, mask, DV.lows, DV.low, DV.coe, DV.isD, dresults, dresult, withHeap, lowCells, LSt.isReady, srcElems, DV.int, DV.mkAgg, same, mnmx2, nilness, bound, fill, flatCells, Int.reduceLE, Int.reduceLT, Int.reduceAdd, Int.reduceSub, Int.reduceNeg, Int.reduceEq, Int.reduceBEq, Int.reduceBNe, Nat.reduceBEq, Nat.reduceEqDiff, Int.reduceToNat, allocCells, stp, hx, hx', Rn.enc, w1, g, hl, d1, d2, d3]
    | false =>
      rw [hs] at hl
      simp only [Bool.false_eq_true, if_false] at hl ⊢
      rcases hd with ⟨g, y, hy, rfl⟩ | ⟨g, rfl⟩
      · have hy' := rmap_at (f := Rn.enc) hy
        simp -implicitDefEqProofs only [A72, B72, dbody, dexec, ostep, dop, ev, put, wants, dbin, dun, List.replicate, Nat.reduceAdd, Nat.reduceSub, Nat.reduceLT, Nat.reduceLeDiff, Nat.reduceMul, DV.cells, DV.flat, dload, DV.elems, reduceCtorEq, mask, DV.lows, DV.low, DV.coe, DV.isD, dresults, dresult, withHeap, lowCells, LSt.isReady, srcElems, DV.int, DV.mkAgg, same, mnmx2, nilness, bound, fill, flatCells, Int.reduceLE, Int.reduceLT, Int.reduceAdd, Int.reduceSub, Int.reduceNeg, Int.reduceEq, Int.reduceBEq, Int.reduceBNe, Nat.reduceBEq, Nat.reduceEqDiff, Int.reduceToNat, allocCells, stp, hx, hx', Rn.enc, w1, g, hl, hy, hy', d1, d2, d3]
      · simp -implicitDefEqProofs only [A72, B72, dbody, dexec, ostep, dop, ev, put, wants, dbin, dun, List.replicate, Nat.reduceAdd, Nat.reduceSub, Nat.reduceLT, Nat.reduceLeDiff, Nat.reduceMul, DV.cells, DV.flat, dload, DV.elems, reduceCtorEq, mask, DV.lows, DV.low, DV.coe, DV.isD, dresults, dresult, withHeap, lowCells, LSt.isReady, srcElems, DV.int, DV.mkAgg, same, mnmx2, nilness, bound, fill, flatCells, Int.reduceLE, Int.reduceLT, Int.reduceAdd, Int.reduceSub, Int.reduceNeg, Int.reduceEq, Int.reduceBEq, Int.reduceBNe, Nat.reduceBEq, Nat.reduceEqDiff, Int.reduceToNat, allocCells, stp, hx, hx', Rn.enc, w1, g, hl, d1, d2, d3]
  have one1 : signN x.r (peekR rs (k + 1)) = (if isSign x.r then 1 else 0) → some (DOut.val (.d (.str (if isSign x.r then byteB x.r else ⟨#[]⟩))) h) = some (.val (.d (.str (textR ((x :: rs.drop (k + 1)).take (signN x.r (peekR rs (k + 1))))))) h) := fun e => by
    rw [e]
    cases hs : isSign x.r with
    | true =>
      have hlt := (isSign_lt hs).2
      have : x.r < 128 := by omega
      simp only [if_true, List.take_succ_cons, List.take_zero]
      rw [t1, encB_byteB h0 this]
    | false => rfl
  by_cases hk1 : k + 1 < rs.length
  · have g : ((k + 1 : Nat) : Int) < rs.length := by omega
    have hy : rs[k + 1]? = some rs[k + 1] := List.getElem?_eq_getElem _
    have hdr2 : rs.drop (k + 1) = rs[k + 1] :: rs.drop (k + 1 + 1) := by simp
    generalize rs[k + 1] = y at hy hdr2
    have hq : peekR rs (k + 1) = y.r := by simp [peekR, hy]
    have hy' := rmap_at (f := Rn.enc) hy
    have t2 : textR [x, y] = encB x.r ++ encB y.r := by
      unfold textR
      rw [List.foldl_cons, List.foldl_cons, List.foldl_nil, empty_app]
    by_cases p1 : x.r = 45 ∧ y.r = 62
    · obtain ⟨q1, q2⟩ := p1
      have hs : signN x.r (peekR rs (k + 1)) = 2 := by rw [hq, q1, q2]; decide
      have ht : textR [x, y] = ⟨#[45, 62]⟩ := by rw [t2, q1, q2]; rfl
      rw [hs, hdr2, List.take_succ_cons, List.take_succ_cons, List.take_zero, ht]
      simp -implicitDefEqProofs only [A72, B72, dbody, dexec, ostep, dop, ev, put, wants, dbin, dun, List.replicate, Nat.reduceAdd, Nat.reduceSub, Nat.reduceLT, Nat.reduceLeDiff, Nat.reduceMul, DV.cells, DV.flat, dload, DV.elems, reduceCtorEq, mask, DV.lows, DV.low, DV.coe, DV.isD, dresults, dresult, withHeap, lowCells, LSt.isReady, srcElems, DV.int, DV.mkAgg, same, mnmx2, nilness, bound, fill, flatCells, Int.reduceLE, Int.reduceLT, Int.reduceAdd, Int.reduceSub, Int.reduceNeg, Int.reduceEq, Int.reduceBEq, Int.reduceBNe, Nat.reduceBEq, Nat.reduceEqDiff, Int.reduceToNat, allocCells, stp, hx, hx', Rn.enc, w1, g, hy, hy', q1, q2]
    by_cases p2 : x.r = 60 ∧ y.r = 61
    · obtain ⟨q1, q2⟩ := p2
      have hs : signN x.r (peekR rs (k + 1)) = 2 := by rw [hq, q1, q2]; decide
      have ht : textR [x, y] = ⟨#[60, 61]⟩ := by rw [t2, q1, q2]; rfl
      rw [hs, hdr2, List.take_succ_cons, List.take_succ_cons, List.take_zero, ht]
      simp -implicitDefEqProofs only [A72, B72, dbody, dexec, ostep, dop, ev, put, wants, dbin, dun, List.replicate, Nat.reduceAdd, Nat.reduceSub, Nat.reduceLT, Nat.reduceLeDiff, Nat.reduceMul, DV.cells, DV.flat, dload, DV.elems, reduceCtorEq, mask, DV.lows, DV.low, DV.coe, DV.isD, dresults, dresult, withHeap, lowCells, LSt.isReady, srcElems, DV.int, DV.mkAgg, same, mnmx2, nilness, bound, fill, flatCells, Int.reduceLE, Int.reduceLT, Int.reduceAdd, Int.reduceSub, Int.reduceNeg, Int.reduceEq, Int.reduceBEq, Int.reduceBNe, Nat.reduceBEq, Nat.reduceEqDiff, Int.reduceToNat, allocCells, stp, hx, hx', Rn.enc, w1, g, hy, hy', q1, q2]
    by_cases p3 : x.r = 61 ∧ y.r = 61
    · obtain ⟨q1, q2⟩ := p3
      have hs : signN x.r (peekR rs (k + 1)) = 2 := by rw [hq, q1, q2]; decide
      have ht : textR [x, y] = ⟨#[61, 61]⟩ := by rw [t2, q1, q2]; rfl
      rw [hs, hdr2, List.take_succ_cons, List.take_succ_cons, List.take_zero, ht]
      simp -implicitDefEqProofs only [A72, B72, dbody, dexec, ostep, dop, ev, put, wants, dbin, dun, List.replicate, Nat.reduceAdd, Nat.reduceSub, Nat.reduceLT, Nat.reduceLeDiff, Nat.reduceMul, DV.cells, DV.flat, dload, DV.elems, reduceCtorEq, mask, DV.lows, DV.low, DV.coe, DV.isD, dresults, dresult, withHeap, lowCells, LSt.isReady, srcElems, DV.int, DV.mkAgg, same, mnmx2, nilness, bound, fill, flatCells, Int.reduceLE, Int.reduceLT, Int.reduceAdd, Int.reduceSub, Int.reduceNeg, Int.reduceEq, Int.reduceBEq, Int.reduceBNe, Nat.reduceBEq, Nat.reduceEqDiff, Int.reduceToNat, allocCells, stp, hx, hx', Rn.enc, w1, g, hy, hy', q1, q2]
    rw [main y.r (fun h => p1 h) (fun h => p2 h) (fun h => p3 h) (.inl ⟨g, y, hy, rfl⟩)]
    exact one1 (by
      rw [hq]
      unfold signN
      rw [if_neg (fun h => h.elim p1 (fun h => h.elim p2 p3))])
  · have g : ¬ ((k + 1 : Nat) : Int) < rs.length := by omega
    have hq : peekR rs (k + 1) = -1 := by
      have : rs[k + 1]? = none := by simp; omega
      simp [peekR, this]
    rw [main 0 (fun h => by omega) (fun h => by omega) (fun h => by omega) (.inr ⟨g, rfl⟩)]
    exact one1 (by
      rw [hq]
      unfold signN
      rw [if_neg (by omega)])
end Go.Proofs.YtoadpaaghjomnaaDoor.Codes
