/-
  The document's token: quoted texts and numbers, whole.
  The document's token.
  Conditions: none.
-/
import Derived.Test.YtoadpaaghjomnaaDoorMK
set_option linter.unusedVariables false
set_option linter.unusedSimpArgs false
set_option maxRecDepth 100000
namespace Go.Proofs.YtoadpaaghjomnaaDoor.Codes
open Go Go.Deepv

theorem rquoted_ok {rs : List Rn} (hsz : rs.length ≤ 100000) (hsc : ∀ x ∈ rs, rScal x.r = true) {k : Nat} (hk : k < rs.length) (h : List Res) :
    D env 71 [.d (.slice 4 (rs.map Rn.enc)), .d (.int .i64 k)] h = some (.val (.d (match qtK rs (rs.length + 1) (k + 1) ⟨#[]⟩ with
      | some (b, k') => if 64 < b.size then .tup [.slice 1 [], .int .i64 0, .int .i64 5] else .tup [.slice 1 (strCells b), .int .i64 (k' - k : Nat), .int .i64 0]
      | none => .tup [.slice 1 [], .int .i64 0, .int .i64 4])) h) := by
  rw [D_dat (F := A71) rfl rfl rfl rfl]
  have w1 : IntKind.i64.wrap ((k : Int) + 1) = ((k + 1 : Nat) : Int) := by rw [wrap_i64 (by omega) (by omega)]; simp
  have hl := loop71 (fr := k) hsz hsc (rs.length + 1) (k + 1) ⟨#[]⟩ (by omega) (by omega) (by have : (⟨#[]⟩ : ByteArray).size = 0 := rfl; omega)
  have r0 : rr 1 (⟨#[]⟩ : ByteArray).size 5 = .nilrow := rfl
  have hnx := qtK_next rs (rs.length + 1) (k + 1) ⟨#[]⟩
  rw [r0] at hl
  generalize qtK rs (rs.length + 1) (k + 1) ⟨#[]⟩ = q at *
  cases q with
  | some bk =>
    obtain ⟨b, k'⟩ := bk
    obtain ⟨k0, rfl, hp, hl⟩ := hl
    have hlt := peekR_lt (rs := rs) (k := k0) (by omega)
    have hx : rs[k0]? = some rs[k0] := List.getElem?_eq_getElem _
    generalize rs[k0] = x at hx
    have hx' := rmap_at (f := Rn.enc) hx
    have hr : x.r = 34 := by simpa [peekR, hx] using hp
    have g1 : ¬ (rs.length : Int) ≤ (k0 : Int) := by omega
    have hge := (hnx b (k0 + 1) rfl).1
    have w2 : IntKind.i64.wrap ((k0 : Int) + 1) = ((k0 + 1 : Nat) : Int) := by rw [wrap_i64 (by omega) (by omega)]; simp
    have w3 : IntKind.i64.wrap (((k0 + 1 : Nat) : Int) - (k : Int)) = ((k0 + 1 - k : Nat) : Int) := by rw [wrap_i64 (by omega) (by omega)]; omega
    simp only [st71, cells_nil, List.replicate, List.cons_append, List.nil_append] at hl
    by_cases h64 : 64 < b.size
    · have g64 : (64 : Int) < b.size := by omega
      simp only [h64, if_true]
      simp -implicitDefEqProofs only [A71, B71, dbody, dexec, ostep, dop, ev, put, wants, dbin, dun, List.replicate, Nat.reduceAdd, Nat.reduceSub, Nat.reduceLT, Nat.reduceLeDiff, Nat.reduceMul, DV.cells, DV.flat, dload, DV.elems, reduceCtorEq, mask, DV.lows, DV.low, DV.coe, DV.isD, dresults, dresult, withHeap, lowCells, LSt.isReady, srcElems, DV.int, DV.mkAgg, same, mnmx2, nilness, bound, fill, flatCells, Int.reduceLE, Int.reduceLT, Int.reduceAdd, Int.reduceSub, Int.reduceNeg, Int.reduceEq, Int.reduceBEq, Int.reduceBNe, Nat.reduceBEq, Nat.reduceEqDiff, Int.reduceToNat, allocCells, stp, w1, hl, g1, hx, hx', Rn.enc, hr, strCells_len, g64]
    · have g64 : ¬ (64 : Int) < b.size := by omega
      simp only [h64, if_false]
      simp -implicitDefEqProofs only [A71, B71, dbody, dexec, ostep, dop, ev, put, wants, dbin, dun, List.replicate, Nat.reduceAdd, Nat.reduceSub, Nat.reduceLT, Nat.reduceLeDiff, Nat.reduceMul, DV.cells, DV.flat, dload, DV.elems, reduceCtorEq, mask, DV.lows, DV.low, DV.coe, DV.isD, dresults, dresult, withHeap, lowCells, LSt.isReady, srcElems, DV.int, DV.mkAgg, same, mnmx2, nilness, bound, fill, flatCells, Int.reduceLE, Int.reduceLT, Int.reduceAdd, Int.reduceSub, Int.reduceNeg, Int.reduceEq, Int.reduceBEq, Int.reduceBNe, Nat.reduceBEq, Nat.reduceEqDiff, Int.reduceToNat, allocCells, stp, w1, hl, g1, hx, hx', Rn.enc, hr, strCells_len, g64, w2, w3]
  | none =>
    rcases hl with ⟨b, k0, hp, hk0, hb0, hl⟩ | ⟨b, k0, hl⟩
    · simp only [st71, cells_nil, List.replicate, List.cons_append, List.nil_append] at hl
      by_cases hlt : k0 < rs.length
      · have hx : rs[k0]? = some rs[k0] := List.getElem?_eq_getElem _
        generalize rs[k0] = x at hx
        have hx' := rmap_at (f := Rn.enc) hx
        have hr : (x.r != 34) = true := by
          have : ¬ x.r = 34 := by simpa [peekR, hx] using hp
          simpa using this
        have g1 : ¬ (rs.length : Int) ≤ (k0 : Int) := by omega
        simp -implicitDefEqProofs only [A71, B71, dbody, dexec, ostep, dop, ev, put, wants, dbin, dun, List.replicate, Nat.reduceAdd, Nat.reduceSub, Nat.reduceLT, Nat.reduceLeDiff, Nat.reduceMul, DV.cells, DV.flat, dload, DV.elems, reduceCtorEq, mask, DV.lows, DV.low, DV.coe, DV.isD, dresults, dresult, withHeap, lowCells, LSt.isReady, srcElems, DV.int, DV.mkAgg, same, mnmx2, nilness, bound, fill, flatCells, Int.reduceLE, Int.reduceLT, Int.reduceAdd, Int.reduceSub, Int.reduceNeg, Int.reduceEq, Int.reduceBEq, Int.reduceBNe, Nat.reduceBEq, Nat.reduceEqDiff, Int.reduceToNat, allocCells, stp, w1, hl, g1, hx, hx', Rn.enc, hr]
      · have g1 : (rs.length : Int) ≤ (k0 : Int) := by omega
        simp -implicitDefEqProofs only [A71, B71, dbody, dexec, ostep, dop, ev, put, wants, dbin, dun, List.replicate, Nat.reduceAdd, Nat.reduceSub, Nat.reduceLT, Nat.reduceLeDiff, Nat.reduceMul, DV.cells, DV.flat, dload, DV.elems, reduceCtorEq, mask, DV.lows, DV.low, DV.coe, DV.isD, dresults, dresult, withHeap, lowCells, LSt.isReady, srcElems, DV.int, DV.mkAgg, same, mnmx2, nilness, bound, fill, flatCells, Int.reduceLE, Int.reduceLT, Int.reduceAdd, Int.reduceSub, Int.reduceNeg, Int.reduceEq, Int.reduceBEq, Int.reduceBNe, Nat.reduceBEq, Nat.reduceEqDiff, Int.reduceToNat, allocCells, stp, w1, hl, g1]
    · simp only [st71, ex71, cells_nil, List.replicate, List.cons_append, List.nil_append] at hl
      simp -implicitDefEqProofs only [A71, B71, dbody, dexec, ostep, dop, ev, put, wants, dbin, dun, List.replicate, Nat.reduceAdd, Nat.reduceSub, Nat.reduceLT, Nat.reduceLeDiff, Nat.reduceMul, DV.cells, DV.flat, dload, DV.elems, reduceCtorEq, mask, DV.lows, DV.low, DV.coe, DV.isD, dresults, dresult, withHeap, lowCells, LSt.isReady, srcElems, DV.int, DV.mkAgg, same, mnmx2, nilness, bound, fill, flatCells, Int.reduceLE, Int.reduceLT, Int.reduceAdd, Int.reduceSub, Int.reduceNeg, Int.reduceEq, Int.reduceBEq, Int.reduceBNe, Nat.reduceBEq, Nat.reduceEqDiff, Int.reduceToNat, allocCells, stp, w1, hl]

/-- The token's box, its bytes data. -/
def tkd (kind : Int) (text : ByteArray) (num l c : Int) : Res := .box [.d (.int .i64 kind), .d (.str text), .d (.int .i64 num), .d (.slice 1 []), .d (.int .i64 l), .d (.int .i64 c)]
def tk0 : Res := .box [.d (.int .i64 0), .d (.str ⟨#[]⟩), .d (.int .i64 0), .row 1 [] 0, .d (.int .i64 0), .d (.int .i64 0)]
def st39 (rs : List Rn) (k n : Nat) : List DV := [.d (.slice 4 (rs.map Rn.enc)), .d (.int .i64 k), .d .undef, .d .undef, .ptr 1 0, .d .undef, .d .undef, .d .undef, .ptr 3 0, .d .undef, .d .undef, .d (.int .i64 n)] ++ List.replicate 113 (.d .undef)
def ex39 (a b : FV) (n : Nat) : List DV := [.d .undef, .d .undef, .d .undef, .d .undef, .ptr 1 0, .d a, .d b, .d .undef, .ptr 3 0, .d .undef, .d .undef, .d (.int .i64 n)] ++ List.replicate 113 (.d .undef)
theorem numF_sticky (l1 l2 : List Rn) (h : (numF l1).1 = true) : (numF (l1 ++ l2)).1 = true := by
  unfold numF at h ⊢
  rw [List.foldl_append]
  generalize l1.foldl (fun s x => numStep s x.r) (false, 0) = s at *
  induction l2 generalizing s with
  | nil => exact h
  | cons x l ih =>
    rw [List.foldl_cons]
    refine ih _ ?_
    unfold numStep
    rw [if_pos h]
    exact h
theorem loop39 {rs : List Rn} {k : Nat} {tl tc : Int} (hsz : rs.length ≤ 100000) (hk : k ≤ rs.length) :
    ∀ (j n : Nat), n + j = cnt rDig (rs.drop k) → (numF ((rs.drop k).take n)).1 = false → 0 ≤ (numF ((rs.drop k).take n)).2 → (numF ((rs.drop k).take n)).2 ≤ mostN →
      if (numF ((rs.drop k).take (cnt rDig (rs.drop k)))).1 = true then ∃ v n', L env 4 true H39L17 X39L17 B39L17 (st39 rs k n) [.nilrow, tk0, .nilrow, tkd 3 ⟨#[]⟩ (numF ((rs.drop k).take n)).2 tl tc] = some (.ret, ex39 (.int .i64 0) (.int .i64 3) n', [.nilrow, tkd 3 ⟨#[]⟩ v tl tc, .nilrow, tkd 3 ⟨#[]⟩ v tl tc])
      else L env 4 true H39L17 X39L17 B39L17 (st39 rs k n) [.nilrow, tk0, .nilrow, tkd 3 ⟨#[]⟩ (numF ((rs.drop k).take n)).2 tl tc] = some (.exit 0, ex39 .undef .undef (cnt rDig (rs.drop k)), [.nilrow, tk0, .nilrow, tkd 3 ⟨#[]⟩ (numF ((rs.drop k).take (cnt rDig (rs.drop k)))).2 tl tc]) := by
  obtain ⟨K, hK⟩ : ∃ K, L env 4 true H39L17 X39L17 B39L17 = K := ⟨_, rfl⟩
  rw [hK]
  have hm := cnt_le rDig (rs.drop k)
  rw [List.length_drop] at hm
  have hc := cnt_drop rDig rs k
  intro j
  induction j with
  | zero =>
    intro n hn h1 h2 h3
    have : n = cnt rDig (rs.drop k) := by omega
    rw [← this, h1, if_neg (by decide)]
    rw [← this] at hc
    generalize (numF ((rs.drop k).take n)).2 = v at *
    have w1 : IntKind.i64.wrap ((k : Int) + (n : Nat)) = ((k + n : Nat) : Int) := by rw [wrap_i64 (by omega) (by omega)]; simp
    rcases hc.2 with hl | ⟨y, hy, hy2⟩
    · have g1 : ¬ ((k + n : Nat) : Int) < rs.length := by omega
      rw [L_round hK]
      simp -implicitDefEqProofs only [B39L17, st39, ex39, tk0, tkd, dbody, dexec, ostep, dop, ev, put, wants, dbin, dun, List.replicate, Nat.reduceAdd, Nat.reduceSub, Nat.reduceLT, Nat.reduceLeDiff, Nat.reduceMul, DV.cells, DV.flat, dload, DV.elems, reduceCtorEq, mask, DV.lows, DV.low, DV.coe, DV.isD, dresults, dresult, withHeap, lowCells, LSt.isReady, srcElems, DV.int, DV.mkAgg, same, mnmx2, nilness, bound, fill, flatCells, Int.reduceLE, Int.reduceLT, Int.reduceAdd, Int.reduceSub, Int.reduceNeg, Int.reduceEq, Int.reduceBEq, Int.reduceBNe, Nat.reduceBEq, Nat.reduceEqDiff, Int.reduceToNat, allocCells, stp, w1, g1]
    · have hlt := (List.getElem?_eq_some_iff.1 hy).1
      have g1 : ((k + n : Nat) : Int) < rs.length := by omega
      have hy' := rmap_at (f := Rn.enc) hy
      have e70 := fun h => rdigit_ok y.r h
      rw [hy2] at e70
      rw [L_round hK]
      simp -implicitDefEqProofs only [B39L17, st39, ex39, tk0, tkd, dbody, dexec, ostep, dop, ev, put, wants, dbin, dun, List.replicate, Nat.reduceAdd, Nat.reduceSub, Nat.reduceLT, Nat.reduceLeDiff, Nat.reduceMul, DV.cells, DV.flat, dload, DV.elems, reduceCtorEq, mask, DV.lows, DV.low, DV.coe, DV.isD, dresults, dresult, withHeap, lowCells, LSt.isReady, srcElems, DV.int, DV.mkAgg, same, mnmx2, nilness, bound, fill, flatCells, Int.reduceLE, Int.reduceLT, Int.reduceAdd, Int.reduceSub, Int.reduceNeg, Int.reduceEq, Int.reduceBEq, Int.reduceBNe, Nat.reduceBEq, Nat.reduceEqDiff, Int.reduceToNat, allocCells, stp, w1, g1, hy, hy', Rn.enc, e70]
  | succ j ih =>
    intro n hn h1 h2 h3
    have hx := hc.1 n (by omega)
    obtain ⟨hx, hd⟩ := hx
    generalize rs.getD (k + n) ⟨0, 0, 0, 0⟩ = x at *
    have hx' := rmap_at (f := Rn.enc) hx
    have hlt := (List.getElem?_eq_some_iff.1 hx).1
    have g1 : ((k + n : Nat) : Int) < rs.length := by omega
    have e70 := fun h => rdigit_ok x.r h
    rw [hd] at e70
    have hd' := hd
    simp only [rDig, Bool.and_eq_true, decide_eq_true_eq] at hd'
    have htk : (rs.drop k).take (n + 1) = (rs.drop k).take n ++ [x] := by
      rw [List.take_add_one, List.getElem?_drop, hx]
      rfl
    have hsn : numF ((rs.drop k).take (n + 1)) = numStep (false, (numF ((rs.drop k).take n)).2) x.r := by
      rw [htk, numF_snoc]
      congr 1
      rw [← h1]
    have stick : (numF ((rs.drop k).take (n + 1))).1 = true → (numF ((rs.drop k).take (cnt rDig (rs.drop k)))).1 = true := fun hh => by
      have : (rs.drop k).take (cnt rDig (rs.drop k)) = (rs.drop k).take (n + 1) ++ ((rs.drop k).drop (n + 1)).take (cnt rDig (rs.drop k) - (n + 1)) := by
        have e : cnt rDig (rs.drop k) = n + 1 + (cnt rDig (rs.drop k) - (n + 1)) := by omega
        conv => lhs; rw [e, List.take_add]
      rw [this]
      exact numF_sticky _ _ hh
    have w1 : IntKind.i64.wrap ((k : Int) + (n : Nat)) = ((k + n : Nat) : Int) := by rw [wrap_i64 (by omega) (by omega)]; simp
    have w2 : IntKind.i32.wrap (x.r - 48) = x.r - 48 := wrap_i32 (by omega) (by omega)
    have w3 : IntKind.i64.wrap (x.r - 48) = x.r - 48 := wrap_i64 (by omega) (by omega)
    have w4 : IntKind.i64.wrap ((n : Int) + 1) = ((n + 1 : Nat) : Int) := by rw [wrap_i64 (by omega) (by omega)]; simp
    have ih := ih (n + 1) (by omega)
    have hin := numStep_in (s := (false, (numF ((rs.drop k).take n)).2)) h2 h3 hd'.1
    rw [← hsn] at hin
    have hex : (numF ((rs.drop k).take (n + 1))) = if mostN < (numF ((rs.drop k).take n)).2 * 10 + (x.r - 48) then (true, (numF ((rs.drop k).take n)).2) else (false, (numF ((rs.drop k).take n)).2 * 10 + (x.r - 48)) := by
      rw [hsn]
      unfold numStep
      rfl
    generalize (numF ((rs.drop k).take n)).2 = v at *
    unfold mostN at *
    by_cases c1 : 461168601842738790 < v
    · rw [if_pos (by omega)] at hex
      rw [if_pos (stick (by rw [hex]))]
      refine ⟨v, n, ?_⟩
      rw [L_round hK]
      simp -implicitDefEqProofs only [B39L17, st39, ex39, tk0, tkd, dbody, dexec, ostep, dop, ev, put, wants, dbin, dun, List.replicate, Nat.reduceAdd, Nat.reduceSub, Nat.reduceLT, Nat.reduceLeDiff, Nat.reduceMul, DV.cells, DV.flat, dload, DV.elems, reduceCtorEq, mask, DV.lows, DV.low, DV.coe, DV.isD, dresults, dresult, withHeap, lowCells, LSt.isReady, srcElems, DV.int, DV.mkAgg, same, mnmx2, nilness, bound, fill, flatCells, Int.reduceLE, Int.reduceLT, Int.reduceAdd, Int.reduceSub, Int.reduceNeg, Int.reduceEq, Int.reduceBEq, Int.reduceBNe, Nat.reduceBEq, Nat.reduceEqDiff, Int.reduceToNat, allocCells, stp, w1, w2, w3, w4, g1, hx, hx', Rn.enc, e70, c1, putCells]
    · have w5 : IntKind.i64.wrap (v * 10) = v * 10 := wrap_i64 (by omega) (by omega)
      have w6 : IntKind.i64.wrap (v * 10 + (x.r - 48)) = v * 10 + (x.r - 48) := wrap_i64 (by omega) (by omega)
      by_cases c2 : 4611686018427387903 < v * 10 + (x.r - 48)
      · rw [if_pos c2] at hex
        rw [if_pos (stick (by rw [hex]))]
        refine ⟨v * 10 + (x.r - 48), n, ?_⟩
        rw [L_round hK]
        simp -implicitDefEqProofs only [B39L17, st39, ex39, tk0, tkd, dbody, dexec, ostep, dop, ev, put, wants, dbin, dun, List.replicate, Nat.reduceAdd, Nat.reduceSub, Nat.reduceLT, Nat.reduceLeDiff, Nat.reduceMul, DV.cells, DV.flat, dload, DV.elems, reduceCtorEq, mask, DV.lows, DV.low, DV.coe, DV.isD, dresults, dresult, withHeap, lowCells, LSt.isReady, srcElems, DV.int, DV.mkAgg, same, mnmx2, nilness, bound, fill, flatCells, Int.reduceLE, Int.reduceLT, Int.reduceAdd, Int.reduceSub, Int.reduceNeg, Int.reduceEq, Int.reduceBEq, Int.reduceBNe, Nat.reduceBEq, Nat.reduceEqDiff, Int.reduceToNat, allocCells, stp, w1, w2, w3, w4, w5, w6, g1, hx, hx', Rn.enc, e70, c1, c2, putCells]
      · rw [if_neg c2] at hex
        rw [hex] at ih hin
        have ih := ih rfl hin.1 hin.2
        simp only at ih
        have step : K (st39 rs k n) [.nilrow, tk0, .nilrow, tkd 3 ⟨#[]⟩ v tl tc] = K (st39 rs k (n + 1)) [.nilrow, tk0, .nilrow, tkd 3 ⟨#[]⟩ (v * 10 + (x.r - 48)) tl tc] := by
          generalize hR : K (st39 rs k (n + 1)) [.nilrow, tk0, .nilrow, tkd 3 ⟨#[]⟩ (v * 10 + (x.r - 48)) tl tc] = RR
          simp only [st39, tk0, tkd, List.replicate, List.cons_append, List.nil_append] at hR
          rw [L_round hK]
          simp -implicitDefEqProofs only [B39L17, st39, tk0, tkd, dbody, dexec, ostep, dop, ev, put, wants, dbin, dun, List.replicate, Nat.reduceAdd, Nat.reduceSub, Nat.reduceLT, Nat.reduceLeDiff, Nat.reduceMul, DV.cells, DV.flat, dload, DV.elems, reduceCtorEq, mask, DV.lows, DV.low, DV.coe, DV.isD, dresults, dresult, withHeap, lowCells, LSt.isReady, srcElems, DV.int, DV.mkAgg, same, mnmx2, nilness, bound, fill, flatCells, Int.reduceLE, Int.reduceLT, Int.reduceAdd, Int.reduceSub, Int.reduceNeg, Int.reduceEq, Int.reduceBEq, Int.reduceBNe, Nat.reduceBEq, Nat.reduceEqDiff, Int.reduceToNat, allocCells, stp, w1, w2, w3, w4, w5, w6, g1, hx, hx', Rn.enc, e70, c1, c2, putCells, hR]
        rw [step]
        exact ih
end Go.Proofs.YtoadpaaghjomnaaDoor.Codes

set_option linter.unusedVariables false
set_option linter.unusedSimpArgs false
set_option maxRecDepth 100000
namespace Go.Proofs.YtoadpaaghjomnaaDoor.Codes
open Go Go.Deepv

theorem byteB_sz (v : Int) : (byteB v).size = 1 := rfl
/-- A sign's text has as many bytes as it has runes. -/
theorem sign_size {rs : List Rn} {k : Nat} (hk : k < rs.length) (hsc : ∀ x ∈ rs, rScal x.r = true) : (textR ((rs.drop k).take (signN (peekR rs k) (peekR rs (k + 1))))).size = signN (peekR rs k) (peekR rs (k + 1)) := by
  have hx : rs[k]? = some rs[k] := List.getElem?_eq_getElem _
  have hp : peekR rs k = rs[k].r := by simp [peekR, hx]
  have hdr : rs.drop k = rs[k] :: rs.drop (k + 1) := by simp
  have h0 := ((rScal_iff _).1 (hsc rs[k] (List.mem_of_getElem? hx))).1
  have hl := signN_le (peekR rs k) (peekR rs (k + 1))
  generalize hs : signN (peekR rs k) (peekR rs (k + 1)) = n at *
  have hn : n = 0 ∨ n = 1 ∨ n = 2 := by omega
  rcases hn with rfl | rfl | rfl
  · rfl
  · have h1 : rs[k].r < 128 := by
      unfold signN at hs
      split at hs
      · cases hs
      · split at hs
        · rename_i h
          rw [hp] at h
          have := (isSign_lt h).2
          omega
        · cases hs
    rw [hdr]
    simp only [List.take_succ_cons, List.take_zero]
    unfold textR
    rw [List.foldl_cons, List.foldl_nil, empty_app, encB_byteB h0 h1]
    rfl
  · have hd := hl.2 rfl
    have hlt := peekR_lt hd
    have hy : rs[k + 1]? = some rs[k + 1] := List.getElem?_eq_getElem _
    have hq : peekR rs (k + 1) = rs[k + 1].r := by simp [peekR, hy]
    have hdr2 : rs.drop (k + 1) = rs[k + 1] :: rs.drop (k + 1 + 1) := by simp
    have h1 : rs[k].r < 128 ∧ rs[k + 1].r < 128 := by
      unfold signN at hs
      split at hs
      · rename_i h
        rw [hp, hq] at h
        omega
      · split at hs <;> cases hs
    rw [hdr, hdr2]
    simp only [List.take_succ_cons, List.take_zero]
    unfold textR
    rw [List.foldl_cons, List.foldl_cons, List.foldl_nil, empty_app, encB_byteB h0 h1.1, encB_byteB (by rw [← hq]; exact hd) h1.2, ByteArray.size_append]
    rfl

set_option maxHeartbeats 2000000 in
theorem one_ok {rs : List Rn} (hsz : rs.length ≤ 100000) (hsc : ∀ x ∈ rs, rScal x.r = true) {k : Nat} {x : Rn} (hx : rs[k]? = some x) (h : List Res) :
    match tokK rs k with
    | .ok (v, k') => D env 39 [.d (.slice 4 (rs.map Rn.enc)), .d (.int .i64 k)] h = some (.val (.d (.tup [.agg (v.enc x.l x.c), .int .i64 (k' - k : Nat), .int .i64 0])) h)
    | .error e => ∃ (v : Tk) (n : Int), D env 39 [.d (.slice 4 (rs.map Rn.enc)), .d (.int .i64 k)] h = some (.val (.d (.tup [.agg (v.enc x.l x.c), .int .i64 n, .int .i64 e])) h) := by
  rw [D_dat (F := A39) rfl rfl rfl rfl]
  have hk : k < rs.length := (List.getElem?_eq_some_iff.1 hx).1
  have hp : peekR rs k = x.r := by simp [peekR, hx]
  have hx' := rmap_at (f := Rn.enc) hx
  have e51 := fun h => rlow_ok x.r h
  have e50 := fun h => rup_ok x.r h
  have e70 := fun h => rdigit_ok x.r h
  unfold tokK
  rw [hp]
  have z0 : ((0 : Nat) : Int) = 0 := rfl
  have hem : (⟨#[]⟩ : ByteArray).toList = [] := by rw [ByteArray.toList_eq]
  cases f1 : rLow x.r || rUp x.r with
  | true =>
    simp only [if_true]
    have e69 := fun h => rname_ok hsz hsc (Nat.le_of_lt hk) h
    have e19 := fun h => rword_ok (textR ((rs.drop k).take (cnt rPart (rs.drop k)))) h
    generalize textR ((rs.drop k).take (cnt rPart (rs.drop k))) = txt at *
    generalize cnt rPart (rs.drop k) = m at *
    by_cases h24 : 24 < m
    · have g24 : (24 : Int) < m := by omega
      simp only [h24, if_true]
      refine ⟨⟨nameKind txt x.r, txt, 0, ⟨#[]⟩⟩, 0, ?_⟩
      simp only [Tk.enc, cells_nil]
      unfold nameKind
      cases hl : rLow x.r <;> cases hu : rUp x.r <;> cases hw : isWord txt <;> rw [hl] at e51 f1 <;> rw [hu] at e50 f1 <;> rw [hw] at e19 <;>
        first
        | (exact absurd f1 (by decide))
        | simp -implicitDefEqProofs only [A39, B39, dbody, dexec, ostep, dop, ev, put, wants, dbin, dun, List.replicate, Nat.reduceAdd, Nat.reduceSub, Nat.reduceLT, Nat.reduceLeDiff, Nat.reduceMul, DV.cells, DV.flat, dload, DV.elems, reduceCtorEq, mask, DV.lows, DV.low, DV.coe, DV.isD, dresults, dresult, withHeap, lowCells, LSt.isReady, srcElems, DV.int, DV.mkAgg, same, mnmx2, nilness, bound, fill, flatCells, Int.reduceLE, Int.reduceLT, Int.reduceAdd, Int.reduceSub, Int.reduceNeg, Int.reduceEq, Int.reduceBEq, Int.reduceBNe, Nat.reduceBEq, Nat.reduceEqDiff, Int.reduceToNat, allocCells, stp, hx, hx', Rn.enc, e51, e50, e69, e19, g24, putCells]
    · have g24 : ¬ (24 : Int) < m := by omega
      simp only [h24, if_false, Nat.add_sub_cancel_left]
      simp only [Tk.enc, cells_nil]
      unfold nameKind
      cases hl : rLow x.r <;> cases hu : rUp x.r <;> cases hw : isWord txt <;> rw [hl] at e51 f1 <;> rw [hu] at e50 f1 <;> rw [hw] at e19 <;>
        first
        | (exact absurd f1 (by decide))
        | simp -implicitDefEqProofs only [A39, B39, dbody, dexec, ostep, dop, ev, put, wants, dbin, dun, List.replicate, Nat.reduceAdd, Nat.reduceSub, Nat.reduceLT, Nat.reduceLeDiff, Nat.reduceMul, DV.cells, DV.flat, dload, DV.elems, reduceCtorEq, mask, DV.lows, DV.low, DV.coe, DV.isD, dresults, dresult, withHeap, lowCells, LSt.isReady, srcElems, DV.int, DV.mkAgg, same, mnmx2, nilness, bound, fill, flatCells, Int.reduceLE, Int.reduceLT, Int.reduceAdd, Int.reduceSub, Int.reduceNeg, Int.reduceEq, Int.reduceBEq, Int.reduceBNe, Nat.reduceBEq, Nat.reduceEqDiff, Int.reduceToNat, allocCells, stp, hx, hx', Rn.enc, e51, e50, e69, e19, g24, putCells]
  | false =>
    have hl : rLow x.r = false := by cases h : rLow x.r <;> simp_all
    have hu : rUp x.r = false := by cases h : rUp x.r <;> simp_all
    rw [hl] at e51
    rw [hu] at e50
    simp only [Bool.false_eq_true, if_false]
    cases f2 : rDig x.r with
    | true =>
      rw [f2] at e70
      simp only [if_true]
      have hl39 := loop39 (tl := x.l) (tc := x.c) hsz (Nat.le_of_lt hk) (cnt rDig (rs.drop k)) 0 (by omega) rfl (Int.le_refl 0) (show (0 : Int) ≤ mostN by decide)
      have n0 : numF ((rs.drop k).take 0) = (false, 0) := rfl
      rw [n0] at hl39
      generalize numF ((rs.drop k).take (cnt rDig (rs.drop k))) = q at *
      generalize cnt rDig (rs.drop k) = m at *
      rcases q with ⟨g, v⟩
      cases g with
      | true =>
        simp only [if_true] at hl39 ⊢
        obtain ⟨v', n', hl39⟩ := hl39
        refine ⟨⟨3, ⟨#[]⟩, v', ⟨#[]⟩⟩, 0, ?_⟩
        simp only [st39, ex39, tk0, tkd, Tk.enc, cells_nil, z0, List.replicate, List.cons_append, List.nil_append] at *
        simp -implicitDefEqProofs only [A39, B39, dbody, dexec, ostep, dop, ev, put, wants, dbin, dun, List.replicate, Nat.reduceAdd, Nat.reduceSub, Nat.reduceLT, Nat.reduceLeDiff, Nat.reduceMul, DV.cells, DV.flat, dload, DV.elems, reduceCtorEq, mask, DV.lows, DV.low, DV.coe, DV.isD, dresults, dresult, withHeap, lowCells, LSt.isReady, srcElems, DV.int, DV.mkAgg, same, mnmx2, nilness, bound, fill, flatCells, Int.reduceLE, Int.reduceLT, Int.reduceAdd, Int.reduceSub, Int.reduceNeg, Int.reduceEq, Int.reduceBEq, Int.reduceBNe, Nat.reduceBEq, Nat.reduceEqDiff, Int.reduceToNat, allocCells, stp, hx, hx', Rn.enc, e51, e50, e70, hl39, putCells]
      | false =>
        simp only [Bool.false_eq_true, if_false, Nat.add_sub_cancel_left] at hl39 ⊢
        simp only [st39, ex39, tk0, tkd, Tk.enc, cells_nil, z0, List.replicate, List.cons_append, List.nil_append] at *
        simp -implicitDefEqProofs only [A39, B39, dbody, dexec, ostep, dop, ev, put, wants, dbin, dun, List.replicate, Nat.reduceAdd, Nat.reduceSub, Nat.reduceLT, Nat.reduceLeDiff, Nat.reduceMul, DV.cells, DV.flat, dload, DV.elems, reduceCtorEq, mask, DV.lows, DV.low, DV.coe, DV.isD, dresults, dresult, withHeap, lowCells, LSt.isReady, srcElems, DV.int, DV.mkAgg, same, mnmx2, nilness, bound, fill, flatCells, Int.reduceLE, Int.reduceLT, Int.reduceAdd, Int.reduceSub, Int.reduceNeg, Int.reduceEq, Int.reduceBEq, Int.reduceBNe, Nat.reduceBEq, Nat.reduceEqDiff, Int.reduceToNat, allocCells, stp, hx, hx', Rn.enc, e51, e50, e70, hl39, putCells]
    | false =>
      rw [f2] at e70
      simp only [Bool.false_eq_true, if_false]
      by_cases f3 : x.r = 34
      · have f3' : (x.r == 34) = true := by simpa using f3
        simp only [f3, if_true]
        have e71 := fun h => rquoted_ok hsz hsc hk h
        cases hq : qtK rs (rs.length + 1) (k + 1) ⟨#[]⟩ with
        | none =>
          rw [hq] at e71
          simp only at e71 ⊢
          refine ⟨⟨4, ⟨#[]⟩, 0, ⟨#[]⟩⟩, 0, ?_⟩
          simp only [Tk.enc, cells_nil]
          simp -implicitDefEqProofs only [A39, B39, dbody, dexec, ostep, dop, ev, put, wants, dbin, dun, List.replicate, Nat.reduceAdd, Nat.reduceSub, Nat.reduceLT, Nat.reduceLeDiff, Nat.reduceMul, DV.cells, DV.flat, dload, DV.elems, reduceCtorEq, mask, DV.lows, DV.low, DV.coe, DV.isD, dresults, dresult, withHeap, lowCells, LSt.isReady, srcElems, DV.int, DV.mkAgg, same, mnmx2, nilness, bound, fill, flatCells, Int.reduceLE, Int.reduceLT, Int.reduceAdd, Int.reduceSub, Int.reduceNeg, Int.reduceEq, Int.reduceBEq, Int.reduceBNe, Nat.reduceBEq, Nat.reduceEqDiff, Int.reduceToNat, allocCells, stp, hx, hx', Rn.enc, e51, e50, e70, f3', e71, putCells]
        | some v =>
          obtain ⟨b, k'⟩ := v
          rw [hq] at e71
          simp only at e71 ⊢
          by_cases h64 : 64 < b.size
          · simp only [h64, if_true] at e71 ⊢
            refine ⟨⟨4, ⟨#[]⟩, 0, ⟨#[]⟩⟩, 0, ?_⟩
            simp only [Tk.enc, cells_nil]
            simp -implicitDefEqProofs only [A39, B39, dbody, dexec, ostep, dop, ev, put, wants, dbin, dun, List.replicate, Nat.reduceAdd, Nat.reduceSub, Nat.reduceLT, Nat.reduceLeDiff, Nat.reduceMul, DV.cells, DV.flat, dload, DV.elems, reduceCtorEq, mask, DV.lows, DV.low, DV.coe, DV.isD, dresults, dresult, withHeap, lowCells, LSt.isReady, srcElems, DV.int, DV.mkAgg, same, mnmx2, nilness, bound, fill, flatCells, Int.reduceLE, Int.reduceLT, Int.reduceAdd, Int.reduceSub, Int.reduceNeg, Int.reduceEq, Int.reduceBEq, Int.reduceBNe, Nat.reduceBEq, Nat.reduceEqDiff, Int.reduceToNat, allocCells, stp, hx, hx', Rn.enc, e51, e50, e70, f3', e71, putCells]
          · simp only [h64, if_false] at e71 ⊢
            simp only [Tk.enc]
            simp -implicitDefEqProofs only [A39, B39, dbody, dexec, ostep, dop, ev, put, wants, dbin, dun, List.replicate, Nat.reduceAdd, Nat.reduceSub, Nat.reduceLT, Nat.reduceLeDiff, Nat.reduceMul, DV.cells, DV.flat, dload, DV.elems, reduceCtorEq, mask, DV.lows, DV.low, DV.coe, DV.isD, dresults, dresult, withHeap, lowCells, LSt.isReady, srcElems, DV.int, DV.mkAgg, same, mnmx2, nilness, bound, fill, flatCells, Int.reduceLE, Int.reduceLT, Int.reduceAdd, Int.reduceSub, Int.reduceNeg, Int.reduceEq, Int.reduceBEq, Int.reduceBNe, Nat.reduceBEq, Nat.reduceEqDiff, Int.reduceToNat, allocCells, stp, hx, hx', Rn.enc, e51, e50, e70, f3', e71, putCells]
      · have f4 : (x.r == 34) = false := by simpa using f3
        simp only [f3, if_false]
        have e72 := fun h => rsign_ok hsz hsc hk h
        have hss := sign_size hk hsc
        rw [hp] at e72 hss
        by_cases h0 : signN x.r (peekR rs (k + 1)) = 0
        · rw [h0] at e72 hss ⊢
          simp only [if_true]
          have t0 : textR ((rs.drop k).take 0) = ⟨#[]⟩ := rfl
          rw [t0] at e72
          refine ⟨⟨6, ⟨#[]⟩, 0, ⟨#[]⟩⟩, 0, ?_⟩
          simp only [Tk.enc, cells_nil]
          have he : ((⟨#[]⟩ : ByteArray).toList == (⟨#[]⟩ : ByteArray).toList) = true := by rw [hem]; rfl
          simp -implicitDefEqProofs only [A39, B39, dbody, dexec, ostep, dop, ev, put, wants, dbin, dun, List.replicate, Nat.reduceAdd, Nat.reduceSub, Nat.reduceLT, Nat.reduceLeDiff, Nat.reduceMul, DV.cells, DV.flat, dload, DV.elems, reduceCtorEq, mask, DV.lows, DV.low, DV.coe, DV.isD, dresults, dresult, withHeap, lowCells, LSt.isReady, srcElems, DV.int, DV.mkAgg, same, mnmx2, nilness, bound, fill, flatCells, Int.reduceLE, Int.reduceLT, Int.reduceAdd, Int.reduceSub, Int.reduceNeg, Int.reduceEq, Int.reduceBEq, Int.reduceBNe, Nat.reduceBEq, Nat.reduceEqDiff, Int.reduceToNat, allocCells, stp, hx, hx', Rn.enc, e51, e50, e70, f4, e72, he, putCells]
        · simp only [h0, if_false, Nat.add_sub_cancel_left]
          generalize textR ((rs.drop k).take (signN x.r (peekR rs (k + 1)))) = txt at *
          have he : (txt.toList == (⟨#[]⟩ : ByteArray).toList) = false := by
            rw [hem, ByteArray.toList_eq]
            cases ht : txt.data.toList with
            | nil =>
              have : txt.size = 0 := by
                have : txt.data.toList.length = txt.size := Array.length_toList
                rw [← this, ht]
                rfl
              omega
            | cons a b => rfl
          generalize signN x.r (peekR rs (k + 1)) = n at *
          simp only [Tk.enc, cells_nil]
          simp -implicitDefEqProofs only [A39, B39, dbody, dexec, ostep, dop, ev, put, wants, dbin, dun, List.replicate, Nat.reduceAdd, Nat.reduceSub, Nat.reduceLT, Nat.reduceLeDiff, Nat.reduceMul, DV.cells, DV.flat, dload, DV.elems, reduceCtorEq, mask, DV.lows, DV.low, DV.coe, DV.isD, dresults, dresult, withHeap, lowCells, LSt.isReady, srcElems, DV.int, DV.mkAgg, same, mnmx2, nilness, bound, fill, flatCells, Int.reduceLE, Int.reduceLT, Int.reduceAdd, Int.reduceSub, Int.reduceNeg, Int.reduceEq, Int.reduceBEq, Int.reduceBNe, Nat.reduceBEq, Nat.reduceEqDiff, Int.reduceToNat, allocCells, stp, hx, hx', Rn.enc, e51, e50, e70, f4, e72, he, hss, putCells]
end Go.Proofs.YtoadpaaghjomnaaDoor.Codes
