/-
  The bytes behind a rune's first one, as the document reads them.
  The document's One: the rune that begins at a byte.
  Conditions: none.
-/
import Derived.Test.YtoadpaaghjomnaaDoorMB
set_option linter.unusedVariables false
set_option linter.unusedSimpArgs false
set_option maxRecDepth 100000
namespace Go.Proofs.YtoadpaaghjomnaaDoor.Codes
open Go.Deepv

/-- The rune so far, n more bytes from place i on; false: one of them is none. -/
def tailV (s : ByteArray) : Nat → Nat → Int → Int × Bool
  | 0, _, r => (r, true)
  | n + 1, i, r => match s[i]? with
    | none => (0, false)
    | some b => if (b.toNat : Int) < 128 then (0, false) else if (191 : Int) < b.toNat then (0, false) else tailV s n (i + 1) (r * 64 + (b.toNat - 128))

def st76 (s : ByteArray) (i n r k : Int) : List DV := [.d (.str s), .d (.int .i64 i), .d (.int .i64 n), .d .undef, .d .undef, .d .undef, .d .undef, .d .undef, .d (.int .i32 r), .d (.int .i64 k)] ++ List.replicate 33 (.d .undef)

theorem wrap_u8 {n : Int} (h0 : 0 ≤ n) (h1 : n < 256) : IntKind.u8.wrap n = n := by
  simp only [IntKind.wrap, IntKind.signed, IntKind.bits, Bool.false_and, Bool.false_eq_true, if_false]
  omega
theorem ba_none {s : ByteArray} {i : Nat} (h : s.size ≤ i) : s[i]? = none := by simp [h]
theorem ba_some {s : ByteArray} {i : Nat} (h : i < s.size) : s[i]? = some s[i] := by simp [h]
def ex76 (b : FV) (v : Bool) (r : Int) : List DV := List.replicate 6 (.d .undef) ++ [.d b, .d (if v then .undef else .bool false), .d (.int .i32 r)] ++ List.replicate 34 (.d .undef)

theorem tail_loop (s : ByteArray) (i0 N : Int) (h0 : 0 ≤ i0) (h2 : 0 ≤ N) (h1 : i0 + N ≤ 1000000) :
    ∀ (n k : Nat) (r : Int), (k : Int) + n = i0 + N → 0 ≤ r → (r + 1) * 64 ^ n ≤ 262144 →
      ∃ q, L env 0 true H76L3 X76L3 B76L3 (st76 s i0 N r k) [] = match tailV s n k r with
        | (v, true) => some (.exit 0, ex76 .undef true v, [])
        | (_, false) => some (.ret, ex76 (.int .i32 0) false q, []) := by
  obtain ⟨K, hK⟩ : ∃ K, L env 0 true H76L3 X76L3 B76L3 = K := ⟨_, rfl⟩
  rw [hK]
  have w0 : IntKind.i64.wrap (i0 + N) = i0 + N := wrap_i64 (by omega) (by omega)
  intro n
  induction n with
  | zero =>
    intro k r hk hr hb
    refine ⟨0, ?_⟩
    have hp : ¬ (k : Int) < i0 + N := by omega
    rw [L_round hK]
    simp -implicitDefEqProofs only [B76L3, st76, ex76, tailV, dbody, dexec, ostep, dop, ev, put, wants, dbin, dun, List.replicate, Nat.reduceAdd, Nat.reduceSub, Nat.reduceLT, Nat.reduceLeDiff, Nat.reduceMul, DV.cells, DV.flat, dload, DV.elems, reduceCtorEq, mask, DV.lows, DV.low, DV.coe, DV.isD, dresults, dresult, withHeap, lowCells, LSt.isReady, srcElems, DV.int, DV.mkAgg, same, mnmx2, nilness, bound, fill, flatCells, Int.reduceLE, Int.reduceLT, Int.reduceAdd, Int.reduceSub, Int.reduceNeg, Int.reduceEq, Int.reduceBEq, Int.reduceBNe, Nat.reduceBEq, Nat.reduceEqDiff, Int.reduceToNat, allocCells, stp, hp, w0]
  | succ n ih =>
    intro k r hk hr hb
    have hp : (k : Int) < i0 + N := by omega
    by_cases hs : k < s.size
    · have hs1 : ¬ (s.size : Int) ≤ (k : Int) := by omega
      have hx := ba_some hs
      generalize s[k] = x at *
      have hx2 := x.toNat_lt
      by_cases ha : (x.toNat : Int) < 128
      · refine ⟨r, ?_⟩
        rw [L_round hK]
        simp -implicitDefEqProofs only [B76L3, st76, ex76, tailV, dbody, dexec, ostep, dop, ev, put, wants, dbin, dun, List.replicate, Nat.reduceAdd, Nat.reduceSub, Nat.reduceLT, Nat.reduceLeDiff, Nat.reduceMul, DV.cells, DV.flat, dload, DV.elems, reduceCtorEq, mask, DV.lows, DV.low, DV.coe, DV.isD, dresults, dresult, withHeap, lowCells, LSt.isReady, srcElems, DV.int, DV.mkAgg, same, mnmx2, nilness, bound, fill, flatCells, Int.reduceLE, Int.reduceLT, Int.reduceAdd, Int.reduceSub, Int.reduceNeg, Int.reduceEq, Int.reduceBEq, Int.reduceBNe, Nat.reduceBEq, Nat.reduceEqDiff, Int.reduceToNat, allocCells, stp, hp, w0, hs1, hx, ha]
      · by_cases hc : (191 : Int) < x.toNat
        · refine ⟨r, ?_⟩
          rw [L_round hK]
          simp -implicitDefEqProofs only [B76L3, st76, ex76, tailV, dbody, dexec, ostep, dop, ev, put, wants, dbin, dun, List.replicate, Nat.reduceAdd, Nat.reduceSub, Nat.reduceLT, Nat.reduceLeDiff, Nat.reduceMul, DV.cells, DV.flat, dload, DV.elems, reduceCtorEq, mask, DV.lows, DV.low, DV.coe, DV.isD, dresults, dresult, withHeap, lowCells, LSt.isReady, srcElems, DV.int, DV.mkAgg, same, mnmx2, nilness, bound, fill, flatCells, Int.reduceLE, Int.reduceLT, Int.reduceAdd, Int.reduceSub, Int.reduceNeg, Int.reduceEq, Int.reduceBEq, Int.reduceBNe, Nat.reduceBEq, Nat.reduceEqDiff, Int.reduceToNat, allocCells, stp, hp, w0, hs1, hx, ha, hc]
        · have hpow : 1 ≤ (64 : Int) ^ n := by
            have := Int.pow_pos (n := 64) (m := n) (by decide)
            omega
          have hb2 : (r + 1) * 64 * 64 ^ n ≤ 262144 := by
            have : (64 : Int) ^ (n + 1) = 64 ^ n * 64 := Int.pow_succ ..
            rw [this] at hb
            rw [Int.mul_assoc, Int.mul_comm 64]
            exact hb
          have hb3 : (r + 1) * 64 ≤ 262144 := by
            have : (r + 1) * 64 * 1 ≤ (r + 1) * 64 * 64 ^ n := Int.mul_le_mul_of_nonneg_left hpow (by omega)
            omega
          have hb4 : (r * 64 + (x.toNat - 128) + 1) * 64 ^ n ≤ 262144 := by
            have : (r * 64 + (x.toNat - 128) + 1) * 64 ^ n ≤ (r + 1) * 64 * 64 ^ n := Int.mul_le_mul_of_nonneg_right (by omega) (by omega)
            omega
          obtain ⟨q, ih⟩ := ih (k + 1) (r * 64 + (x.toNat - 128)) (by omega) (by omega) hb4
          refine ⟨q, ?_⟩
          have w1 : IntKind.i32.wrap (r * 64) = r * 64 := wrap_i32 (by omega) (by omega)
          have w2 : IntKind.u8.wrap ((x.toNat : Int) - 128) = x.toNat - 128 := wrap_u8 (by omega) (by omega)
          have w3 : IntKind.i32.wrap ((x.toNat : Int) - 128) = x.toNat - 128 := wrap_i32 (by omega) (by omega)
          have w4 : IntKind.i32.wrap (r * 64 + ((x.toNat : Int) - 128)) = r * 64 + (x.toNat - 128) := wrap_i32 (by omega) (by omega)
          have w5 : IntKind.i64.wrap ((k : Int) + 1) = ((k + 1 : Nat) : Int) := by rw [wrap_i64 (by omega) (by omega)]; simp
          have ht : tailV s (n + 1) k r = tailV s n (k + 1) (r * 64 + (x.toNat - 128)) := by simp only [tailV, hx, ha, hc, if_false]
          rw [ht]
          simp only [st76, List.replicate, List.cons_append, List.nil_append] at ih
          rw [L_round hK]
          simp -implicitDefEqProofs only [B76L3, st76, dbody, dexec, ostep, dop, ev, put, wants, dbin, dun, List.replicate, Nat.reduceAdd, Nat.reduceSub, Nat.reduceLT, Nat.reduceLeDiff, Nat.reduceMul, DV.cells, DV.flat, dload, DV.elems, reduceCtorEq, mask, DV.lows, DV.low, DV.coe, DV.isD, dresults, dresult, withHeap, lowCells, LSt.isReady, srcElems, DV.int, DV.mkAgg, same, mnmx2, nilness, bound, fill, flatCells, Int.reduceLE, Int.reduceLT, Int.reduceAdd, Int.reduceSub, Int.reduceNeg, Int.reduceEq, Int.reduceBEq, Int.reduceBNe, Nat.reduceBEq, Nat.reduceEqDiff, Int.reduceToNat, allocCells, stp, hp, w0, hs1, hx, ha, hc, w1, w2, w3, w4, w5, ih]
    · refine ⟨r, ?_⟩
      have hs1 : (s.size : Int) ≤ (k : Int) := by omega
      have hx := ba_none (s := s) (i := k) (by omega)
      rw [L_round hK]
      simp -implicitDefEqProofs only [B76L3, st76, ex76, tailV, dbody, dexec, ostep, dop, ev, put, wants, dbin, dun, List.replicate, Nat.reduceAdd, Nat.reduceSub, Nat.reduceLT, Nat.reduceLeDiff, Nat.reduceMul, DV.cells, DV.flat, dload, DV.elems, reduceCtorEq, mask, DV.lows, DV.low, DV.coe, DV.isD, dresults, dresult, withHeap, lowCells, LSt.isReady, srcElems, DV.int, DV.mkAgg, same, mnmx2, nilness, bound, fill, flatCells, Int.reduceLE, Int.reduceLT, Int.reduceAdd, Int.reduceSub, Int.reduceNeg, Int.reduceEq, Int.reduceBEq, Int.reduceBNe, Nat.reduceBEq, Nat.reduceEqDiff, Int.reduceToNat, allocCells, stp, hp, w0, hs1, hx]

theorem tail_ok (s : ByteArray) (i n : Nat) (h0 : i + n ≤ 1000000) (h1 : n ≤ 3) (h : List Res) :
    D env 76 [.d (.str s), .d (.int .i64 i), .d (.int .i64 n)] h = some (.val (.d (.tup [.int .i32 (if (tailV s n i 0).2 then (tailV s n i 0).1 else 0), .bool (tailV s n i 0).2])) h) := by
  rw [D_dat (F := A76) rfl rfl rfl rfl]
  have hp : ((0 : Int) + 1) * 64 ^ n ≤ 262144 := by
    have : n = 0 ∨ n = 1 ∨ n = 2 ∨ n = 3 := by omega
    rcases this with h | h | h | h <;> subst h <;> decide
  obtain ⟨q, hl⟩ := tail_loop s i n (by omega) (by omega) (by omega) n i 0 rfl (by omega) hp
  generalize tailV s n i 0 = x at *
  rcases x with ⟨v, _ | _⟩ <;> simp only [st76, ex76, List.replicate, List.cons_append, List.nil_append, Bool.false_eq_true, if_false, if_true] at hl <;>
    simp -implicitDefEqProofs only [A76, B76, dbody, dexec, ostep, dop, ev, put, wants, dbin, dun, List.replicate, Nat.reduceAdd, Nat.reduceSub, Nat.reduceLT, Nat.reduceLeDiff, Nat.reduceMul, DV.cells, DV.flat, dload, DV.elems, reduceCtorEq, mask, DV.lows, DV.low, DV.coe, DV.isD, dresults, dresult, withHeap, lowCells, LSt.isReady, srcElems, DV.int, DV.mkAgg, same, mnmx2, nilness, bound, fill, flatCells, Int.reduceLE, Int.reduceLT, Int.reduceAdd, Int.reduceSub, Int.reduceNeg, Int.reduceEq, Int.reduceBEq, Int.reduceBNe, Nat.reduceBEq, Nat.reduceEqDiff, Int.reduceToNat, allocCells, stp, hl]
end Go.Proofs.YtoadpaaghjomnaaDoor.Codes

set_option linter.unusedVariables false
set_option linter.unusedSimpArgs false
set_option maxRecDepth 100000
namespace Go.Proofs.YtoadpaaghjomnaaDoor.Codes
open Go.Deepv

/-- A rune of n more bytes, its first byte's part r, not below least. -/
def oneN (s : ByteArray) (i n : Nat) (r least : Int) : Int × Nat :=
  if (tailV s n (i + 1) 0).2 = true then
    if r * 64 ^ n + (tailV s n (i + 1) 0).1 < least then (0, 0)
    else if rScal (r * 64 ^ n + (tailV s n (i + 1) 0).1) = true then (r * 64 ^ n + (tailV s n (i + 1) 0).1, n + 1) else (0, 0)
  else (0, 0)
def oneV (s : ByteArray) (i : Nat) : Int × Nat := match s[i]? with
  | none => (0, 0)
  | some b => if (b.toNat : Int) < 128 then (b.toNat, 1)
    else if (192 : Int) ≤ b.toNat ∧ (b.toNat : Int) < 224 then oneN s i 1 (b.toNat - 192) 128
    else if (224 : Int) ≤ b.toNat ∧ (b.toNat : Int) < 240 then oneN s i 2 (b.toNat - 224) 2048
    else if (240 : Int) ≤ b.toNat ∧ (b.toNat : Int) < 248 then oneN s i 3 (b.toNat - 240) 65536
    else (0, 0)

theorem tailV_low (s : ByteArray) : ∀ (n k : Nat) (r : Int), 0 ≤ r → 0 ≤ (tailV s n k r).1 ∧ (tailV s n k r).1 + 1 ≤ (r + 1) * 64 ^ n := by
  intro n
  induction n with
  | zero => intro k r h; simp only [tailV]; omega
  | succ n ih =>
    intro k r h
    have hp : 1 ≤ (64 : Int) ^ (n + 1) := by
      have := Int.pow_pos (n := 64) (m := n + 1) (by decide)
      omega
    have hp2 : 0 ≤ (r + 1) * 64 ^ (n + 1) - 1 := by
      have : 1 * 1 ≤ (r + 1) * 64 ^ (n + 1) := Int.mul_le_mul (by omega) hp (by omega) (by omega)
      omega
    simp only [tailV]
    split
    · simp only; omega
    · rename_i b hb
      have hx := b.toNat_lt
      split
      · simp only; omega
      · split
        · simp only; omega
        · have := ih (k + 1) (r * 64 + (b.toNat - 128)) (by omega)
          refine ⟨this.1, Int.le_trans this.2 ?_⟩
          have e : (64 : Int) ^ (n + 1) = 64 ^ n * 64 := Int.pow_succ ..
          rw [e, Int.mul_comm (64 ^ n) 64, ← Int.mul_assoc]
          have hp : 1 ≤ (64 : Int) ^ n := by
            have := Int.pow_pos (n := 64) (m := n) (by decide)
            omega
          exact Int.mul_le_mul_of_nonneg_right (by omega) (by omega)

set_option maxHeartbeats 2000000 in
theorem one2_ok (s : ByteArray) (i : Nat) (h0 : i < s.size) (h1 : s.size ≤ 900000) (h : List Res) :
    D env 48 [.d (.str s), .d (.int .i64 i)] h = some (.val (.d (.tup [.int .i32 (oneV s i).1, .int .i64 (oneV s i).2])) h) := by
  rw [D_dat (F := A48) rfl rfl rfl rfl]
  have hx := ba_some h0
  unfold oneV
  rw [hx]
  generalize s[i] = b at *
  have hb := b.toNat_lt
  have w0 : IntKind.i64.wrap ((i : Int) + 1) = ((i + 1 : Nat) : Int) := by rw [wrap_i64 (by omega) (by omega)]; simp
  have wb : IntKind.i32.wrap (b.toNat : Int) = b.toNat := wrap_i32 (by omega) (by omega)
  simp only
  by_cases a1 : (b.toNat : Int) < 128
  · rw [if_pos a1]
    simp -implicitDefEqProofs only [A48, B48, dbody, dexec, ostep, dop, ev, put, wants, dbin, dun, List.replicate, Nat.reduceAdd, Nat.reduceSub, Nat.reduceLT, Nat.reduceLeDiff, Nat.reduceMul, DV.cells, DV.flat, dload, DV.elems, reduceCtorEq, mask, DV.lows, DV.low, DV.coe, DV.isD, dresults, dresult, withHeap, lowCells, LSt.isReady, srcElems, DV.int, DV.mkAgg, same, mnmx2, nilness, bound, fill, flatCells, Int.reduceLE, Int.reduceLT, Int.reduceAdd, Int.reduceSub, Int.reduceNeg, Int.reduceEq, Int.reduceBEq, Int.reduceBNe, Nat.reduceBEq, Nat.reduceEqDiff, Int.reduceToNat, allocCells, stp, hx, wb, a1]
  rw [if_neg a1]
  by_cases a2 : (b.toNat : Int) < 192
  · rw [if_neg (by omega), if_neg (by omega), if_neg (by omega)]
    have n1 : ¬ (192 : Int) ≤ b.toNat := by omega
    have n2 : ¬ (224 : Int) ≤ b.toNat := by omega
    have n3 : ¬ (240 : Int) ≤ b.toNat := by omega
    simp -implicitDefEqProofs only [A48, B48, dbody, dexec, ostep, dop, ev, put, wants, dbin, dun, List.replicate, Nat.reduceAdd, Nat.reduceSub, Nat.reduceLT, Nat.reduceLeDiff, Nat.reduceMul, DV.cells, DV.flat, dload, DV.elems, reduceCtorEq, mask, DV.lows, DV.low, DV.coe, DV.isD, dresults, dresult, withHeap, lowCells, LSt.isReady, srcElems, DV.int, DV.mkAgg, same, mnmx2, nilness, bound, fill, flatCells, Int.reduceLE, Int.reduceLT, Int.reduceAdd, Int.reduceSub, Int.reduceNeg, Int.reduceEq, Int.reduceBEq, Int.reduceBNe, Nat.reduceBEq, Nat.reduceEqDiff, Int.reduceToNat, allocCells, stp, hx, wb, a1, n1, n2, n3]
  by_cases c1 : (b.toNat : Int) < 224
  · rw [if_pos (by omega)]
    have l1 : (192 : Int) ≤ b.toNat := by omega
    have m1 : (b.toNat : Int) < 224 := by omega
    have ht := fun h => tail_ok s (i + 1) 1 (by omega) (by omega) h
    have tl := tailV_low s 1 (i + 1) 0 (by omega)
    unfold oneN
    generalize tailV s 1 (i + 1) 0 = x at *
    have wc : IntKind.i32.wrap ((b.toNat : Int) - 192) = b.toNat - 192 := wrap_i32 (by omega) (by omega)
    have w2 : IntKind.i64.wrap (6 * 1) = 6 := rfl
    have w3 : IntKind.u64.wrap 6 = 6 := rfl
    have w4 : (min 6 IntKind.i32.bits) = 6 := rfl
    have q1 : (2 : Int) ^ 6 = 64 := rfl
    have q2 : (64 : Int) ^ 1 = 64 := rfl
    have e0 : ((1 : Nat) : Int) = 1 := rfl
    have e1 : ((1 + 1 : Nat) : Int) = 2 := rfl
    have z0 : ((0 : Nat) : Int) = 0 := rfl
    have w5 : IntKind.i32.wrap (((b.toNat : Int) - 192) * 64) = (b.toNat - 192) * 64 := wrap_i32 (by omega) (by omega)
    rw [q2] at tl
    simp only [e0] at ht
    rw [q2]
    rcases x with ⟨v, _ | _⟩
    · simp only [Bool.false_eq_true, if_false] at ht ⊢
      have w6 : IntKind.i32.wrap (((b.toNat : Int) - 192) * 64 + 0) = (b.toNat - 192) * 64 + 0 := wrap_i32 (by omega) (by omega)
      simp -implicitDefEqProofs only [A48, B48, dbody, dexec, ostep, dop, ev, put, wants, dbin, dun, List.replicate, Nat.reduceAdd, Nat.reduceSub, Nat.reduceLT, Nat.reduceLeDiff, Nat.reduceMul, DV.cells, DV.flat, dload, DV.elems, reduceCtorEq, mask, DV.lows, DV.low, DV.coe, DV.isD, dresults, dresult, withHeap, lowCells, LSt.isReady, srcElems, DV.int, DV.mkAgg, same, mnmx2, nilness, bound, fill, flatCells, Int.reduceLE, Int.reduceLT, Int.reduceAdd, Int.reduceSub, Int.reduceNeg, Int.reduceEq, Int.reduceBEq, Int.reduceBNe, Nat.reduceBEq, Nat.reduceEqDiff, Int.reduceToNat, allocCells, stp, hx, wb, w0, wc, w2, w3, w4, w5, w6, q1, z0, a1, l1, m1, ht]
    · simp only [if_true] at ht tl ⊢
      obtain ⟨r, hr⟩ : ∃ r, ((b.toNat : Int) - 192) * 64 + v = r := ⟨_, rfl⟩
      have w6 : IntKind.i32.wrap (((b.toNat : Int) - 192) * 64 + v) = r := by rw [wrap_i32 (by omega) (by omega), hr]
      rw [hr]
      have w7 : IntKind.i64.wrap 2 = 2 := rfl
      have es := fun h => scalar_ok r h
      by_cases g1 : r < 128
      · simp -implicitDefEqProofs only [A48, B48, dbody, dexec, ostep, dop, ev, put, wants, dbin, dun, List.replicate, Nat.reduceAdd, Nat.reduceSub, Nat.reduceLT, Nat.reduceLeDiff, Nat.reduceMul, DV.cells, DV.flat, dload, DV.elems, reduceCtorEq, mask, DV.lows, DV.low, DV.coe, DV.isD, dresults, dresult, withHeap, lowCells, LSt.isReady, srcElems, DV.int, DV.mkAgg, same, mnmx2, nilness, bound, fill, flatCells, Int.reduceLE, Int.reduceLT, Int.reduceAdd, Int.reduceSub, Int.reduceNeg, Int.reduceEq, Int.reduceBEq, Int.reduceBNe, Nat.reduceBEq, Nat.reduceEqDiff, Int.reduceToNat, allocCells, stp, hx, wb, w0, wc, w2, w3, w4, w5, w6, w7, q1, e1, z0, a1, l1, m1, ht, g1]
      · cases g2 : rScal r <;> rw [g2] at es <;>
          simp -implicitDefEqProofs only [A48, B48, dbody, dexec, ostep, dop, ev, put, wants, dbin, dun, List.replicate, Nat.reduceAdd, Nat.reduceSub, Nat.reduceLT, Nat.reduceLeDiff, Nat.reduceMul, DV.cells, DV.flat, dload, DV.elems, reduceCtorEq, mask, DV.lows, DV.low, DV.coe, DV.isD, dresults, dresult, withHeap, lowCells, LSt.isReady, srcElems, DV.int, DV.mkAgg, same, mnmx2, nilness, bound, fill, flatCells, Int.reduceLE, Int.reduceLT, Int.reduceAdd, Int.reduceSub, Int.reduceNeg, Int.reduceEq, Int.reduceBEq, Int.reduceBNe, Nat.reduceBEq, Nat.reduceEqDiff, Int.reduceToNat, allocCells, stp, hx, wb, w0, wc, w2, w3, w4, w5, w6, w7, q1, e1, z0, a1, l1, m1, ht, g1, es]
  by_cases c2 : (b.toNat : Int) < 240
  · rw [if_neg (by omega), if_pos (by omega)]
    have l1 : (192 : Int) ≤ b.toNat := by omega
    have m1 : ¬ (b.toNat : Int) < 224 := by omega
    have l2 : (224 : Int) ≤ b.toNat := by omega
    have m2 : (b.toNat : Int) < 240 := by omega
    have ht := fun h => tail_ok s (i + 1) 2 (by omega) (by omega) h
    have tl := tailV_low s 2 (i + 1) 0 (by omega)
    unfold oneN
    generalize tailV s 2 (i + 1) 0 = x at *
    have wc : IntKind.i32.wrap ((b.toNat : Int) - 224) = b.toNat - 224 := wrap_i32 (by omega) (by omega)
    have w2 : IntKind.i64.wrap (6 * 2) = 12 := rfl
    have w3 : IntKind.u64.wrap 12 = 12 := rfl
    have w4 : (min 12 IntKind.i32.bits) = 12 := rfl
    have q1 : (2 : Int) ^ 12 = 4096 := rfl
    have q2 : (64 : Int) ^ 2 = 4096 := rfl
    have e0 : ((2 : Nat) : Int) = 2 := rfl
    have e1 : ((2 + 1 : Nat) : Int) = 3 := rfl
    have z0 : ((0 : Nat) : Int) = 0 := rfl
    have w5 : IntKind.i32.wrap (((b.toNat : Int) - 224) * 4096) = (b.toNat - 224) * 4096 := wrap_i32 (by omega) (by omega)
    rw [q2] at tl
    simp only [e0] at ht
    rw [q2]
    rcases x with ⟨v, _ | _⟩
    · simp only [Bool.false_eq_true, if_false] at ht ⊢
      have w6 : IntKind.i32.wrap (((b.toNat : Int) - 224) * 4096 + 0) = (b.toNat - 224) * 4096 + 0 := wrap_i32 (by omega) (by omega)
      simp -implicitDefEqProofs only [A48, B48, dbody, dexec, ostep, dop, ev, put, wants, dbin, dun, List.replicate, Nat.reduceAdd, Nat.reduceSub, Nat.reduceLT, Nat.reduceLeDiff, Nat.reduceMul, DV.cells, DV.flat, dload, DV.elems, reduceCtorEq, mask, DV.lows, DV.low, DV.coe, DV.isD, dresults, dresult, withHeap, lowCells, LSt.isReady, srcElems, DV.int, DV.mkAgg, same, mnmx2, nilness, bound, fill, flatCells, Int.reduceLE, Int.reduceLT, Int.reduceAdd, Int.reduceSub, Int.reduceNeg, Int.reduceEq, Int.reduceBEq, Int.reduceBNe, Nat.reduceBEq, Nat.reduceEqDiff, Int.reduceToNat, allocCells, stp, hx, wb, w0, wc, w2, w3, w4, w5, w6, q1, z0, a1, l1, m1, l2, m2, ht]
    · simp only [if_true] at ht tl ⊢
      obtain ⟨r, hr⟩ : ∃ r, ((b.toNat : Int) - 224) * 4096 + v = r := ⟨_, rfl⟩
      have w6 : IntKind.i32.wrap (((b.toNat : Int) - 224) * 4096 + v) = r := by rw [wrap_i32 (by omega) (by omega), hr]
      rw [hr]
      have w7 : IntKind.i64.wrap 3 = 3 := rfl
      have es := fun h => scalar_ok r h
      by_cases g1 : r < 2048
      · simp -implicitDefEqProofs only [A48, B48, dbody, dexec, ostep, dop, ev, put, wants, dbin, dun, List.replicate, Nat.reduceAdd, Nat.reduceSub, Nat.reduceLT, Nat.reduceLeDiff, Nat.reduceMul, DV.cells, DV.flat, dload, DV.elems, reduceCtorEq, mask, DV.lows, DV.low, DV.coe, DV.isD, dresults, dresult, withHeap, lowCells, LSt.isReady, srcElems, DV.int, DV.mkAgg, same, mnmx2, nilness, bound, fill, flatCells, Int.reduceLE, Int.reduceLT, Int.reduceAdd, Int.reduceSub, Int.reduceNeg, Int.reduceEq, Int.reduceBEq, Int.reduceBNe, Nat.reduceBEq, Nat.reduceEqDiff, Int.reduceToNat, allocCells, stp, hx, wb, w0, wc, w2, w3, w4, w5, w6, w7, q1, e1, z0, a1, l1, m1, l2, m2, ht, g1]
      · cases g2 : rScal r <;> rw [g2] at es <;>
          simp -implicitDefEqProofs only [A48, B48, dbody, dexec, ostep, dop, ev, put, wants, dbin, dun, List.replicate, Nat.reduceAdd, Nat.reduceSub, Nat.reduceLT, Nat.reduceLeDiff, Nat.reduceMul, DV.cells, DV.flat, dload, DV.elems, reduceCtorEq, mask, DV.lows, DV.low, DV.coe, DV.isD, dresults, dresult, withHeap, lowCells, LSt.isReady, srcElems, DV.int, DV.mkAgg, same, mnmx2, nilness, bound, fill, flatCells, Int.reduceLE, Int.reduceLT, Int.reduceAdd, Int.reduceSub, Int.reduceNeg, Int.reduceEq, Int.reduceBEq, Int.reduceBNe, Nat.reduceBEq, Nat.reduceEqDiff, Int.reduceToNat, allocCells, stp, hx, wb, w0, wc, w2, w3, w4, w5, w6, w7, q1, e1, z0, a1, l1, m1, l2, m2, ht, g1, es]
  by_cases c3 : (b.toNat : Int) < 248
  · rw [if_neg (by omega), if_neg (by omega), if_pos (by omega)]
    have l1 : (192 : Int) ≤ b.toNat := by omega
    have m1 : ¬ (b.toNat : Int) < 224 := by omega
    have l2 : (224 : Int) ≤ b.toNat := by omega
    have m2 : ¬ (b.toNat : Int) < 240 := by omega
    have l3 : (240 : Int) ≤ b.toNat := by omega
    have m3 : (b.toNat : Int) < 248 := by omega
    have ht := fun h => tail_ok s (i + 1) 3 (by omega) (by omega) h
    have tl := tailV_low s 3 (i + 1) 0 (by omega)
    unfold oneN
    generalize tailV s 3 (i + 1) 0 = x at *
    have wc : IntKind.i32.wrap ((b.toNat : Int) - 240) = b.toNat - 240 := wrap_i32 (by omega) (by omega)
    have w2 : IntKind.i64.wrap (6 * 3) = 18 := rfl
    have w3 : IntKind.u64.wrap 18 = 18 := rfl
    have w4 : (min 18 IntKind.i32.bits) = 18 := rfl
    have q1 : (2 : Int) ^ 18 = 262144 := rfl
    have q2 : (64 : Int) ^ 3 = 262144 := rfl
    have e0 : ((3 : Nat) : Int) = 3 := rfl
    have e1 : ((3 + 1 : Nat) : Int) = 4 := rfl
    have z0 : ((0 : Nat) : Int) = 0 := rfl
    have w5 : IntKind.i32.wrap (((b.toNat : Int) - 240) * 262144) = (b.toNat - 240) * 262144 := wrap_i32 (by omega) (by omega)
    rw [q2] at tl
    simp only [e0] at ht
    rw [q2]
    rcases x with ⟨v, _ | _⟩
    · simp only [Bool.false_eq_true, if_false] at ht ⊢
      have w6 : IntKind.i32.wrap (((b.toNat : Int) - 240) * 262144 + 0) = (b.toNat - 240) * 262144 + 0 := wrap_i32 (by omega) (by omega)
      simp -implicitDefEqProofs only [A48, B48, dbody, dexec, ostep, dop, ev, put, wants, dbin, dun, List.replicate, Nat.reduceAdd, Nat.reduceSub, Nat.reduceLT, Nat.reduceLeDiff, Nat.reduceMul, DV.cells, DV.flat, dload, DV.elems, reduceCtorEq, mask, DV.lows, DV.low, DV.coe, DV.isD, dresults, dresult, withHeap, lowCells, LSt.isReady, srcElems, DV.int, DV.mkAgg, same, mnmx2, nilness, bound, fill, flatCells, Int.reduceLE, Int.reduceLT, Int.reduceAdd, Int.reduceSub, Int.reduceNeg, Int.reduceEq, Int.reduceBEq, Int.reduceBNe, Nat.reduceBEq, Nat.reduceEqDiff, Int.reduceToNat, allocCells, stp, hx, wb, w0, wc, w2, w3, w4, w5, w6, q1, z0, a1, l1, m1, l2, m2, l3, m3, ht]
    · simp only [if_true] at ht tl ⊢
      obtain ⟨r, hr⟩ : ∃ r, ((b.toNat : Int) - 240) * 262144 + v = r := ⟨_, rfl⟩
      have w6 : IntKind.i32.wrap (((b.toNat : Int) - 240) * 262144 + v) = r := by rw [wrap_i32 (by omega) (by omega), hr]
      rw [hr]
      have w7 : IntKind.i64.wrap 4 = 4 := rfl
      have es := fun h => scalar_ok r h
      by_cases g1 : r < 65536
      · simp -implicitDefEqProofs only [A48, B48, dbody, dexec, ostep, dop, ev, put, wants, dbin, dun, List.replicate, Nat.reduceAdd, Nat.reduceSub, Nat.reduceLT, Nat.reduceLeDiff, Nat.reduceMul, DV.cells, DV.flat, dload, DV.elems, reduceCtorEq, mask, DV.lows, DV.low, DV.coe, DV.isD, dresults, dresult, withHeap, lowCells, LSt.isReady, srcElems, DV.int, DV.mkAgg, same, mnmx2, nilness, bound, fill, flatCells, Int.reduceLE, Int.reduceLT, Int.reduceAdd, Int.reduceSub, Int.reduceNeg, Int.reduceEq, Int.reduceBEq, Int.reduceBNe, Nat.reduceBEq, Nat.reduceEqDiff, Int.reduceToNat, allocCells, stp, hx, wb, w0, wc, w2, w3, w4, w5, w6, w7, q1, e1, z0, a1, l1, m1, l2, m2, l3, m3, ht, g1]
      · cases g2 : rScal r <;> rw [g2] at es <;>
          simp -implicitDefEqProofs only [A48, B48, dbody, dexec, ostep, dop, ev, put, wants, dbin, dun, List.replicate, Nat.reduceAdd, Nat.reduceSub, Nat.reduceLT, Nat.reduceLeDiff, Nat.reduceMul, DV.cells, DV.flat, dload, DV.elems, reduceCtorEq, mask, DV.lows, DV.low, DV.coe, DV.isD, dresults, dresult, withHeap, lowCells, LSt.isReady, srcElems, DV.int, DV.mkAgg, same, mnmx2, nilness, bound, fill, flatCells, Int.reduceLE, Int.reduceLT, Int.reduceAdd, Int.reduceSub, Int.reduceNeg, Int.reduceEq, Int.reduceBEq, Int.reduceBNe, Nat.reduceBEq, Nat.reduceEqDiff, Int.reduceToNat, allocCells, stp, hx, wb, w0, wc, w2, w3, w4, w5, w6, w7, q1, e1, z0, a1, l1, m1, l2, m2, l3, m3, ht, g1, es]
  rw [if_neg (by omega), if_neg (by omega), if_neg (by omega)]
  have l1 : (192 : Int) ≤ b.toNat := by omega
  have l2 : (224 : Int) ≤ b.toNat := by omega
  have l3 : (240 : Int) ≤ b.toNat := by omega
  have z0 : ((0 : Nat) : Int) = 0 := rfl
  simp -implicitDefEqProofs only [A48, B48, dbody, dexec, ostep, dop, ev, put, wants, dbin, dun, List.replicate, Nat.reduceAdd, Nat.reduceSub, Nat.reduceLT, Nat.reduceLeDiff, Nat.reduceMul, DV.cells, DV.flat, dload, DV.elems, reduceCtorEq, mask, DV.lows, DV.low, DV.coe, DV.isD, dresults, dresult, withHeap, lowCells, LSt.isReady, srcElems, DV.int, DV.mkAgg, same, mnmx2, nilness, bound, fill, flatCells, Int.reduceLE, Int.reduceLT, Int.reduceAdd, Int.reduceSub, Int.reduceNeg, Int.reduceEq, Int.reduceBEq, Int.reduceBNe, Nat.reduceBEq, Nat.reduceEqDiff, Int.reduceToNat, allocCells, stp, hx, wb, a1, l1, l2, l3, c1, c2, c3, z0]
end Go.Proofs.YtoadpaaghjomnaaDoor.Codes
