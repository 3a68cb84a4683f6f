/-
  Operators of two numbers, and questions of them: the program's and the reference's answers; Small functions of values; bytes put behind one another; a piece of bytes; An operator of values: what the program tells
  Conditions: none.
-/
import Derived.Test.YtnklhhmfmopdnaaGreatDoorPA
import Derived.Test.YtnklhhmfmopdnaaGreatDoorMF
set_option linter.unusedVariables false
set_option linter.unusedSimpArgs false
set_option maxRecDepth 100000
namespace Go.Proofs.YtnklhhmfmopdnaaGreatDoor.Codes
open Go Go.Deepv
def doW (op x y : Int) : Int :=
 if op = 0 then w63 (x + y) else if op = 1 then w63 (x - y) else if op = 2 then w63 (x * y) else
 if op = 3 then w63 (if y = 0 then 0 else x.tdiv y) else if op = 4 then w63 (if y = 0 then x else x.tmod y) else 0
def askW (op x y : Int) : Bool := if op = 5 then decide (x < y) else if op = 6 then decide (x ≤ y) else if op = 7 then x == y else false
theorem w63_wrap (n : Int) : w63 (IntKind.i64.wrap n) = w63 n := by
 rw [IntKind.wrap_i64]
 unfold w63
 omega
theorem w63_u64 (n : Int) : w63 (IntKind.i64.wrap (IntKind.u64.wrap n)) = w63 n := by
 rw [w63_wrap, u64_eq]
 unfold w63
 omega
theorem mulU (x y : Int) : (IntKind.u64.wrap (IntKind.u64.wrap x * IntKind.u64.wrap y)) = IntKind.u64.wrap (x * y) := by
 simp only [u64_eq]
 rw [← Int.mul_emod]
theorem add_ok (x y : Int) (h : List Res) : D env 34 [.d (.int .i64 x), .d (.int .i64 y)] h = some (.val (.d (.int .i64 (IntKind.i64.wrap (x + y)))) h) := by
 rw [D_dat (F := A34) rfl rfl rfl rfl]
 simp (maxSteps := 9999999) -implicitDefEqProofs only [A34, B34, sT, reduceCtorEq, seval, ↓joinK_t, ↓joinK_f, ↓reduceIte]
theorem sub_ok (x y : Int) (h : List Res) : D env 35 [.d (.int .i64 x), .d (.int .i64 y)] h = some (.val (.d (.int .i64 (IntKind.i64.wrap (x - y)))) h) := by
 rw [D_dat (F := A35) rfl rfl rfl rfl]
 simp (maxSteps := 9999999) -implicitDefEqProofs only [A35, B35, sT, reduceCtorEq, seval, ↓joinK_t, ↓joinK_f, ↓reduceIte]
theorem mul_ok (x y : Int) (h : List Res) : D env 36 [.d (.int .i64 x), .d (.int .i64 y)] h = some (.val (.d (.int .i64 (IntKind.i64.wrap (IntKind.u64.wrap (x * y))))) h) := by
 obtain ⟨q, e⟩ : ∃ q : Int, ∀ h, D env 45 [.d (.int .u64 (IntKind.u64.wrap x)), .d (.int .u64 (IntKind.u64.wrap y))] h = some (.val (.d (.tup [.int .u64 q, .int .u64 (IntKind.u64.wrap (IntKind.u64.wrap x * IntKind.u64.wrap y))])) h) := by
  obtain ⟨q, hq⟩ := mul64_ok (IntKind.u64.wrap x) (IntKind.u64.wrap y) []
  exact ⟨q, fun h => by
   rw [D_dat (F := A45) rfl rfl rfl rfl] at hq ⊢
   simp only [Option.map_eq_some_iff] at hq ⊢
   obtain ⟨o, ho, hw⟩ := hq
   refine ⟨o, ho, ?_⟩
   cases o <;> simp_all [withHeap]⟩
 rw [mulU] at e
 rw [D_dat (F := A36) rfl rfl rfl rfl]
 simp (maxSteps := 9999999) -implicitDefEqProofs only [A36, B36, e, sT, reduceCtorEq, seval, ↓joinK_t, ↓joinK_f, ↓reduceIte]
theorem div_ok (x y : Int) (h : List Res) : D env 37 [.d (.int .i64 x), .d (.int .i64 y)] h = some (.val (.d (.int .i64 (if y = 0 then 0 else IntKind.i64.wrap (x.tdiv y)))) h) := by
 rw [D_dat (F := A37) rfl rfl rfl rfl]
 simp (maxSteps := 9999999) -implicitDefEqProofs only [A37, B37, sT, reduceCtorEq, seval, ↓joinK_t, ↓joinK_f, ↓reduceIte]
 split <;> simp_all
theorem mod_ok (x y : Int) (h : List Res) : D env 38 [.d (.int .i64 x), .d (.int .i64 y)] h = some (.val (.d (.int .i64 (if y = 0 then x else x.tmod y))) h) := by
 rw [D_dat (F := A38) rfl rfl rfl rfl]
 simp (maxSteps := 9999999) -implicitDefEqProofs only [A38, B38, sT, reduceCtorEq, seval, ↓joinK_t, ↓joinK_f, ↓reduceIte]
 split <;> simp_all
theorem do_ok (op a b : Int) (h : List Res) : D env 21 [.d (.int .i64 op), .d (.int .i64 a), .d (.int .i64 b)] h = some (.val (.d (.int .i64 (doW op (w63 a) (w63 b)))) h) := by
 have e1 := fun n h => wrapped_ok n h
 have e2 := fun n h => wrap_ok n h
 have f0 := fun x y h => add_ok x y h
 have f1 := fun x y h => sub_ok x y h
 have f2 := fun x y h => mul_ok x y h
 have f3 := fun x y h => div_ok x y h
 have f4 := fun x y h => mod_ok x y h
 by_cases h0 : op = 0
 ·subst h0
  rw [D_dat (F := A21) rfl rfl rfl rfl]
  simp (maxSteps := 9999999) -implicitDefEqProofs only [A21, B21, e1, e2, f0, w63_wrap, sT, reduceCtorEq, seval, ↓joinK_t, ↓joinK_f, ↓reduceIte]
  simp [doW]
 by_cases h1 : op = 1
 ·subst h1
  rw [D_dat (F := A21) rfl rfl rfl rfl]
  simp (maxSteps := 9999999) -implicitDefEqProofs only [A21, B21, e1, e2, f1, w63_wrap, sT, reduceCtorEq, seval, ↓joinK_t, ↓joinK_f, ↓reduceIte]
  simp [doW]
 by_cases h2 : op = 2
 ·subst h2
  rw [D_dat (F := A21) rfl rfl rfl rfl]
  simp (maxSteps := 9999999) -implicitDefEqProofs only [A21, B21, e1, e2, f2, w63_u64, sT, reduceCtorEq, seval, ↓joinK_t, ↓joinK_f, ↓reduceIte]
  simp [doW]
 by_cases h3 : op = 3
 ·subst h3
  rw [D_dat (F := A21) rfl rfl rfl rfl]
  simp (maxSteps := 9999999) -implicitDefEqProofs only [A21, B21, e1, e2, f3, sT, reduceCtorEq, seval, ↓joinK_t, ↓joinK_f, ↓reduceIte]
  simp [doW]
  split
  ·rfl
  ·rw [w63_wrap]
 by_cases h4 : op = 4
 ·subst h4
  rw [D_dat (F := A21) rfl rfl rfl rfl]
  simp (maxSteps := 9999999) -implicitDefEqProofs only [A21, B21, e1, e2, f4, sT, reduceCtorEq, seval, ↓joinK_t, ↓joinK_f, ↓reduceIte]
  simp [doW]
 ·rw [D_dat (F := A21) rfl rfl rfl rfl]
  simp (maxSteps := 9999999) -implicitDefEqProofs only [A21, B21, e1, e2, h0, h1, h2, h3, h4, sT, reduceCtorEq, seval, ↓joinK_t, ↓joinK_f, ↓reduceIte]
  simp [doW, h0, h1, h2, h3, h4]
theorem asks_ok (op a b : Int) (h : List Res) : D env 15 [.d (.int .i64 op), .d (.int .i64 a), .d (.int .i64 b)] h = some (.val (.d (.bool (askW op (w63 a) (w63 b)))) h) := by
 have e1 := fun n h => wrapped_ok n h
 rw [D_dat (F := A15) rfl rfl rfl rfl]
 simp (maxSteps := 9999999) -implicitDefEqProofs only [A15, B15, e1, sT, reduceCtorEq, seval, ↓joinK_t, ↓joinK_f, ↓reduceIte]
 unfold askW
 repeat' split
 all_goals simp_all
theorem rasks_ok (op a b : Int) (h : List Res) : D env 24 [.d (.int .i64 op), .d (.int .i64 a), .d (.int .i64 b)] h = some (.val (.d (.bool (askW op (w63 a) (w63 b)))) h) := by
 have e1 := fun n h => rwrap_ok n h
 rw [D_dat (F := A24) rfl rfl rfl rfl]
 simp (maxSteps := 9999999) -implicitDefEqProofs only [A24, B24, e1, sT, reduceCtorEq, seval, ↓joinK_t, ↓joinK_f, ↓reduceIte]
 unfold askW
 repeat' split
 all_goals simp_all
theorem abs_ok (x : Int) (h1 : -9223372036854775807 ≤ x) (h2 : x ≤ 9223372036854775807) (h : List Res) : D env 40 [.d (.int .i64 x)] h = some (.val (.d (.int .u64 x.natAbs)) h) := by
 rw [D_dat (F := A40) rfl rfl rfl rfl]
 simp (maxSteps := 9999999) -implicitDefEqProofs only [A40, B40, sT, reduceCtorEq, seval, ↓joinK_t, ↓joinK_f, ↓reduceIte]
 split
 ·simp [u64_eq, IntKind.wrap_i64]
  omega
 ·simp [u64_eq]
  omega
theorem quo_abs (x y : Int) : (x.natAbs : Int) / y.natAbs = if (x < 0 ↔ y < 0) then x.tdiv y else -(x.tdiv y) := by
 rw [← Int.tdiv_eq_ediv_of_nonneg (by omega)]
 rcases Int.lt_or_le x 0 with hx | hx <;> rcases Int.lt_or_le y 0 with h | h
 ·have e1 : (x.natAbs : Int) = -x := by omega
  have e2 : (y.natAbs : Int) = -y := by omega
  rw [e1, e2, Int.neg_tdiv, Int.tdiv_neg]
  simp [hx, h]
 ·have e1 : (x.natAbs : Int) = -x := by omega
  have e2 : (y.natAbs : Int) = y := by omega
  have h' : ¬ y < 0 := by omega
  rw [e1, e2, Int.neg_tdiv]
  simp [hx, h']
 ·have e1 : (x.natAbs : Int) = x := by omega
  have e2 : (y.natAbs : Int) = -y := by omega
  have hx' : ¬ x < 0 := by omega
  rw [e1, e2, Int.tdiv_neg]
  simp [hx', h]
 ·have e1 : (x.natAbs : Int) = x := by omega
  have e2 : (y.natAbs : Int) = y := by omega
  have hx' : ¬ x < 0 := by omega
  have h' : ¬ y < 0 := by omega
  rw [e1, e2]
  simp [hx', h']
theorem w63_negw (n : Int) : w63 (IntKind.i64.wrap (-IntKind.i64.wrap (IntKind.u64.wrap n))) = w63 (-n) := by
 simp only [u64_eq, IntKind.wrap_i64]
 unfold w63
 omega
theorem u64_back (n : Int) : IntKind.u64.wrap (IntKind.i64.wrap (IntKind.u64.wrap n)) = IntKind.u64.wrap n := by
 simp only [u64_eq, IntKind.wrap_i64]
 omega
theorem u64_negw (n : Int) : IntKind.u64.wrap (IntKind.i64.wrap (-IntKind.i64.wrap (IntKind.u64.wrap n))) = IntKind.u64.wrap (-n) := by
 simp only [u64_eq, IntKind.wrap_i64]
 omega
theorem w63_mulmod {x y q : Int} : w63 (IntKind.i64.wrap (IntKind.u64.wrap (IntKind.u64.wrap x - IntKind.u64.wrap (IntKind.u64.wrap y * IntKind.u64.wrap q)))) = w63 (x - y * q) := by
 rw [mulU, w63_wrap]
 simp only [u64_eq]
 unfold w63
 omega
set_option maxHeartbeats 4000000 in
theorem rdo_ok (op a b : Int) (h : List Res) : D env 29 [.d (.int .i64 op), .d (.int .i64 a), .d (.int .i64 b)] h = some (.val (.d (.int .i64 (doW op (w63 a) (w63 b)))) h) := by
 have e2 := fun n h => rwrap_ok n h
 have rx := w63_range a
 have ry := w63_range b
 have ax := fun h => abs_ok (w63 a) (by omega) (by omega) h
 have ay := fun h => abs_ok (w63 b) (by omega) (by omega) h
 have w0 : w63 0 = 0 := by decide
 by_cases h0 : op = 0
 ·subst h0
  rw [D_dat (F := A29) rfl rfl rfl rfl]
  simp (maxSteps := 9999999) -implicitDefEqProofs only [A29, B29, e2, sT, reduceCtorEq, seval, ↓joinK_t, ↓joinK_f, ↓reduceIte]
  simp [doW]
  rw [w63_wrap]
  simp only [u64_eq]
  unfold w63
  omega
 by_cases h1 : op = 1
 ·subst h1
  rw [D_dat (F := A29) rfl rfl rfl rfl]
  simp (maxSteps := 9999999) -implicitDefEqProofs only [A29, B29, e2, sT, reduceCtorEq, seval, ↓joinK_t, ↓joinK_f, ↓reduceIte]
  simp [doW]
  rw [w63_wrap]
  simp only [u64_eq]
  unfold w63
  omega
 by_cases h2 : op = 2
 ·subst h2
  rw [D_dat (F := A29) rfl rfl rfl rfl]
  simp (maxSteps := 9999999) -implicitDefEqProofs only [A29, B29, e2, mulU, w63_u64, sT, reduceCtorEq, seval, ↓joinK_t, ↓joinK_f, ↓reduceIte]
  simp [doW]
 by_cases h3 : op = 3
 ·subst h3
  by_cases hy : w63 b = 0
  ·rw [D_dat (F := A29) rfl rfl rfl rfl]
   simp (maxSteps := 9999999) -implicitDefEqProofs only [A29, B29, e2, hy, sT, reduceCtorEq, seval, ↓joinK_t, ↓joinK_f, ↓reduceIte]
   simp [doW, w0]
  ·have hq := quo_abs (w63 a) (w63 b)
   rw [D_dat (F := A29) rfl rfl rfl rfl]
   simp (maxSteps := 9999999) -implicitDefEqProofs only [A29, B29, e2, ax, ay, hy, sT, reduceCtorEq, seval, ↓joinK_t, ↓joinK_f, ↓reduceIte]
   simp [doW, hy]
   split
   ·rename_i hs
    rw [w63_u64, hq, if_pos hs]
   ·rename_i hs
    rw [w63_negw, hq, if_neg hs, Int.neg_neg]
 by_cases h4 : op = 4
 ·subst h4
  by_cases hy : w63 b = 0
  ·rw [D_dat (F := A29) rfl rfl rfl rfl]
   simp (maxSteps := 9999999) -implicitDefEqProofs only [A29, B29, e2, hy, sT, reduceCtorEq, seval, ↓joinK_t, ↓joinK_f, ↓reduceIte]
   simp [doW]
   rw [w63_wrap]
   simp only [u64_eq]
   unfold w63
   omega
  ·rw [D_dat (F := A29) rfl rfl rfl rfl]
   simp (maxSteps := 9999999) -implicitDefEqProofs only [A29, B29, e2, ax, ay, hy, sT, reduceCtorEq, seval, ↓joinK_t, ↓joinK_f, ↓reduceIte]
   have hq := quo_abs (w63 a) (w63 b)
   simp [doW, hy]
   split
   ·rename_i hs
    rw [u64_back, w63_mulmod, hq, if_pos hs, ← Int.tmod_def]
   ·rename_i hs
    rw [u64_negw, w63_mulmod, hq, if_neg hs, Int.neg_neg, ← Int.tmod_def]
 ·rw [D_dat (F := A29) rfl rfl rfl rfl]
  simp (maxSteps := 9999999) -implicitDefEqProofs only [A29, B29, e2, h0, h1, h2, h3, h4, sT, reduceCtorEq, seval, ↓joinK_t, ↓joinK_f, ↓reduceIte]
  simp [doW, h0, h1, h2, h3, h4]
end Go.Proofs.YtnklhhmfmopdnaaGreatDoor.Codes
namespace Go.Proofs.YtnklhhmfmopdnaaGreatDoor.Codes
open Go Go.Deepv
abbrev bF (b : List Int) : List (List FV) := b.map fun x => [.int .u8 x]
def numV (n : Int) : V := .mk 0 n [] ⟨#[]⟩ []
def textV (b : List Int) : V := .mk 1 0 b ⟨#[]⟩ []
def tname (t : Bool) : ByteArray := if t then ⟨#[84, 114, 117, 101]⟩ else ⟨#[70, 97, 108, 115, 101]⟩
def truthV (t : Bool) : V := .mk 2 0 [] (tname t) []
theorem truth_ok (t : Bool) (h : List Res) : D env 14 [.d (.bool t)] h = some (.val (.d (.agg (truthV t).enc)) h) := by
 cases t
 ·rw [D_dat (F := A14) rfl rfl rfl rfl]
  simp (maxSteps := 9999999) -implicitDefEqProofs only [A14, B14, truthV, V.enc, V.encs, tname, List.map_nil, sT, reduceCtorEq, seval, ↓joinK_t, ↓joinK_f, ↓reduceIte]
 ·rw [D_dat (F := A14) rfl rfl rfl rfl]
  simp (maxSteps := 9999999) -implicitDefEqProofs only [A14, B14, truthV, V.enc, V.encs, tname, List.map_nil, sT, reduceCtorEq, seval, ↓joinK_t, ↓joinK_f, ↓reduceIte]
theorem rtruth_ok (t : Bool) (h : List Res) : D env 23 [.d (.bool t)] h = some (.val (.d (.agg (truthV t).enc)) h) := by
 cases t
 ·rw [D_dat (F := A23) rfl rfl rfl rfl]
  simp (maxSteps := 9999999) -implicitDefEqProofs only [A23, B23, truthV, V.enc, V.encs, tname, List.map_nil, sT, reduceCtorEq, seval, ↓joinK_t, ↓joinK_f, ↓reduceIte]
 ·rw [D_dat (F := A23) rfl rfl rfl rfl]
  simp (maxSteps := 9999999) -implicitDefEqProofs only [A23, B23, truthV, V.enc, V.encs, tname, List.map_nil, sT, reduceCtorEq, seval, ↓joinK_t, ↓joinK_f, ↓reduceIte]
theorem text_ok (b : List Int) (h : List Res) : D env 18 [.d (.slice 1 (bF b))] h = some (.val (.d (.agg (textV b).enc)) h) := by
 rw [D_dat (F := A18) rfl rfl rfl rfl]
 simp (maxSteps := 9999999) -implicitDefEqProofs only [A18, B18, textV, V.enc, V.encs, sT, reduceCtorEq, seval, ↓joinK_t, ↓joinK_f, ↓reduceIte]
theorem rtext_ok (b : List Int) (h : List Res) : D env 27 [.d (.slice 1 (bF b))] h = some (.val (.d (.agg (textV b).enc)) h) := by
 rw [D_dat (F := A27) rfl rfl rfl rfl]
 simp (maxSteps := 9999999) -implicitDefEqProofs only [A27, B27, textV, V.enc, V.encs, sT, reduceCtorEq, seval, ↓joinK_t, ↓joinK_f, ↓reduceIte]
theorem num_ok (n : Int) (h : List Res) : D env 25 [.d (.int .i64 n)] h = some (.val (.d (.agg (numV n).enc)) h) := by
 rw [D_dat (F := A25) rfl rfl rfl rfl]
 simp (maxSteps := 9999999) -implicitDefEqProofs only [A25, B25, numV, V.enc, V.encs, List.map_nil, sT, reduceCtorEq, seval, ↓joinK_t, ↓joinK_f, ↓reduceIte]
def clampV (n m : Int) : Int := min (max (w63 n) 0) m
theorem bounded_ok (n m : Int) (h : List Res) : D env 19 [.d (.int .i64 n), .d (.int .i64 m)] h = some (.val (.d (.int .i64 (clampV n m))) h) := by
 have e := fun n h => wrap_ok n h
 rw [D_dat (F := A19) rfl rfl rfl rfl]
 simp (maxSteps := 9999999) -implicitDefEqProofs only [A19, B19, e, sT, reduceCtorEq, seval, ↓joinK_t, ↓joinK_f, ↓reduceIte]
 unfold clampV
 simp only [Int.min_def, Int.max_def]
 repeat' split
 all_goals first
  | rfl
  | (congr 4; omega)
theorem D_raw {E : Env} {f : FuncId} {F : AFunc} {args : List DV} (he : E.ext f = none) (ha : E.af f = some F) (hc : F.coe = false) (hd : (F.keep == 0 && args.all DV.isD) = false) (h : List Res) :
  D E f args h = dbody (Dc E) (L E) F args h := by
 rw [D_eq]
 unfold dcallF
 rw [he, ha]
 simp only [hc, hd, if_true, Bool.false_eq_true, if_false]
theorem grow0_ok : D env 33 [.row 1 [] 0, .d (.int .i64 0)] [.nilrow] = some (.val (.row 1 [] 0) [.nilrow]) := by
 rw [D_raw (F := A33) rfl rfl rfl rfl]
 simp (maxSteps := 9999999) -implicitDefEqProofs only [A33, B33, sT, reduceCtorEq, seval, ↓joinK_t, ↓joinK_f, ↓reduceIte]
theorem grow_ok (n : Nat) (h0 : 0 < n) (h1 : n ≤ 100000000) : D env 33 [.row 1 [] 0, .d (.int .i64 n)] [.nilrow] = some (.val (.vslc 0 n 1 0 0) [.vec 1 (List.replicate n [.int .u8 0]) 0 5]) := by
 rw [D_raw (F := A33) rfl rfl rfl rfl]
 have e1 : ¬ (n : Int) < 0 := by omega
 have e2 : IntKind.i64.wrap ((n : Int) - IntKind.i64.wrap (0 - 0)) = n := by simp only [IntKind.wrap_i64]; omega
 have e3 : (n : Int) > 0 := by omega
 have e4 : 0 < (n : Int) := by omega
 have e5 : (n : Int) * (1 : Nat) ≤ 140737488355328 := by omega
 simp (maxSteps := 9999999) -implicitDefEqProofs only [A33, B33, e1, e2, e3, e4, e5, Int.toNat_natCast, sT, reduceCtorEq, seval, ↓joinK_t, ↓joinK_f, ↓reduceIte]
 have e6 : IntKind.i64.wrap ((n : Int) - 0) = n := by simp only [IntKind.wrap_i64]; omega
 rw [e6, if_pos e4, if_pos ⟨e4, by omega⟩, Int.toNat_natCast]
abbrev z8 : List FV := [.int .u8 0]
set_option maxHeartbeats 4000000 in
theorem concat_ok (a b : List (List FV)) (ha : a.length ≤ 1000000) (hb : b.length ≤ 1000000) (h : List Res) : D env 17 [.d (.slice 1 [[.slice 1 a], [.slice 1 b]])] h = some (.val (.d (.slice 1 (a ++ b))) h) := by
 have s1 : IntKind.i64.wrap (0 + (a.length : Int)) = a.length := by simp only [IntKind.wrap_i64]; omega
 have s2 : IntKind.i64.wrap ((a.length : Int) + b.length) = ((a.length + b.length : Nat) : Int) := by simp only [IntKind.wrap_i64]; omega
 have s3 : ¬ (a.length : Int) < 0 := by omega
 have s4 : ¬ ((a.length + b.length : Nat) : Int) < 0 := by omega
 have c1 : IntKind.i64.wrap (0 + 1) = 1 := by decide
 have c2 : IntKind.i64.wrap (1 + 1) = 2 := by decide
 by_cases h0 : a.length + b.length = 0
 ·have ea : a = [] := List.eq_nil_of_length_eq_zero (by omega)
  have eb : b = [] := List.eq_nil_of_length_eq_zero (by omega)
  subst ea eb
  have g := grow0_ok
  rw [D_dat (F := A17) rfl rfl rfl rfl]
  simp (maxSteps := 9999999) -implicitDefEqProofs only [A17, B17, L_go, B17L3, B17L11, g, c1, c2, sT, reduceCtorEq, seval, ↓joinK_t, ↓joinK_f, ↓reduceIte]
 ·have g := grow_ok (a.length + b.length) (by omega) (by omega)
  have v1 : appVec 5 1 1 (.vslc 0 (a.length + b.length) 1 0 0) (some (1, a)) [.vec 1 (List.replicate (a.length + b.length) z8) 0 5] = some (.val (.vslc 0 (a.length + b.length) 1 0 a.length) [.vec 1 (a ++ List.replicate b.length z8) 0 5]) := by
   have hlt : (0 + a.length) * 1 ≤ 140737488355328 := by omega
   have hne : ¬ (0 + 0 = (List.replicate (a.length + b.length) z8).length) := by simp; omega
   have hle : 0 + 0 + a.length ≤ (List.replicate (a.length + b.length) z8).length ∧ 0 ≤ 0 + 0 := ⟨by simp, Nat.le_refl _⟩
   simp only [appVec, List.getElem?_cons_zero]
   rw [if_pos ⟨.inl trivial, hlt, by decide, trivial, trivial, trivial, by simp⟩, if_neg hne, if_pos hle]
   simp
  have v2 : appVec 5 1 1 (.vslc 0 (a.length + b.length) 1 0 a.length) (some (1, b)) [.vec 1 (a ++ List.replicate b.length z8) 0 5] = some (.val (.vslc 0 (a.length + b.length) 1 0 (a.length + b.length)) [.vec 1 (a ++ b) 0 5]) := by
   have hlt : (a.length + b.length) * 1 ≤ 140737488355328 := by omega
   simp only [appVec, List.getElem?_cons_zero]
   rw [if_pos ⟨.inl trivial, hlt, by decide, trivial, trivial, trivial, by simp⟩]
   by_cases hb0 : b = []
   ·subst hb0
    rw [if_pos (by simp), if_pos trivial]
    simp
   ·have hpos : 0 < b.length := List.length_pos_iff.2 hb0
    rw [if_neg (by simp; omega), if_pos ⟨by simp, Nat.zero_le _⟩]
    simp
  rw [D_dat (F := A17) rfl rfl rfl rfl]
  simp (maxSteps := 9999999) -implicitDefEqProofs only [A17, B17, L_go, B17L3, B17L11, g, c1, c2, s1, s2, s3, s4, v1, v2, sT, reduceCtorEq, seval, ↓joinK_t, ↓joinK_f, ↓reduceIte]
  rw [List.take_of_length_le (by simp)]
def cutL : List Int → Int → Int → Int → List Int → List Int
 | [], _, _, _, o => o
 | c :: r, i, f, n, o => if f ≤ i ∧ (o.length : Int) < n then cutL r (i + 1) f n (o ++ [c]) else cutL r (i + 1) f n o
def st28 (b : List Int) (f n : Int) (o : List Int) (i : Int) : List DV := [.d (.slice 1 (bF b)), .d (.int .i64 f), .d (.int .i64 n), .d .undef, .d .undef, .d .undef, .d .undef, .row 1 (bF o) 0, .d (.int .i64 i)] ++ List.replicate 23 (.d .undef)
def ex28 (o : List Int) : List DV := List.replicate 7 (.d .undef) ++ [.row 1 (bF o) 0] ++ List.replicate 24 (.d .undef)
theorem loop28 (b : List Int) (f n : Int) (hb : b.length ≤ 1000000) :
  ∀ (r p o : List Int), b = p ++ r → o.length ≤ p.length → L env 1 true H28L3 X28L3 B28L3 (st28 b f n o p.length) [rr 1 o.length 5] = some (.exit 0, ex28 (cutL r p.length f n o), [rr 1 (cutL r p.length f n o).length 5]) := by
 obtain ⟨K, hK⟩ : ∃ K, L env 1 true H28L3 X28L3 B28L3 = K := ⟨_, rfl⟩
 rw [hK]
 intro r
 induction r with
 | nil =>
  intro p o hp ho
  rw [L_round hK]
  simp at hp
  subst hp
  simp -implicitDefEqProofs only [B28L3, st28, ex28, sS, reduceCtorEq, seval, List.length_map, cutL]
 | cons v r ihr =>
  intro p o hp ho
  rw [L_round hK]
  have hlen : b.length = p.length + (r.length + 1) := by rw [hp]; simp
  have e1 : (p.length : Int) < (bF b).length := by simp; omega
  have e1' : (p.length : Int) < b.length := by omega
  have e2 : (bF b)[p.length]? = some [.int .u8 v] := by rw [hp]; simp
  have e3 : IntKind.i64.wrap (p.length + 1) = p.length + 1 := wrap_i64 (by omega) (by omega)
  have e5 : appRow 1 1 (.row 1 (bF o) 0) (some (1, [[.int .u8 v]])) [rr 1 o.length 5] 5 = some (.val (.row 1 (bF o ++ [[.int .u8 v]]) 0) ([rr 1 o.length 5].set 0 (rr 1 ((bF o).length + 1) 5))) :=
   appRow_any (by simp) (by simp; omega) (by decide) (by decide) 1 rfl
  have len1 : (o ++ [v]).length = o.length + 1 := by simp
  have map1 : bF (o ++ [v]) = bF o ++ [[.int .u8 v]] := by simp
  by_cases hf : f ≤ p.length
  ·have hf' : (p.length : Int) ≥ f := hf
   by_cases hn : (o.length : Int) < n
   ·have hr := ihr (p ++ [v]) (o ++ [v]) (by simp [hp]) (by simp; omega)
    have hc : cutL (v :: r) p.length f n o = cutL r (p.length + 1) f n (o ++ [v]) := by simp only [cutL]; rw [if_pos ⟨hf, hn⟩]
    rw [hc]
    simp only [List.length_map, List.set_cons_zero] at e5
    simp -implicitDefEqProofs only [B28L3, st28, ex28, sS, reduceCtorEq, seval, List.length_map, e1', hf', hn, e2, e3, e5]
    simpa [st28, ex28, List.replicate] using hr
   ·have hr := ihr (p ++ [v]) o (by simp [hp]) (by simp; omega)
    have hc : cutL (v :: r) p.length f n o = cutL r (p.length + 1) f n o := by simp only [cutL]; rw [if_neg (by omega)]
    rw [hc]
    simp -implicitDefEqProofs only [B28L3, st28, ex28, sS, reduceCtorEq, seval, List.length_map, e1', hf', hn, e2, e3, e5]
    simpa [st28, ex28, List.replicate] using hr
  ·have hf' : ¬ (p.length : Int) ≥ f := hf
   have hr := ihr (p ++ [v]) o (by simp [hp]) (by simp; omega)
   have hc : cutL (v :: r) p.length f n o = cutL r (p.length + 1) f n o := by simp only [cutL]; rw [if_neg (by omega)]
   rw [hc]
   simp -implicitDefEqProofs only [B28L3, st28, ex28, sS, reduceCtorEq, seval, List.length_map, e1', hf', e2, e3]
   simpa [st28, ex28, List.replicate] using hr
theorem cutL_pre (f n : Int) : ∀ (r : List Int) (i : Nat) (o : List Int), (i : Int) < f → o = [] → cutL r i f n o = cutL (r.drop (f.toNat - i)) (max f.toNat i : Nat) f n o
 | [], i, o, h, ho => by simp [cutL]
 | c :: r, i, o, h, ho => by
  have h1 : ¬ (f ≤ (i : Int) ∧ (o.length : Int) < n) := by omega
  have e : f.toNat - i = (f.toNat - (i + 1)) + 1 := by omega
  simp only [cutL]
  rw [if_neg h1, e, List.drop_succ_cons]
  by_cases h2 : ((i + 1 : Nat) : Int) < f
  ·have := cutL_pre f n r (i + 1) o h2 ho
   rw [show (((i : Int) + 1)) = ((i + 1 : Nat) : Int) by simp, this]
   congr 2
   omega
  ·have e2 : f.toNat = i + 1 := by omega
   rw [e2]
   simp
theorem cutL_run (f n : Int) : ∀ (r : List Int) (i : Int) (o : List Int), f ≤ i → cutL r i f n o = o ++ r.take (n.toNat - o.length)
 | [], i, o, h => by simp [cutL]
 | c :: r, i, o, h => by
  simp only [cutL]
  by_cases hn : (o.length : Int) < n
  ·rw [if_pos ⟨h, hn⟩, cutL_run f n r (i + 1) _ (by omega)]
   have : n.toNat - o.length = (n.toNat - (o ++ [c]).length) + 1 := by simp; omega
   rw [this]
   simp
  ·rw [if_neg (by omega), cutL_run f n r (i + 1) _ (by omega)]
   have : n.toNat - o.length = 0 := by omega
   rw [this]
   simp
def cutV (b : List Int) (f n : Int) : List Int := (b.drop f.toNat).take n.toNat
theorem cutL_eq (b : List Int) (f n : Int) : cutL b 0 f n [] = cutV b f n := by
 unfold cutV
 by_cases hf : f ≤ 0
 ·rw [cutL_run f n b 0 [] hf]
  have : f.toNat = 0 := by omega
  simp [this]
 ·have this : cutL b 0 f n [] = cutL (b.drop f.toNat) (f.toNat : Int) f n [] := by simpa using cutL_pre f n b 0 [] (by simp; omega) rfl
  rw [this, cutL_run f n _ _ [] (by omega)]
  simp
theorem rcut_ok (b : List Int) (f n : Int) (hb : b.length ≤ 1000000) (h : List Res) : D env 28 [.d (.slice 1 (bF b)), .d (.int .i64 f), .d (.int .i64 n)] h = some (.val (.d (.slice 1 (bF (cutV b f n)))) h) := by
 have key := loop28 b f n hb b [] [] rfl (Nat.le_refl _)
 simp only [List.length_nil, Int.natCast_zero, cutL_eq] at key
 rw [D_dat (F := A28) rfl rfl rfl rfl]
 simp -implicitDefEqProofs only [st28, ex28, rr, sS, reduceCtorEq, seval, List.map_nil, List.cons_append, List.nil_append] at key
 simp -implicitDefEqProofs only [A28, B28, sS, reduceCtorEq, seval, key]
end Go.Proofs.YtnklhhmfmopdnaaGreatDoor.Codes
namespace Go.Proofs.YtnklhhmfmopdnaaGreatDoor.Codes
open Go Go.Deepv
theorem D_lift {E : Env} {f : FuncId} {F : AFunc} {args : List DV} {v : DV} {h0 : List Res} (he : E.ext f = none) (ha : E.af f = some F) (hk : F.keep = 0) (hd : args.all DV.isD = true) (hq : D E f args [] = some (.val v h0)) (h : List Res) : D E f args h = some (.val v h) := by
 rw [D_dat he ha hk hd] at hq ⊢
 simp only [Option.map_eq_some_iff] at hq ⊢
 obtain ⟨o, ho, hw⟩ := hq
 refine ⟨o, ho, ?_⟩
 cases o <;> simp_all [withHeap]
def ksF (ks : List Int) : List (List FV) := ks.map fun k => [.int .i64 k]
def kindsV (op : Int) : Option (List Int) :=
 if op = 0 ∨ op = 1 ∨ op = 2 ∨ op = 3 ∨ op = 4 ∨ op = 5 ∨ op = 6 ∨ op = 7 then some [0, 0] else if op = 8 then some [1] else if op = 9 then some [1, 0] else if op = 10 then some [1, 1] else if op = 11 then some [1, 0, 0] else none
theorem kinds_ok (op : Int) (h : List Res) : D env 13 [.d (.int .i64 op)] h = some (.val (.d (.tup [.slice 1 (ksF ((kindsV op).getD [])), .bool (kindsV op).isSome])) h) := by
 have lit : ∀ (n : Int) (v : FV), D env 13 [.d (.int .i64 n)] [] = some (.val (.d v) []) → D env 13 [.d (.int .i64 n)] h = some (.val (.d v) h) := fun n v hq => D_lift (F := A13) rfl rfl rfl rfl hq h
 by_cases h0 : op = 0
 ·subst h0; exact lit _ _ (D_reckon 20 (by kernel_rfl))
 by_cases h1 : op = 1
 ·subst h1; exact lit _ _ (D_reckon 20 (by kernel_rfl))
 by_cases h2 : op = 2
 ·subst h2; exact lit _ _ (D_reckon 20 (by kernel_rfl))
 by_cases h3 : op = 3
 ·subst h3; exact lit _ _ (D_reckon 20 (by kernel_rfl))
 by_cases h4 : op = 4
 ·subst h4; exact lit _ _ (D_reckon 20 (by kernel_rfl))
 by_cases h5 : op = 5
 ·subst h5; exact lit _ _ (D_reckon 20 (by kernel_rfl))
 by_cases h6 : op = 6
 ·subst h6; exact lit _ _ (D_reckon 20 (by kernel_rfl))
 by_cases h7 : op = 7
 ·subst h7; exact lit _ _ (D_reckon 20 (by kernel_rfl))
 by_cases h8 : op = 8
 ·subst h8; exact lit _ _ (D_reckon 20 (by kernel_rfl))
 by_cases h9 : op = 9
 ·subst h9; exact lit _ _ (D_reckon 20 (by kernel_rfl))
 by_cases h10 : op = 10
 ·subst h10; exact lit _ _ (D_reckon 20 (by kernel_rfl))
 by_cases h11 : op = 11
 ·subst h11; exact lit _ _ (D_reckon 20 (by kernel_rfl))
 have e : kindsV op = none := by simp [kindsV, h0, h1, h2, h3, h4, h5, h6, h7, h8, h9, h10, h11]
 rw [e]
 rw [D_dat (F := A13) rfl rfl rfl rfl]
 simp (maxSteps := 9999999) -implicitDefEqProofs only [A13, B13, h0, h1, h2, h3, h4, h5, h6, h7, h8, h9, h10, h11, sT, reduceCtorEq, seval, ↓joinK_t, ↓joinK_f, ↓reduceIte]
 rfl
def zeroV : V := numV 0
abbrev resV (v : V) (ok : Bool) : DV := .d (.tup [.agg v.enc, .bool ok])
theorem do_none (op : Int) (l : List V) (hk : kindsV op = none) (h : List Res) : D env 7 [.d (.int .i64 op), .d (.slice 5 (V.encs l))] h = some (.val (resV zeroV false) h) := by
 have e := fun h => kinds_ok op h
 simp only [hk, Option.getD_none, Option.isSome_none, ksF, List.map_nil] at e
 rw [D_dat (F := A7) rfl rfl rfl rfl]
 simp (maxSteps := 9999999) -implicitDefEqProofs only [A7, B7, e, sT, reduceCtorEq, seval, ↓joinK_t, ↓joinK_f, ↓reduceIte]
 rfl
theorem do_count (op : Int) (l : List V) (ks : List Int) (hk : kindsV op = some ks) (hl : ks.length ≠ l.length) (h : List Res) : D env 7 [.d (.int .i64 op), .d (.slice 5 (V.encs l))] h = some (.val (resV zeroV false) h) := by
 have e := fun h => kinds_ok op h
 simp only [hk, Option.getD_some, Option.isSome_some, ksF] at e
 have e2 : ¬ ((ks.length : Int) = l.length) := by omega
 rw [D_dat (F := A7) rfl rfl rfl rfl]
 simp (maxSteps := 9999999) -implicitDefEqProofs only [A7, B7, e, encs_len, List.length_map, e2, sT, reduceCtorEq, seval, ↓joinK_t, ↓joinK_f, ↓reduceIte]
 rfl
def kindV : V → Int
 | .mk k _ _ _ _ => k
def numOfV : V → Int
 | .mk _ n _ _ _ => n
def bytesV : V → List Int
 | .mk _ _ b _ _ => b
def fitV (k : Int) (v : V) : Bool := decide (k = kindV v) && (decide (kindV v ≠ 1) || decide ((bytesV v).length ≤ 64))
def fitsV : List Int → List V → Bool
 | k :: ks, v :: l => fitV k v && fitsV ks l
 | _, _ => true
theorem fitsV_cons (k : Int) (ks : List Int) (v : V) (l : List V) : fitsV (k :: ks) (v :: l) = (fitV k v && fitsV ks l) := rfl
abbrev boxZ : Res := .box [.d (.int .i64 0), .d (.int .i64 0), .row 1 [] 0, .d (.str ⟨#[]⟩), .row 5 [] 1]
abbrev boxE : Res := .box [.d (.int .i64 0), .d (.int .i64 0), .d (.slice 1 []), .d (.str ⟨#[]⟩), .d (.slice 5 [])]
def st7 (op : Int) (ks : List Int) (c : List (List FV)) (n i : Int) : List DV :=
 [.d (.int .i64 op), .d (.slice 5 c), .d .undef, .d .undef, .ptr 2 0, .d .undef, .d (.slice 1 (ksF ks))] ++ List.replicate 22 (.d .undef) ++ [.d (.slice 5 c), .d (.int .i64 n), .d (.int .i64 i)] ++ List.replicate 131 (.d .undef)
def ex7 (op : Int) (c : List (List FV)) (x : FV) : List DV := [.d (.int .i64 op), .d (.slice 5 c), .d .undef, .d .undef, .ptr 2 0, .d x] ++ List.replicate 157 (.d .undef)
set_option maxHeartbeats 4000000 in
theorem loop7 (op : Int) (ks : List Int) (l : List V) (hl : ks.length = l.length) (hs : l.length ≤ 10) :
  ∀ (r p : List V), l = p ++ r → L env 3 true H7L5 X7L5 B7L5 (st7 op ks (V.encs l) l.length p.length) [.nilrow, .nilrow, boxZ] =
   if fitsV (ks.drop p.length) r = true then some (.exit 0, ex7 op (V.encs l) .undef, [.nilrow, .nilrow, boxZ]) else some (.ret, ex7 op (V.encs l) (.bool false), [.nilrow, .nilrow, boxE]) := by
 obtain ⟨K, hK⟩ : ∃ K, L env 3 true H7L5 X7L5 B7L5 = K := ⟨_, rfl⟩
 rw [hK]
 intro r
 induction r with
 | nil =>
  intro p hp
  rw [L_round hK]
  simp at hp
  subst hp
  have hd : fitsV (ks.drop l.length) [] = true := by cases ks.drop l.length <;> rfl
  rw [hd, if_pos rfl]
  simp -implicitDefEqProofs only [B7L5, st7, ex7, sS, reduceCtorEq, seval]
 | cons v r ihr =>
  intro p hp
  rw [L_round hK]
  have hlen : l.length = p.length + (r.length + 1) := by rw [hp]; simp
  have e1 : (p.length : Int) < l.length := by omega
  have e2 : (V.encs l)[p.length]? = some v.enc := by rw [encs_at, hp]; simp
  have e3 : IntKind.i64.wrap (p.length + 1) = p.length + 1 := wrap_i64 (by omega) (by omega)
  obtain ⟨kp, hkp⟩ : ∃ kp, ks[p.length]? = some kp := ⟨_, List.getElem?_eq_getElem (by omega)⟩
  have e4 : (ksF ks)[p.length]? = some [.int .i64 kp] := by simp [ksF, hkp]
  have hdrop : ks.drop p.length = kp :: ks.drop (p.length + 1) := by
   rw [List.drop_eq_getElem_cons (by omega)]
   congr 1
   have := List.getElem?_eq_getElem (l := ks) (i := p.length) (by omega)
   rw [hkp] at this
   simpa using this.symm
  have hr := ihr (p ++ [v]) (by simp [hp])
  rw [List.length_append, List.length_singleton, Int.natCast_add, show ((1 : Nat) : Int) = 1 from rfl] at hr
  rw [hdrop]
  obtain ⟨k, n, b, s, kids⟩ := v
  have hl5 : ((V.mk k n b s kids).enc).length = 5 := enc_len _
  rw [fitsV_cons]
  by_cases hk : kp = k
  ·subst hk
   by_cases h1 : kp = 1
   ·subst h1
    by_cases hb : b.length ≤ 64
    ·have hb' : ¬ (b.length : Int) > 64 := by omega
     have hv : fitV 1 (V.mk 1 n b s kids) = true := by simp [fitV, kindV, bytesV, hb]
     rw [hv, Bool.true_and]
     simp -implicitDefEqProofs only [B7L5, st7, sS, reduceCtorEq, seval, e1, e2, e3, e4, V.enc, List.length_map, hb', putCells]
     exact hr
    ·have hb' : (b.length : Int) > 64 := by omega
     have hv : fitV 1 (V.mk 1 n b s kids) = false := by simp only [fitV, kindV, bytesV]; simp [hb]
     rw [hv, Bool.false_and, if_neg Bool.false_ne_true]
     simp -implicitDefEqProofs only [B7L5, st7, ex7, sS, reduceCtorEq, seval, e1, e2, e3, e4, V.enc, List.length_map, hb', putCells]
   ·have hv : fitV kp (V.mk kp n b s kids) = true := by simp [fitV, kindV, bytesV, h1]
    rw [hv, Bool.true_and]
    have h1' : (kp == 1) = false := by simpa using h1
    simp -implicitDefEqProofs only [B7L5, st7, sS, reduceCtorEq, seval, e1, e2, e3, e4, V.enc, List.length_map, h1', putCells]
    exact hr
  ·have hk' : (kp != k) = true := by simpa using hk
   have hv : fitV kp (V.mk k n b s kids) = false := by simp [fitV, kindV, hk]
   rw [hv, Bool.false_and, if_neg Bool.false_ne_true]
   simp -implicitDefEqProofs only [B7L5, st7, ex7, sS, reduceCtorEq, seval, e1, e2, e3, e4, V.enc, List.length_map, hk', putCells]
theorem key7 (op : Int) (ks : List Int) (l : List V) (hl : ks.length = l.length) (hs : l.length ≤ 10) : L env 3 true H7L5 X7L5 B7L5 (st7 op ks (V.encs l) l.length 0) [.nilrow, .nilrow, boxZ] =
   if fitsV ks l = true then some (.exit 0, ex7 op (V.encs l) .undef, [.nilrow, .nilrow, boxZ]) else some (.ret, ex7 op (V.encs l) (.bool false), [.nilrow, .nilrow, boxE]) := by
 have := loop7 op ks l hl hs l [] rfl
 rw [List.length_nil, List.drop_zero, Int.natCast_zero] at this
 exact this
theorem do_unfit (op : Int) (ks : List Int) (l : List V) (hk : kindsV op = some ks) (hl : ks.length = l.length) (hs : l.length ≤ 10) (hf : fitsV ks l = false) (h : List Res) : D env 7 [.d (.int .i64 op), .d (.slice 5 (V.encs l))] h = some (.val (resV zeroV false) h) := by
 have e := fun h => kinds_ok op h
 rw [hk] at e
 simp only [Option.getD_some, Option.isSome_some] at e
 have key := key7 op ks l hl hs
 rw [hf, if_neg Bool.false_ne_true] at key
 have e2 : ((ksF ks).length : Int) = l.length := by simp [ksF]; omega
 have e3 : ((l.length : Int) != l.length) = false := by simp
 rw [D_dat (F := A7) rfl rfl rfl rfl]
 simp -implicitDefEqProofs only [st7, ex7, sS, reduceCtorEq, seval, List.cons_append, List.nil_append] at key
 simp -implicitDefEqProofs only [A7, B7, sS, reduceCtorEq, seval, e, encs_len, e2, e3, key]
 rfl
set_option maxHeartbeats 4000000 in
theorem do_arith (op n m : Int) (b c : List Int) (s t : ByteArray) (k q : List V) (hk : kindsV op = some [0, 0]) (h5 : ¬ op = 5) (h6 : ¬ op = 6) (h7 : ¬ op = 7) (h8 : ¬ op = 8) (h9 : ¬ op = 9) (h10 : ¬ op = 10) (h11 : ¬ op = 11) (h : List Res) :
  D env 7 [.d (.int .i64 op), .d (.slice 5 (V.encs [.mk 0 n b s k, .mk 0 m c t q]))] h = some (.val (resV (numV (doW op (w63 n) (w63 m))) true) h) := by
 have e := fun h => kinds_ok op h
 rw [hk] at e
 simp only [Option.getD_some, Option.isSome_some] at e
 have key := key7 op [0, 0] [.mk 0 n b s k, .mk 0 m c t q] rfl (by simp)
 rw [if_pos (show fitsV [0, 0] [V.mk 0 n b s k, V.mk 0 m c t q] = true by simp [fitsV, fitV, kindV])] at key
 have ed := fun a b h => do_ok op a b h
 have f5 : (op == 5) = false := by simpa using h5
 have f6 : (op == 6) = false := by simpa using h6
 have f7 : (op == 7) = false := by simpa using h7
 have f8 : (op == 8) = false := by simpa using h8
 have f9 : (op == 9) = false := by simpa using h9
 have f10 : (op == 10) = false := by simpa using h10
 have f11 : (op == 11) = false := by simpa using h11
 rw [D_dat (F := A7) rfl rfl rfl rfl]
 simp -implicitDefEqProofs only [st7, ex7, sS, reduceCtorEq, seval, List.cons_append, List.nil_append, V.encs, V.enc, List.length_cons, List.length_nil, ksF, List.map_cons, List.map_nil] at key e
 simp -implicitDefEqProofs only [A7, B7, sS, reduceCtorEq, seval, e, V.encs, V.enc, List.length_cons, List.length_nil, key, f5, f6, f7, f8, f9, f10, f11, ed, putCells]
 rfl
end Go.Proofs.YtnklhhmfmopdnaaGreatDoor.Codes
