/-
  A text in quotes is read as it; a token's bytes are few; What a line says, the program's (function 7); What is told as a line, the document's (functions 25, 12, 26, 10); What a line says, the document's: what is behind words, a number, a text (functions 36, 37, 38); What a line says, the document's (functions 19, 8), and whether two are the same (11, 28); There and back: lines, plain; There and back: what is told has a line, which both read as it; plain; What a line says is the one thing that has it; both say the same; the laws (functions 3, 4); TraceTells and TraceBack (functions 3, 4)
  Conditions: none.
-/
import Derived.Test.YtpemlmhggiaflaaGreatDoorNG
import Derived.Test.YtpemlmhggiaflaaGreatDoorUO
import Derived.Test.YtpemlmhggiaflaaGreatDoorMF
import Derived.Lib.ParseIntBTie
set_option linter.unusedVariables false
set_option linter.unusedSimpArgs false
set_option maxRecDepth 100000
namespace Go.Proofs.YtpemlmhggiaflaaGreatDoor.Codes
open Go Go.Deepv
theorem tokK_b {rs : List Rn} {k k' : Nat} {v : Tk} (h : tokK rs k = .ok (v, k')) : v.bytes.size ≤ 64 := by
 have z : (⟨#[]⟩ : ByteArray).size = 0 := rfl
 unfold tokK at h
 repeat' split at h
 all_goals first
  | (simp only [Except.ok.injEq, Prod.mk.injEq] at h; obtain ⟨rfl, rfl⟩ := h; simp only; omega)
  | (exact absurd h (by simp))
theorem lexK_b (rs : List Rn) : ∀ (f k n : Nat), ∀ t ∈ (lexK rs f k n).1, t.1.bytes.size ≤ 64 := by
 intro f
 induction f with
 | zero => intro k n t h; simp [lexK] at h
 | succ f ih =>
  intro k n t h
  simp only [lexK] at h
  split at h
  ·simp at h
  ·split at h
   ·simp at h
   ·split at h
    ·simp at h
    ·rename_i v k' he hn
     rcases List.mem_cons.1 h with h | h
     ·subst h
      exact tokK_b he
     ·exact ih _ _ t h
theorem lexP_b (s : ByteArray) : ∀ t ∈ (lexP s).1, t.1.bytes.size ≤ 64 := by
 unfold lexP
 split
 ·split
  ·simp
  ·rename_i rs _
   have := lexK_b rs (rs.length + 1) (skK rs 0) 0
   split
   ·simp
   ·rename_i ts hr
    have hr' : lexK rs (rs.length + 1) (skK rs 0) 0 = (ts, none) := hr
    rw [hr'] at this
    simp only at this
    split
    ·simp
    ·intro t ht
     rcases List.mem_append.1 ht with ht | ht
     ·exact this t ht
     ·simp only [List.mem_cons, List.not_mem_nil, or_false] at ht
      subst ht
      exact Nat.zero_le _
 ·simp
theorem fillT_b (k : Int) (rest : ByteArray) : (fillT k rest).1.b.size ≤ 64 := by
 have h := lexP_b rest
 have z : (⟨#[]⟩ : ByteArray).size = 0 := rfl
 unfold fillT
 split
 ·rename_i t _ _ _ hl _
  rw [hl] at h
  split
  ·exact h (t, _, _) List.mem_cons_self
  ·simp only; omega
 ·simp only; omega
theorem filledV_b (k : Int) (g : Sh) (rest : ByteArray) : (filledV k g rest).1.b.size ≤ 64 := by
 unfold filledV
 split
 ·exact fillT_b k rest
 ·rw [fillV_b]; omega
theorem candV_b (k : Int) (g : Sh) (s : ByteArray) : (candV k g s).1.b.size ≤ 64 := by
 have z : (⟨#[]⟩ : ByteArray).size = 0 := rfl
 unfold candV
 split
 ·simp only; omega
 ·split
  ·split
   ·simp only; omega
   ·exact filledV_b _ _ _
  ·simp only; omega
theorem escs_fold : ∀ (bs : List UInt8) (a : ByteArray), (bs.foldl (fun a c => a ++ escA c) a).data.toList = a.data.toList ++ bs.flatMap escShow := by
 intro bs
 induction bs with
 | nil => intro a; simp
 | cons c bs ih =>
  intro a
  rw [List.foldl_cons, ih, app_toList, List.flatMap_cons, List.append_assoc]
  rfl
theorem quote_list (b : ByteArray) : (quoteB b).data.toList = (34 : UInt8) :: (b.data.toList.flatMap escShow ++ [34]) := by
 unfold quoteB
 rw [app_toList, escs_fold]
 simp
theorem quote_lex (b : ByteArray) (h64 : b.size ≤ 64) : (lexP (quoteB b)).1.map Prod.fst = [⟨4, ⟨#[]⟩, 0, b⟩, endK] ∧ (lexP (quoteB b)).2.1 = 0 := by
 have hfa : ∀ b' ∈ (34 : UInt8) :: (b.data.toList.flatMap escShow ++ [34]), b'.toNat < 128 := fun b' hb' => by
  rcases List.mem_cons.1 hb' with rfl | hb'
  ·decide
  ·rcases List.mem_append.1 hb' with hb' | hb'
   ·obtain ⟨c, _, hc⟩ := List.mem_flatMap.1 hb'
    exact escShow_ascii c b' hc
   ·simp only [List.mem_cons, List.not_mem_nil, or_false] at hb'
    subst hb'
    decide
 obtain ⟨e1, e2⟩ := wB_enc _ hfa
 have hsz : (quoteB b).size ≤ 16384 := by
  have := quote_len b
  have e : (quoteB b).data.toList.length = (quoteB b).size := by rw [Array.length_toList]; rfl
  omega
 have hB : (quoteB b).data.toList = encLs (wB ((34 : UInt8) :: (b.data.toList.flatMap escShow ++ [34]))) := by rw [e1, quote_list]
 have hP := lexP_T hsz e2 hB
 have hsplit : wB ((34 : UInt8) :: (b.data.toList.flatMap escShow ++ [34])) = 34 :: (wB (b.data.toList.flatMap escShow) ++ [34]) := by
  rw [show wB ((34 : UInt8) :: (b.data.toList.flatMap escShow ++ [34])) = 34 :: wB (b.data.toList.flatMap escShow ++ [34]) from rfl, wB_app]
  rfl
 have hb0 : (⟨#[]⟩ : ByteArray) ++ ⟨b.data.toList.toArray⟩ = b := by rw [empty_app]
 have hqt := qt_shown b.data.toList ((34 :: (wB (b.data.toList.flatMap escShow) ++ [34])).length + 1) ⟨#[]⟩ [] (by simp [wB_len]; omega)
 rw [hb0] at hqt
 have htok : tokI (34 :: (wB (b.data.toList.flatMap escShow) ++ [34])) = .ok (⟨4, ⟨#[]⟩, 0, b⟩, 1 + ((b.data.toList.flatMap escShow).length + 1)) := by
  unfold tokI tokF
  have h34a : (rLow (34 : Int) || rUp (34 : Int)) = false := by decide
  have h34b : rDig (34 : Int) = false := by decide
  rw [pk_cons0, h34a, if_neg (by simp), h34b, if_neg (by simp), if_pos rfl, List.drop_succ_cons, List.drop_zero, hqt]
  simp only
  rw [if_neg (by omega)]
 have hT : lexT (wB ((34 : UInt8) :: (b.data.toList.flatMap escShow ++ [34]))) = ([⟨4, ⟨#[]⟩, 0, b⟩], none) := by
  rw [hsplit]
  have hsk : skI false (34 :: (wB (b.data.toList.flatMap escShow) ++ [34])) = 34 :: (wB (b.data.toList.flatMap escShow) ++ [34]) := by
   have h1 : rBlank 34 = false := by decide
   simp only [skI, h1]
   simp
  unfold lexT
  rw [hsk]
  simp only [List.length_cons, lexI, htok]
  have hd : (34 :: (wB (b.data.toList.flatMap escShow) ++ [34])).drop (1 + ((b.data.toList.flatMap escShow).length + 1)) = [] := List.drop_of_length_le (by simp [wB_len]; omega)
  rw [hd]
  simp [skI, lexI]
 rw [hT] at hP
 simpa using hP
end Go.Proofs.YtpemlmhggiaflaaGreatDoor.Codes
namespace Go.Proofs.YtpemlmhggiaflaaGreatDoor.Codes
open Go Go.Deepv
def tbox0 : Res := .box [.d (.int .i64 0), .d (.int .i64 0), .d (.int .i64 0), .row 1 [] 0]
def out7 (r : Option Rs) (h : List Res) : Option DRun := some (match r with
 | some x => (.ret, den 59 [(2, .ptr 1 0), (3, .d (.int .i64 0))], [.nilrow, .box [.d (.int .i64 x.k), .d (.int .i64 x.s), .d (.int .i64 x.n), .d (.slice 1 (strCells x.b))]])
 | none => (.exit 0, den 59 [(2, .ptr 1 0)], h))
set_option maxHeartbeats 8000000 in
theorem loop7 (s : ByteArray) (hs : s.size ≤ 10000) : ∃ K, L env 2 true H7L2 X7L2 B7L2 = K ∧ ∀ (l : List Sh) (i : Nat), shs.drop i = l → i ≤ shs.length →
  K (den 59 [(0, .d (.str s)), (2, .ptr 1 0), (9, .d (.slice 4 (shs.map Sh.enc))), (10, .d (.int .i64 10)), (11, .d (.int .i64 (i : Int)))]) [.nilrow, tbox0] = out7 (firstV s l i) [.nilrow, tbox0] := by
 obtain ⟨K, hK⟩ : ∃ K, L env 2 true H7L2 X7L2 B7L2 = K := ⟨_, rfl⟩
 refine ⟨K, hK, ?_⟩
 have hn : shs.length = 10 := rfl
 intro l
 induction l with
 | nil =>
  intro i hl hi
  have : shs.length ≤ i := List.drop_eq_nil_iff.1 hl
  have e2 : ¬ (i : Int) < 10 := by omega
  rw [L_rnd hK]
  simp (maxSteps := 9999999) -implicitDefEqProofs only [B7L2, e2, firstV, out7, tbox0, sT, reduceCtorEq, seval, ↓joinK_t, ↓joinK_f, ↓reduceIte]
 | cons g l ih =>
  intro i hl hi
  have hlt : i < shs.length := by
   rcases Nat.lt_or_ge i shs.length with h | h
   ·exact h
   ·rw [List.drop_eq_nil_of_le h] at hl; cases hl
  have hx : shs[i]? = some g := by
   have := congrArg (fun l => l[0]?) hl
   simpa using this
  have hd : shs.drop (i + 1) = l := by
   rw [← List.drop_drop, hl]; rfl
  have e2 : (i : Int) < 10 := by omega
  have gx : (shs.map Sh.enc)[i]? = some g.enc := by simp [hx]
  have gl : (shs.map Sh.enc).length = 10 := rfl
  have w1 : IntKind.i64.wrap ((i : Int) + 1) = ((i + 1 : Nat) : Int) := by rw [wrap_i64 (by omega) (by omega)]; omega
  have e17 := fun h => cut_ok s g.w h
  have e17b := fun h => cut_ok (cutV s g.w).1 sp1 h
  have z1 := cut_size s g.w
  have z2 := cut_size (cutV s g.w).1 sp1
  have e18 := fun h => filled_ok (i : Int) g (cutV (cutV s g.w).1 sp1).1 (by omega) h
  have hb := candV_b (i : Int) g s
  have e9 := fun h => tshow_ok (candV (i : Int) g s).1 (by omega) h
  have ih := ih (i + 1) hd (by omega)
  have hf : firstV s (g :: l) i = (match tryV i g s with | some x => some x | none => firstV s l ((i : Int) + 1)) := rfl
  rw [show ((i + 1 : Nat) : Int) = (i : Int) + 1 by omega] at ih w1
  rw [hf]
  simp only [tbox0, sp1] at ih ⊢ e17b z2 e18
  generalize firstV s l ((i : Int) + 1) = nx at *
  generalize shs.map Sh.enc = L at *
  unfold tryV
  have hc : candV (i : Int) g s = (if (cutV s g.w).2 = false then (⟨i, 0, 0, ⟨#[]⟩⟩, false) else if g.s || (g.n || g.t) then (if (cutV (cutV s g.w).1 ⟨#[32]⟩).2 = false then (⟨i, 0, 0, ⟨#[]⟩⟩, false) else filledV i g (cutV (cutV s g.w).1 ⟨#[32]⟩).1) else (⟨i, 0, 0, ⟨#[]⟩⟩, true)) := rfl
  rcases hg : g with ⟨w, s0, n0, t0⟩
  rw [hg] at gx e17 e17b e18 hc z1 z2 e9
  simp only [Sh.enc] at gx e17 e17b e18 hc z1 z2
  rcases hcut : cutV s w with ⟨r1, o1⟩
  rw [hcut] at e17 e17b e18 hc
  simp only at e17 e17b e18 hc
  have z0 : strCells ⟨#[]⟩ = [] := rfl
  rw [L_rnd hK]
  cases o1 with
  | false =>
   simp only [if_true] at hc
   rw [hc]
   simp (maxSteps := 9999999) -implicitDefEqProofs only [B7L2, e2, gx, gl, w1, e17, ih, Bool.false_and, sT, reduceCtorEq, seval, ↓joinK_t, ↓joinK_f, ↓reduceIte]
  | true =>
   simp only [Bool.true_eq_false, if_false] at hc
   rcases hcut2 : cutV r1 ⟨#[32]⟩ with ⟨r2, o2⟩
   rw [hcut2] at e17b e18 hc
   simp only at e17b e18 hc
   cases hflag : (s0 || (n0 || t0)) with
   | false =>
    have h0 : s0 = false ∧ n0 = false ∧ t0 = false := by simpa using hflag
    obtain ⟨rfl, rfl, rfl⟩ := h0
    simp only [hflag, Bool.false_eq_true, if_false] at hc
    rw [hc] at e9 ⊢
    simp only [Rs.enc, z0] at e9
    simp (maxSteps := 9999999) -implicitDefEqProofs only [B7L2, e2, gx, gl, w1, e17, e9, ih, Bool.true_and, sT, reduceCtorEq, seval, ↓joinK_t, ↓joinK_f, ↓reduceIte]
    by_cases hq : (lineV ⟨i, 0, 0, ⟨#[]⟩⟩).toList = s.toList
    ·rw [if_pos hq, if_pos hq]; rfl
    ·rw [if_neg hq, if_neg hq]
   | true =>
    simp only [hflag, if_true] at hc
    cases o2 with
    | false =>
     simp only [if_true] at hc
     rw [hc]
     cases s0 <;> cases n0 <;> cases t0
     all_goals first
      | (cases hflag; done)
      | simp (maxSteps := 9999999) -implicitDefEqProofs only [B7L2, e2, gx, gl, w1, e17, e17b, ih, Bool.false_and, sT, reduceCtorEq, seval, ↓joinK_t, ↓joinK_f, ↓reduceIte]
    | true =>
     simp only [Bool.true_eq_false, if_false] at hc
     rw [hc] at e9 ⊢
     rcases hfl : filledV i ⟨w, s0, n0, t0⟩ r2 with ⟨x, o3⟩
     rw [hfl] at e9 e18
     simp only [Rs.enc] at e9 e18
     cases o3 with
     | false =>
      cases s0 <;> cases n0 <;> cases t0
      all_goals first
       | (cases hflag; done)
       | simp (maxSteps := 9999999) -implicitDefEqProofs only [B7L2, e2, gx, gl, w1, e17, e17b, e18, ih, Bool.false_and, sT, reduceCtorEq, seval, ↓joinK_t, ↓joinK_f, ↓reduceIte]
     | true =>
      cases s0 <;> cases n0 <;> cases t0
      all_goals first
       | (cases hflag; done)
       | (simp (maxSteps := 9999999) -implicitDefEqProofs only [B7L2, e2, gx, gl, w1, e17, e17b, e18, e9, ih, Bool.true_and, sT, reduceCtorEq, seval, ↓joinK_t, ↓joinK_f, ↓reduceIte]; by_cases hq : (lineV x).toList = s.toList; (rw [if_pos hq, if_pos hq]; rfl); (rw [if_neg hq, if_neg hq]))
set_option maxHeartbeats 4000000 in
theorem tread_ok (s : ByteArray) (hs : s.size ≤ 10000) (h : List Res) : D env 7 [.d (.str s)] h = some (.val (.d (readF (readV s))) h) := by
 obtain ⟨K, hK, hk⟩ := loop7 s hs
 have e := hk shs 0 rfl (by omega)
 have e16 := fun h => shapes_ok h
 have gl : (shs.map Sh.enc).length = 10 := rfl
 have e : K (den 59 [(0, .d (.str s)), (2, .ptr 1 0), (9, .d (.slice 4 (shs.map Sh.enc))), (10, .d (.int .i64 10)), (11, .d (.int .i64 0))]) [.nilrow, tbox0] = out7 (readV s) [.nilrow, tbox0] := e
 simp only [tbox0] at e
 have z0 : strCells ⟨#[]⟩ = [] := rfl
 cases hr : readV s with
 | none =>
  rw [hr] at e
  simp only [out7] at e
  rw [D_dat (F := A7) rfl rfl rfl rfl]
  simp (maxSteps := 9999999) -implicitDefEqProofs only [A7, B7, e16, gl, hK, e, readF, r0, Rs.enc, z0, sT, reduceCtorEq, seval, ↓joinK_t, ↓joinK_f, ↓reduceIte]
 | some x =>
  rw [hr] at e
  simp only [out7] at e
  rw [D_dat (F := A7) rfl rfl rfl rfl]
  simp (maxSteps := 9999999) -implicitDefEqProofs only [A7, B7, e16, gl, hK, e, readF, Rs.enc, sT, reduceCtorEq, seval, ↓joinK_t, ↓joinK_f, ↓reduceIte]
end Go.Proofs.YtpemlmhggiaflaaGreatDoor.Codes
namespace Go.Proofs.YtpemlmhggiaflaaGreatDoor.Codes
open Go Go.Deepv
set_option maxHeartbeats 4000000 in
theorem rparts_ok (k : Int) (hk : 0 ≤ k ∧ k ≤ 9) (h : List Res) : D env 25 [.d (.int .i64 k)] h = some (.val (.d (.tup (shK k).enc)) h) := by
 have hc : k = 0 ∨ k = 1 ∨ k = 2 ∨ k = 3 ∨ k = 4 ∨ k = 5 ∨ k = 6 ∨ k = 7 ∨ k = 8 ∨ k = 9 := by omega
 rcases hc with rfl | rfl | rfl | rfl | rfl | rfl | rfl | rfl | rfl | rfl
 all_goals
  rw [D_dat (F := A25) rfl rfl rfl rfl]
  simp (maxSteps := 9999999) -implicitDefEqProofs only [A25, B25, sT, reduceCtorEq, seval, ↓joinK_t, ↓joinK_f, ↓reduceIte]
  rfl
set_option maxHeartbeats 4000000 in
theorem rcan_ok (x : Rs) (hb : x.b.size ≤ 100000) (h : List Res) : D env 12 [.d (.agg x.enc)] h = some (.val (.d (.bool (canV x))) h) := by
 have hl := scells x.b
 have hc : canV x = (decide (0 ≤ x.k ∧ x.k ≤ 9) && okS (shK x.k) x) := rfl
 rw [hc]
 by_cases hk : 0 ≤ x.k ∧ x.k ≤ 9
 ·have k1 : ¬ x.k < 0 := by omega
  have k2 : ¬ 9 < x.k := by omega
  have e25 := fun h => rparts_ok x.k hk h
  simp only [hk, and_self, decide_true, Bool.true_and]
  rcases hs : shK x.k with ⟨w, s, n, t⟩
  rw [hs] at e25
  simp only [Sh.enc] at e25
  unfold okS
  generalize hz : (x.b.size : Int) = z at *
  have hz0 : 0 ≤ z := by omega
  cases s
  ·by_cases s0 : x.s = 0
   ·by_cases n1 : x.n < -4611686018427387904
    ·have n9 : ¬ -4611686018427387904 ≤ x.n := by omega
     cases n <;> cases t
     all_goals
      rw [D_dat (F := A12) rfl rfl rfl rfl]
      simp (maxSteps := 9999999) -implicitDefEqProofs only [A12, B12, Rs.enc, k1, k2, e25, hl, hz, Bool.true_or, s0, n1, Bool.or_true, sT, reduceCtorEq, seval, ↓joinK_t, ↓joinK_f, ↓reduceIte]
      try simp [n9]
    by_cases n2 : 4611686018427387904 ≤ x.n
    ·have n9 : ¬ x.n < 4611686018427387904 := by omega
     cases n <;> cases t
     all_goals
      rw [D_dat (F := A12) rfl rfl rfl rfl]
      simp (maxSteps := 9999999) -implicitDefEqProofs only [A12, B12, Rs.enc, k1, k2, e25, hl, hz, Bool.true_or, s0, n1, n2, Bool.or_true, sT, reduceCtorEq, seval, ↓joinK_t, ↓joinK_f, ↓reduceIte]
      try simp [n9]
    have n8 : -4611686018427387904 ≤ x.n := by omega
    have n9 : x.n < 4611686018427387904 := by omega
    cases n
    ·by_cases n0 : x.n = 0
     ·cases t
      all_goals
       rw [D_dat (F := A12) rfl rfl rfl rfl]
       simp (maxSteps := 9999999) -implicitDefEqProofs only [A12, B12, Rs.enc, k1, k2, e25, hl, hz, Bool.true_or, s0, n1, n2, n0, Bool.or_true, Bool.false_or, Bool.true_and, sT, reduceCtorEq, seval, ↓joinK_t, ↓joinK_f, ↓reduceIte]
       try simp [n0, n8, n9, s0]
       try first | omega | (rw [Bool.eq_iff_iff]; simp; omega)
     ·cases t
      all_goals
       rw [D_dat (F := A12) rfl rfl rfl rfl]
       simp (maxSteps := 9999999) -implicitDefEqProofs only [A12, B12, Rs.enc, k1, k2, e25, hl, hz, Bool.true_or, s0, n1, n2, n0, Bool.or_true, Bool.false_or, Bool.true_and, sT, reduceCtorEq, seval, ↓joinK_t, ↓joinK_f, ↓reduceIte]
       try simp [n0]
    ·cases t
     all_goals
      rw [D_dat (F := A12) rfl rfl rfl rfl]
      simp (maxSteps := 9999999) -implicitDefEqProofs only [A12, B12, Rs.enc, k1, k2, e25, hl, hz, Bool.true_or, s0, n1, n2, Bool.or_true, Bool.false_or, Bool.true_and, sT, reduceCtorEq, seval, ↓joinK_t, ↓joinK_f, ↓reduceIte]
      try simp [n8, n9, s0]
      try first | omega | (rw [Bool.eq_iff_iff]; simp; omega)
   ·cases n <;> cases t
    all_goals
     rw [D_dat (F := A12) rfl rfl rfl rfl]
     simp (maxSteps := 9999999) -implicitDefEqProofs only [A12, B12, Rs.enc, k1, k2, e25, hl, hz, Bool.true_or, s0, Bool.or_true, sT, reduceCtorEq, seval, ↓joinK_t, ↓joinK_f, ↓reduceIte]
     try simp [s0]
  ·by_cases s1 : x.s < 1
   ·have s9 : ¬ 1 ≤ x.s := by omega
    cases n <;> cases t
    all_goals
     rw [D_dat (F := A12) rfl rfl rfl rfl]
     simp (maxSteps := 9999999) -implicitDefEqProofs only [A12, B12, Rs.enc, k1, k2, e25, hl, hz, Bool.true_or, s1, Bool.or_true, sT, reduceCtorEq, seval, ↓joinK_t, ↓joinK_f, ↓reduceIte]
     try simp [s9]
   by_cases s2 : 1099511627776 < x.s
   ·have s9 : ¬ x.s ≤ 1099511627776 := by omega
    cases n <;> cases t
    all_goals
     rw [D_dat (F := A12) rfl rfl rfl rfl]
     simp (maxSteps := 9999999) -implicitDefEqProofs only [A12, B12, Rs.enc, k1, k2, e25, hl, hz, Bool.true_or, s1, s2, Bool.or_true, sT, reduceCtorEq, seval, ↓joinK_t, ↓joinK_f, ↓reduceIte]
     try simp [s9]
   have s8 : 1 ≤ x.s := by omega
   have s9 : x.s ≤ 1099511627776 := by omega
   by_cases n1 : x.n < -4611686018427387904
   ·have n9 : ¬ -4611686018427387904 ≤ x.n := by omega
    cases n <;> cases t
    all_goals
     rw [D_dat (F := A12) rfl rfl rfl rfl]
     simp (maxSteps := 9999999) -implicitDefEqProofs only [A12, B12, Rs.enc, k1, k2, e25, hl, hz, Bool.true_or, s1, s2, n1, Bool.or_true, sT, reduceCtorEq, seval, ↓joinK_t, ↓joinK_f, ↓reduceIte]
     try simp [n9]
   by_cases n2 : 4611686018427387904 ≤ x.n
   ·have n9 : ¬ x.n < 4611686018427387904 := by omega
    cases n <;> cases t
    all_goals
     rw [D_dat (F := A12) rfl rfl rfl rfl]
     simp (maxSteps := 9999999) -implicitDefEqProofs only [A12, B12, Rs.enc, k1, k2, e25, hl, hz, Bool.true_or, s1, s2, n1, n2, Bool.or_true, sT, reduceCtorEq, seval, ↓joinK_t, ↓joinK_f, ↓reduceIte]
     try simp [n9]
   have n8 : -4611686018427387904 ≤ x.n := by omega
   have n9 : x.n < 4611686018427387904 := by omega
   cases n
   ·by_cases n0 : x.n = 0
    ·cases t
     all_goals
      rw [D_dat (F := A12) rfl rfl rfl rfl]
      simp (maxSteps := 9999999) -implicitDefEqProofs only [A12, B12, Rs.enc, k1, k2, e25, hl, hz, Bool.true_or, s1, s2, n1, n2, n0, Bool.or_true, Bool.false_or, Bool.true_and, sT, reduceCtorEq, seval, ↓joinK_t, ↓joinK_f, ↓reduceIte]
      try simp [n0, n8, n9, s8, s9]
      try first | omega | (rw [Bool.eq_iff_iff]; simp; omega)
    ·cases t
     all_goals
      rw [D_dat (F := A12) rfl rfl rfl rfl]
      simp (maxSteps := 9999999) -implicitDefEqProofs only [A12, B12, Rs.enc, k1, k2, e25, hl, hz, Bool.true_or, s1, s2, n1, n2, n0, Bool.or_true, Bool.false_or, Bool.true_and, sT, reduceCtorEq, seval, ↓joinK_t, ↓joinK_f, ↓reduceIte]
      try simp [n0]
   ·cases t
    all_goals
     rw [D_dat (F := A12) rfl rfl rfl rfl]
     simp (maxSteps := 9999999) -implicitDefEqProofs only [A12, B12, Rs.enc, k1, k2, e25, hl, hz, Bool.true_or, s1, s2, n1, n2, Bool.or_true, Bool.false_or, Bool.true_and, sT, reduceCtorEq, seval, ↓joinK_t, ↓joinK_f, ↓reduceIte]
     try simp [n8, n9, s8, s9]
     try first | omega | (rw [Bool.eq_iff_iff]; simp; omega)
 ·have hf : decide (0 ≤ x.k ∧ x.k ≤ 9) = false := by simp; omega
  by_cases k1 : x.k < 0
  ·rw [D_dat (F := A12) rfl rfl rfl rfl]
   simp (maxSteps := 9999999) -implicitDefEqProofs only [A12, B12, Rs.enc, k1, hf, Bool.false_and, sT, reduceCtorEq, seval, ↓joinK_t, ↓joinK_f, ↓reduceIte]
  ·have k2 : 9 < x.k := by omega
   rw [D_dat (F := A12) rfl rfl rfl rfl]
   simp (maxSteps := 9999999) -implicitDefEqProofs only [A12, B12, Rs.enc, k1, k2, hf, Bool.false_and, sT, reduceCtorEq, seval, ↓joinK_t, ↓joinK_f, ↓reduceIte]
theorem rdig_ok (n : Int) (h1 : -4611686018427387904 ≤ n) (h2 : n < 4611686018427387904) (h : List Res) : D env 26 [.d (.int .i64 n)] h = some (.val (.d (.str (itB n))) h) := by
 by_cases hn : n < 0
 ·have e44 := fun h => digits_ok (-n) (by omega) h
  have w : IntKind.i64.wrap (0 - n) = -n := by rw [wrap_i64 (by omega) (by omega)]; omega
  have e : (⟨#[45]⟩ : ByteArray) ++ digitsB (-n) = itB n := by
   apply ba_ext
   rw [app_toList]
   unfold digitsB itB Lib.itoa
   rw [if_pos hn, if_neg (by omega), show (max (-n) 0).toNat = n.natAbs by omega]
   simp
  have ln : (Lib.itoa (-n)).length ≤ 21 := Lib.itoa_length_le (-n) (by omega) (by omega)
  have ld : (digitsB (-n)).size ≤ 21 := by unfold digitsB; rw [show max (-n) 0 = -n by omega]; exact ln
  have z1 : (⟨#[45]⟩ : ByteArray).size = 1 := rfl
  rw [D_dat (F := A26) rfl rfl rfl rfl]
  simp (maxSteps := 9999999) -implicitDefEqProofs only [A26, B26, hn, w, e44, e, sT, reduceCtorEq, seval, ↓joinK_t, ↓joinK_f, ↓reduceIte]
  rw [if_pos (by omega)]
 ·have e44 := fun h => digits_ok n (by omega) h
  have e : digitsB n = itB n := by unfold digitsB itB; rw [show max n 0 = n by omega]
  rw [e] at e44
  rw [D_dat (F := A26) rfl rfl rfl rfl]
  simp (maxSteps := 9999999) -implicitDefEqProofs only [A26, B26, hn, e44, sT, reduceCtorEq, seval, ↓joinK_t, ↓joinK_f, ↓reduceIte]
theorem joined1 (w : ByteArray) : joined [w] sp1 = w := by
 apply ba_ext
 simp [joined, Lib.join, List.intercalate]
theorem joined2 (w a : ByteArray) (l : List ByteArray) : joined (w :: a :: l) sp1 = w ++ sp1 ++ joined (a :: l) sp1 := by
 apply ba_ext
 rw [app_toList, app_toList]
 simp only [joined, List.map_cons, sp1]
 have := join_cons2 w.data.toList a.data.toList (l.map (·.data.toList)) 32
 rw [this]
 simp
theorem ba_assoc (a b c : ByteArray) : a ++ b ++ c = a ++ (b ++ c) := by
 apply ba_ext
 simp only [app_toList, List.append_assoc]
set_option maxHeartbeats 4000000 in
theorem rline_ok (x : Rs) (hb : x.b.size ≤ 100000) (h : List Res) : D env 10 [.d (.agg x.enc)] h = some (.val (.d (.str (lineV x))) h) := by
 have e12 := fun h => rcan_ok x hb h
 unfold lineV
 cases hc : canV x with
 | false =>
  rw [hc] at e12
  simp only [Rs.enc] at e12
  rw [D_dat (F := A10) rfl rfl rfl rfl]
  simp (maxSteps := 9999999) -implicitDefEqProofs only [A10, B10, Rs.enc, e12, sT, reduceCtorEq, seval, ↓joinK_t, ↓joinK_f, ↓reduceIte]
 | true =>
  rw [hc] at e12
  obtain ⟨hk, ho⟩ := can_range hc
  obtain ⟨⟨s1, s2⟩, ⟨n1, n2⟩, b1⟩ := okS_range ho
  have e25 := fun h => rparts_ok x.k hk h
  have is := fun h => rdig_ok x.s (by omega) (by omega) h
  have iN := fun h => rdig_ok x.n (by omega) (by omega) h
  have e27 := fun h => rshow_ok ⟨4, ⟨#[]⟩, 0, x.b⟩ 0 0 (by simp; omega) (by simp) h
  have hq : showV ⟨4, ⟨#[]⟩, 0, x.b⟩ = quoteB x.b := by simp [showV]
  rw [hq] at e27
  simp only [Tk.enc] at e27
  simp only [Rs.enc] at e12
  have hw := shK_len x.k
  generalize shK x.k = g at *
  rcases g with ⟨w, s, n, t⟩
  simp only [Sh.enc] at e25
  unfold partsV
  have z1 : (⟨#[32]⟩ : ByteArray).size = 1 := rfl
  have zs : (itB x.s).size ≤ 21 := Lib.itoa_length_le x.s (by omega) (by omega)
  have zn : (itB x.n).size ≤ 21 := Lib.itoa_length_le x.n (by omega) (by omega)
  have zq := quote_len x.b
  rw [Array.length_toList] at zq hw
  have zq : (quoteB x.b).size ≤ 4 * x.b.size + 2 := zq
  have hw : w.size ≤ 9 := hw
  cases s <;> cases n <;> cases t
  all_goals
   simp only [Bool.false_eq_true, if_false, if_true, List.nil_append, List.append_nil, List.cons_append, joined1, joined2, ba_assoc]
   try simp only [sp1]
   rw [D_dat (F := A10) rfl rfl rfl rfl]
   simp (maxSteps := 9999999) -implicitDefEqProofs only [A10, B10, Rs.enc, e12, e25, is, iN, e27, ba_assoc, ByteArray.size_append, sT, reduceCtorEq, seval, ↓joinK_t, ↓joinK_f, ↓reduceIte]
   repeat rw [if_pos (by omega)]
end Go.Proofs.YtpemlmhggiaflaaGreatDoor.Codes
namespace Go.Proofs.YtpemlmhggiaflaaGreatDoor.Codes
open Go Go.Deepv
theorem tba_get (s : ByteArray) (i : Nat) (h : i < s.size) : s[i]? = some (s.data.toList.getD i 0) := by
 have h' : i < s.data.toList.length := by rw [Array.length_toList]; exact h
 rw [getElem?_pos s i h, List.getD_eq_getElem?_getD, List.getElem?_eq_getElem h']
 rfl
theorem u8_ne {a b : UInt8} (h : a ≠ b) : ¬ ((a.toNat : Int) = b.toNat) := fun e => h (UInt8.toNat_inj.1 (by omega))
def restV (s p : ByteArray) : ByteArray × Bool := if s.size ≤ p.size + 1 ∨ (s.extract 0 p.size).toList ≠ p.toList ∨ s.data.toList.getD p.size 0 ≠ 32 then (⟨#[]⟩, false) else (s.extract (p.size + 1) s.size, true)
set_option maxHeartbeats 4000000 in
theorem rest_ok (s p : ByteArray) (hp : p.size ≤ 1000) (h : List Res) : D env 36 [.d (.str s), .d (.str p)] h = some (.val (.d (.tup [.str (restV s p).1, .bool (restV s p).2])) h) := by
 have w : IntKind.i64.wrap ((p.size : Int) + 1) = ((p.size + 1 : Nat) : Int) := by rw [wrap_i64 (by omega) (by omega)]; omega
 unfold restV
 have q32 : ((32 : UInt8).toNat : Int) = 32 := rfl
 by_cases h1 : s.size ≤ p.size + 1
 ·have g1 : (s.size : Int) ≤ ((p.size + 1 : Nat) : Int) := by omega
  rw [if_pos (.inl h1)]
  rw [D_dat (F := A36) rfl rfl rfl rfl]
  simp (maxSteps := 9999999) -implicitDefEqProofs only [A36, B36, w, g1, Bool.true_or, sT, reduceCtorEq, seval, ↓joinK_t, ↓joinK_f, ↓reduceIte]
 ·have g1 : ¬ (s.size : Int) ≤ ((p.size + 1 : Nat) : Int) := by omega
  have g2 : (p.size : Int) ≤ s.size := by omega
  have g3 : ((p.size + 1 : Nat) : Int) ≤ s.size := by omega
  have gi := tba_get s p.size (by omega)
  by_cases h2 : (s.extract 0 p.size).toList = p.toList
  ·have b2 : ((s.extract 0 p.size).toList == p.toList) = true := by simp [h2]
   by_cases h3 : s.data.toList.getD p.size 0 = 32
   ·rw [if_neg (fun h => by rcases h with h | h | h; exact h1 h; exact h h2; exact h h3)]
    rw [h3] at gi
    rw [D_dat (F := A36) rfl rfl rfl rfl]
    simp (maxSteps := 9999999) -implicitDefEqProofs only [A36, B36, w, g1, g2, g3, h2, b2, gi, q32, sT, reduceCtorEq, seval, ↓joinK_t, ↓joinK_f, ↓reduceIte]
   ·rw [if_pos (.inr (.inr h3))]
    have n3 := u8_ne h3
    rw [q32] at n3
    rw [D_dat (F := A36) rfl rfl rfl rfl]
    simp (maxSteps := 9999999) -implicitDefEqProofs only [A36, B36, w, g1, g2, g3, h2, b2, gi, n3, sT, reduceCtorEq, seval, ↓joinK_t, ↓joinK_f, ↓reduceIte]
  ·have b2 : ((s.extract 0 p.size).toList == p.toList) = false := by simp [h2]
   rw [if_pos (.inr (.inl h2))]
   rw [D_dat (F := A36) rfl rfl rfl rfl]
   simp (maxSteps := 9999999) -implicitDefEqProofs only [A36, B36, w, g1, g2, g3, b2, gi, true_or, sT, reduceCtorEq, seval, ↓joinK_t, ↓joinK_f, ↓reduceIte]
def numG : Int → List UInt8 → Int × Nat × Bool
 | n, [] => (n, 0, true)
 | n, c :: r => if 48 ≤ c.toNat ∧ c.toNat ≤ 57 then (if 576460752303423488 < n then (n, 0, false) else ((numG (n * 10 + ((c.toNat : Int) - 48)) r).1, (numG (n * 10 + ((c.toNat : Int) - 48)) r).2.1 + 1, (numG (n * 10 + ((c.toNat : Int) - 48)) r).2.2)) else (n, 0, true)
def out37 (s : ByteArray) (neg : Bool) (i : Nat) (q : Int × Nat × Bool) : Option DRun := some (if q.2.2 = true then (.exit 0, den 56 [(0, .d (.str s)), (5, .d (.bool neg)), (6, .d (.int .i64 q.1)), (7, .d (.int .i64 ((i + q.2.1 : Nat) : Int)))], [])
 else (.ret, den 56 [(0, .d (.str s)), (2, .d (.int .i64 0)), (3, .d (.str ⟨#[]⟩)), (4, .d (.bool false)), (5, .d (.bool neg)), (6, .d (.int .i64 q.1)), (7, .d (.int .i64 ((i + q.2.1 : Nat) : Int)))], []))
set_option maxHeartbeats 8000000 in
theorem tloop37 (s : ByteArray) (hs : s.size ≤ 100000) (neg : Bool) : ∃ K, L env 0 true H37L6 X37L6 B37L6 = K ∧ ∀ (l : List UInt8) (i : Nat) (n : Int), s.data.toList.drop i = l → i ≤ s.size → 0 ≤ n → n ≤ 5764607523034234899 →
  K (den 56 [(0, .d (.str s)), (5, .d (.bool neg)), (6, .d (.int .i64 n)), (7, .d (.int .i64 (i : Int)))]) [] = out37 s neg i (numG n l) := by
 obtain ⟨K, hK⟩ : ∃ K, L env 0 true H37L6 X37L6 B37L6 = K := ⟨_, rfl⟩
 refine ⟨K, hK, ?_⟩
 have hz : s.data.toList.length = s.size := by rw [Array.length_toList]; rfl
 intro l
 induction l with
 | nil =>
  intro i n hl hi h0 h1
  have : s.data.toList.length ≤ i := List.drop_eq_nil_iff.1 hl
  have e2 : ¬ (i : Int) < (s.size : Int) := by omega
  rw [L_rnd hK]
  simp (maxSteps := 9999999) -implicitDefEqProofs only [B37L6, e2, numG, out37, Nat.add_zero, sT, reduceCtorEq, seval, ↓joinK_t, ↓joinK_f, ↓reduceIte]
 | cons c l ih =>
  intro i n hl hi h0 h1
  have hlt : i < s.data.toList.length := by
   rcases Nat.lt_or_ge i s.data.toList.length with h | h
   ·exact h
   ·rw [List.drop_eq_nil_of_le h] at hl; cases hl
  have hx : s.data.toList[i]? = some c := by
   have := congrArg (fun l => l[0]?) hl
   simpa using this
  have gi : s[i]? = some c := by rw [tba_get s i (by omega), List.getD_eq_getElem?_getD, hx]; rfl
  have hd : s.data.toList.drop (i + 1) = l := by
   rw [← List.drop_drop, hl]; rfl
  have e2 : (i : Int) < (s.size : Int) := by omega
  have w1 : IntKind.i64.wrap ((i : Int) + 1) = ((i + 1 : Nat) : Int) := by rw [wrap_i64 (by omega) (by omega)]; omega
  have hc := c.toNat_lt
  by_cases c1 : (48 : Int) ≤ (c.toNat : Int)
  ·by_cases c2 : (c.toNat : Int) ≤ 57
   ·have hc' : 48 ≤ c.toNat ∧ c.toNat ≤ 57 := by omega
    by_cases c3 : 576460752303423488 < n
    ·have hg : numG n (c :: l) = (n, 0, false) := by simp [numG, hc', c3]
     rw [hg, L_rnd hK]
     simp (maxSteps := 9999999) -implicitDefEqProofs only [B37L6, e2, gi, c1, c2, c3, out37, Nat.add_zero, sT, reduceCtorEq, seval, ↓joinK_t, ↓joinK_f, ↓reduceIte]
    ·have w2 : IntKind.i64.wrap (n * 10) = n * 10 := wrap_i64 (by omega) (by omega)
     have w3 : IntKind.u8.wrap ((c.toNat : Int) - 48) = (c.toNat : Int) - 48 := wrap_u8 (by omega) (by omega)
     have w4 : IntKind.i64.wrap ((c.toNat : Int) - 48) = (c.toNat : Int) - 48 := wrap_i64 (by omega) (by omega)
     have w5 : IntKind.i64.wrap (n * 10 + ((c.toNat : Int) - 48)) = n * 10 + ((c.toNat : Int) - 48) := wrap_i64 (by omega) (by omega)
     have ih := ih (i + 1) (n * 10 + ((c.toNat : Int) - 48)) hd (by omega) (by omega) (by omega)
     have hg : numG n (c :: l) = ((numG (n * 10 + ((c.toNat : Int) - 48)) l).1, (numG (n * 10 + ((c.toNat : Int) - 48)) l).2.1 + 1, (numG (n * 10 + ((c.toNat : Int) - 48)) l).2.2) := by simp [numG, hc', c3]
     rw [hg, L_rnd hK]
     have ho : ∀ q : Int × Nat × Bool, out37 s neg i (q.1, q.2.1 + 1, q.2.2) = out37 s neg (i + 1) q := fun q => by unfold out37; rw [show i + (q.2.1 + 1) = i + 1 + q.2.1 by omega]
     rw [ho]
     simp (maxSteps := 9999999) -implicitDefEqProofs only [B37L6, e2, gi, c1, c2, c3, w1, w2, w3, w4, w5, ih, sT, reduceCtorEq, seval, ↓joinK_t, ↓joinK_f, ↓reduceIte]
   ·have hc' : ¬ (48 ≤ c.toNat ∧ c.toNat ≤ 57) := by omega
    have hg : numG n (c :: l) = (n, 0, true) := by simp only [numG, hc', if_false]
    rw [hg, L_rnd hK]
    simp (maxSteps := 9999999) -implicitDefEqProofs only [B37L6, e2, gi, c1, c2, out37, Nat.add_zero, sT, reduceCtorEq, seval, ↓joinK_t, ↓joinK_f, ↓reduceIte]
  ·have hc' : ¬ (48 ≤ c.toNat ∧ c.toNat ≤ 57) := by omega
   have hg : numG n (c :: l) = (n, 0, true) := by simp only [numG, hc', if_false]
   rw [hg, L_rnd hK]
   simp (maxSteps := 9999999) -implicitDefEqProofs only [B37L6, e2, gi, c1, out37, Nat.add_zero, sT, reduceCtorEq, seval, ↓joinK_t, ↓joinK_f, ↓reduceIte]
theorem numG_rng : ∀ (l : List UInt8) (n : Int), 0 ≤ n → n ≤ 5764607523034234899 → 0 ≤ (numG n l).1 ∧ (numG n l).1 ≤ 5764607523034234899 ∧ (numG n l).2.1 ≤ l.length
 | [], n, h0, h1 => by simp [numG, h0, h1]
 | c :: l, n, h0, h1 => by
  have hc := c.toNat_lt
  unfold numG
  split
  ·split
   ·simp [h0, h1]
   ·rename_i h2 h3
    have := numG_rng l (n * 10 + ((c.toNat : Int) - 48)) (by omega) (by omega)
    simp only [List.length_cons]
    omega
  ·simp [h0, h1]
def negV (s : ByteArray) : Bool := decide (0 < s.size) && decide (s.data.toList.getD 0 0 = 45)
def numV (neg : Bool) (s : ByteArray) : Int × ByteArray × Bool :=
 if (numG 0 s.data.toList).2.2 = true then (if neg = true then -(numG 0 s.data.toList).1 else (numG 0 s.data.toList).1, s.extract (numG 0 s.data.toList).2.1 s.size, decide (0 < (numG 0 s.data.toList).2.1)) else (0, ⟨#[]⟩, false)
def numberV (s : ByteArray) : Int × ByteArray × Bool := numV (negV s) (if negV s = true then s.extract 1 s.size else s)
theorem dec_nat (n : Nat) : decide (0 < (n : Int)) = decide (0 < n) := by simp
set_option maxHeartbeats 8000000 in
theorem tnumber_ok (s : ByteArray) (hs : s.size ≤ 100000) (h : List Res) : D env 37 [.d (.str s)] h = some (.val (.d (.tup [.int .i64 (numberV s).1, .str (numberV s).2.1, .bool (numberV s).2.2])) h) := by
 have tail : ∀ (neg : Bool) (t : ByteArray), t.size ≤ 100000 → ∃ K, L env 0 true H37L6 X37L6 B37L6 = K ∧ (numG 0 t.data.toList).2.1 ≤ t.size ∧ IntKind.i64.wrap (0 - (numG 0 t.data.toList).1) = -(numG 0 t.data.toList).1 ∧
   K (den 56 [(0, .d (.str t)), (5, .d (.bool neg)), (6, .d (.int .i64 0)), (7, .d (.int .i64 0))]) [] = out37 t neg 0 (numG 0 t.data.toList) := fun neg t ht => by
  obtain ⟨K, hK, hk⟩ := tloop37 t ht neg
  have e := hk t.data.toList 0 0 rfl (by omega) (by omega) (by omega)
  have r := numG_rng t.data.toList 0 (by omega) (by omega)
  rw [Array.length_toList] at r
  exact ⟨K, hK, r.2.2, by rw [wrap_i64 (by omega) (by omega)]; omega, e⟩
 unfold numberV
 have q45 : ((45 : UInt8).toNat : Int) = 45 := rfl
 by_cases h0 : 0 < s.size
 ·have g0 : (0 : Int) < (s.size : Int) := by omega
  have gi := tba_get s 0 h0
  by_cases h1 : s.data.toList.getD 0 0 = 45
  ·have hn : negV s = true := by simp only [negV, h0, h1, decide_true, Bool.and_self]
   rw [hn, if_pos rfl]
   rw [h1] at gi
   obtain ⟨K, hK, r1, r2, e⟩ := tail true (s.extract 1 s.size) (by simp only [ByteArray.size_extract]; omega)
   have g2 : (1 : Int) ≤ (s.size : Int) := by omega
   generalize hte : s.extract 1 s.size = t at *
   unfold numV
   rcases hq : numG 0 t.data.toList with ⟨m, k, o⟩
   rw [hq] at e r1 r2
   have r1' : (k : Int) ≤ (t.size : Int) := by simp only at r1; omega
   cases o with
   | true =>
    simp only [out37, if_true, Nat.zero_add] at e r2
    rw [D_dat (F := A37) rfl rfl rfl rfl]
    simp (maxSteps := 9999999) -implicitDefEqProofs only [A37, B37, g0, gi, q45, g2, hte, hK, e, r1', r2, dec_nat, sT, reduceCtorEq, seval, ↓joinK_t, ↓joinK_f, ↓reduceIte]
    done
   | false =>
    simp only [out37, Bool.false_eq_true, if_false, Nat.zero_add] at e
    rw [D_dat (F := A37) rfl rfl rfl rfl]
    simp (maxSteps := 9999999) -implicitDefEqProofs only [A37, B37, g0, gi, q45, g2, hte, hK, e, sT, reduceCtorEq, seval, ↓joinK_t, ↓joinK_f, ↓reduceIte]
    done
  ·have hn : negV s = false := by simp only [negV, h1, decide_false, Bool.and_false]
   have n1 := u8_ne h1
   rw [q45] at n1
   have nb := beq_eq_false_iff_ne.2 n1
   rw [hn, if_neg (by simp)]
   obtain ⟨K, hK, r1, r2, e⟩ := tail false s hs
   unfold numV
   rcases hq : numG 0 s.data.toList with ⟨m, k, o⟩
   rw [hq] at e r1 r2
   have r1' : (k : Int) ≤ (s.size : Int) := by simp only at r1; omega
   cases o with
   | true =>
    simp only [out37, if_true, Nat.zero_add] at e
    rw [D_dat (F := A37) rfl rfl rfl rfl]
    simp (maxSteps := 9999999) -implicitDefEqProofs only [A37, B37, g0, gi, n1, nb, hK, e, r1', dec_nat, sT, reduceCtorEq, seval, ↓joinK_t, ↓joinK_f, ↓reduceIte]
    done
   | false =>
    simp only [out37, Bool.false_eq_true, if_false, Nat.zero_add] at e
    rw [D_dat (F := A37) rfl rfl rfl rfl]
    simp (maxSteps := 9999999) -implicitDefEqProofs only [A37, B37, g0, gi, n1, nb, hK, e, sT, reduceCtorEq, seval, ↓joinK_t, ↓joinK_f, ↓reduceIte]
    done
 ·have g0 : ¬ (0 : Int) < (s.size : Int) := by omega
  have hn : negV s = false := by simp only [negV, h0, decide_false, Bool.false_and]
  rw [hn, if_neg (by simp)]
  obtain ⟨K, hK, r1, r2, e⟩ := tail false s hs
  unfold numV
  rcases hq : numG 0 s.data.toList with ⟨m, k, o⟩
  rw [hq] at e r1 r2
  have r1' : (k : Int) ≤ (s.size : Int) := by simp only at r1; omega
  cases o with
  | true =>
   simp only [out37, if_true, Nat.zero_add] at e
   rw [D_dat (F := A37) rfl rfl rfl rfl]
   simp (maxSteps := 9999999) -implicitDefEqProofs only [A37, B37, g0, hK, e, r1', dec_nat, sT, reduceCtorEq, seval, ↓joinK_t, ↓joinK_f, ↓reduceIte]
   done
  | false =>
   simp only [out37, Bool.false_eq_true, if_false, Nat.zero_add] at e
   rw [D_dat (F := A37) rfl rfl rfl rfl]
   simp (maxSteps := 9999999) -implicitDefEqProofs only [A37, B37, g0, hK, e, sT, reduceCtorEq, seval, ↓joinK_t, ↓joinK_f, ↓reduceIte]
   done
def quotedV (rest : ByteArray) : ByteArray × Bool := match (lexP rest).1, (lexP rest).2.1 with
 | [(t, _, _), _], 0 => if t.kind = 4 then (t.bytes, true) else (⟨#[]⟩, false)
 | _, _ => (⟨#[]⟩, false)
set_option maxHeartbeats 4000000 in
theorem tquoted_ok (rest : ByteArray) (h : List Res) : D env 38 [.d (.str rest)] h = some (.val (.d (.tup [.slice 1 (strCells (quotedV rest).1), .bool (quotedV rest).2])) h) := by
 have e56 := fun h => rlex_ok rest h
 rw [lexV_P] at e56
 have c0 : (strCells ⟨#[]⟩ : List (List FV)) = [] := rfl
 unfold quotedV
 rcases hl : lexP rest with ⟨ts, e, l, c⟩
 rw [hl] at e56
 simp only at e56 ⊢
 by_cases he : e = 0
 ·subst he
  match ts with
  | [] =>
   simp only [encT, List.map_nil] at e56
   rw [D_dat (F := A38) rfl rfl rfl rfl]
   simp (maxSteps := 9999999) -implicitDefEqProofs only [A38, B38, e56, c0, sT, reduceCtorEq, seval, ↓joinK_t, ↓joinK_f, ↓reduceIte]
  | [a] =>
   simp only [encT, List.map_nil, List.map_cons] at e56
   rw [D_dat (F := A38) rfl rfl rfl rfl]
   simp (maxSteps := 9999999) -implicitDefEqProofs only [A38, B38, e56, c0, sT, reduceCtorEq, seval, ↓joinK_t, ↓joinK_f, ↓reduceIte]
  | a :: b :: d :: r =>
   have l1 : ((((r.length + 1 + 1 + 1 : Nat) : Int)) != 2) = true := by simp; omega
   simp only [encT, List.map_cons] at e56
   rw [D_dat (F := A38) rfl rfl rfl rfl]
   simp (maxSteps := 9999999) -implicitDefEqProofs only [A38, B38, e56, c0, List.length_cons, List.length_map, l1, Bool.or_true, sT, reduceCtorEq, seval, ↓joinK_t, ↓joinK_f, ↓reduceIte]
  | [(t, tl, tc), b] =>
   simp only [encT, List.map_nil, List.map_cons, Tk.enc] at e56
   by_cases h4 : t.kind = 4
   ·rw [D_dat (F := A38) rfl rfl rfl rfl]
    simp (maxSteps := 9999999) -implicitDefEqProofs only [A38, B38, e56, c0, h4, sT, reduceCtorEq, seval, ↓joinK_t, ↓joinK_f, ↓reduceIte]
   ·rw [D_dat (F := A38) rfl rfl rfl rfl]
    simp (maxSteps := 9999999) -implicitDefEqProofs only [A38, B38, e56, c0, h4, sT, reduceCtorEq, seval, ↓joinK_t, ↓joinK_f, ↓reduceIte]
 ·have hm : (match ts, e with
   | [(t, _, _), _], 0 => if t.kind = 4 then (t.bytes, true) else (⟨#[]⟩, false)
   | _, _ => ((⟨#[]⟩ : ByteArray), false)) = (⟨#[]⟩, false) := by
   split
   ·exact absurd rfl he
   ·rfl
  rw [hm]
  have he' : (e != 0) = true := by simp [he]
  rw [D_dat (F := A38) rfl rfl rfl rfl]
  simp (maxSteps := 9999999) -implicitDefEqProofs only [A38, B38, e56, c0, he', Bool.true_or, sT, reduceCtorEq, seval, ↓joinK_t, ↓joinK_f, ↓reduceIte]
end Go.Proofs.YtpemlmhggiaflaaGreatDoor.Codes

namespace Go.Proofs.YtpemlmhggiaflaaGreatDoor.Codes
open Go Go.Deepv
def tOneS (k : Int) (s : ByteArray) (ok : Bool) : Rs × Bool := (⟨k, (numberV s).1, 0, ⟨#[]⟩⟩, (ok && (numberV s).2.2) && ((numberV s).2.1.toList == (⟨#[]⟩ : ByteArray).toList))
def tOneN (k : Int) (s : ByteArray) (ok : Bool) : Rs × Bool := if ok = true then (⟨k, 0, (numberV s).1, ⟨#[]⟩⟩, (numberV s).2.2 && ((numberV s).2.1.toList == (⟨#[]⟩ : ByteArray).toList)) else (⟨k, 0, 0, ⟨#[]⟩⟩, false)
def tOneB (k : Int) (s : ByteArray) (ok : Bool) : Rs × Bool :=
  if (ok && (numberV s).2.2) = true then
    (if (numberV s).2.1.size = 0 ∨ (numberV s).2.1.data.toList.getD 0 0 ≠ 32 then (⟨k, (numberV s).1, 0, ⟨#[]⟩⟩, false)
     else (⟨k, (numberV s).1, (numberV ((numberV s).2.1.extract 1 (numberV s).2.1.size)).1, ⟨#[]⟩⟩, (numberV ((numberV s).2.1.extract 1 (numberV s).2.1.size)).2.2 && ((numberV ((numberV s).2.1.extract 1 (numberV s).2.1.size)).2.1.toList == (⟨#[]⟩ : ByteArray).toList)))
  else (⟨k, (numberV s).1, 0, ⟨#[]⟩⟩, false)
def tOneT (k : Int) (s : ByteArray) (ok : Bool) : Rs × Bool := if ok = true then (⟨k, 0, 0, (quotedV s).1⟩, (quotedV s).2) else (⟨k, 0, 0, ⟨#[]⟩⟩, false)
def tOneV (k : Int) (g : Sh) (s : ByteArray) : Rs × Bool :=
  if g.s then (if g.n then tOneB k (restV s g.w).1 (restV s g.w).2 else tOneS k (restV s g.w).1 (restV s g.w).2)
  else if g.n then tOneN k (restV s g.w).1 (restV s g.w).2
  else if g.t then tOneT k (restV s g.w).1 (restV s g.w).2
  else (⟨k, 0, 0, ⟨#[]⟩⟩, s.toList == g.w.toList)
theorem rest_size (s p : ByteArray) : (restV s p).1.size ≤ s.size := by
  unfold restV
  split
  · exact Nat.zero_le _
  · simp only [ByteArray.size_extract]; omega
theorem numV_size (neg : Bool) (s : ByteArray) : (numV neg s).2.1.size ≤ s.size := by
  unfold numV
  split
  · simp only [ByteArray.size_extract]; omega
  · exact Nat.zero_le _
theorem number_size (s : ByteArray) : (numberV s).2.1.size ≤ s.size := by
  unfold numberV
  refine Nat.le_trans (numV_size _ _) ?_
  split
  · simp only [ByteArray.size_extract]; omega
  · exact Nat.le_refl _
theorem shs_kinds : ∀ g ∈ shs, (g.s = true ∧ g.n = false ∧ g.t = false) ∨ (g.s = false ∧ g.n = true ∧ g.t = false) ∨ (g.s = true ∧ g.n = true ∧ g.t = false) ∨ (g.s = false ∧ g.n = false ∧ g.t = true) ∨ (g.s = false ∧ g.n = false ∧ g.t = false) := by decide
theorem shK_mem {k : Int} (h : 0 ≤ k ∧ k ≤ 9) : shK k ∈ shs := by
  have := shs_at h
  rw [List.getElem?_map] at this
  cases hx : shs[k.toNat]? with
  | none => rw [hx] at this; cases this
  | some y =>
    unfold shK
    rw [if_pos h, List.getD_eq_getElem?_getD, hx]
    exact List.mem_of_getElem? hx
set_option maxHeartbeats 8000000 in
theorem tone_ok (k : Int) (hk : 0 ≤ k ∧ k ≤ 9) (s : ByteArray) (hs : s.size ≤ 1000) (h : List Res) : D env 19 [.d (.str s), .d (.int .i64 k)] h = some (.val (.d (.tup [.agg (tOneV k (shK k) s).1.enc, .bool (tOneV k (shK k) s).2])) h) := by
  have e25 := fun h => rparts_ok k hk h
  have hg := shs_kinds _ (shK_mem hk)
  have hw := shK_len k
  rcases hsh : shK k with ⟨w, s0, n0, t0⟩
  rw [hsh] at e25 hg hw
  simp only [Sh.enc] at e25 hg hw
  rw [Array.length_toList] at hw
  have hw : w.size ≤ 9 := hw
  have e36 := fun h => rest_ok s w (by omega) h
  have z1 := rest_size s w
  have c0 : (strCells ⟨#[]⟩ : List (List FV)) = [] := rfl
  unfold tOneV
  simp only
  rcases hr : restV s w with ⟨r, o⟩
  rw [hr] at e36 z1
  simp only at e36 z1 ⊢
  have e37 := fun h => tnumber_ok r (by omega) h
  have z2 := number_size r
  rcases hg with ⟨rfl, rfl, rfl⟩ | ⟨rfl, rfl, rfl⟩ | ⟨rfl, rfl, rfl⟩ | ⟨rfl, rfl, rfl⟩ | ⟨rfl, rfl, rfl⟩
  all_goals simp only [if_true, Bool.false_eq_true, if_false]
  · unfold tOneS
    rcases hm : numberV r with ⟨n, m, i⟩
    rw [hm] at e37
    simp only at e37 ⊢
    cases o <;> cases i
    all_goals
      rw [D_dat (F := A19) rfl rfl rfl rfl]
      simp (maxSteps := 9999999) -implicitDefEqProofs only [A19, B19, e25, e36, e37, Rs.enc, c0, Bool.false_and, Bool.true_and, sT, reduceCtorEq, seval, ↓joinK_t, ↓joinK_f, ↓reduceIte]
  · unfold tOneN
    rcases hm : numberV r with ⟨n, m, i⟩
    rw [hm] at e37
    simp only at e37 ⊢
    cases o <;> cases i
    all_goals
      rw [D_dat (F := A19) rfl rfl rfl rfl]
      simp (maxSteps := 9999999) -implicitDefEqProofs only [A19, B19, e25, e36, e37, Rs.enc, c0, Bool.false_and, Bool.true_and, sT, reduceCtorEq, seval, ↓joinK_t, ↓joinK_f, ↓reduceIte]
  · unfold tOneB
    rcases hm : numberV r with ⟨n, m, i⟩
    rw [hm] at e37 z2
    simp only at e37 z2 ⊢
    have q32 : ((32 : UInt8).toNat : Int) = 32 := rfl
    have e37b := fun h => tnumber_ok (m.extract 1 m.size) (by simp only [ByteArray.size_extract]; omega) h
    rcases hm2 : numberV (m.extract 1 m.size) with ⟨n2, m2, i2⟩
    rw [hm2] at e37b
    simp only at e37b ⊢
    cases o <;> cases i
    · rw [D_dat (F := A19) rfl rfl rfl rfl]
      simp (maxSteps := 9999999) -implicitDefEqProofs only [A19, B19, e25, e36, e37, Rs.enc, c0, Bool.false_and, Bool.true_and, sT, reduceCtorEq, seval, ↓joinK_t, ↓joinK_f, ↓reduceIte]
    · rw [D_dat (F := A19) rfl rfl rfl rfl]
      simp (maxSteps := 9999999) -implicitDefEqProofs only [A19, B19, e25, e36, e37, Rs.enc, c0, Bool.false_and, Bool.true_and, sT, reduceCtorEq, seval, ↓joinK_t, ↓joinK_f, ↓reduceIte]
    · rw [D_dat (F := A19) rfl rfl rfl rfl]
      simp (maxSteps := 9999999) -implicitDefEqProofs only [A19, B19, e25, e36, e37, Rs.enc, c0, Bool.false_and, Bool.true_and, sT, reduceCtorEq, seval, ↓joinK_t, ↓joinK_f, ↓reduceIte]
    · by_cases h0 : m.size = 0
      · have g0 : (m.size : Int) = 0 := by omega
        rw [if_pos (by rfl), if_pos (.inl h0)]
        rw [D_dat (F := A19) rfl rfl rfl rfl]
        simp (maxSteps := 9999999) -implicitDefEqProofs only [A19, B19, e25, e36, e37, Rs.enc, c0, g0, Bool.true_or, Bool.true_and, sT, reduceCtorEq, seval, ↓joinK_t, ↓joinK_f, ↓reduceIte]
      · have g0 : ¬ (m.size : Int) = 0 := by omega
        have g1 : (1 : Int) ≤ (m.size : Int) := by omega
        have gi := tba_get m 0 (by omega)
        by_cases h1 : m.data.toList.getD 0 0 = 32
        · rw [if_pos (by rfl), if_neg (fun h => by rcases h with h | h; exact h0 h; exact h h1)]
          rw [h1] at gi
          cases i2
          all_goals
            rw [D_dat (F := A19) rfl rfl rfl rfl]
            simp (maxSteps := 9999999) -implicitDefEqProofs only [A19, B19, e25, e36, e37, Rs.enc, c0, g0, g1, gi, q32, e37b, Bool.true_and, Bool.false_and, sT, reduceCtorEq, seval, ↓joinK_t, ↓joinK_f, ↓reduceIte]
        · have n1 := u8_ne h1
          rw [q32] at n1
          rw [if_pos (by rfl), if_pos (.inr h1)]
          rw [D_dat (F := A19) rfl rfl rfl rfl]
          simp (maxSteps := 9999999) -implicitDefEqProofs only [A19, B19, e25, e36, e37, Rs.enc, c0, g0, g1, gi, n1, Bool.true_and, sT, reduceCtorEq, seval, ↓joinK_t, ↓joinK_f, ↓reduceIte]
  · unfold tOneT
    have e38 := fun h => tquoted_ok r h
    rcases hm : quotedV r with ⟨b, i⟩
    rw [hm] at e38
    simp only at e38 ⊢
    cases o <;> cases i
    all_goals
      rw [D_dat (F := A19) rfl rfl rfl rfl]
      simp (maxSteps := 9999999) -implicitDefEqProofs only [A19, B19, e25, e36, e38, Rs.enc, c0, Bool.false_and, Bool.true_and, sT, reduceCtorEq, seval, ↓joinK_t, ↓joinK_f, ↓reduceIte]
  · rw [D_dat (F := A19) rfl rfl rfl rfl]
    simp (maxSteps := 9999999) -implicitDefEqProofs only [A19, B19, e25, Rs.enc, c0, sT, reduceCtorEq, seval, ↓joinK_t, ↓joinK_f, ↓reduceIte]
theorem quoted_b (s : ByteArray) : (quotedV s).1.size ≤ 64 := by
  have h := lexP_b s
  have z : (⟨#[]⟩ : ByteArray).size = 0 := rfl
  unfold quotedV
  split
  · rename_i t _ _ _ hl _
    rw [hl] at h
    split
    · exact h (t, _, _) List.mem_cons_self
    · simp only; omega
  · simp only; omega
theorem tOne_b (k : Int) (g : Sh) (s : ByteArray) : (tOneV k g s).1.b.size ≤ 64 := by
  have z : (⟨#[]⟩ : ByteArray).size = 0 := rfl
  have q := quoted_b (restV s g.w).1
  unfold tOneV tOneS tOneN tOneB tOneT
  repeat' split
  all_goals (simp only; omega)
def rtryV (k : Int) (g : Sh) (s : ByteArray) : Option Rs := if (tOneV k g s).2 && (canV (tOneV k g s).1 && ((lineV (tOneV k g s).1).toList == s.toList)) then some (tOneV k g s).1 else none
def rfirstV (s : ByteArray) : List Sh → Int → Option Rs
  | [], _ => none
  | g :: l, k => match rtryV k g s with
    | some x => some x
    | none => rfirstV s l (k + 1)
def rreadV (s : ByteArray) : Option Rs := if 400 < s.size then none else rfirstV s shs 0
def out8 (r : Option Rs) (h : List Res) : Option DRun := some (match r with
  | some x => (.ret, den 34 [(2, .ptr 1 0), (3, .d (.int .i64 0))], [.nilrow, .box [.d (.int .i64 x.k), .d (.int .i64 x.s), .d (.int .i64 x.n), .d (.slice 1 (strCells x.b))]])
  | none => (.exit 0, den 34 [(2, .ptr 1 0)], h))
theorem shK_at {i : Nat} {g : Sh} (h : shs[i]? = some g) : shK (i : Int) = g := by
  have hi : i < shs.length := (List.getElem?_eq_some_iff.1 h).1
  have hn : shs.length = 10 := rfl
  unfold shK
  rw [if_pos (by omega), List.getD_eq_getElem?_getD, Int.toNat_natCast, h]
  rfl
set_option maxHeartbeats 8000000 in
theorem tloop8 (s : ByteArray) (hs : s.size ≤ 1000) : ∃ K, L env 2 true H8L4 X8L4 B8L4 = K ∧ ∀ (l : List Sh) (i : Nat), shs.drop i = l → i ≤ shs.length →
    K (den 34 [(0, .d (.str s)), (2, .ptr 1 0), (4, .d (.int .i64 (i : Int)))]) [.nilrow, tbox0] = out8 (rfirstV s l i) [.nilrow, tbox0] := by
  obtain ⟨K, hK⟩ : ∃ K, L env 2 true H8L4 X8L4 B8L4 = K := ⟨_, rfl⟩
  refine ⟨K, hK, ?_⟩
  have hn : shs.length = 10 := rfl
  intro l
  induction l with
  | nil =>
    intro i hl hi
    have : shs.length ≤ i := List.drop_eq_nil_iff.1 hl
    have e2 : ¬ (i : Int) ≤ 9 := by omega
    rw [L_rnd hK]
    simp (maxSteps := 9999999) -implicitDefEqProofs only [B8L4, e2, rfirstV, out8, tbox0, sT, reduceCtorEq, seval, ↓joinK_t, ↓joinK_f, ↓reduceIte]
  | cons g l ih =>
    intro i hl hi
    have hlt : i < shs.length := by
      rcases Nat.lt_or_ge i shs.length with h | h
      · exact h
      · rw [List.drop_eq_nil_of_le h] at hl; cases hl
    have hx : shs[i]? = some g := by
      have := congrArg (fun l => l[0]?) hl
      simpa using this
    have hd : shs.drop (i + 1) = l := by
      rw [← List.drop_drop, hl]; rfl
    have e2 : (i : Int) ≤ 9 := by omega
    have w1 : IntKind.i64.wrap ((i : Int) + 1) = ((i + 1 : Nat) : Int) := by rw [wrap_i64 (by omega) (by omega)]; omega
    have e19 := fun h => tone_ok (i : Int) ⟨by omega, e2⟩ s hs h
    rw [shK_at hx] at e19
    have hb := tOne_b (i : Int) g s
    have e12 := fun h => rcan_ok (tOneV (i : Int) g s).1 (by omega) h
    have e10 := fun h => rline_ok (tOneV (i : Int) g s).1 (by omega) h
    have ih := ih (i + 1) hd (by omega)
    have hf : rfirstV s (g :: l) i = (match rtryV i g s with | some x => some x | none => rfirstV s l ((i : Int) + 1)) := rfl
    rw [show ((i + 1 : Nat) : Int) = (i : Int) + 1 by omega] at ih w1
    rw [hf]
    simp only [tbox0] at ih ⊢
    generalize rfirstV s l ((i : Int) + 1) = nx at *
    unfold rtryV
    rcases ho : tOneV (i : Int) g s with ⟨x, o⟩
    rw [ho] at e19 e12 e10
    simp only [Rs.enc] at e19 e12 e10 ⊢
    rw [L_rnd hK]
    cases o with
    | false =>
      simp (maxSteps := 9999999) -implicitDefEqProofs only [B8L4, e2, w1, e19, ih, Bool.false_and, sT, reduceCtorEq, seval, ↓joinK_t, ↓joinK_f, ↓reduceIte]
    | true =>
      cases hc : canV x with
      | false =>
        rw [hc] at e12
        simp (maxSteps := 9999999) -implicitDefEqProofs only [B8L4, e2, w1, e19, e12, ih, Bool.false_and, Bool.true_and, sT, reduceCtorEq, seval, ↓joinK_t, ↓joinK_f, ↓reduceIte]
      | true =>
        rw [hc] at e12
        simp (maxSteps := 9999999) -implicitDefEqProofs only [B8L4, e2, w1, e19, e12, e10, ih, Bool.true_and, sT, reduceCtorEq, seval, ↓joinK_t, ↓joinK_f, ↓reduceIte]
        by_cases hq : (lineV x).toList = s.toList
        · rw [if_pos hq, if_pos hq]; rfl
        · rw [if_neg hq, if_neg hq]
set_option maxHeartbeats 4000000 in
theorem rread_ok (s : ByteArray) (hs : s.size ≤ 1000) (h : List Res) : D env 8 [.d (.str s)] h = some (.val (.d (readF (rreadV s))) h) := by
  obtain ⟨K, hK, hk⟩ := tloop8 s hs
  have e := hk shs 0 rfl (by omega)
  have z0 : strCells ⟨#[]⟩ = [] := rfl
  unfold rreadV
  by_cases h4 : 400 < s.size
  · have g4 : (400 : Int) < (s.size : Int) := by omega
    rw [if_pos h4]
    rw [D_dat (F := A8) rfl rfl rfl rfl]
    simp (maxSteps := 9999999) -implicitDefEqProofs only [A8, B8, g4, readF, r0, Rs.enc, z0, sT, reduceCtorEq, seval, ↓joinK_t, ↓joinK_f, ↓reduceIte]
  · have g4 : ¬ (400 : Int) < (s.size : Int) := by omega
    rw [if_neg h4]
    have e : K (den 34 [(0, .d (.str s)), (2, .ptr 1 0), (4, .d (.int .i64 0))]) [.nilrow, tbox0] = out8 (rfirstV s shs 0) [.nilrow, tbox0] := e
    simp only [tbox0] at e
    cases hr : rfirstV s shs 0 with
    | none =>
      rw [hr] at e
      simp only [out8] at e
      rw [D_dat (F := A8) rfl rfl rfl rfl]
      simp (maxSteps := 9999999) -implicitDefEqProofs only [A8, B8, g4, hK, e, readF, r0, Rs.enc, z0, sT, reduceCtorEq, seval, ↓joinK_t, ↓joinK_f, ↓reduceIte]
    | some x =>
      rw [hr] at e
      simp only [out8] at e
      rw [D_dat (F := A8) rfl rfl rfl rfl]
      simp (maxSteps := 9999999) -implicitDefEqProofs only [A8, B8, g4, hK, e, readF, Rs.enc, sT, reduceCtorEq, seval, ↓joinK_t, ↓joinK_f, ↓reduceIte]
set_option maxHeartbeats 4000000 in
theorem one_self (x : Rs) (hb : x.b.size ≤ 100000) (h : List Res) : D env 11 [.d (.agg x.enc), .d (.agg x.enc)] h = some (.val (.d (.bool true)) h) := by
  have e28 : ∀ h : List Res, D env 28 [.d (.slice 4 [x.enc]), .d (.slice 4 [x.enc])] h = some (.val (.d (.bool true)) h) := fun h => by
    have wr : IntKind.i64.wrap 1 = 1 := by decide
    rw [D_dat (F := A28) rfl rfl rfl rfl]
    simp (maxSteps := 9999999) -implicitDefEqProofs only [A28, B28, Rs.enc, L_go, B28L4, nums_ok, Option.map_some, wr, bne_self_eq_false, Bool.or_self, sT, reduceCtorEq, seval, ↓joinK_t, ↓joinK_f, ↓reduceIte]
    done
  simp only [Rs.enc] at e28
  rw [D_dat (F := A11) rfl rfl rfl rfl]
  simp (maxSteps := 9999999) -implicitDefEqProofs only [A11, B11, Rs.enc, e28, sT, reduceCtorEq, seval, ↓joinK_t, ↓joinK_f, ↓reduceIte]
end Go.Proofs.YtpemlmhggiaflaaGreatDoor.Codes
namespace Go.Proofs.YtpemlmhggiaflaaGreatDoor.Codes
open Go Go.Deepv
theorem ext_list (s : ByteArray) (i j : Nat) : (s.extract i j).data.toList = (s.data.toList.drop i).take (j - i) := by
 rw [ByteArray.data_extract, Array.toList_extract, List.extract_eq_take_drop]
theorem len_list (s : ByteArray) : s.data.toList.length = s.size := by rw [Array.length_toList]; rfl
theorem cut_app (w t : ByteArray) : cutV (w ++ t) w = (t, true) := by
 have h1 : ((w ++ t).extract 0 w.size).data.toList = w.data.toList := by
  rw [ext_list, app_toList, List.drop_zero, Nat.sub_zero, ← len_list, List.take_left]
 have h2 : (w ++ t).extract w.size (w ++ t).size = t := by
  apply ba_ext
  rw [ext_list, app_toList, ← len_list w, List.drop_left, ByteArray.size_append, ← len_list w, ← len_list t]
  exact List.take_of_length_le (by omega)
 have hp : hasPre (w ++ t) w = true := by
  unfold hasPre
  rw [ByteArray.toList_eq, ByteArray.toList_eq, h1, ByteArray.size_append]
  simp
 unfold cutV
 rw [if_pos hp, h2]
theorem rest_app (w r : ByteArray) (hr : r.size ≠ 0) : restV (w ++ (sp1 ++ r)) w = (r, true) := by
 have z : sp1.size = 1 := rfl
 have e : (w ++ (sp1 ++ r)).data.toList = w.data.toList ++ 32 :: r.data.toList := by rw [app_toList, app_toList]; rfl
 have h1 : ¬ (w ++ (sp1 ++ r)).size ≤ w.size + 1 := by rw [ByteArray.size_append, ByteArray.size_append, z]; omega
 have h2 : ((w ++ (sp1 ++ r)).extract 0 w.size).toList = w.toList := by
  rw [ByteArray.toList_eq, ByteArray.toList_eq, ext_list, e, List.drop_zero, Nat.sub_zero, ← len_list, List.take_left]
 have h3 : (w ++ (sp1 ++ r)).data.toList.getD w.size 0 = 32 := by
  rw [e, List.getD_eq_getElem?_getD, ← len_list, List.getElem?_append_right (Nat.le_refl _), Nat.sub_self]
  rfl
 have h4 : (w ++ (sp1 ++ r)).extract (w.size + 1) (w ++ (sp1 ++ r)).size = r := by
  apply ba_ext
  rw [ext_list, e, ← len_list w, ← List.drop_drop, List.drop_left, List.drop_succ_cons, List.drop_zero]
  refine List.take_of_length_le ?_
  rw [ByteArray.size_append, ByteArray.size_append, z, ← len_list w, ← len_list r]
  omega
 unfold restV
 rw [if_neg (fun h => by rcases h with h | h | h; exact h1 h; exact h h2; exact h h3), h4]
theorem parse_itoa {n : Int} (h1 : -4611686018427387904 ≤ n) (h2 : n < 4611686018427387904) : parseV (itB n) = (n, true) := by
 unfold parseV itB
 have := atoi_itoa n (by omega) (by omega)
 rw [Lib.parseIntB_64]
 simp only [this]
theorem no_sp (n : Int) : ∀ b ∈ Lib.itoa n, b ≠ 32 := fun b hb h => by
 have := (itoa_bytes n).2 b hb
 rw [h] at this
 revert this
 decide
theorem split_one (n : Int) : tsplitV (itB n) = [itB n] := by
 unfold tsplitV sp1
 rw [split_cut]
 have : (itB n).data.toList = Lib.itoa n := by unfold itB; simp
 rw [this, cutL_one (no_sp n)]
 rfl
theorem split_two (n m : Int) : tsplitV (itB n ++ (sp1 ++ itB m)) = [itB n, itB m] := by
 unfold tsplitV sp1
 rw [split_cut, app_toList, app_toList]
 have e : ∀ n, (itB n).data.toList = Lib.itoa n := fun n => by unfold itB; simp
 rw [e, e]
 have : (⟨#[32]⟩ : ByteArray).data.toList ++ Lib.itoa m = 32 :: Lib.itoa m := rfl
 rw [this, cutL_app (no_sp n), cutL_one (no_sp m)]
 rfl
theorem numG_app : ∀ (l r : List UInt8) (n m : Int), numG n l = (m, l.length, true) → numG n (l ++ r) = ((numG m r).1, l.length + (numG m r).2.1, (numG m r).2.2)
 | [], r, n, m, h => by
  have : n = m := by simpa [numG] using h
  subst this
  simp
 | c :: l, r, n, m, h => by
  have hs : ∀ (n : Int) (c : UInt8) (t : List UInt8), numG n (c :: t) = if 48 ≤ c.toNat ∧ c.toNat ≤ 57 then (if 576460752303423488 < n then (n, 0, false) else ((numG (n * 10 + ((c.toNat : Int) - 48)) t).1, (numG (n * 10 + ((c.toNat : Int) - 48)) t).2.1 + 1, (numG (n * 10 + ((c.toNat : Int) - 48)) t).2.2)) else (n, 0, true) := fun _ _ _ => rfl
  rw [hs] at h
  rw [List.cons_append, hs]
  split at h
  ·rename_i hc
   rw [if_pos hc]
   split at h
   ·simp at h
   ·rename_i hb
    rw [if_neg hb]
    rcases hq : numG (n * 10 + ((c.toNat : Int) - 48)) l with ⟨a, b, d⟩
    rw [hq] at h
    simp only [Prod.mk.injEq, List.length_cons] at h
    obtain ⟨rfl, h2, rfl⟩ := h
    have hb : b = l.length := by omega
    subst hb
    rw [numG_app l r _ _ hq]
    simp only [List.length_cons, Prod.mk.injEq, true_and, and_true]
    omega
  ·simp at h
theorem dec_num : ∀ (k u : Nat), u ≤ k → u ≤ 4611686018427387904 → numG 0 (Lib.decDigits u) = ((u : Int), (Lib.decDigits u).length, true)
 | 0, u, hk, hu => by
  have : u = 0 := by omega
  subst this
  rw [Lib.decDigits_one (by omega)]
  rfl
 | k + 1, u, hk, hu => by
  by_cases h : u < 10
  ·rw [Lib.decDigits_one h]
   simp only [numG, dig_toNat h, List.length_cons, List.length_nil]
   rw [if_pos (by omega), if_neg (by omega)]
   simp only [Prod.mk.injEq, and_true]
   omega
  ·have hd : u % 10 < 10 := Nat.mod_lt _ (by omega)
   rw [Lib.decDigits, dif_neg h, numG_app _ _ _ _ (dec_num k (u / 10) (by omega) (by omega))]
   simp only [numG, dig_toNat hd, List.length_append, List.length_cons, List.length_nil]
   rw [if_pos (by omega), if_neg (by omega)]
   simp only [Prod.mk.injEq, and_true]
   omega
theorem ext_right (a r : ByteArray) : (a ++ r).extract a.size (a ++ r).size = r := by
 apply ba_ext
 rw [ext_list, app_toList, ← len_list a, List.drop_left, ByteArray.size_append, ← len_list a, ← len_list r]
 exact List.take_of_length_le (by omega)
def dB (u : Nat) : ByteArray := ⟨(Lib.decDigits u).toArray⟩
theorem dB_list (u : Nat) : (dB u).data.toList = Lib.decDigits u := by unfold dB; simp
theorem num_tail (u : Nat) (hu : u ≤ 4611686018427387904) (r : ByteArray) (hr : r.data.toList = [] ∨ ∃ t, r.data.toList = 32 :: t) (neg : Bool) : numV neg (dB u ++ r) = (if neg = true then -(u : Int) else u, r, true) := by
 have h0 : numG (u : Int) r.data.toList = ((u : Int), 0, true) := by
  rcases hr with h | ⟨t, h⟩
  ·rw [h]; rfl
  ·rw [h]; simp [numG]
 have hg : numG 0 (dB u ++ r).data.toList = ((u : Int), (dB u).size, true) := by
  rw [app_toList, dB_list, numG_app _ _ _ _ (dec_num u u (Nat.le_refl _) hu), h0, ← len_list, dB_list]
  simp
 have hp : 0 < (dB u).size := by
  rw [← len_list, dB_list]
  have := (dec_digits u u (Nat.le_refl _)).1
  cases h : Lib.decDigits u with
  | nil => exact absurd h this
  | cons c l => simp
 unfold numV
 rw [hg]
 simp only [if_true, ext_right, hp, decide_true]
theorem number_itoa {n : Int} (h1 : -4611686018427387904 ≤ n) (h2 : n < 4611686018427387904) (r : ByteArray) (hr : r.data.toList = [] ∨ ∃ t, r.data.toList = 32 :: t) : numberV (itB n ++ r) = (n, r, true) := by
 unfold numberV
 by_cases hn : n < 0
 ·obtain ⟨u, rfl⟩ : ∃ u : Nat, n = -(u : Int) := ⟨n.natAbs, by omega⟩
  have e : (itB (-(u : Int)) ++ r).data.toList = 45 :: (dB u ++ r).data.toList := by
   rw [app_toList, app_toList, dB_list]
   unfold itB
   rw [Lib.itoa_neg u (by omega)]
   simp
  have hng : negV (itB (-(u : Int)) ++ r) = true := by
   unfold negV
   rw [e, ← len_list, e]
   simp
  have hx : (itB (-(u : Int)) ++ r).extract 1 (itB (-(u : Int)) ++ r).size = dB u ++ r := by
   apply ba_ext
   rw [ext_list, e, ← len_list, e, List.drop_succ_cons, List.drop_zero]
   exact List.take_of_length_le (by simp)
  rw [hng, if_pos rfl, hx, num_tail u (by omega) r hr true]
  simp
 ·obtain ⟨u, rfl⟩ : ∃ u : Nat, n = (u : Int) := ⟨n.toNat, by omega⟩
  have e : itB (u : Int) = dB u := by unfold itB dB; rw [Lib.itoa_nonneg]
  rw [e]
  have hng : negV (dB u ++ r) = false := by
   unfold negV
   rw [app_toList, dB_list]
   obtain ⟨hd, hb⟩ := dec_digits u u (Nat.le_refl _)
   cases hc : Lib.decDigits u with
   | nil => exact absurd hc hd
   | cons c l =>
    have := hb c (by rw [hc]; simp)
    have hne : c ≠ 45 := fun h => by rw [h] at this; revert this; decide
    simp [hne]
  rw [hng, if_neg (by simp), num_tail u (by omega) r hr false]
  simp
end Go.Proofs.YtpemlmhggiaflaaGreatDoor.Codes

namespace Go.Proofs.YtpemlmhggiaflaaGreatDoor.Codes
open Go Go.Deepv
theorem shs_pos : ∀ g ∈ shs, 0 < g.w.size ∧ g.w.size ≤ 9 := by decide
theorem ba_empty {b : ByteArray} (h : b.size = 0) : b = ⟨#[]⟩ := by
  apply ba_ext
  have : b.data.toList.length = 0 := by rw [len_list]; exact h
  rw [List.length_eq_zero_iff.1 this]
theorem ba_add_nil (b : ByteArray) : b ++ (⟨#[]⟩ : ByteArray) = b := by
  apply ba_ext
  rw [app_toList]
  simp
theorem itB_pos (n : Int) : (itB n).size ≠ 0 := by
  intro h
  have : (itB n).data.toList.length = 0 := by rw [len_list]; exact h
  have e : (itB n).data.toList = Lib.itoa n := by unfold itB; simp
  rw [e] at this
  exact (itoa_bytes n).1 (List.length_eq_zero_iff.1 this)
theorem quote_pos (b : ByteArray) : (quoteB b).size ≠ 0 := by
  intro h
  have : (quoteB b).data.toList.length = 0 := by rw [len_list]; exact h
  rw [quote_list] at this
  simp at this
theorem quote_parts (b : ByteArray) (h : b.size ≤ 64) : ∃ l1 c1 l2 c2, (lexP (quoteB b)).1 = [(⟨4, ⟨#[]⟩, 0, b⟩, l1, c1), (endK, l2, c2)] ∧ (lexP (quoteB b)).2.1 = 0 := by
  obtain ⟨h1, h2⟩ := quote_lex b h
  match hl : (lexP (quoteB b)).1, h1 with
  | [(t, l1, c1), (u, l2, c2)], h1 =>
    simp only [List.map_cons, List.map_nil, List.cons.injEq, and_true] at h1
    obtain ⟨rfl, rfl⟩ := h1
    exact ⟨l1, c1, l2, c2, rfl, h2⟩
theorem can_parts {x : Rs} (h : canV x = true) : ∃ g, g ∈ shs ∧ shK x.k = g ∧ 
    ((g.s = true ∧ g.n = false ∧ g.t = false ∧ x = ⟨x.k, x.s, 0, ⟨#[]⟩⟩ ∧ lineV x = g.w ++ (sp1 ++ itB x.s)) ∨
     (g.s = false ∧ g.n = true ∧ g.t = false ∧ x = ⟨x.k, 0, x.n, ⟨#[]⟩⟩ ∧ lineV x = g.w ++ (sp1 ++ itB x.n)) ∨
     (g.s = true ∧ g.n = true ∧ g.t = false ∧ x = ⟨x.k, x.s, x.n, ⟨#[]⟩⟩ ∧ lineV x = g.w ++ (sp1 ++ (itB x.s ++ (sp1 ++ itB x.n)))) ∨
     (g.s = false ∧ g.n = false ∧ g.t = true ∧ x = ⟨x.k, 0, 0, x.b⟩ ∧ lineV x = g.w ++ (sp1 ++ quoteB x.b)) ∨
     (g.s = false ∧ g.n = false ∧ g.t = false ∧ x = ⟨x.k, 0, 0, ⟨#[]⟩⟩ ∧ lineV x = g.w)) := by
  obtain ⟨hk, ho⟩ := can_range h
  have hm := shK_mem hk
  refine ⟨shK x.k, hm, rfl, ?_⟩
  have hl : lineV x = joined (partsV (shK x.k) x) sp1 := by unfold lineV; rw [if_pos h]
  have hg := shs_kinds _ hm
  rw [hl]
  generalize shK x.k = g at *
  rcases g with ⟨w, s, n, t⟩
  simp only at hg ⊢
  unfold okS at ho
  unfold partsV
  rcases x with ⟨k, xs, xn, xb⟩
  simp only at ho ⊢
  rcases hg with ⟨rfl, rfl, rfl⟩ | ⟨rfl, rfl, rfl⟩ | ⟨rfl, rfl, rfl⟩ | ⟨rfl, rfl, rfl⟩ | ⟨rfl, rfl, rfl⟩
  all_goals
    simp only [if_true, Bool.false_eq_true, if_false, Bool.and_eq_true, Bool.or_eq_true, decide_eq_true_eq, false_or, true_or, and_true] at ho
    simp [joined1, joined2, ba_assoc]
  · obtain ⟨⟨⟨_, h2⟩, h3⟩, h4⟩ := ho
    exact ⟨h2, ba_empty (by omega)⟩
  · obtain ⟨⟨⟨h1, _⟩, _⟩, h4⟩ := ho
    exact ⟨h1, ba_empty (by omega)⟩
  · exact ba_empty (by omega)
  · omega
  · obtain ⟨⟨⟨⟨h1, _⟩, h2⟩, _⟩, h4⟩ := ho
    exact ⟨h1, h2, ba_empty (by omega)⟩
theorem cut_sp (r : ByteArray) : cutV (sp1 ++ r) sp1 = (r, true) := cut_app sp1 r
theorem can_n {x : Rs} (h : canV x = true) : (0 ≤ x.s ∧ x.s ≤ 1099511627776) ∧ (-4611686018427387904 ≤ x.n ∧ x.n < 4611686018427387904) ∧ x.b.size ≤ 64 := okS_range (can_range h).2
theorem cand_line {x : Rs} (h : canV x = true) : candV x.k (shK x.k) (lineV x) = (x, true) := by
  obtain ⟨⟨s1, s2⟩, ⟨n1, n2⟩, b1⟩ := can_n h
  obtain ⟨g, hm, hk, hp⟩ := can_parts h
  rw [hk]
  rcases g with ⟨w, s, n, t⟩
  simp only at hp
  have ps := parse_itoa (n := x.s) (by omega) (by omega)
  have pn := parse_itoa (n := x.n) n1 n2
  unfold candV
  rcases hp with ⟨rfl, rfl, rfl, hx, hl⟩ | ⟨rfl, rfl, rfl, hx, hl⟩ | ⟨rfl, rfl, rfl, hx, hl⟩ | ⟨rfl, rfl, rfl, hx, hl⟩ | ⟨rfl, rfl, rfl, hx, hl⟩
  · rw [hl, cut_app]
    simp only [cut_sp, Bool.true_eq_false, if_false, Bool.true_or, if_true]
    unfold filledV fillV
    simp only [split_one, tnextV, ps, List.tail_cons, List.isEmpty_nil, if_true, Bool.false_eq_true, if_false, Bool.and_self]
    rw [← hx]
  · rw [hl, cut_app]
    simp only [cut_sp, Bool.true_eq_false, if_false, Bool.true_or, Bool.or_true, Bool.false_or, if_true]
    unfold filledV fillV
    simp only [split_one, tnextV, pn, List.tail_cons, List.isEmpty_nil, if_true, Bool.false_eq_true, if_false, Bool.and_self]
    rw [← hx]
  · rw [hl, cut_app]
    simp only [cut_sp, Bool.true_eq_false, if_false, Bool.true_or, if_true]
    unfold filledV fillV
    simp only [split_two, tnextV, ps, pn, List.tail_cons, List.isEmpty_nil, if_true, Bool.false_eq_true, if_false, Bool.and_self]
    rw [← hx]
  · rw [hl, cut_app]
    simp only [cut_sp, Bool.true_eq_false, if_false, Bool.or_true, Bool.false_or, if_true]
    unfold filledV fillT
    obtain ⟨l1, c1, l2, c2, q1, q2⟩ := quote_parts x.b b1
    simp only [q1, q2, if_true]
    rw [← hx]
  · rw [hl]
    have e : cutV w w = (⟨#[]⟩, true) := by
      have := cut_app w ⟨#[]⟩
      rwa [ba_add_nil] at this
    rw [e]
    simp only [Bool.true_eq_false, if_false, Bool.or_self, Bool.false_eq_true]
    rw [← hx]
theorem tOne_line {x : Rs} (h : canV x = true) : tOneV x.k (shK x.k) (lineV x) = (x, true) := by
  obtain ⟨⟨s1, s2⟩, ⟨n1, n2⟩, b1⟩ := can_n h
  obtain ⟨g, hm, hk, hp⟩ := can_parts h
  rw [hk]
  rcases g with ⟨w, s, n, t⟩
  simp only at hp
  have nn : ∀ n : Int, -4611686018427387904 ≤ n → n < 4611686018427387904 → numberV (itB n) = (n, ⟨#[]⟩, true) := fun n a b => by
    have := number_itoa a b ⟨#[]⟩ (.inl rfl)
    rwa [ba_add_nil] at this
  have ns := nn x.s (by omega) (by omega)
  have nN := nn x.n n1 n2
  have hnil : (((⟨#[]⟩ : ByteArray)).toList == (⟨#[]⟩ : ByteArray).toList) = true := by simp
  unfold tOneV
  rcases hp with ⟨rfl, rfl, rfl, hx, hl⟩ | ⟨rfl, rfl, rfl, hx, hl⟩ | ⟨rfl, rfl, rfl, hx, hl⟩ | ⟨rfl, rfl, rfl, hx, hl⟩ | ⟨rfl, rfl, rfl, hx, hl⟩
  · rw [hl, rest_app _ _ (itB_pos _)]
    simp only [if_true, Bool.false_eq_true, if_false, tOneS, ns, hnil, Bool.and_self]
    rw [← hx]
  · rw [hl, rest_app _ _ (itB_pos _)]
    simp only [if_true, Bool.false_eq_true, if_false, tOneN, nN, hnil, Bool.and_self]
    rw [← hx]
  · have hz : (itB x.s ++ (sp1 ++ itB x.n)).size ≠ 0 := by
      have := itB_pos x.s
      rw [ByteArray.size_append]
      omega
    rw [hl, rest_app _ _ hz]
    have n2 := number_itoa (n := x.s) (by omega) (by omega) (sp1 ++ itB x.n) (.inr ⟨(itB x.n).data.toList, by rw [app_toList]; rfl⟩)
    have hsz : ¬ ((sp1 ++ itB x.n).size = 0 ∨ (sp1 ++ itB x.n).data.toList.getD 0 0 ≠ 32) := by
      intro h
      rcases h with h | h
      · have := itB_pos x.n
        rw [ByteArray.size_append] at h
        omega
      · apply h
        rw [app_toList]
        rfl
    have hx1 : (sp1 ++ itB x.n).extract 1 (sp1 ++ itB x.n).size = itB x.n := ext_right sp1 (itB x.n)
    simp only [if_true, tOneB, n2, Bool.and_self, if_neg hsz, hx1, nN, hnil]
    rw [← hx]
  · rw [hl, rest_app _ _ (quote_pos _)]
    obtain ⟨l1, c1, l2, c2, q1, q2⟩ := quote_parts x.b b1
    simp only [if_true, Bool.false_eq_true, if_false, tOneT, quotedV, q1, q2]
    rw [← hx]
  · rw [hl]
    simp only [Bool.false_eq_true, if_false, beq_self_eq_true]
    rw [← hx]
end Go.Proofs.YtpemlmhggiaflaaGreatDoor.Codes
namespace Go.Proofs.YtpemlmhggiaflaaGreatDoor.Codes
open Go Go.Deepv
theorem shs_apart : ∀ i : Fin 10, ∀ j : Fin 10, ((shs.getD i.val sh0).w.data.toList.isPrefixOf (shs.getD j.val sh0).w.data.toList) = true → i = j := by decide
theorem line_pre {x : Rs} (h : canV x = true) : (shK x.k).w.data.toList <+: (lineV x).data.toList := by
 obtain ⟨g, hm, hk, hp⟩ := can_parts h
 rw [hk]
 rcases hp with ⟨_, _, _, _, hl⟩ | ⟨_, _, _, _, hl⟩ | ⟨_, _, _, _, hl⟩ | ⟨_, _, _, _, hl⟩ | ⟨_, _, _, _, hl⟩
 all_goals
  rw [hl]
  try rw [app_toList]
  first | exact List.prefix_append _ _ | exact List.prefix_refl _
theorem shK_get {k : Int} (h : 0 ≤ k ∧ k ≤ 9) : shK k = shs.getD k.toNat sh0 := if_pos h
theorem kind_one {x y : Rs} (hx : canV x = true) (hy : canV y = true) (h : lineV x = lineV y) : x.k = y.k := by
 have p1 := line_pre hx
 have p2 := line_pre hy
 rw [← h] at p2
 have k1 := (can_range hx).1
 have k2 := (can_range hy).1
 rw [shK_get k1] at p1
 rw [shK_get k2] at p2
 rcases List.prefix_or_prefix_of_prefix p1 p2 with q | q
 ·have := shs_apart ⟨x.k.toNat, by omega⟩ ⟨y.k.toNat, by omega⟩ (List.isPrefixOf_iff_prefix.2 q)
  have := congrArg Fin.val this
  simp only at this
  omega
 ·have := shs_apart ⟨y.k.toNat, by omega⟩ ⟨x.k.toNat, by omega⟩ (List.isPrefixOf_iff_prefix.2 q)
  have := congrArg Fin.val this
  simp only at this
  omega
theorem line_one {x y : Rs} (hx : canV x = true) (hy : canV y = true) (h : lineV x = lineV y) : x = y := by
 have hk := kind_one hx hy h
 have e1 := cand_line hx
 have e2 := cand_line hy
 rw [h, hk, e2] at e1
 exact (congrArg Prod.fst e1).symm
theorem toList_inj {a b : ByteArray} (h : (a.toList == b.toList) = true) : a = b := by
 apply ba_ext
 rw [← ByteArray.toList_eq, ← ByteArray.toList_eq]
 simpa using h
theorem fillT_k (k : Int) (r : ByteArray) : (fillT k r).1.k = k := by
 unfold fillT
 split
 ·split <;> rfl
 ·rfl
theorem cand_k (k : Int) (g : Sh) (s : ByteArray) : (candV k g s).1.k = k := by
 unfold candV filledV
 repeat' split
 all_goals first | rfl | exact fillT_k _ _
theorem tOne_k (k : Int) (g : Sh) (s : ByteArray) : (tOneV k g s).1.k = k := by
 unfold tOneV tOneS tOneN tOneB tOneT
 repeat' split
 all_goals rfl
theorem line_empty {x : Rs} (h : canV x = false) : lineV x = ⟨#[]⟩ := by unfold lineV; rw [h]; rfl
theorem line_size {x : Rs} (h : canV x = true) : 0 < (lineV x).size := by
 have p := line_pre h
 have k := (can_range h).1
 have := (shs_pos _ (shK_mem k)).1
 have l := p.length_le
 rw [len_list, len_list] at l
 omega
theorem cand_ok {k : Int} {g : Sh} {s : ByteArray} (h : (candV k g s).2 = true) : g.w.size ≤ s.size := by
 unfold candV at h
 by_cases hc : (cutV s g.w).2 = false
 ·rw [if_pos hc] at h; cases h
 ·unfold cutV at hc
  split at hc
  ·rename_i hp
   unfold hasPre at hp
   simp at hp
   exact hp.1
  ·exact absurd rfl hc
theorem try_sound {k : Int} {g : Sh} {s : ByteArray} {y : Rs} (hg : g ∈ shs) (h : tryV k g s = some y) : y.k = k ∧ canV y = true ∧ lineV y = s := by
 unfold tryV at h
 split at h
 ·rename_i hc
  simp only [Option.some.injEq] at h
  subst h
  simp only [Bool.and_eq_true] at hc
  have hl := toList_inj hc.2
  refine ⟨cand_k k g s, ?_, hl⟩
  cases hcan : canV (candV k g s).1 with
  | true => rfl
  | false =>
   rw [line_empty hcan] at hl
   have := cand_ok hc.1
   have := (shs_pos g hg).1
   rw [← hl] at *
   have z : (⟨#[]⟩ : ByteArray).size = 0 := rfl
   omega
 ·cases h
theorem rtry_sound {k : Int} {g : Sh} {s : ByteArray} {y : Rs} (h : rtryV k g s = some y) : y.k = k ∧ canV y = true ∧ lineV y = s := by
 unfold rtryV at h
 split at h
 ·rename_i hc
  simp only [Option.some.injEq] at h
  subst h
  simp only [Bool.and_eq_true] at hc
  exact ⟨tOne_k k g s, hc.2.1, toList_inj hc.2.2⟩
 ·cases h
theorem first_sound {s : ByteArray} {y : Rs} : ∀ (l : List Sh) (i : Int), (∀ g ∈ l, g ∈ shs) → firstV s l i = some y → canV y = true ∧ lineV y = s
 | [], _, _, h => by cases h
 | g :: l, i, hm, h => by
  unfold firstV at h
  split at h
  ·rename_i x hx
   cases h
   exact (try_sound (hm g (by simp)) hx).2
  ·exact first_sound l (i + 1) (fun g hg => hm g (by simp [hg])) h
theorem rfirst_sound {s : ByteArray} {y : Rs} : ∀ (l : List Sh) (i : Int), rfirstV s l i = some y → canV y = true ∧ lineV y = s
 | [], _, h => by cases h
 | g :: l, i, h => by
  unfold rfirstV at h
  split at h
  ·rename_i x hx
   cases h
   exact (rtry_sound hx).2
  ·exact rfirst_sound l (i + 1) h
theorem try_at {x : Rs} (h : canV x = true) : tryV x.k (shK x.k) (lineV x) = some x := by
 unfold tryV
 rw [cand_line h]
 simp
theorem rtry_at {x : Rs} (h : canV x = true) : rtryV x.k (shK x.k) (lineV x) = some x := by
 unfold rtryV
 rw [tOne_line h]
 simp [h]
theorem first_at {x : Rs} (h : canV x = true) : ∀ (l : List Sh) (i : Nat), shs.drop i = l → (i : Int) ≤ x.k → firstV (lineV x) l i = some x
 | [], i, hl, hi => by
  have := List.drop_eq_nil_iff.1 hl
  have hn : shs.length = 10 := rfl
  have k := (can_range h).1
  omega
 | g :: l, i, hl, hi => by
  have hx : shs[i]? = some g := by
   have := congrArg (fun l => l[0]?) hl
   simpa using this
  have hd : shs.drop (i + 1) = l := by
   rw [← List.drop_drop, hl]; rfl
  unfold firstV
  by_cases hk : (i : Int) = x.k
  ·rw [← shK_at hx, hk, try_at h]
  ·cases ht : tryV i g (lineV x) with
   | some y =>
    obtain ⟨y1, y2, y3⟩ := try_sound (List.mem_of_getElem? hx) ht
    have := kind_one y2 h y3
    omega
   | none =>
    simp only
    have := first_at h l (i + 1) hd (by omega)
    rwa [show ((i + 1 : Nat) : Int) = (i : Int) + 1 by omega] at this
theorem rfirst_at {x : Rs} (h : canV x = true) : ∀ (l : List Sh) (i : Nat), shs.drop i = l → (i : Int) ≤ x.k → rfirstV (lineV x) l i = some x
 | [], i, hl, hi => by
  have := List.drop_eq_nil_iff.1 hl
  have hn : shs.length = 10 := rfl
  have k := (can_range h).1
  omega
 | g :: l, i, hl, hi => by
  have hx : shs[i]? = some g := by
   have := congrArg (fun l => l[0]?) hl
   simpa using this
  have hd : shs.drop (i + 1) = l := by
   rw [← List.drop_drop, hl]; rfl
  unfold rfirstV
  by_cases hk : (i : Int) = x.k
  ·rw [← shK_at hx, hk, rtry_at h]
  ·cases ht : rtryV i g (lineV x) with
   | some y =>
    obtain ⟨y1, y2, y3⟩ := rtry_sound ht
    have := kind_one y2 h y3
    omega
   | none =>
    simp only
    have := rfirst_at h l (i + 1) hd (by omega)
    rwa [show ((i + 1 : Nat) : Int) = (i : Int) + 1 by omega] at this
theorem read_line {x : Rs} (h : canV x = true) : readV (lineV x) = some x := first_at h shs 0 rfl (by have := (can_range h).1; omega)
theorem read_sound {s : ByteArray} {y : Rs} (h : readV s = some y) : canV y = true ∧ lineV y = s := first_sound shs 0 (fun _ h => h) h
theorem read_both (s : ByteArray) (hs : s.size ≤ 400) : rreadV s = readV s := by
 have hn : ¬ 400 < s.size := by omega
 unfold rreadV
 rw [if_neg hn]
 cases hr : readV s with
 | some y =>
  obtain ⟨h1, h2⟩ := read_sound hr
  have := rfirst_at h1 shs 0 rfl (by have := (can_range h1).1; omega)
  rw [h2] at this
  exact this
 | none =>
  cases hq : rfirstV s shs 0 with
  | none => rfl
  | some y =>
   obtain ⟨h1, h2⟩ := rfirst_sound shs 0 hq
   rw [← h2, read_line h1] at hr
   cases hr
theorem line_max {x : Rs} (hb : x.b.size ≤ 300) : (lineV x).size ≤ 400 := by
 cases h : canV x with
 | false => rw [line_empty h]; exact Nat.zero_le _
 | true =>
  obtain ⟨⟨s1, s2⟩, ⟨n1, n2⟩, b1⟩ := can_n h
  obtain ⟨g, hm, hk, hp⟩ := can_parts h
  have hw := (shs_pos g hm).2
  have zs : (itB x.s).size ≤ 21 := Lib.itoa_length_le x.s (by omega) (by omega)
  have zn : (itB x.n).size ≤ 21 := Lib.itoa_length_le x.n (by omega) (by omega)
  have zq := quote_len x.b
  rw [len_list] at zq
  have z : sp1.size = 1 := rfl
  rcases hp with ⟨_, _, _, _, hl⟩ | ⟨_, _, _, _, hl⟩ | ⟨_, _, _, _, hl⟩ | ⟨_, _, _, _, hl⟩ | ⟨_, _, _, _, hl⟩
  all_goals
   rw [hl]
   try simp only [ByteArray.size_append]
   omega
end Go.Proofs.YtpemlmhggiaflaaGreatDoor.Codes
namespace Go.Proofs.YtpemlmhggiaflaaGreatDoor.Codes
open Go Go.Deepv
theorem aw_any (h : List Res) : D env 6 [] h = some (.val (.d (.bool true)) h) := by
 have e6 := aw0
 have e := D_dat (E := env) (f := 6) (F := A6) (args := []) rfl rfl rfl rfl
 rw [e h]
 rw [e []] at e6
 cases hh : dbody (Dc env) (L env) A6 [] [] with
 | none => rw [hh] at e6; cases e6
 | some r =>
  rw [hh] at e6
  cases r <;> simp [withHeap] at e6 ⊢
  exact e6
def gotV (r : Option Rs) : Rs := r.getD r0
def errV (r : Option Rs) : Int := match r with
 | some _ => 0
 | none => 19
theorem readF_eq (r : Option Rs) : readF r = .tup [.agg (gotV r).enc, .int .i64 (errV r)] := by cases r <;> rfl
theorem got_b (s : ByteArray) : (gotV (readV s)).b.size ≤ 64 := by
 cases h : readV s with
 | none => exact Nat.zero_le _
 | some y => exact (can_n (read_sound h).1).2.2
set_option maxHeartbeats 8000000 in
theorem tracetells_ok (x : Rs) (hx : x.b.size ≤ 9223372036854775807) (s : ByteArray) (hs : s.size ≤ 9223372036854775807) (h : List Res) : D env 3 [.d (.agg x.enc), .d (.str s)] h = some (.val (.d (.bool true)) h) := by
 have e6 := aw_any
 have hl := scells x.b
 by_cases hb : 300 < x.b.size
 ·have gb : (300 : Int) < (x.b.size : Int) := by omega
  rw [D_dat (F := A3) rfl rfl rfl rfl]
  simp (maxSteps := 9999999) -implicitDefEqProofs only [A3, B3, Rs.enc, hl, gb, e6, Bool.true_or, sT, reduceCtorEq, seval, ↓joinK_t, ↓joinK_f, ↓reduceIte]
 ·have gb : ¬ (300 : Int) < (x.b.size : Int) := by omega
  by_cases h3 : 300 < s.size
  ·have g3 : (300 : Int) < (s.size : Int) := by omega
   rw [D_dat (F := A3) rfl rfl rfl rfl]
   simp (maxSteps := 9999999) -implicitDefEqProofs only [A3, B3, Rs.enc, hl, gb, g3, e6, sT, reduceCtorEq, seval, ↓joinK_t, ↓joinK_f, ↓reduceIte]
  ·have g3 : ¬ (300 : Int) < (s.size : Int) := by omega
   have e7 := fun h => tread_ok s (by omega) h
   have e8 := fun h => rread_ok s (by omega) h
   rw [read_both s (by omega), readF_eq] at e8
   rw [readF_eq] at e7
   have e9 := fun h => tshow_ok x (by omega) h
   have e10 := fun h => rline_ok x (by omega) h
   have e11 := fun h => one_self (gotV (readV s)) (by have := got_b s; omega) h
   simp only [Rs.enc] at e7 e8 e9 e10 e11
   rw [D_dat (F := A3) rfl rfl rfl rfl]
   simp (maxSteps := 9999999) -implicitDefEqProofs only [A3, B3, Rs.enc, hl, gb, g3, e6, e7, e8, e9, e10, e11, sT, reduceCtorEq, seval, ↓joinK_t, ↓joinK_f, ↓reduceIte]
set_option maxHeartbeats 8000000 in
theorem traceback_ok (x : Rs) (hx : x.b.size ≤ 9223372036854775807) (s : ByteArray) (hs : s.size ≤ 9223372036854775807) (h : List Res) : D env 4 [.d (.agg x.enc), .d (.str s)] h = some (.val (.d (.bool true)) h) := by
 have e6 := aw_any
 have hl := scells x.b
 by_cases hb : 300 < x.b.size
 ·have gb : (300 : Int) < (x.b.size : Int) := by omega
  rw [D_dat (F := A4) rfl rfl rfl rfl]
  simp (maxSteps := 9999999) -implicitDefEqProofs only [A4, B4, Rs.enc, hl, gb, e6, Bool.true_or, sT, reduceCtorEq, seval, ↓joinK_t, ↓joinK_f, ↓reduceIte]
 ·have gb : ¬ (300 : Int) < (x.b.size : Int) := by omega
  by_cases h3 : 300 < s.size
  ·have g3 : (300 : Int) < (s.size : Int) := by omega
   rw [D_dat (F := A4) rfl rfl rfl rfl]
   simp (maxSteps := 9999999) -implicitDefEqProofs only [A4, B4, Rs.enc, hl, gb, g3, e6, sT, reduceCtorEq, seval, ↓joinK_t, ↓joinK_f, ↓reduceIte]
  ·have g3 : ¬ (300 : Int) < (s.size : Int) := by omega
   have e7 := fun h => tread_ok s (by omega) h
   have e7b := fun h => tread_ok (lineV x) (by have := line_max (x := x) (by omega); omega) h
   rw [readF_eq] at e7 e7b
   have e9 := fun h => tshow_ok x (by omega) h
   have e9b := fun h => tshow_ok (gotV (readV s)) (by have := got_b s; omega) h
   have e12 := fun h => rcan_ok x (by omega) h
   have e12b := fun h => rcan_ok (gotV (readV s)) (by have := got_b s; omega) h
   have second : errV (readV s) = 19 ∨ (errV (readV s) = 0 ∧ canV (gotV (readV s)) = true ∧ lineV (gotV (readV s)) = s) := by
    cases hr : readV s with
    | none => exact .inl rfl
    | some y => exact .inr ⟨rfl, read_sound hr⟩
   cases hc : canV x with
   | true =>
    have hr := read_line hc
    have hp := line_size hc
    have he : ((lineV x).toList == (⟨#[]⟩ : ByteArray).toList) = false := by
     cases hq : ((lineV x).toList == (⟨#[]⟩ : ByteArray).toList) with
     | false => rfl
     | true =>
      rw [toList_inj hq] at hp
      have z : (⟨#[]⟩ : ByteArray).size = 0 := rfl
      omega
    have hv : gotV (readV (lineV x)) = x ∧ errV (readV (lineV x)) = 0 := by rw [hr]; exact ⟨rfl, rfl⟩
    rw [hv.1, hv.2] at e7b
    rw [hc] at e12
    have e11 := fun h => one_self x (by omega) h
    simp only [Rs.enc] at e7 e7b e9 e9b e11 e12 e12b
    rcases second with h2 | ⟨h2, h4, h5⟩
    ·rw [h2] at e7
     rw [D_dat (F := A4) rfl rfl rfl rfl]
     simp (maxSteps := 9999999) -implicitDefEqProofs only [A4, B4, Rs.enc, hl, gb, g3, e6, e7, e7b, e9, e9b, e11, e12, e12b, he, sT, reduceCtorEq, seval, ↓joinK_t, ↓joinK_f, ↓reduceIte]
     done
    ·rw [h2] at e7
     rw [h4] at e12b
     rw [h5] at e9b
     rw [D_dat (F := A4) rfl rfl rfl rfl]
     simp (maxSteps := 9999999) -implicitDefEqProofs only [A4, B4, Rs.enc, hl, gb, g3, e6, e7, e7b, e9, e9b, e11, e12, e12b, he, sT, reduceCtorEq, seval, ↓joinK_t, ↓joinK_f, ↓reduceIte]
     done
   | false =>
    have hle := line_empty hc
    rw [hle] at e7b e9
    rw [hc] at e12
    simp only [Rs.enc] at e7 e7b e9 e9b e12 e12b
    rcases second with h2 | ⟨h2, h4, h5⟩
    ·rw [h2] at e7
     rw [D_dat (F := A4) rfl rfl rfl rfl]
     simp (maxSteps := 9999999) -implicitDefEqProofs only [A4, B4, Rs.enc, hl, gb, g3, e6, e7, e7b, e9, e9b, e12, e12b, sT, reduceCtorEq, seval, ↓joinK_t, ↓joinK_f, ↓reduceIte]
     done
    ·rw [h2] at e7
     rw [h4] at e12b
     rw [h5] at e9b
     rw [D_dat (F := A4) rfl rfl rfl rfl]
     simp (maxSteps := 9999999) -implicitDefEqProofs only [A4, B4, Rs.enc, hl, gb, g3, e6, e7, e7b, e9, e9b, e12, e12b, sT, reduceCtorEq, seval, ↓joinK_t, ↓joinK_f, ↓reduceIte]
     done
end Go.Proofs.YtpemlmhggiaflaaGreatDoor.Codes
