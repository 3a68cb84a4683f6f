/-
  TraceWaits: the loop over the items (function 5, region 6), and the function.
  Conditions: none.
-/
import Derived.Test.YtpemlmhggiaflaaGreatDoorTJ
import Derived.Test.YtpemlmhggiaflaaGreatDoorTA
set_option linter.unusedVariables false
set_option linter.unusedSimpArgs false
set_option maxRecDepth 100000
namespace Go.Proofs.YtpemlmhggiaflaaGreatDoor.Codes
open Go Go.Deepv

/-- Rows are handed on as data. -/
theorem D_coe {E : Env} {f : FuncId} {F : AFunc} {args args' : List DV} (he : E.ext f = none) (ha : E.af f = some F) (hc : F.coe = true) (hh : args.map DV.coe = args'.map DV.coe) (h : List Res) : D E f args h = D E f args' h := by
  rw [D_eq, D_eq]
  unfold dcallF
  rw [he, ha]
  simp only [hc, hh, if_true]
def row6 (l : List (List Rsp)) : Res := if l = [] then .nilrow else .row 1 l.length 0
theorem app6 (out : List (List Rsp)) (x : List Rsp) (r2 : Res) (rest : List Res) (ho : out.length ≤ 1000000) : appRow 1 24 (DV.row 1 (toldF out) 0) (some (1, [[.slice 4 (rspF x)]])) (row6 out :: rest) = some (.val (.row 1 (toldF (out ++ [x])) 0) (row6 (out ++ [x]) :: rest)) := by
  have hl : (toldF out).length = out.length := by simp [toldF]
  unfold appRow row6
  by_cases h : out = []
  · subst h
    simp [toldF]
  · simp [h, hl, toldF]
    omega
theorem padG_len (l : List Rsp) : (padG l).length = 3 * l.length := by
  induction l with
  | nil => rfl
  | cons x l ih =>
    have e : padG (x :: l) = said :: x :: kept :: padG l := rfl
    rw [e]
    simp only [List.length_cons, ih]
    omega
set_option maxHeartbeats 4000000 in
theorem loop6 (q : Int) (right : Bool) (ls : List (List Rsp)) (hn : ls.length ≤ 100000) (hr : ∀ x ∈ ls, x.length ≤ 10000 ∧ ∀ n ∈ waitsV x, 0 ≤ n ∧ (right = true → n < q)) : ∃ K, L env 1 true H5L6 X5L6 B5L6 = K ∧ ∀ (l : List (List Rsp)) (i : Nat) (out : List (List Rsp)), ls.drop i = l → i ≤ ls.length → out.length ≤ i →
    K (den 112 [(0, .d (.int .i64 q)), (5, .d (.bool right)), (6, .row 1 (toldF out) 0), (23, .d (.slice 1 (toldF ls))), (24, .d (.int .i64 (ls.length : Int))), (25, .d (.int .i64 (i : Int)))]) [row6 out] =
      some (.exit 0, den 112 [(0, .d (.int .i64 q)), (5, .d (.bool right)), (6, .row 1 (toldF (out ++ l.map padG)) 0)], [row6 (out ++ l.map padG)]) := by
  obtain ⟨K, hK⟩ : ∃ K, L env 1 true H5L6 X5L6 B5L6 = K := ⟨_, rfl⟩
  refine ⟨K, hK, ?_⟩
  intro l
  induction l with
  | nil =>
    intro i out hl hi h1
    have : ls.length ≤ i := List.drop_eq_nil_iff.1 hl
    have e2 : ¬ (i : Int) < (ls.length : Int) := by omega
    rw [L_rnd hK]
    simp (maxSteps := 9999999) -implicitDefEqProofs only [B5L6, e2, List.map_nil, List.append_nil, unnil, keyOk, keyEq, findE, appVec, slk, agreeS, idxS, keepS, lowS, dbin, dun, List.replicate, DV.cells, DV.flat, dload, DV.elems, reduceCtorEq, DV.lows, DV.low, DV.coe, DV.isD, dresults, dresult, withHeap, lowCells, LSt.isReady, srcElems, DV.int, DV.mkAgg, same, mnmx2, nilness, bound, fill, flatCells, allocCells, putCells, splitG, onG, insD, memD, seval, ↓joinK_t, ↓joinK_f, ↓reduceIte, stq]
  | cons x l ih =>
    intro i out hl hi h1
    have hlt : i < ls.length := by
      rcases Nat.lt_or_ge i ls.length with h | h
      · exact h
      · rw [List.drop_eq_nil_of_le h] at hl; cases hl
    have hx : ls[i]? = some x := by
      have := congrArg (fun l => l[0]?) hl
      simpa using this
    obtain ⟨hxl, hxw⟩ := hr x (List.mem_of_getElem? hx)
    have hd : ls.drop (i + 1) = l := by
      rw [← List.drop_drop, hl]; rfl
    have e2 : (i : Int) < (ls.length : Int) := by omega
    have gx : (toldF ls)[i]? = some [.slice 4 (rspF x)] := by simp [toldF, hx]
    have gl : (toldF ls).length = ls.length := by simp [toldF]
    have gr : (rspF x).length = x.length := by simp [rspF]
    have w1 : IntKind.i64.wrap ((i : Int) + 1) = ((i + 1 : Nat) : Int) := by rw [wrap_i64 (by omega) (by omega)]; omega
    have e15 := waits_ok x (by omega)
    have e15p : ∀ h : List Res, D env 15 [.row 4 (rspF (padG x)) 1] h = some (.val (.d (.slice 1 (intsF (waitsV (padG x))))) h) := by
      intro h
      rw [← waits_ok (padG x) (by rw [padG_len]; omega) h]
      exact D_coe (F := A15) rfl rfl rfl (args := [.row 4 (rspF (padG x)) 1]) (args' := [.d (.slice 4 (rspF (padG x)))]) rfl h
    have ew : waitsV (padG x) = waitsV x := waits_pad x 0
    rw [ew] at e15p
    have ec : (waitsV x).length = cntG x := waits_cnt x 0
    have hcl : cntG x ≤ 10000 := by
      have := List.length_filter_le (fun x : Rsp => decide (x.k = 0 ∨ x.k = 4)) x
      unfold cntG
      omega
    have gi : (intsF (waitsV x)).length = cntG x := by simp [intsF, ec]
    obtain ⟨K12, hK12, k12⟩ := loop12 x (by omega) (row6 out) (.int .i64 q) (.bool right) (.slice 1 (intsF (waitsV x))) (.slice 1 (toldF ls)) (.int .i64 (ls.length : Int)) (.int .i64 (i : Int)) (toldF out)
    have k12 := k12 x 0 [] 0 rfl (by omega) (by simp) (by omega)
    simp only [rspF, List.map_nil, List.nil_append, Nat.zero_add] at k12
    have k12 : K12 (den 112 [(0, .d (.int .i64 q)), (5, .d (.bool right)), (6, .row 1 (toldF out) 0), (9, .d (.slice 1 (intsF (waitsV x)))), (10, .row 4 [] 1), (11, .d (.int .i64 0)), (23, .d (.slice 1 (toldF ls))), (24, .d (.int .i64 (ls.length : Int))), (25, .d (.int .i64 (i : Int))), (31, .d (.slice 4 (rspF x))), (32, .d (.int .i64 (x.length : Int))), (33, .d (.int .i64 0))]) [row6 out, .nilrow] = some (.exit 2, den 112 [(0, .d (.int .i64 q)), (5, .d (.bool right)), (6, .row 1 (toldF out) 0), (9, .d (.slice 1 (intsF (waitsV x)))), (10, .row 4 (rspF (padG x)) 1), (11, .d (.int .i64 (cntG x : Int))), (23, .d (.slice 1 (toldF ls))), (24, .d (.int .i64 (ls.length : Int))), (25, .d (.int .i64 (i : Int)))], [row6 out, row10 (padG x)]) := k12
    obtain ⟨K22, hK22, k22⟩ := loop22 q right (waitsV x) (by omega) hxw (row6 out) (row10 (padG x)) (.slice 1 (toldF ls)) (.int .i64 (ls.length : Int)) (.int .i64 (i : Int)) (toldF out) (rspF (padG x))
    have k22 := k22 (waitsV x).length 0 (by omega)
    rw [ec] at k22
    have k22 : K22 (den 112 [(0, .d (.int .i64 q)), (5, .d (.bool right)), (6, .row 1 (toldF out) 0), (9, .d (.slice 1 (intsF (waitsV x)))), (10, .row 4 (rspF (padG x)) 1), (14, .d (.slice 1 (intsF (waitsV x)))), (23, .d (.slice 1 (toldF ls))), (24, .d (.int .i64 (ls.length : Int))), (25, .d (.int .i64 (i : Int))), (67, .d (.int .i64 (cntG x : Int))), (68, .d (.int .i64 0))]) [row6 out, row10 (padG x)] = _ := k22
    have ap := fun rest => app6 out (padG x) (row10 (padG x)) rest (by omega)
    have ih := ih (i + 1) (out ++ [padG x]) hd (by omega) (by simp; omega)
    have ep : out ++ (x :: l).map padG = out ++ [padG x] ++ l.map padG := by simp
    rw [ep, L_rnd hK]
    simp (maxSteps := 9999999) -implicitDefEqProofs only [B5L6, e2, gx, gl, gr, gi, w1, e15, e15p, hK12, k12, hK22, k22, ap, ih, unnil, keyOk, keyEq, findE, appVec, slk, agreeS, idxS, keepS, lowS, dbin, dun, List.replicate, DV.cells, DV.flat, dload, DV.elems, reduceCtorEq, DV.lows, DV.low, DV.coe, DV.isD, dresults, dresult, withHeap, lowCells, LSt.isReady, srcElems, DV.int, DV.mkAgg, same, mnmx2, nilness, bound, fill, flatCells, allocCells, putCells, splitG, onG, insD, memD, seval, ↓joinK_t, ↓joinK_f, ↓reduceIte, stq]
end Go.Proofs.YtpemlmhggiaflaaGreatDoor.Codes
