/-
  Whether what is told of items may be: the items in order (functions 45, 29, 14).
  Conditions: none.
-/
import Derived.Test.YtpemlmhggiaflaaGreatDoorTE
set_option linter.unusedVariables false
set_option linter.unusedSimpArgs false
set_option maxRecDepth 100000
namespace Go.Proofs.YtpemlmhggiaflaaGreatDoor.Codes
open Go Go.Deepv

theorem goG_rng (q : Int) : ∀ (l : List Rsp) (s d : Int), 0 ≤ s → 0 ≤ d → 0 ≤ (goG q l s d).2.1 ∧ (goG q l s d).2.1 ≤ s + l.length ∧ 0 ≤ (goG q l s d).2.2 ∧ (goG q l s d).2.2 ≤ d + l.length
  | [], s, d, h1, h2 => by simp [goG]; omega
  | x :: l, s, d, h1, h2 => by
    have i1 := goG_rng q l (s + 1) d (by omega) h2
    have i2 := goG_rng q l s (d + 1) h1 (by omega)
    have i3 := goG_rng q l s d h1 h2
    simp only [goG, List.length_cons]
    repeat' split
    all_goals first | omega | (simp only; omega)
theorem oneG_rng (q : Int) (l : List Rsp) (s d : Int) (h1 : 0 ≤ s) (h2 : 0 ≤ d) : 0 ≤ (oneG q l s d).2.1 ∧ (oneG q l s d).2.1 ≤ s + l.length ∧ 0 ≤ (oneG q l s d).2.2 ∧ (oneG q l s d).2.2 ≤ d + l.length := by
  unfold oneG
  split <;> exact goG_rng q l s d h1 h2
def totalG (ls : List (List Rsp)) : Nat := (ls.map List.length).sum
/-- The first item that is wrong. -/
def idxG (q : Int) : List (List Rsp) → Nat → Int → Int → Option Nat × Int × Int
  | [], _, s, d => (none, s, d)
  | x :: l, i, s, d => if (oneG q x s d).1 = true then (some i, (oneG q x s d).2) else idxG q l (i + 1) (oneG q x s d).2.1 (oneG q x s d).2.2
def clo14 : DV := .clo (.func 30) [] [.ptr 1 0, .ptr 2 0, .ptr 0 0]
set_option maxHeartbeats 4000000 in
theorem loop45 (q : Int) (ls : List (List Rsp)) (hn : ls.length ≤ 100000) (hb : ∀ x ∈ ls, x.length ≤ 100000) : ∃ K, L env 3 true H45L2 X45L2 B45L2 = K ∧ ∀ (l : List (List Rsp)) (i : Nat) (s d : Int), ls.drop i = l → i ≤ ls.length → 0 ≤ s → s + totalG l ≤ 1000000 → 0 ≤ d → d + totalG l ≤ 1000000 →
    K (den 19 [(0, .d (.slice 1 (toldF ls))), (1, clo14), (7, .d (.int .i64 (ls.length : Int))), (8, .d (.int .i64 (i : Int)))]) [box1 q, box1 s, box1 d] =
      some (match idxG q l i s d with | (some j, s', d') => (.ret, den 19 [(4, .d (.int .i64 (j : Int)))], [box1 q, box1 s', box1 d']) | (none, s', d') => (.exit 0, den 19 [], [box1 q, box1 s', box1 d'])) := by
  obtain ⟨K, hK⟩ : ∃ K, L env 3 true H45L2 X45L2 B45L2 = K := ⟨_, rfl⟩
  refine ⟨K, hK, ?_⟩
  intro l
  induction l with
  | nil =>
    intro i s d hl hi h1 h2 h3 h4
    have : ls.length ≤ i := List.drop_eq_nil_iff.1 hl
    have e2 : ¬ (i : Int) < (ls.length : Int) := by omega
    rw [L_rnd hK]
    simp (maxSteps := 9999999) -implicitDefEqProofs only [clo14, box1, B45L2, e2, idxG, unnil, keyOk, keyEq, findE, appVec, slk, agreeS, idxS, keepS, lowS, dbin, dun, List.replicate, DV.cells, DV.flat, dload, DV.elems, reduceCtorEq, DV.lows, DV.low, DV.coe, DV.isD, dresults, dresult, withHeap, lowCells, LSt.isReady, srcElems, DV.int, DV.mkAgg, same, mnmx2, nilness, bound, fill, flatCells, allocCells, putCells, splitG, onG, insD, memD, seval, ↓joinK_t, ↓joinK_f, ↓reduceIte, stq]
  | cons x l ih =>
    intro i s d hl hi h1 h2 h3 h4
    have hlt : i < ls.length := by
      rcases Nat.lt_or_ge i ls.length with h | h
      · exact h
      · rw [List.drop_eq_nil_of_le h] at hl; cases hl
    have hx : ls[i]? = some x := by
      have := congrArg (fun l => l[0]?) hl
      simpa using this
    have hd : ls.drop (i + 1) = l := by
      rw [← List.drop_drop, hl]; rfl
    have ht : totalG (x :: l) = x.length + totalG l := by simp [totalG]
    rw [ht] at h2 h4
    have e2 : (i : Int) < (ls.length : Int) := by omega
    have gx : (toldF ls)[i]? = some [.slice 4 (rspF x)] := by simp [toldF, hx]
    have gl : (toldF ls).length = ls.length := by simp [toldF]
    have w1 : IntKind.i64.wrap ((i : Int) + 1) = ((i + 1 : Nat) : Int) := by rw [wrap_i64 (by omega) (by omega)]; omega
    have e30 := one_ok q x (hb x (List.mem_of_getElem? hx)) s d h1 (by omega) h3 (by omega)
    have rg := oneG_rng q x s d h1 h3
    simp only [idxG]
    rcases ho : oneG q x s d with ⟨b, s', d'⟩
    rw [ho] at e30 rg
    simp only at rg
    simp only [box1] at e30
    cases b with
    | true =>
      rw [L_rnd hK]
      simp (maxSteps := 9999999) -implicitDefEqProofs only [clo14, box1, B45L2, e2, gx, gl, w1, e30, unnil, keyOk, keyEq, findE, appVec, slk, agreeS, idxS, keepS, lowS, dbin, dun, List.replicate, DV.cells, DV.flat, dload, DV.elems, reduceCtorEq, DV.lows, DV.low, DV.coe, DV.isD, dresults, dresult, withHeap, lowCells, LSt.isReady, srcElems, DV.int, DV.mkAgg, same, mnmx2, nilness, bound, fill, flatCells, allocCells, putCells, splitG, onG, insD, memD, seval, ↓joinK_t, ↓joinK_f, ↓reduceIte, stq]
    | false =>
      have ih := ih (i + 1) s' d' hd (by omega) (by omega) (by omega) (by omega) (by omega)
      simp only [clo14, box1] at ih
      rw [L_rnd hK]
      simp (maxSteps := 9999999) -implicitDefEqProofs only [clo14, box1, B45L2, e2, gx, gl, w1, e30, ih, unnil, keyOk, keyEq, findE, appVec, slk, agreeS, idxS, keepS, lowS, dbin, dun, List.replicate, DV.cells, DV.flat, dload, DV.elems, reduceCtorEq, DV.lows, DV.low, DV.coe, DV.isD, dresults, dresult, withHeap, lowCells, LSt.isReady, srcElems, DV.int, DV.mkAgg, same, mnmx2, nilness, bound, fill, flatCells, allocCells, putCells, splitG, onG, insD, memD, seval, ↓joinK_t, ↓joinK_f, ↓reduceIte, stq]
end Go.Proofs.YtpemlmhggiaflaaGreatDoor.Codes
