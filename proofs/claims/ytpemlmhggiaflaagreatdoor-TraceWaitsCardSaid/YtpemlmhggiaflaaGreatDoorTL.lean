/-
  TraceWaits (function 5).
  Conditions: none.
-/
import Derived.Test.YtpemlmhggiaflaaGreatDoorTK
set_option linter.unusedVariables false
set_option linter.unusedSimpArgs false
set_option maxRecDepth 100000
namespace Go.Proofs.YtpemlmhggiaflaaGreatDoor.Codes
open Go Go.Deepv

theorem few_len : ∀ (ls : List (List Rsp)) (n : Int), 0 ≤ n → n ≤ 2000 → fewG ls n = true → n + (ls.length : Int) + (totalG ls : Int) ≤ 2000
  | [], n, h0, h1, _ => by simp [totalG]; omega
  | x :: l, n, h0, h1, h => by
    unfold fewG at h
    split at h
    · cases h
    · rename_i hc
      have := few_len l (n + (1 + (x.length : Int))) (by omega) (by omega) h
      have e : totalG (x :: l) = x.length + totalG l := by simp [totalG]
      rw [e, List.length_cons]
      omega
theorem total_mem : ∀ {ls : List (List Rsp)} {x : List Rsp}, x ∈ ls → x.length ≤ totalG ls
  | y :: l, x, h => by
    have e : totalG (y :: l) = y.length + totalG l := by simp [totalG]
    rcases List.mem_cons.1 h with h | h
    · subst h; omega
    · have := total_mem h; omega
theorem go_pad (q : Int) : ∀ (l : List Rsp) (s d : Int), goG q (padG l) s d = goG q l s d
  | [], _, _ => rfl
  | x :: l, s, d => by
    have e : padG (x :: l) = said :: x :: kept :: padG l := rfl
    have hs : ∀ (l : List Rsp) (s d : Int), goG q (said :: l) s d = goG q l s d := fun l s d => by simp [goG, said]
    have hk : ∀ (l : List Rsp) (s d : Int), goG q (kept :: l) s d = goG q l s d := fun l s d => by simp [goG, kept]
    rw [e, hs]
    have hx : ∀ (m : List Rsp) (s d : Int), goG q (x :: m) s d = if x.k = 0 ∨ x.k = 4 then (if ¬ x.s = s + 1 ∨ q < s + 1 - d then (true, s + 1, d) else goG q m (s + 1) d)
      else if x.k = 9 then (if ¬ x.s = d + 1 ∨ s < d + 1 then (true, s, d + 1) else goG q m s (d + 1)) else goG q m s d := fun m s d => rfl
    rw [hx, hx, hk, hk, hk, go_pad q l, go_pad q l, go_pad q l]
theorem one_pad (q : Int) (l : List Rsp) (s d : Int) : oneG q (padG l) s d = oneG q l s d := by unfold oneG; rw [go_pad]
theorem idx_pad (q : Int) : ∀ (ls : List (List Rsp)) (i : Nat) (s d : Int), idxG q (ls.map padG) i s d = idxG q ls i s d
  | [], _, _, _ => rfl
  | x :: l, i, s, d => by
    simp only [List.map_cons, idxG, one_pad]
    rw [idx_pad q l]
theorem go_less (q : Int) : ∀ (l : List Rsp) (s d : Int), d ≤ s → (goG q l s d).1 = false → ∀ n ∈ waitsG l (s - d), n < q
  | [], _, _, _, _ => by simp [waitsG]
  | x :: l, s, d, hd, h => by
    have hw : waitsG (x :: l) (s - d) = if x.k = 0 ∨ x.k = 4 then max (s - d) 0 :: waitsG l (s - d + 1) else if x.k = 9 then waitsG l (s - d - 1) else waitsG l (s - d) := rfl
    rw [hw]
    unfold goG at h
    split
    · rename_i h0
      rw [if_pos h0] at h
      split at h
      · cases h
      · rename_i hc
        have := go_less q l (s + 1) d (by omega) h
        have e : s + 1 - d = s - d + 1 := by omega
        rw [e] at this
        intro n hn
        rcases List.mem_cons.1 hn with hn | hn
        · omega
        · exact this n hn
    · rename_i h0
      rw [if_neg h0] at h
      split
      · rename_i h9
        rw [if_pos h9] at h
        split at h
        · cases h
        · rename_i hc
          have := go_less q l s (d + 1) (by omega) h
          have e : s - (d + 1) = s - d - 1 := by omega
          rw [e] at this
          exact this
      · rename_i h9
        rw [if_neg h9] at h
        exact go_less q l s d hd h
theorem one_less (q : Int) (x : List Rsp) (s : Int) (h : (oneG q x s s).1 = false) : (∀ n ∈ waitsV x, n < q) ∧ (oneG q x s s).2.2 = (oneG q x s s).2.1 := by
  unfold oneG at h ⊢
  by_cases hg : (goG q x s s).1 = true
  · rw [if_pos hg] at h; rw [h] at hg; cases hg
  · rw [if_neg hg] at h ⊢
    have := go_less q x s s (by omega) (by simpa using hg)
    have e : s - s = 0 := by omega
    rw [e] at this
    refine ⟨this, ?_⟩
    simpa using h
theorem idx_less (q : Int) : ∀ (ls : List (List Rsp)) (i : Nat) (s : Int), (idxG q ls i s s).1 = none → ∀ x ∈ ls, ∀ n ∈ waitsV x, n < q
  | [], _, _, _ => by simp
  | y :: l, i, s, h => by
    unfold idxG at h
    by_cases ho : (oneG q y s s).1 = true
    · rw [if_pos ho] at h; cases h
    · rw [if_neg ho] at h
      obtain ⟨h1, h2⟩ := one_less q y s (by simpa using ho)
      rw [h2] at h
      have := idx_less q l _ _ h
      intro x hx
      rcases List.mem_cons.1 hx with hx | hx
      · subst hx; exact h1
      · exact this x hx
theorem waits_nn : ∀ (l : List Rsp) (m : Int), ∀ n ∈ waitsG l m, 0 ≤ n
  | [], _ => by simp [waitsG]
  | x :: l, m => by
    unfold waitsG
    intro n hn
    split at hn
    · rcases List.mem_cons.1 hn with hn | hn
      · omega
      · exact waits_nn l _ n hn
    · split at hn
      · exact waits_nn l _ n hn
      · exact waits_nn l _ n hn
theorem total_pad (ls : List (List Rsp)) : totalG (ls.map padG) = 3 * totalG ls := by
  induction ls with
  | nil => rfl
  | cons x l ih =>
    have e : ∀ (x : List Rsp) l, totalG (x :: l) = x.length + totalG l := by simp [totalG]
    rw [List.map_cons, e, e, padG_len, ih]
    omega
theorem right_pad (q : Int) (ls : List (List Rsp)) : rightV q (ls.map padG) = rightV q ls := by unfold rightV; rw [idx_pad]
set_option maxHeartbeats 4000000 in
theorem tracewaits_ok (q : Int) (ls : List (List Rsp)) (h0 : ls.length < 9223372036854775807) (hb : ∀ x ∈ ls, x.length ≤ 9223372036854770000) (h : List Res) :
    D env 5 [.d (.int .i64 q), .d (.slice 1 (toldF ls))] h = some (.val (.d (.bool true)) h) := by
  have e13 := few_ok ls h0 hb
  have e6 := aw0
  have e6' : ∀ h, D env 6 [] h = some (.val (.d (.bool true)) h) := by
    intro h
    have e := D_dat (E := env) (f := 6) (F := A6) (args := []) rfl rfl rfl rfl
    rw [e h]
    rw [e []] at e6
    cases hh : dbody (Dc env) (L env) A6 [] [] with
    | none => rw [hh] at e6; cases e6
    | some r =>
      rw [hh] at e6
      cases r <;> simp [withHeap] at e6 ⊢
      exact e6
  cases hf : fewV ls with
  | false =>
    rw [hf] at e13
    rw [D_dat (F := A5) rfl rfl rfl rfl]
    simp (maxSteps := 9999999) -implicitDefEqProofs only [A5, B5, e13, e6', unnil, keyOk, keyEq, findE, appVec, slk, agreeS, idxS, keepS, lowS, dbin, dun, List.replicate, DV.cells, DV.flat, dload, DV.elems, reduceCtorEq, DV.lows, DV.low, DV.coe, DV.isD, dresults, dresult, withHeap, lowCells, LSt.isReady, srcElems, DV.int, DV.mkAgg, same, mnmx2, nilness, bound, fill, flatCells, allocCells, putCells, splitG, onG, insD, memD, seval, ↓joinK_t, ↓joinK_f, ↓reduceIte, stq]
  | true =>
    rw [hf] at e13
    have hl := few_len ls 0 (by omega) (by omega) hf
    have hx : ∀ x ∈ ls, x.length ≤ 2000 := fun x hx => by have := total_mem hx; omega
    have e14 := right_ok q ls (by omega) (fun x h => by have := hx x h; omega) (by omega)
    have e14p := right_ok q (ls.map padG) (by simp; omega) (fun x h => by
      obtain ⟨y, hy, e⟩ := List.mem_map.1 h
      have := hx y hy
      rw [← e, padG_len]; omega) (by rw [total_pad]; omega)
    rw [right_pad] at e14p
    have e14q : ∀ h : List Res, D env 14 [.d (.int .i64 q), .row 1 (toldF (ls.map padG)) 0] h = some (.val (.d (.bool (rightV q ls))) h) := by
      intro h
      rw [← e14p h]
      exact D_coe (F := A14) rfl rfl rfl (args := [.d (.int .i64 q), .row 1 (toldF (ls.map padG)) 0]) (args' := [.d (.int .i64 q), .d (.slice 1 (toldF (ls.map padG)))]) rfl h
    obtain ⟨K, hK, hk⟩ := loop6 q (rightV q ls) ls (by omega) (fun x h => ⟨by have := hx x h; omega, fun n hn => ⟨waits_nn x 0 n hn, fun hr => idx_less q ls 0 0 (by simpa [rightV] using hr) x h n hn⟩⟩)
    have e := hk ls 0 [] rfl (by omega) (by simp)
    have gl : (toldF ls).length = ls.length := by simp [toldF]
    rw [List.nil_append] at e
    have e : K (den 112 [(0, .d (.int .i64 q)), (5, .d (.bool (rightV q ls))), (6, .row 1 [] 0), (23, .d (.slice 1 (toldF ls))), (24, .d (.int .i64 (ls.length : Int))), (25, .d (.int .i64 0))]) [.nilrow] = _ := e
    rw [D_dat (F := A5) rfl rfl rfl rfl]
    simp (maxSteps := 9999999) -implicitDefEqProofs only [A5, B5, e13, e14, gl, hK, e, e14q, e6', unnil, keyOk, keyEq, findE, appVec, slk, agreeS, idxS, keepS, lowS, dbin, dun, List.replicate, DV.cells, DV.flat, dload, DV.elems, reduceCtorEq, DV.lows, DV.low, DV.coe, DV.isD, dresults, dresult, withHeap, lowCells, LSt.isReady, srcElems, DV.int, DV.mkAgg, same, mnmx2, nilness, bound, fill, flatCells, allocCells, putCells, splitG, onG, insD, memD, seval, ↓joinK_t, ↓joinK_f, ↓reduceIte, stq]
end Go.Proofs.YtpemlmhggiaflaaGreatDoor.Codes
