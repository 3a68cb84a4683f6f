/-
  The reference: the words of a text.
  Conditions: none.
-/
import Derived.Test.YtckmpipiginhaaaDoorIK
set_option linter.unusedVariables false
set_option linter.unusedSimpArgs false
set_option maxRecDepth 100000
namespace Go.Proofs.YtckmpipiginhaaaDoor.Codes
open Go Go.Deepv

/-- Words: those that are whole, and the one under way. -/
def cutW : List ByteArray → ByteArray → List UInt8 → List ByteArray
  | ws, w, [] => ws ++ [w]
  | ws, w, b :: l => if b = 32 then cutW (ws ++ [w]) ⟨#[]⟩ l else cutW ws (w ++ ⟨#[b]⟩) l
def wordsR (s : ByteArray) : List ByteArray := cutW [] ⟨#[]⟩ s.data.toList
def vecW (l : List ByteArray) : Res := .vec 1 (strsF l) 0 0
def st29 (s : ByteArray) (n i : Nat) : List DV := den 37 [(0, .d (.str s)), (3, .vslc 0 n 1 0 n), (4, .d (.int .i64 (i : Int)))]
def ex29 (n : Nat) : List DV := den 37 [(3, .vslc 0 n 1 0 n)]
theorem strsF_len (l : List ByteArray) : (strsF l).length = l.length := by simp [strsF]
theorem byte_at (s : ByteArray) (i : Nat) : s[i]? = s.data.toList[i]? := by
  rw [Array.getElem?_toList]
  rfl
set_option maxHeartbeats 4000000 in
theorem loop29 (s : ByteArray) (hs : s.size < 4294967281) : ∃ K, L env 1 true H29L3 X29L3 B29L3 = K ∧ ∀ (l : List UInt8) (i : Nat) (ws : List ByteArray) (w : ByteArray), s.data.toList.drop i = l → i ≤ s.size → ws.length ≤ i → w.size ≤ i →
    K (st29 s (ws.length + 1) i) [vecW (ws ++ [w])] = some (.exit 0, ex29 (cutW ws w l).length, [vecW (cutW ws w l)]) := by
  obtain ⟨K, hK⟩ : ∃ K, L env 1 true H29L3 X29L3 B29L3 = K := ⟨_, rfl⟩
  refine ⟨K, hK, ?_⟩
  have hsz : s.data.toList.length = s.size := rfl
  intro l
  induction l with
  | nil =>
    intro i ws w hl hi h1 h2
    have : s.data.toList.length ≤ i := List.drop_eq_nil_iff.1 hl
    have e : i = s.size := by omega
    have e2 : ¬ (i : Int) < (s.size : Int) := by omega
    rw [L_rnd hK]
    simp (maxSteps := 9999999) -implicitDefEqProofs only [st29, ex29, vecW, B29L3, e2, cutW, List.length_append, unnil, keyOk, keyEq, findE, appVec, slk, agreeS, idxS, keepS, lowS, dbin, dun, List.replicate, DV.cells, DV.flat, dload, DV.elems, reduceCtorEq, DV.lows, DV.low, DV.coe, DV.isD, dresults, dresult, withHeap, lowCells, LSt.isReady, srcElems, DV.int, DV.mkAgg, same, mnmx2, nilness, bound, fill, flatCells, allocCells, putCells, splitG, onG, insD, memD, seval, ↓joinK_t, ↓joinK_f, ↓reduceIte, stq]
  | cons b l ih =>
    intro i ws w hl hi h1 h2
    have hlt : i < s.data.toList.length := by
      rcases Nat.lt_or_ge i s.data.toList.length with h | h
      · exact h
      · rw [List.drop_eq_nil_of_le h] at hl; cases hl
    have hd : s.data.toList.drop (i + 1) = l := by
      rw [← List.drop_drop, hl]; rfl
    have hlt2 : (i : Int) < (s.size : Int) := by omega
    have g1 : s[i]? = some b := by
      rw [byte_at]
      have := congrArg (fun l => l[0]?) hl
      simpa using this
    have w1 : IntKind.i64.wrap ((i : Int) + 1) = ((i + 1 : Nat) : Int) := by rw [wrap_id (by omega) (by omega)]; omega
    have c1 : (ws.length + 1 + 1) * 16 ≤ 140737488355328 := by omega
    have x1 : strsF (ws ++ [w]) ++ [[FV.str ⟨#[]⟩]] = strsF (ws ++ [w, ⟨#[]⟩]) := by simp [strsF]
    by_cases hb : b = 32
    · have b1 : ((b.toNat : Nat) : Int) = 32 := by subst hb; rfl
      have ih := ih (i + 1) (ws ++ [w]) ⟨#[]⟩ hd (by omega) (by simp; omega) (by show 0 ≤ _; omega)
      simp only [st29, ex29, vecW, List.length_append, List.length_cons, List.length_nil, Nat.zero_add, List.append_assoc, List.cons_append, List.nil_append] at ih
      rw [L_rnd hK]
      simp (maxSteps := 9999999) -implicitDefEqProofs only [st29, ex29, vecW, B29L3, hlt2, strsF_len, List.length_append, g1, b1, hb, cutW, w1, c1, x1, ih, unnil, keyOk, keyEq, findE, appVec, slk, agreeS, idxS, keepS, lowS, dbin, dun, List.replicate, DV.cells, DV.flat, dload, DV.elems, reduceCtorEq, DV.lows, DV.low, DV.coe, DV.isD, dresults, dresult, withHeap, lowCells, LSt.isReady, srcElems, DV.int, DV.mkAgg, same, mnmx2, nilness, bound, fill, flatCells, allocCells, putCells, splitG, onG, insD, memD, seval, ↓joinK_t, ↓joinK_f, ↓reduceIte, stq]
    · have b1 : ¬ ((b.toNat : Nat) : Int) = 32 := by
        intro h; apply hb; apply UInt8.toNat_inj.1; show b.toNat = 32; omega
      have ih := ih (i + 1) ws (w ++ ⟨#[b]⟩) hd (by omega) (by omega) (by rw [ByteArray.size_append]; show w.size + 1 ≤ _; omega)
      simp only [st29, ex29, vecW] at ih
      have k1 : IntKind.i64.wrap (((ws.length + 1 : Nat) : Int) - 1) = (ws.length : Int) := by rw [wrap_id (by omega) (by omega)]; omega
      have k2 : (ws.length : Int) < ((ws.length + 1 : Nat) : Int) := by omega
      have k3 : ((i + 1 : Nat) : Int) ≤ (s.size : Int) := by omega
      have k4 : (i : Int) ≤ ((i + 1 : Nat) : Int) := by omega
      have k5 : w.size + (⟨#[b]⟩ : ByteArray).size ≤ 9223372036854775807 := by show w.size + 1 ≤ _; omega
      have x2 : s.extract i (i + 1) = ⟨#[b]⟩ := by
        apply ByteArray.ext
        rw [ByteArray.data_extract]
        apply Array.ext'
        rw [Array.toList_extract, List.extract_eq_take_drop]
        rw [hl]
        simp
      have y1 : (strsF (ws ++ [w]))[ws.length]? = some [FV.str w] := by simp [strsF]
      have y2 : (strsF (ws ++ [w])).set ws.length [FV.str (w ++ ⟨#[b]⟩)] = strsF (ws ++ [w ++ ⟨#[b]⟩]) := by simp [strsF]
      rw [L_rnd hK]
      simp (maxSteps := 9999999) -implicitDefEqProofs only [st29, ex29, vecW, B29L3, hlt2, strsF_len, List.length_append, g1, b1, hb, cutW, w1, k1, k2, k3, k4, k5, x2, y1, y2, ih, Nat.zero_le, unnil, keyOk, keyEq, findE, appVec, slk, agreeS, idxS, keepS, lowS, dbin, dun, List.replicate, DV.cells, DV.flat, dload, DV.elems, reduceCtorEq, DV.lows, DV.low, DV.coe, DV.isD, dresults, dresult, withHeap, lowCells, LSt.isReady, srcElems, DV.int, DV.mkAgg, same, mnmx2, nilness, bound, fill, flatCells, allocCells, putCells, splitG, onG, insD, memD, seval, ↓joinK_t, ↓joinK_f, ↓reduceIte, stq]
def wordsN (s : ByteArray) : List ByteArray := cutW [] ⟨#[]⟩ s.data.toList
set_option maxHeartbeats 4000000 in
theorem words_ok (s : ByteArray) (hs : s.size < 4294967281) (h : List Res) : D env 29 [.d (.str s)] h = some (.val (.d (.slice 1 (strsF (wordsN s)))) h) := by
  obtain ⟨K, hK, hl⟩ := loop29 s hs
  have e := hl s.data.toList 0 [] ⟨#[]⟩ rfl (by omega) (by simp) (by show 0 ≤ 0; omega)
  simp only [st29, ex29, vecW, List.length_nil, Nat.zero_add, List.nil_append, strsF, List.map_cons, List.map_nil, Int.ofNat_zero] at e
  have m0 : ∀ n : Nat, max 0 n = n := fun n => by omega
  rw [D_dat (F := A29) rfl rfl rfl rfl]
  simp (maxSteps := 9999999) -implicitDefEqProofs only [A29, B29, hK, e, List.length_map, List.take_length, unnil, keyOk, keyEq, findE, appVec, slk, agreeS, idxS, keepS, lowS, dbin, dun, List.replicate, DV.cells, DV.flat, dload, DV.elems, reduceCtorEq, DV.lows, DV.low, DV.coe, DV.isD, dresults, dresult, withHeap, lowCells, LSt.isReady, srcElems, DV.int, DV.mkAgg, same, mnmx2, nilness, bound, fill, flatCells, allocCells, putCells, splitG, onG, insD, memD, seval, ↓joinK_t, ↓joinK_f, ↓reduceIte, stq]
  rw [List.take_of_length_le (by simp)]
  rfl
theorem e_app (x : ByteArray) : (⟨#[]⟩ : ByteArray) ++ x = x := by apply ByteArray.ext; rw [ByteArray.data_append]; simp
theorem app_e (x : ByteArray) : x ++ (⟨#[]⟩ : ByteArray) = x := by apply ByteArray.ext; rw [ByteArray.data_append]; simp
theorem cutW_cut : ∀ (l : List UInt8) (ws : List ByteArray) (w : ByteArray), cutW ws w l = ws ++ (match cutL 32 l with | p :: r => (w ++ ⟨p.toArray⟩) :: r.map (fun l => ⟨l.toArray⟩) | [] => [])
  | [], ws, w => by
    show ws ++ [w] = ws ++ [w ++ ⟨#[]⟩]
    rw [app_e]
  | b :: l, ws, w => by
    obtain ⟨p, r, hp⟩ := cutL_cons 32 l
    by_cases hb : b = 32
    · subst hb
      have e1 : cutW ws w (32 :: l) = cutW (ws ++ [w]) ⟨#[]⟩ l := by simp [cutW]
      have e2 : cutL 32 (32 :: l) = [] :: p :: r := by simp [cutL, hp]
      rw [e1, cutW_cut l, hp, e2]
      simp [e_app, app_e]
    · have e1 : cutW ws w (b :: l) = cutW ws (w ++ ⟨#[b]⟩) l := by simp [cutW, hb]
      have e2 : cutL 32 (b :: l) = (b :: p) :: r := by simp [cutL, hb, hp]
      rw [e1, cutW_cut l, hp, e2]
      have : w ++ ⟨#[b]⟩ ++ ⟨p.toArray⟩ = w ++ ⟨(b :: p).toArray⟩ := by
        apply ByteArray.ext
        simp only [ByteArray.data_append]
        simp
      simp [this]
theorem wordsN_split (s : ByteArray) : wordsN s = splitV s := by
  unfold wordsN splitV sp1
  rw [cutW_cut, split_cut]
  obtain ⟨p, r, hp⟩ := cutL_cons 32 s.data.toList
  rw [hp]
  simp [e_app]
end Go.Proofs.YtckmpipiginhaaaDoor.Codes
