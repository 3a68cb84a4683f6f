/-
  The law LexBack.
  Conditions: none.
-/
import Derived.Test.YtoadpaaghjomnaaDoorHE
set_option linter.unusedVariables false
set_option linter.unusedSimpArgs false
set_option maxRecDepth 100000
namespace Go.Proofs.YtoadpaaghjomnaaDoor.Codes
open Go Go.Deepv

/-! ### The machine -/
def showAll (t : ByteArray) (a : List (Tk × Int × Int)) : ByteArray := a.foldl (fun t x => t ++ (showV x.1 ++ ⟨#[32]⟩)) t
def st5 (a : List (Tk × Int × Int)) (t : ByteArray) (i : Nat) : List DV :=
  [.d .undef, .d .undef, .d .undef, .d (.slice 6 (encT a)), .d .undef, .d (.str t)] ++ List.replicate 22 (.d .undef) ++ [.d (.slice 6 (encT a)), .d (.int .i64 a.length), .d (.int .i64 i)] ++ List.replicate 83 (.d .undef)
def ex5 (a : List (Tk × Int × Int)) (t : ByteArray) : List DV :=
  [.d .undef, .d .undef, .d .undef, .d (.slice 6 (encT a)), .d .undef, .d (.str t)] ++ List.replicate 108 (.d .undef)
set_option maxHeartbeats 2000000 in
theorem loop5 (a : List (Tk × Int × Int)) (hsz : a.length ≤ 1000000) (hk : ∀ (i : Nat) (x : Tk × Int × Int), a[i]? = some x → (x.1.kind == 0) = ((i : Int) == ((a.length - 1 : Nat) : Int)))
    (hu : ∀ (i : Nat) (x y : Tk × Int × Int), a[i]? = some x → a[i + 1]? = some y → le2 x.2 y.2) (hin : ∀ x ∈ a, x.1.bytes.size ≤ 64 ∧ x.1.num ≤ 9223372036854775807) :
    ∀ (n i : Nat) (t : ByteArray), i + n = a.length → t.size + shSize ((a.drop i).map Prod.fst) ≤ 1000000 → L env 1 true H5L8 X5L8 B5L8 (st5 a t i) [faultB 0 0 0] = some (.exit 0, ex5 a (showAll t (a.drop i)), [faultB 0 0 0]) := by
  obtain ⟨K, hK⟩ : ∃ K, L env 1 true H5L8 X5L8 B5L8 = K := ⟨_, rfl⟩
  rw [hK]
  have la : (encT a).length = a.length := by simp [encT]
  intro n
  induction n with
  | zero =>
    intro i t hi hts
    have hlt : ¬ (i : Int) < a.length := by omega
    rw [List.drop_eq_nil_of_le (by omega), show showAll t [] = t from rfl, L_round hK]
    simp -implicitDefEqProofs only [B5L8, st5, ex5, faultB, dbody, dexec, ostep, dop, ev, put, wants, dbin, dun, List.replicate, Nat.reduceAdd, Nat.reduceSub, Nat.reduceLT, Nat.reduceLeDiff, Nat.reduceMul, DV.cells, DV.flat, dload, DV.elems, reduceCtorEq, mask, DV.lows, DV.low, DV.coe, DV.isD, dresults, dresult, withHeap, lowCells, LSt.isReady, srcElems, DV.int, DV.mkAgg, same, mnmx2, nilness, bound, fill, flatCells, Int.reduceLE, Int.reduceLT, Int.reduceAdd, Int.reduceSub, Int.reduceNeg, Int.reduceEq, Int.reduceBEq, Int.reduceBNe, Nat.reduceBEq, Nat.reduceEqDiff, Int.reduceToNat, allocCells, stp, la, hlt]
  | succ n ih =>
    intro i t hi hts
    have hlt : (i : Int) < a.length := by omega
    have hx : a[i]? = some a[i] := List.getElem?_eq_getElem _
    have hmem : a[i] ∈ a := List.getElem_mem _
    have hda : a.drop i = a[i] :: a.drop (i + 1) := by simp
    generalize a[i] = x at *
    have hkx := hk i x hx
    have hx' : (encT a)[i]? = some (x.1.enc x.2.1 x.2.2) := by simp [encT, hx]
    rw [hda, show showAll t (x :: a.drop (i + 1)) = showAll (t ++ (showV x.1 ++ ⟨#[32]⟩)) (a.drop (i + 1)) from rfl]
    have z1 : (⟨#[32]⟩ : ByteArray).size = 1 := rfl
    rw [hda] at hts
    simp only [shSize, List.map_cons, List.sum_cons] at hts
    have ih := ih (i + 1) (t ++ (showV x.1 ++ ⟨#[32]⟩)) (by omega) (by
      rw [ByteArray.size_append, ByteArray.size_append, z1]
      simp only [shSize]
      omega)
    have q1 : (showV x.1).size + (⟨#[32]⟩ : ByteArray).size ≤ 9223372036854775807 := by omega
    have q2 : t.size + (showV x.1 ++ ⟨#[32]⟩).size ≤ 9223372036854775807 := by
      rw [ByteArray.size_append, z1]
      omega
    have w1 : IntKind.i64.wrap ((i : Int) + 1) = ((i + 1 : Nat) : Int) := by rw [wrap_i64 (by omega) (by omega)]; simp
    have w2 : IntKind.i64.wrap ((a.length : Int) - 1) = ((a.length - 1 : Nat) : Int) := by rw [wrap_i64 (by omega) (by omega)]; omega
    have es := fun h => show_ok x.1 x.2.1 x.2.2 (by have := (hin x hmem).1; omega) (hin x hmem).2 h
    simp only [st5, faultB, List.replicate, List.cons_append, List.nil_append] at ih
    rw [L_round hK]
    cases hq : ((i : Int) == ((a.length - 1 : Nat) : Int)) with
    | true =>
      rw [hq] at hkx
      rcases Nat.eq_zero_or_pos i with h0 | h0
      · have g0 : ¬ (0 : Int) < i := by omega
        obtain ⟨⟨xk, xt, xn, xb⟩, xl, xc⟩ := x
        simp only [Tk.enc] at hx' hkx es ih q1 q2
        simp -implicitDefEqProofs only [B5L8, st5, faultB, dbody, dexec, ostep, dop, ev, put, wants, dbin, dun, List.replicate, Nat.reduceAdd, Nat.reduceSub, Nat.reduceLT, Nat.reduceLeDiff, Nat.reduceMul, DV.cells, DV.flat, dload, DV.elems, reduceCtorEq, mask, DV.lows, DV.low, DV.coe, DV.isD, dresults, dresult, withHeap, lowCells, LSt.isReady, srcElems, DV.int, DV.mkAgg, same, mnmx2, nilness, bound, fill, flatCells, Int.reduceLE, Int.reduceLT, Int.reduceAdd, Int.reduceSub, Int.reduceNeg, Int.reduceEq, Int.reduceBEq, Int.reduceBNe, Nat.reduceBEq, Nat.reduceEqDiff, Int.reduceToNat, allocCells, stp, la, hlt, hx', hkx, hq, w1, w2, es, q1, q2, g0, ih, putCells]
      · have g0 : (0 : Int) < i := by omega
        have w3 : IntKind.i64.wrap ((i : Int) - 1) = ((i - 1 : Nat) : Int) := by rw [wrap_i64 (by omega) (by omega)]; omega
        have hp : a[i - 1]? = some a[i - 1] := List.getElem?_eq_getElem _
        generalize a[i - 1] = y at *
        have hp' : (encT a)[i - 1]? = some (y.1.enc y.2.1 y.2.2) := by simp [encT, hp]
        have hle := hu (i - 1) y x hp (by rw [show i - 1 + 1 = i by omega]; exact hx)
        obtain ⟨⟨xk, xt, xn, xb⟩, xl, xc⟩ := x
        obtain ⟨⟨yk, yt, yn, yb⟩, yl, yc⟩ := y
        simp only [Tk.enc, le2] at hx' hp' hkx es ih hle q1 q2
        have c1 : ¬ xl < yl := by omega
        cases c2 : xl == yl with
        | true =>
          have c3 : ¬ xc < yc := by
            have := eq_of_beq c2
            omega
          simp -implicitDefEqProofs only [B5L8, st5, faultB, dbody, dexec, ostep, dop, ev, put, wants, dbin, dun, List.replicate, Nat.reduceAdd, Nat.reduceSub, Nat.reduceLT, Nat.reduceLeDiff, Nat.reduceMul, DV.cells, DV.flat, dload, DV.elems, reduceCtorEq, mask, DV.lows, DV.low, DV.coe, DV.isD, dresults, dresult, withHeap, lowCells, LSt.isReady, srcElems, DV.int, DV.mkAgg, same, mnmx2, nilness, bound, fill, flatCells, Int.reduceLE, Int.reduceLT, Int.reduceAdd, Int.reduceSub, Int.reduceNeg, Int.reduceEq, Int.reduceBEq, Int.reduceBNe, Nat.reduceBEq, Nat.reduceEqDiff, Int.reduceToNat, allocCells, stp, la, hlt, hx', hp', hkx, hq, w1, w2, w3, es, q1, q2, g0, c1, c2, c3, ih, putCells]
        | false =>
          simp -implicitDefEqProofs only [B5L8, st5, faultB, dbody, dexec, ostep, dop, ev, put, wants, dbin, dun, List.replicate, Nat.reduceAdd, Nat.reduceSub, Nat.reduceLT, Nat.reduceLeDiff, Nat.reduceMul, DV.cells, DV.flat, dload, DV.elems, reduceCtorEq, mask, DV.lows, DV.low, DV.coe, DV.isD, dresults, dresult, withHeap, lowCells, LSt.isReady, srcElems, DV.int, DV.mkAgg, same, mnmx2, nilness, bound, fill, flatCells, Int.reduceLE, Int.reduceLT, Int.reduceAdd, Int.reduceSub, Int.reduceNeg, Int.reduceEq, Int.reduceBEq, Int.reduceBNe, Nat.reduceBEq, Nat.reduceEqDiff, Int.reduceToNat, allocCells, stp, la, hlt, hx', hp', hkx, hq, w1, w2, w3, es, q1, q2, g0, c1, c2, ih, putCells]
    | false =>
      rw [hq] at hkx
      rcases Nat.eq_zero_or_pos i with h0 | h0
      · have g0 : ¬ (0 : Int) < i := by omega
        obtain ⟨⟨xk, xt, xn, xb⟩, xl, xc⟩ := x
        simp only [Tk.enc] at hx' hkx es ih q1 q2
        simp -implicitDefEqProofs only [B5L8, st5, faultB, dbody, dexec, ostep, dop, ev, put, wants, dbin, dun, List.replicate, Nat.reduceAdd, Nat.reduceSub, Nat.reduceLT, Nat.reduceLeDiff, Nat.reduceMul, DV.cells, DV.flat, dload, DV.elems, reduceCtorEq, mask, DV.lows, DV.low, DV.coe, DV.isD, dresults, dresult, withHeap, lowCells, LSt.isReady, srcElems, DV.int, DV.mkAgg, same, mnmx2, nilness, bound, fill, flatCells, Int.reduceLE, Int.reduceLT, Int.reduceAdd, Int.reduceSub, Int.reduceNeg, Int.reduceEq, Int.reduceBEq, Int.reduceBNe, Nat.reduceBEq, Nat.reduceEqDiff, Int.reduceToNat, allocCells, stp, la, hlt, hx', hkx, hq, w1, w2, es, q1, q2, g0, ih, putCells]
      · have g0 : (0 : Int) < i := by omega
        have w3 : IntKind.i64.wrap ((i : Int) - 1) = ((i - 1 : Nat) : Int) := by rw [wrap_i64 (by omega) (by omega)]; omega
        have hp : a[i - 1]? = some a[i - 1] := List.getElem?_eq_getElem _
        generalize a[i - 1] = y at *
        have hp' : (encT a)[i - 1]? = some (y.1.enc y.2.1 y.2.2) := by simp [encT, hp]
        have hle := hu (i - 1) y x hp (by rw [show i - 1 + 1 = i by omega]; exact hx)
        obtain ⟨⟨xk, xt, xn, xb⟩, xl, xc⟩ := x
        obtain ⟨⟨yk, yt, yn, yb⟩, yl, yc⟩ := y
        simp only [Tk.enc, le2] at hx' hp' hkx es ih hle q1 q2
        have c1 : ¬ xl < yl := by omega
        cases c2 : xl == yl with
        | true =>
          have c3 : ¬ xc < yc := by
            have := eq_of_beq c2
            omega
          simp -implicitDefEqProofs only [B5L8, st5, faultB, dbody, dexec, ostep, dop, ev, put, wants, dbin, dun, List.replicate, Nat.reduceAdd, Nat.reduceSub, Nat.reduceLT, Nat.reduceLeDiff, Nat.reduceMul, DV.cells, DV.flat, dload, DV.elems, reduceCtorEq, mask, DV.lows, DV.low, DV.coe, DV.isD, dresults, dresult, withHeap, lowCells, LSt.isReady, srcElems, DV.int, DV.mkAgg, same, mnmx2, nilness, bound, fill, flatCells, Int.reduceLE, Int.reduceLT, Int.reduceAdd, Int.reduceSub, Int.reduceNeg, Int.reduceEq, Int.reduceBEq, Int.reduceBNe, Nat.reduceBEq, Nat.reduceEqDiff, Int.reduceToNat, allocCells, stp, la, hlt, hx', hp', hkx, hq, w1, w2, w3, es, q1, q2, g0, c1, c2, c3, ih, putCells]
        | false =>
          simp -implicitDefEqProofs only [B5L8, st5, faultB, dbody, dexec, ostep, dop, ev, put, wants, dbin, dun, List.replicate, Nat.reduceAdd, Nat.reduceSub, Nat.reduceLT, Nat.reduceLeDiff, Nat.reduceMul, DV.cells, DV.flat, dload, DV.elems, reduceCtorEq, mask, DV.lows, DV.low, DV.coe, DV.isD, dresults, dresult, withHeap, lowCells, LSt.isReady, srcElems, DV.int, DV.mkAgg, same, mnmx2, nilness, bound, fill, flatCells, Int.reduceLE, Int.reduceLT, Int.reduceAdd, Int.reduceSub, Int.reduceNeg, Int.reduceEq, Int.reduceBEq, Int.reduceBNe, Nat.reduceBEq, Nat.reduceEqDiff, Int.reduceToNat, allocCells, stp, la, hlt, hx', hp', hkx, hq, w1, w2, w3, es, q1, q2, g0, c1, c2, ih, putCells]

/-! ### The text of the tokens -/
theorem showAll_enc (W : Tk → List Int) : ∀ (ts : List (Tk × Int × Int)) (t : ByteArray) (l : List Int) (el ec : Int), (∀ x ∈ ts, (showV x.1).data.toList = encLs (W x.1)) → t.data.toList = encLs l →
    (showAll t (ts ++ [(endK, el, ec)])).data.toList = encLs (l ++ shownL W (ts.map Prod.fst)) := by
  have hb : (⟨#[32]⟩ : ByteArray).data.toList = encLs [32] := by rfl
  have he : (showV endK).data.toList = encLs [] := by rfl
  intro ts
  induction ts with
  | nil =>
    intro t l el ec _ ht
    simp only [List.nil_append, showAll, List.foldl_cons, List.foldl_nil, List.map_nil, shownL, List.flatMap_nil]
    rw [app_toList, app_toList, ht, he, hb, encLs_app]
    rfl
  | cons x ts ih =>
    intro t l el ec hW ht
    have h1 := ih (t ++ (showV x.1 ++ ⟨#[32]⟩)) (l ++ (W x.1 ++ [32])) el ec (fun y hy => hW y (List.mem_cons_of_mem _ hy)) (by
      rw [app_toList, app_toList, ht, hW x List.mem_cons_self, hb, encLs_app, encLs_app])
    rw [show showAll t (x :: ts ++ [(endK, el, ec)]) = showAll (t ++ (showV x.1 ++ ⟨#[32]⟩)) (ts ++ [(endK, el, ec)]) from rfl, h1]
    congr 1
    simp only [shownL, List.map_cons, List.flatMap_cons, List.append_assoc]
theorem showAll_size (a : List (Tk × Int × Int)) (t : ByteArray) : (showAll t a).size = t.size + shSize (a.map Prod.fst) := by
  have z1 : (⟨#[32]⟩ : ByteArray).size = 1 := rfl
  induction a generalizing t with
  | nil => rfl
  | cons x a ih =>
    rw [show showAll t (x :: a) = showAll (t ++ (showV x.1 ++ ⟨#[32]⟩)) a from rfl, ih, ByteArray.size_append, ByteArray.size_append, z1]
    simp only [shSize, List.map_cons, List.sum_cons]
    omega

set_option maxHeartbeats 1000000 in
theorem lexback_ok (s : ByteArray) (h : List Res) : D env 5 [.d (.str s)] h = some (.val (.d (.bool true)) h) := by
  rw [D_dat (F := A5) rfl rfl rfl rfl]
  have e12 := fun h => awake_ok h
  by_cases hs : s.size ≤ 800
  · have g1 : ¬ (800 : Int) < s.size := by omega
    have e13 := fun h => lex_ok s h
    rw [lexV_P] at e13
    rcases lexP_cases s with ⟨h1, h2⟩ | ⟨ws, ts, el, ec, h0, hsc, hB, hT, hlen, hP, hup⟩
    · rw [h1] at e13
      have f1 : ((lexP s).2.1 != 0) = true := by simp [h2]
      have n0 : encT [] = [] := rfl
      rw [n0] at e13
      generalize (lexP s).2.1 = e0 at *
      generalize (lexP s).2.2.1 = e1 at *
      generalize (lexP s).2.2.2 = e2 at *
      simp -implicitDefEqProofs only [A5, B5, dbody, dexec, ostep, dop, ev, put, wants, dbin, dun, List.replicate, Nat.reduceAdd, Nat.reduceSub, Nat.reduceLT, Nat.reduceLeDiff, Nat.reduceMul, DV.cells, DV.flat, dload, DV.elems, reduceCtorEq, mask, DV.lows, DV.low, DV.coe, DV.isD, dresults, dresult, withHeap, lowCells, LSt.isReady, srcElems, DV.int, DV.mkAgg, same, mnmx2, nilness, bound, fill, flatCells, Int.reduceLE, Int.reduceLT, Int.reduceAdd, Int.reduceSub, Int.reduceNeg, Int.reduceEq, Int.reduceBEq, Int.reduceBNe, Nat.reduceBEq, Nat.reduceEqDiff, Int.reduceToNat, allocCells, stp, g1, e12, e13, f1, putCells]
    · rw [hP] at e13
      simp only at e13
      -- the tokens
      have htk : ∀ x ∈ ts, ∃ l m, Sc l ∧ l ≠ [] ∧ tokI l = .ok (x.1, m) := fun x hx => by
        have h1 : (lexI (ws.length + 1) (skI false ws) 0).1 = ts.map Prod.fst := by
          have := congrArg Prod.fst hT
          exact this
        exact lexI_toks (ws.length + 1) (skI false ws) 0 (sc_sk hsc false) x.1 (by rw [h1]; exact List.mem_map_of_mem hx)
      have hw : ∀ x : Tk, ∃ w, (∃ l m, Sc l ∧ l ≠ [] ∧ tokI l = .ok (x, m)) → BackW x w ∧ x.kind ≠ 0 := fun x => by
        by_cases hx : ∃ l m, Sc l ∧ l ≠ [] ∧ tokI l = .ok (x, m)
        · obtain ⟨l, m, h1, h2, h3⟩ := hx
          obtain ⟨w, hw⟩ := back_of h1 h2 h3
          exact ⟨w, fun _ => hw⟩
        · exact ⟨[], fun h => absurd h hx⟩
      let W : Tk → List Int := fun x => Classical.choose (hw x)
      have hW : ∀ x : Tk, (∃ l m, Sc l ∧ l ≠ [] ∧ tokI l = .ok (x, m)) → BackW x (W x) ∧ x.kind ≠ 0 := fun x => Classical.choose_spec (hw x)
      generalize W = W at hW
      -- the text
      have hbytes := showAll_enc W ts ⟨#[]⟩ [] el ec (fun x hx => ((hW x.1 (htk x hx)).1).enc) rfl
      rw [List.nil_append] at hbytes
      have hsize := showAll_size (ts ++ [(endK, el, ec)]) ⟨#[]⟩
      have hsz2 : shSize ((ts ++ [(endK, el, ec)]).map Prod.fst) ≤ 4001 := by
        have h1 := lexI_size (ws.length + 1) (skI false ws) 0
        have h2 : (lexI (ws.length + 1) (skI false ws) 0).1 = ts.map Prod.fst := congrArg Prod.fst hT
        obtain ⟨k, hk⟩ := skI_suffix false ws
        have h3 := encLs_drop ws k
        rw [h2, hk] at h1
        have h4 : s.data.toList.length = s.size := Array.length_toList
        rw [hB] at h4
        have h5 : (showV endK).size = 0 := by rfl
        rw [List.map_append]
        unfold shSize at h1 ⊢
        rw [List.map_append, List.sum_append]
        simp only [List.map_cons, List.map_nil, List.sum_cons, List.sum_nil, h5]
        omega
      have z0 : (⟨#[]⟩ : ByteArray).size = 0 := rfl
      -- the loop
      have hall : (ts ++ [(endK, el, ec)]).length = ts.length + 1 := by simp
      have hlo := loop5 (ts ++ [(endK, el, ec)]) (by omega) (fun i x hx => by
          rcases Nat.lt_or_ge i ts.length with hi | hi
          · rw [List.getElem?_append_left hi] at hx
            have hk := (hW x.1 (htk x (List.mem_of_getElem? hx))).2
            have f1 : (x.1.kind == 0) = false := by simp [hk]
            have f2 : ((i : Int) == (((ts ++ [(endK, el, ec)]).length - 1 : Nat) : Int)) = false := by
              rw [hall]
              simp
              omega
            rw [f1, f2]
          · rw [List.getElem?_append_right hi] at hx
            have hi2 : i - ts.length < 1 := by
              have := (List.getElem?_eq_some_iff.1 hx).1
              simpa using this
            have hi3 : i = ts.length := by omega
            subst hi3
            simp only [Nat.sub_self, List.getElem?_cons_zero, Option.some.injEq] at hx
            subst hx
            rw [hall]
            simp [endK])
        (fun i x y hx hy => up_at _ _ hup i x.2 y.2 (by rw [List.getElem?_map, hx]; rfl) (by rw [List.getElem?_map, hy]; rfl))
        (fun x hx => by
          rcases List.mem_append.1 hx with h | h
          · obtain ⟨l, m, _, _, h3⟩ := htk x h
            exact tok_in h3
          · simp only [List.mem_singleton] at h
            subst h
            exact ⟨show (⟨#[]⟩ : ByteArray).size ≤ 64 by decide, show (0 : Int) ≤ 9223372036854775807 by decide⟩)
        (ts ++ [(endK, el, ec)]).length 0 ⟨#[]⟩ (by omega) (by rw [List.drop_zero]; omega)
      rw [List.drop_zero] at hlo
      have hscT : Sc (shownL W (ts.map Prod.fst)) := fun w hw => by
        unfold shownL at hw
        rcases List.mem_append.1 hw with h | h
        · obtain ⟨x, hx, h⟩ := List.mem_flatMap.1 h
          obtain ⟨y, hy, rfl⟩ := List.mem_map.1 hx
          rcases List.mem_append.1 h with h | h
          · exact ((hW y.1 (htk y hy)).1).sc w h
          · simp only [List.mem_singleton] at h
            subst h
            decide
        · simp only [List.mem_singleton] at h
          subst h
          decide
      have hTT : lexT (shownL W (ts.map Prod.fst)) = (ts.map Prod.fst, none) := lexI_shown W (ts.map Prod.fst) _ 0 (fun x hx => by
        obtain ⟨y, hy, rfl⟩ := List.mem_map.1 hx
        exact (hW y.1 (htk y hy)).1) (by omega) (by rw [List.length_map]; omega)
      generalize hu : showAll ⟨#[]⟩ (ts ++ [(endK, el, ec)]) = u at *
      have hP2 := lexP_T (s := u) (by omega) hscT hbytes
      rw [hTT] at hP2
      simp only [List.length_map] at hP2
      rw [if_neg (by omega)] at hP2
      have e13b := fun h => lex_ok u h
      rw [lexV_P, hP2.2] at e13b
      have hsame := sameT_fst (ts ++ [(endK, el, ec)]) (lexP u).1 (by rw [hP2.1, List.map_append]; rfl)
      have e15 := fun h => same_ok (ts ++ [(endK, el, ec)]) (lexP u).1 false (by omega) h
      rw [hsame] at e15
      have hel : (encT (ts ++ [(endK, el, ec)])).length = ts.length + 1 := by simp [encT]
      have f0 : ((ts.length + 1 : Nat) : Int) > 0 := by omega
      have ze : ((0 : Nat) : Int) = 0 := rfl
      simp only [st5, ex5, faultB, List.replicate, List.cons_append, List.nil_append, hall, ze] at hlo
      generalize encT (ts ++ [(endK, el, ec)]) = A at *
      generalize encT (lexP u).1 = B at *
      generalize (lexP u).2.2.1 = e1 at *
      generalize (lexP u).2.2.2 = e2 at *
      simp -implicitDefEqProofs only [A5, B5, dbody, dexec, ostep, dop, ev, put, wants, dbin, dun, List.replicate, Nat.reduceAdd, Nat.reduceSub, Nat.reduceLT, Nat.reduceLeDiff, Nat.reduceMul, DV.cells, DV.flat, dload, DV.elems, reduceCtorEq, mask, DV.lows, DV.low, DV.coe, DV.isD, dresults, dresult, withHeap, lowCells, LSt.isReady, srcElems, DV.int, DV.mkAgg, same, mnmx2, nilness, bound, fill, flatCells, Int.reduceLE, Int.reduceLT, Int.reduceAdd, Int.reduceSub, Int.reduceNeg, Int.reduceEq, Int.reduceBEq, Int.reduceBNe, Nat.reduceBEq, Nat.reduceEqDiff, Int.reduceToNat, allocCells, stp, g1, e12, e13, e13b, e15, hel, hlo, f0, putCells]
  · have g1 : (800 : Int) < s.size := by omega
    simp -implicitDefEqProofs only [A5, B5, dbody, dexec, ostep, dop, ev, put, wants, dbin, dun, List.replicate, Nat.reduceAdd, Nat.reduceSub, Nat.reduceLT, Nat.reduceLeDiff, Nat.reduceMul, DV.cells, DV.flat, dload, DV.elems, reduceCtorEq, mask, DV.lows, DV.low, DV.coe, DV.isD, dresults, dresult, withHeap, lowCells, LSt.isReady, srcElems, DV.int, DV.mkAgg, same, mnmx2, nilness, bound, fill, flatCells, Int.reduceLE, Int.reduceLT, Int.reduceAdd, Int.reduceSub, Int.reduceNeg, Int.reduceEq, Int.reduceBEq, Int.reduceBNe, Nat.reduceBEq, Nat.reduceEqDiff, Int.reduceToNat, allocCells, stp, g1, e12]
end Go.Proofs.YtoadpaaghjomnaaDoor.Codes
