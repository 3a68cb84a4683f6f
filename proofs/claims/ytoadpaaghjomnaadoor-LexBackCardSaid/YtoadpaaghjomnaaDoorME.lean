/-
  The iterator that takes runes of a class.
  Ranges over the iterator; blanks and remarks are passed over.
  Blanks and remarks are passed over.
  Conditions: none.
-/
import Derived.Test.YtoadpaaghjomnaaDoorMD
set_option linter.unusedVariables false
set_option linter.unusedSimpArgs false
set_option maxRecDepth 100000
namespace Go.Proofs.YtoadpaaghjomnaaDoor.Codes
open Go Go.Deepv

theorem take_app1' (h : List Res) (x : Res) : (h ++ [x]).take (h.length + 1) = h ++ [x] := by rw [List.take_of_length_le (by simp)]
theorem take_app2' (h : List Res) (x y : Res) : (h ++ [x, y]).take (h.length + 2) = h ++ [x, y] := by rw [List.take_of_length_le (by simp)]
/-- take -/
theorem take_ok {id : Nat} {h : List Res} (hid : id < h.length) (cf : Nat) : D env 59 [.ptr id 0, .d (.func (.func cf) [] [])] h = some (.val (.clo (.func 83) [] [.ptr h.length 0, .ptr (h.length + 1) 0]) (h ++ [.box [.ptr id 0], .box [.d (.func (.func cf) [] [])]])) := by
  rw [D_own (F := A59) rfl rfl rfl rfl]
  have hl2 : h.length < h.length + 2 := by omega
  simp -implicitDefEqProofs only [A59, B59, dbody, dexec, ostep, dop, ev, put, wants, dbin, dun, List.replicate, Nat.reduceAdd, Nat.reduceSub, Nat.reduceLT, Nat.reduceLeDiff, Nat.reduceMul, DV.cells, DV.flat, dload, DV.elems, reduceCtorEq, mask, DV.lows, DV.low, DV.coe, DV.isD, dresults, dresult, withHeap, lowCells, LSt.isReady, srcElems, DV.int, DV.mkAgg, same, mnmx2, nilness, bound, fill, flatCells, Int.reduceLE, Int.reduceLT, Int.reduceAdd, Int.reduceSub, Int.reduceNeg, Int.reduceEq, Int.reduceBEq, Int.reduceBNe, Nat.reduceBEq, Nat.reduceEqDiff, Int.reduceToNat, allocCells, stp, hid, take_app1', take_app2', Nat.lt_add_one, hl2]

def st83 (kk b1 b2 : Nat) : List DV := [.yld kk, .ptr b1 0, .ptr b2 0] ++ List.replicate 24 (.d .undef)
theorem loop83 {cf b1 b2 id kk N m k : Nat} {Hs : Nat → List Res} {rs : List Rn} {e l c : Int} {p : Int → Bool} (hsz : k + m + 1 ≤ 1000000000)
    (hcl : ∀ (r : Int) (t : List Res), D env cf [.d (.int .i32 r)] t = some (.val (.d (.bool (p r))) t))
    (hb1 : ∀ i, (Hs i)[b1]? = some (.box [.ptr id 0])) (hb2 : ∀ i, (Hs i)[b2]? = some (.box [.d (.func (.func cf) [] [])]))
    (hq : ∀ i, (Hs i)[id]? = some (rd rs (k + i) e l c)) (hN : ∀ i, (Hs i).length = N) (hk : kk < N) (hbN : b1 < N) (hbN2 : b2 < N)
    {x : Nat → Rn} (hx : ∀ i, i < m → rs[k + i]? = some (x i) ∧ p (x i).r = true) (hend : rs.length ≤ k + m ∨ ∃ y, rs[k + m]? = some y ∧ p y.r = false)
    (hy : ∀ i, i < m → Y env kk [.d (.int .i32 (x i).r)] ((Hs i).set id (rd rs (k + i + 1) e l c)) = some (.val (.d (.bool true)) (Hs (i + 1)))) :
    ∀ (j i : Nat), i + j = m → L env N true H83L0 X83L0 B83L0 (st83 kk b1 b2) (Hs i) = some (.exit 0, List.replicate 27 (.d .undef), Hs m) := by
  obtain ⟨K, hK⟩ : ∃ K, L env N true H83L0 X83L0 B83L0 = K := ⟨_, rfl⟩
  rw [hK]
  intro j
  induction j with
  | zero =>
    intro i hi
    have : i = m := by omega
    subst this
    have ht : (Hs i).take N = Hs i := by rw [List.take_of_length_le (by rw [hN]; omega)]
    have eo := over_ok (hq i)
    have ep := peek_ok (hq i) 0 (by omega)
    have hqi := hq i
    have b1i := hb1 i
    have b2i := hb2 i
    generalize Hs i = t at *
    rw [L_round hK]
    rcases hend with h1 | ⟨y, h1, h2⟩
    · rw [decide_eq_true h1] at eo
      simp -implicitDefEqProofs only [B83L0, st83, dbody, dexec, ostep, dop, ev, put, wants, dbin, dun, List.replicate, Nat.reduceAdd, Nat.reduceSub, Nat.reduceLT, Nat.reduceLeDiff, Nat.reduceMul, DV.cells, DV.flat, dload, DV.elems, reduceCtorEq, mask, DV.lows, DV.low, DV.coe, DV.isD, dresults, dresult, withHeap, lowCells, LSt.isReady, srcElems, DV.int, DV.mkAgg, same, mnmx2, nilness, bound, fill, flatCells, Int.reduceLE, Int.reduceLT, Int.reduceAdd, Int.reduceSub, Int.reduceNeg, Int.reduceEq, Int.reduceBEq, Int.reduceBNe, Nat.reduceBEq, Nat.reduceEqDiff, Int.reduceToNat, allocCells, stp, ht, eo, ep, b1i, b2i, hcl]
    · have h3 : ¬ rs.length ≤ k + i := by have := (List.getElem?_eq_some_iff.1 h1).1; omega
      rw [decide_eq_false h3] at eo
      have h4 : peekR rs (k + i + 0) = y.r := by simp [peekR, h1]
      rw [h4] at ep
      have hcy := hcl y.r
      rw [h2] at hcy
      have z0 : ((0 : Nat) : Int) = 0 := rfl
      rw [z0] at ep
      simp -implicitDefEqProofs only [B83L0, st83, dbody, dexec, ostep, dop, ev, put, wants, dbin, dun, List.replicate, Nat.reduceAdd, Nat.reduceSub, Nat.reduceLT, Nat.reduceLeDiff, Nat.reduceMul, DV.cells, DV.flat, dload, DV.elems, reduceCtorEq, mask, DV.lows, DV.low, DV.coe, DV.isD, dresults, dresult, withHeap, lowCells, LSt.isReady, srcElems, DV.int, DV.mkAgg, same, mnmx2, nilness, bound, fill, flatCells, Int.reduceLE, Int.reduceLT, Int.reduceAdd, Int.reduceSub, Int.reduceNeg, Int.reduceEq, Int.reduceBEq, Int.reduceBNe, Nat.reduceBEq, Nat.reduceEqDiff, Int.reduceToNat, allocCells, stp, ht, eo, ep, b1i, b2i, hcy]
  | succ j ih =>
    intro i hi
    have hi' : i < m := by omega
    obtain ⟨h1, h2⟩ := hx i hi'
    have eo := over_ok (hq i)
    have ep := peek_ok (hq i) 0 (by omega)
    have h3 : ¬ rs.length ≤ k + i := by have := (List.getElem?_eq_some_iff.1 h1).1; omega
    rw [decide_eq_false h3] at eo
    have h4 : peekR rs (k + i + 0) = (x i).r := by simp [peekR, h1]
    rw [h4] at ep
    have z0 : ((0 : Nat) : Int) = 0 := rfl
    rw [z0] at ep
    have hcy := hcl (x i).r
    rw [h2] at hcy
    have hqi := hq i
    have b1i := hb1 i
    have b2i := hb2 i
    have hyi := hy i hi'
    have ht : (Hs (i + 1)).take N = Hs (i + 1) := by rw [List.take_of_length_le (by rw [hN]; omega)]
    have w1 : IntKind.i64.wrap (((k + i : Nat) : Int) + 1) = ((k + i + 1 : Nat) : Int) := by rw [wrap_i64 (by omega) (by omega)]; omega
    have h5 := ih (i + 1) (by omega)
    simp only [st83, List.replicate, List.cons_append, List.nil_append] at h5
    generalize (x i).r = r at *
    generalize Hs i = t at *
    simp only [rd] at hqi hyi
    rw [L_round hK]
    simp -implicitDefEqProofs only [B83L0, st83, dbody, dexec, ostep, dop, ev, put, wants, dbin, dun, List.replicate, Nat.reduceAdd, Nat.reduceSub, Nat.reduceLT, Nat.reduceLeDiff, Nat.reduceMul, DV.cells, DV.flat, dload, DV.elems, reduceCtorEq, mask, DV.lows, DV.low, DV.coe, DV.isD, dresults, dresult, withHeap, lowCells, LSt.isReady, srcElems, DV.int, DV.mkAgg, same, mnmx2, nilness, bound, fill, flatCells, Int.reduceLE, Int.reduceLT, Int.reduceAdd, Int.reduceSub, Int.reduceNeg, Int.reduceEq, Int.reduceBEq, Int.reduceBNe, Nat.reduceBEq, Nat.reduceEqDiff, Int.reduceToNat, allocCells, stp, ht, eo, ep, b1i, b2i, hcy, hqi, w1, putCells, hyi, hk, hbN, hbN2, h5]

theorem iter83_ok {cf b1 b2 id kk N m k : Nat} {Hs : Nat → List Res} {rs : List Rn} {e l c : Int} {p : Int → Bool} (hsz : k + m + 1 ≤ 1000000000)
    (hcl : ∀ (r : Int) (t : List Res), D env cf [.d (.int .i32 r)] t = some (.val (.d (.bool (p r))) t))
    (hb1 : ∀ i, (Hs i)[b1]? = some (.box [.ptr id 0])) (hb2 : ∀ i, (Hs i)[b2]? = some (.box [.d (.func (.func cf) [] [])]))
    (hq : ∀ i, (Hs i)[id]? = some (rd rs (k + i) e l c)) (hN : ∀ i, (Hs i).length = N) (hk : kk < N) (hbN : b1 < N) (hbN2 : b2 < N)
    {x : Nat → Rn} (hx : ∀ i, i < m → rs[k + i]? = some (x i) ∧ p (x i).r = true) (hend : rs.length ≤ k + m ∨ ∃ y, rs[k + m]? = some y ∧ p y.r = false)
    (hy : ∀ i, i < m → Y env kk [.d (.int .i32 (x i).r)] ((Hs i).set id (rd rs (k + i + 1) e l c)) = some (.val (.d (.bool true)) (Hs (i + 1)))) :
    D env 83 [.yld kk, .ptr b1 0, .ptr b2 0] (Hs 0) = some (.val (.d (.tup [])) (Hs m)) := by
  have key := loop83 hsz hcl hb1 hb2 hq hN hk hbN hbN2 hx hend hy m 0 (by omega)
  have ht : (Hs m).take (Hs 0).length = Hs m := by rw [List.take_of_length_le (by rw [hN, hN]; omega)]
  rw [← hN 0] at key
  rw [D_own (F := A83) rfl rfl rfl rfl]
  simp only [st83, List.replicate, List.cons_append, List.nil_append] at key
  simp -implicitDefEqProofs only [A83, B83, dbody, dexec, ostep, dop, ev, put, wants, dbin, dun, List.replicate, Nat.reduceAdd, Nat.reduceSub, Nat.reduceLT, Nat.reduceLeDiff, Nat.reduceMul, DV.cells, DV.flat, dload, DV.elems, reduceCtorEq, mask, DV.lows, DV.low, DV.coe, DV.isD, dresults, dresult, withHeap, lowCells, LSt.isReady, srcElems, DV.int, DV.mkAgg, same, mnmx2, nilness, bound, fill, flatCells, Int.reduceLE, Int.reduceLT, Int.reduceAdd, Int.reduceSub, Int.reduceNeg, Int.reduceEq, Int.reduceBEq, Int.reduceBNe, Nat.reduceBEq, Nat.reduceEqDiff, Int.reduceToNat, allocCells, stp, key, ht]
end Go.Proofs.YtoadpaaghjomnaaDoor.Codes

set_option linter.unusedVariables false
set_option linter.unusedSimpArgs false
set_option maxRecDepth 100000
namespace Go.Proofs.YtoadpaaghjomnaaDoor.Codes
open Go Go.Deepv

theorem app_lt {h l : List Res} {id : Nat} (hlt : id < h.length) : (h ++ l)[id]? = h[id]? := List.getElem?_append_left hlt
theorem app_at (h l : List Res) (i : Nat) : (h ++ l)[h.length + i]? = l[i]? := by rw [List.getElem?_append_right (by omega)]; congr 1; omega
theorem app_at0 (h l : List Res) : (h ++ l)[h.length]? = l[0]? := app_at h l 0
theorem app_set_lt {h l : List Res} {id : Nat} (hlt : id < h.length) (x : Res) : (h ++ l).set id x = h.set id x ++ l := List.set_append_left id x hlt
theorem app_set (h l : List Res) (i : Nat) (x : Res) : (h ++ l).set (h.length + i) x = h ++ l.set i x := by rw [List.set_append_right _ _ (by omega)]; congr 2; omega
theorem app_set0 (h l : List Res) (x : Res) : (h ++ l).set h.length x = h ++ l.set 0 x := app_set h l 0 x
theorem take_appk (h l : List Res) (k : Nat) : (h ++ l).take (h.length + k) = h ++ l.take k := by rw [List.take_append, List.take_of_length_le (by omega)]; congr 2; omega
theorem take_app0 (h l : List Res) : (h ++ l).take h.length = h := by simp
theorem get_set {h : List Res} {id : Nat} (hlt : id < h.length) (x : Res) : (h.set id x)[id]? = some x := by simp [hlt]
theorem take_set (h : List Res) (id : Nat) (x : Res) : (h.set id x).take h.length = h.set id x := by rw [List.take_of_length_le (by simp)]
theorem set_self {h : List Res} {id : Nat} {x : Res} (hq : h[id]? = some x) : h.set id x = h := by
  apply List.ext_getElem?
  intro i
  rw [List.getElem?_set]
  split
  · rename_i he
    subst he
    have := (List.getElem?_eq_some_iff.1 hq).1
    rw [if_pos this, hq]
  · rfl

theorem rtake {cf id n0 k m : Nat} {Ts : Nat → List Res} {rs : List Rn} {e l c : Int} {p : Int → Bool} {LP : Res} (hsz : k + m + 1 ≤ 1000000000)
    (hcl : ∀ (r : Int) (t : List Res), D env cf [.d (.int .i32 r)] t = some (.val (.d (.bool (p r))) t))
    (hq : ∀ i, (Ts i)[id]? = some (rd rs (k + i) e l c)) (hN : ∀ i, (Ts i).length = n0)
    {x : Nat → Rn} (hx : ∀ i, i < m → rs[k + i]? = some (x i) ∧ p (x i).r = true) (hend : rs.length ≤ k + m ∨ ∃ y, rs[k + m]? = some y ∧ p y.r = false)
    (hy : ∀ i, i < m → Y env (n0 + 2) [.d (.int .i32 (x i).r)] ((Ts i).set id (rd rs (k + i + 1) e l c) ++ [.box [.ptr id 0], .box [.d (.func (.func cf) [] [])], LP]) = some (.val (.d (.bool true)) (Ts (i + 1) ++ [.box [.ptr id 0], .box [.d (.func (.func cf) [] [])], LP]))) :
    D env 83 [.yld (n0 + 2), .ptr n0 0, .ptr (n0 + 1) 0] (Ts 0 ++ [.box [.ptr id 0], .box [.d (.func (.func cf) [] [])], LP]) = some (.val (.d (.tup [])) (Ts m ++ [.box [.ptr id 0], .box [.d (.func (.func cf) [] [])], LP])) := by
  have hid : ∀ i, id < (Ts i).length := fun i => (List.getElem?_eq_some_iff.1 (hq i)).1
  refine iter83_ok (id := id) (e := e) (l := l) (c := c) (rs := rs) (k := k) (N := n0 + 3) (Hs := fun i => Ts i ++ [.box [.ptr id 0], .box [.d (.func (.func cf) [] [])], LP]) hsz hcl (fun i => ?_) (fun i => ?_) (fun i => ?_) (fun i => ?_) (by omega) (by omega) (by omega) hx hend (fun i hi => ?_)
  · have := app_at0 (Ts i) [.box [.ptr id 0], .box [.d (.func (.func cf) [] [])], LP]
    rw [hN i] at this
    exact this
  · have := app_at (Ts i) [.box [.ptr id 0], .box [.d (.func (.func cf) [] [])], LP] 1
    rw [hN i] at this
    exact this
  · rw [app_lt (hid i)]
    exact hq i
  · simp [hN i]
  · rw [app_set_lt (hid i)]
    exact hy i hi

/-- How many runes of a class there are from a place on. -/
def cnt (p : Int → Bool) : List Rn → Nat
  | [] => 0
  | x :: t => if p x.r then cnt p t + 1 else 0
theorem cnt_le (p : Int → Bool) (l : List Rn) : cnt p l ≤ l.length := by
  induction l with
  | nil => simp [cnt]
  | cons x t ih => simp only [cnt, List.length_cons]; split <;> omega
theorem cnt_at (p : Int → Bool) : ∀ (l : List Rn) (i : Nat), i < cnt p l → ∃ x, l[i]? = some x ∧ p x.r = true := by
  intro l
  induction l with
  | nil => intro i h; simp [cnt] at h
  | cons x t ih =>
    intro i h
    simp only [cnt] at h
    split at h
    · rename_i hp
      match i, h with
      | 0, _ => exact ⟨x, rfl, hp⟩
      | i + 1, h => exact ih i (by omega)
    · omega
theorem cnt_end (p : Int → Bool) : ∀ (l : List Rn), l.length ≤ cnt p l ∨ ∃ y, l[cnt p l]? = some y ∧ p y.r = false := by
  intro l
  induction l with
  | nil => left; simp
  | cons x t ih =>
    simp only [cnt]
    cases hp : p x.r with
    | true =>
      simp only [if_true, List.length_cons, List.getElem?_cons_succ]
      rcases ih with h | h
      · left; omega
      · exact .inr h
    | false =>
      right
      simp [hp]
/-- What rtake needs to know of a class and a place. -/
theorem cnt_drop (p : Int → Bool) (rs : List Rn) (k : Nat) : (∀ i, i < cnt p (rs.drop k) → rs[k + i]? = some (rs.getD (k + i) ⟨0, 0, 0, 0⟩) ∧ p (rs.getD (k + i) ⟨0, 0, 0, 0⟩).r = true) ∧
    (rs.length ≤ k + cnt p (rs.drop k) ∨ ∃ y, rs[k + cnt p (rs.drop k)]? = some y ∧ p y.r = false) := by
  refine ⟨fun i hi => ?_, ?_⟩
  · obtain ⟨x, h1, h2⟩ := cnt_at p _ i hi
    rw [List.getElem?_drop] at h1
    rw [List.getD_eq_getElem?_getD, h1]
    exact ⟨rfl, h2⟩
  · rcases cnt_end p (rs.drop k) with h | ⟨y, h1, h2⟩
    · left
      rw [List.length_drop] at h
      omega
    · right
      rw [List.getElem?_drop] at h1
      exact ⟨y, h1, h2⟩

def notNl (r : Int) : Bool := !decide (r = 10)
theorem notnl_ok (r : Int) (h : List Res) : D env 62 [.d (.int .i32 r)] h = some (.val (.d (.bool (notNl r))) h) := by
  rw [D_dat (F := A62) rfl rfl rfl rfl]
  unfold notNl
  by_cases h1 : r = 10
  · subst h1
    simp -implicitDefEqProofs only [A62, B62, dbody, dexec, ostep, dop, ev, put, wants, dbin, dun, List.replicate, Nat.reduceAdd, Nat.reduceSub, Nat.reduceLT, Nat.reduceLeDiff, Nat.reduceMul, DV.cells, DV.flat, dload, DV.elems, reduceCtorEq, mask, DV.lows, DV.low, DV.coe, DV.isD, dresults, dresult, withHeap, lowCells, LSt.isReady, srcElems, DV.int, DV.mkAgg, same, mnmx2, nilness, bound, fill, flatCells, Int.reduceLE, Int.reduceLT, Int.reduceAdd, Int.reduceSub, Int.reduceNeg, Int.reduceEq, Int.reduceBEq, Int.reduceBNe, Nat.reduceBEq, Nat.reduceEqDiff, Int.reduceToNat, allocCells, stp]
  · have h2 : (r == 10) = false := by simpa using h1
    have h3 : (r != 10) = true := by simpa using h1
    simp -implicitDefEqProofs only [A62, B62, dbody, dexec, ostep, dop, ev, put, wants, dbin, dun, List.replicate, Nat.reduceAdd, Nat.reduceSub, Nat.reduceLT, Nat.reduceLeDiff, Nat.reduceMul, DV.cells, DV.flat, dload, DV.elems, reduceCtorEq, mask, DV.lows, DV.low, DV.coe, DV.isD, dresults, dresult, withHeap, lowCells, LSt.isReady, srcElems, DV.int, DV.mkAgg, same, mnmx2, nilness, bound, fill, flatCells, Int.reduceLE, Int.reduceLT, Int.reduceAdd, Int.reduceSub, Int.reduceNeg, Int.reduceEq, Int.reduceBEq, Int.reduceBNe, Nat.reduceBEq, Nat.reduceEqDiff, Int.reduceToNat, allocCells, stp, h1, h2, h3]

/-- What is left when blanks and remarks are passed over; true: in a remark. -/
def sk : Bool → List Rn → List Rn
  | _, [] => []
  | false, x :: t => if rBlank x.r then sk false t else if x.r = 35 then sk true t else x :: t
  | true, x :: t => if x.r = 10 then sk false t else sk true t
theorem sk_blank : ∀ l : List Rn, sk false l = sk false (l.drop (cnt rBlank l)) := by
  intro l
  induction l with
  | nil => rfl
  | cons x t ih =>
    simp only [cnt]
    cases hp : rBlank x.r with
    | true => simp only [sk, hp, if_true, List.drop_succ_cons]; exact ih
    | false => simp
theorem sk_line : ∀ l : List Rn, sk true l = sk false (l.drop (cnt notNl l)) := by
  intro l
  induction l with
  | nil => rfl
  | cons x t ih =>
    simp only [cnt, notNl]
    by_cases hp : x.r = 10
    · simp only [sk, hp, if_true, decide_true, Bool.not_true, Bool.false_eq_true, if_false, List.drop_zero]
      rw [if_pos (by decide)]
    · simp only [sk, hp, if_false, decide_false, Bool.not_false, if_true, List.drop_succ_cons]
      exact ih
end Go.Proofs.YtoadpaaghjomnaaDoor.Codes

set_option linter.unusedVariables false
set_option linter.unusedSimpArgs false
set_option maxRecDepth 100000
namespace Go.Proofs.YtoadpaaghjomnaaDoor.Codes
open Go Go.Deepv

theorem skip_round1 {t : List Res} {id : Nat} (hid : id < t.length) (cf : Nat) (r : Int) :
    Y env (t.length + 2) [.d (.int .i32 r)] (t ++ [.box [.ptr id 0], .box [.d (.func (.func cf) [] [])], .loop [4] N32R0 B32R0 (List.replicate 11 (.d .undef)) .ready]) =
      some (.val (.d (.bool true)) (t ++ [.box [.ptr id 0], .box [.d (.func (.func cf) [] [])], .loop [4] N32R0 B32R0 (List.replicate 11 (.d .undef)) .ready])) := by
  rw [Y_eq]
  simp -implicitDefEqProofs only [dyield, setAll, markLoop, endLoop, List.zip_cons_cons, List.zip_nil_right, List.foldl_cons, List.foldl_nil, N32R0, B32R0, dbody, dexec, ostep, dop, ev, put, wants, dbin, dun, List.replicate, Nat.reduceAdd, Nat.reduceSub, Nat.reduceLT, Nat.reduceLeDiff, Nat.reduceMul, DV.cells, DV.flat, dload, DV.elems, reduceCtorEq, mask, DV.lows, DV.low, DV.coe, DV.isD, dresults, dresult, withHeap, lowCells, LSt.isReady, srcElems, DV.int, DV.mkAgg, same, mnmx2, nilness, bound, fill, flatCells, Int.reduceLE, Int.reduceLT, Int.reduceAdd, Int.reduceSub, Int.reduceNeg, Int.reduceEq, Int.reduceBEq, Int.reduceBNe, Nat.reduceBEq, Nat.reduceEqDiff, Int.reduceToNat, allocCells, stp, app_at, app_set, take_appk, Nat.add_assoc]
theorem skip_round2 {t : List Res} {id : Nat} (hid : id < t.length) (cf : Nat) (r : Int) :
    Y env (t.length + 2) [.d (.int .i32 r)] (t ++ [.box [.ptr id 0], .box [.d (.func (.func cf) [] [])], .loop [10] N32R1 B32R1 (List.replicate 11 (.d .undef)) .ready]) =
      some (.val (.d (.bool true)) (t ++ [.box [.ptr id 0], .box [.d (.func (.func cf) [] [])], .loop [10] N32R1 B32R1 (List.replicate 11 (.d .undef)) .ready])) := by
  rw [Y_eq]
  simp -implicitDefEqProofs only [dyield, setAll, markLoop, endLoop, List.zip_cons_cons, List.zip_nil_right, List.foldl_cons, List.foldl_nil, N32R1, B32R1, dbody, dexec, ostep, dop, ev, put, wants, dbin, dun, List.replicate, Nat.reduceAdd, Nat.reduceSub, Nat.reduceLT, Nat.reduceLeDiff, Nat.reduceMul, DV.cells, DV.flat, dload, DV.elems, reduceCtorEq, mask, DV.lows, DV.low, DV.coe, DV.isD, dresults, dresult, withHeap, lowCells, LSt.isReady, srcElems, DV.int, DV.mkAgg, same, mnmx2, nilness, bound, fill, flatCells, Int.reduceLE, Int.reduceLT, Int.reduceAdd, Int.reduceSub, Int.reduceNeg, Int.reduceEq, Int.reduceBEq, Int.reduceBNe, Nat.reduceBEq, Nat.reduceEqDiff, Int.reduceToNat, allocCells, stp, app_at, app_set, take_appk, Nat.add_assoc]

theorem skip_take1 {t : List Res} {id : Nat} {rs : List Rn} {k : Nat} {e l c : Int} (hq : t[id]? = some (rd rs k e l c)) (hsz : rs.length ≤ 100000) (hk : k ≤ rs.length) :
    D env 83 [.yld (t.length + 2), .ptr t.length 0, .ptr (t.length + 1) 0] (t ++ [.box [.ptr id 0], .box [.d (.func (.func 60) [] [])], .loop [4] N32R0 B32R0 (List.replicate 11 (.d .undef)) .ready]) =
      some (.val (.d (.tup [])) (t.set id (rd rs (k + cnt rBlank (rs.drop k)) e l c) ++ [.box [.ptr id 0], .box [.d (.func (.func 60) [] [])], .loop [4] N32R0 B32R0 (List.replicate 11 (.d .undef)) .ready])) := by
  have hid : id < t.length := (List.getElem?_eq_some_iff.1 hq).1
  have hc := cnt_drop rBlank rs k
  have hm := cnt_le rBlank (rs.drop k)
  rw [List.length_drop] at hm
  have h0 := rtake (cf := 60) (id := id) (n0 := t.length) (k := k) (m := cnt rBlank (rs.drop k)) (Ts := fun i => t.set id (rd rs (k + i) e l c)) (LP := .loop [4] N32R0 B32R0 (List.replicate 11 (.d .undef)) .ready) (by omega) (fun r t => blank_ok r t) (fun i => get_set hid _) (fun i => List.length_set) hc.1 hc.2 (fun i hi => by
    simp only [List.set_set]
    have := skip_round1 (t := t.set id (rd rs (k + i + 1) e l c)) (id := id) (by simpa using hid) 60 (rs.getD (k + i) ⟨0, 0, 0, 0⟩).r
    rw [List.length_set] at this
    exact this)
  simp only [Nat.add_zero] at h0
  rw [set_self hq] at h0
  exact h0
theorem skip_take2 {t : List Res} {id : Nat} {rs : List Rn} {k : Nat} {e l c : Int} (hq : t[id]? = some (rd rs k e l c)) (hsz : rs.length ≤ 100000) (hk : k ≤ rs.length) :
    D env 83 [.yld (t.length + 2), .ptr t.length 0, .ptr (t.length + 1) 0] (t ++ [.box [.ptr id 0], .box [.d (.func (.func 62) [] [])], .loop [10] N32R1 B32R1 (List.replicate 11 (.d .undef)) .ready]) =
      some (.val (.d (.tup [])) (t.set id (rd rs (k + cnt notNl (rs.drop k)) e l c) ++ [.box [.ptr id 0], .box [.d (.func (.func 62) [] [])], .loop [10] N32R1 B32R1 (List.replicate 11 (.d .undef)) .ready])) := by
  have hid : id < t.length := (List.getElem?_eq_some_iff.1 hq).1
  have hc := cnt_drop notNl rs k
  have hm := cnt_le notNl (rs.drop k)
  rw [List.length_drop] at hm
  have h0 := rtake (cf := 62) (id := id) (n0 := t.length) (k := k) (m := cnt notNl (rs.drop k)) (Ts := fun i => t.set id (rd rs (k + i) e l c)) (LP := .loop [10] N32R1 B32R1 (List.replicate 11 (.d .undef)) .ready) (by omega) (fun r t => notnl_ok r t) (fun i => get_set hid _) (fun i => List.length_set) hc.1 hc.2 (fun i hi => by
    simp only [List.set_set]
    have := skip_round2 (t := t.set id (rd rs (k + i + 1) e l c)) (id := id) (by simpa using hid) 62 (rs.getD (k + i) ⟨0, 0, 0, 0⟩).r
    rw [List.length_set] at this
    exact this)
  simp only [Nat.add_zero] at h0
  rw [set_self hq] at h0
  exact h0

def st32 (id : Nat) : List DV := [.ptr id 0] ++ List.replicate 10 (.d .undef)
theorem loop32 {id N : Nat} {rs : List Rn} {e l c : Int} (hsz : rs.length ≤ 100000) :
    ∀ (n : Nat) (t : List Res) (k : Nat), t.length = N → rs.length - k < n → k ≤ rs.length → t[id]? = some (rd rs k e l c) →
      ∃ k', k ≤ k' ∧ k' ≤ rs.length ∧ rs.drop k' = sk false (rs.drop k) ∧
      L env N true H32L0 X32L0 B32L0 (st32 id) t = some (.ret, List.replicate 11 (.d .undef), t.set id (rd rs k' e l c)) := by
  obtain ⟨K, hK⟩ : ∃ K, L env N true H32L0 X32L0 B32L0 = K := ⟨_, rfl⟩
  rw [hK]
  intro n
  induction n with
  | zero => intro t k h1 h2; omega
  | succ n ih =>
    intro t k h1 h2 h3 hq
    subst h1
    have hid : id < t.length := (List.getElem?_eq_some_iff.1 hq).1
    have q1 := skip_take1 hq hsz h3
    have e1 := take_ok hid 60
    have hm := cnt_le rBlank (rs.drop k)
    rw [List.length_drop] at hm
    have hend := (cnt_drop rBlank rs k).2
    have hsk := sk_blank (rs.drop k)
    rw [List.drop_drop] at hsk
    generalize hk1 : k + cnt rBlank (rs.drop k) = k1 at *
    have hk1l : k1 ≤ rs.length := by omega
    have hq1 : ∀ L, (t.set id (rd rs k1 e l c) ++ L)[id]? = some (rd rs k1 e l c) := fun L => by rw [app_lt (by simpa using hid), get_set hid]
    have e2 := fun L => peek_ok (hq1 L) 0 (by omega)
    have z0 : ((0 : Nat) : Int) = 0 := rfl
    rw [Nat.add_zero, z0] at e2
    have ln : (t.set id (rd rs k1 e l c)).length = t.length := List.length_set
    have tk : ∀ L : List Res, (t.set id (rd rs k1 e l c) ++ L).take t.length = t.set id (rd rs k1 e l c) := fun L => by rw [← ln, take_app0]
    have tk2 : ∀ (L : List Res) (j : Nat), (t.set id (rd rs k1 e l c) ++ L).take (t.length + j) = t.set id (rd rs k1 e l c) ++ L.take j := fun L j => by rw [← ln, take_appk]
    have at2 : ∀ (L : List Res) (j : Nat), (t.set id (rd rs k1 e l c) ++ L)[t.length + j]? = L[j]? := fun L j => by rw [← ln, app_at]
    simp only [List.replicate] at q1
    by_cases h35 : peekR rs k1 = 35
    · have hlt : k1 < rs.length := by
        rcases Nat.lt_or_ge k1 rs.length with h | h
        · exact h
        · have : rs[k1]? = none := by simp [h]
          simp [peekR, this] at h35
      have hx : rs[k1]? = some rs[k1] := by simp [hlt]
      have hx35 : (rs[k1]).r = 35 := by simpa [peekR, hx] using h35
      have hdr : rs.drop k1 = rs[k1] :: rs.drop (k1 + 1) := by simp
      have hsk2 : sk false (rs.drop k1) = sk true (rs.drop k1) := by
        rw [hdr]
        have b1 : rBlank 35 = false := by decide
        simp only [sk, hx35, b1]
        simp
      have hcn : 1 ≤ cnt notNl (rs.drop k1) := by
        rw [hdr]
        have : notNl 35 = true := by decide
        simp only [cnt, hx35, this, if_true]
        omega
      have q2 := skip_take2 (hq1 [.box [.ptr id 0], .box [.d (.func (.func 60) [] [])]]) hsz hk1l
      have e3 := take_ok (id := id) (h := t.set id (rd rs k1 e l c) ++ [.box [.ptr id 0], .box [.d (.func (.func 60) [] [])]]) (by simp; omega) 62
      have hm2 := cnt_le notNl (rs.drop k1)
      rw [List.length_drop] at hm2
      have hsk3 := sk_line (rs.drop k1)
      rw [List.drop_drop] at hsk3
      generalize hk2 : k1 + cnt notNl (rs.drop k1) = k2 at *
      obtain ⟨k', g1, g2, g3, g4⟩ := ih (t.set id (rd rs k2 e l c)) k2 (by simp) (by omega) (by omega) (get_set hid _)
      refine ⟨k', by omega, g2, by rw [hsk, hsk2, hsk3, g3], ?_⟩
      rw [List.set_set] at g4
      have tk3 : ∀ L : List Res, (t.set id (rd rs k2 e l c) ++ L).take t.length = t.set id (rd rs k2 e l c) := fun L => by
        have : (t.set id (rd rs k2 e l c)).length = t.length := List.length_set
        rw [← this, take_app0]
      have at3 : ∀ (L : List Res) (j : Nat), (t.set id (rd rs k2 e l c) ++ L)[t.length + j]? = L[j]? := fun L j => by
        have : (t.set id (rd rs k2 e l c)).length = t.length := List.length_set
        rw [← this, app_at]
      have tk4 : ∀ (L : List Res) (j : Nat), (t.set id (rd rs k2 e l c) ++ L).take (t.length + j) = t.set id (rd rs k2 e l c) ++ L.take j := fun L j => by
        have : (t.set id (rd rs k2 e l c)).length = t.length := List.length_set
        rw [← this, take_appk]
      rw [app_set_lt (by simpa using hid), List.set_set] at q2
      simp only [List.replicate, List.length_append, List.length_cons, List.length_nil, ln, List.append_assoc, List.cons_append, List.nil_append, Nat.add_assoc, Nat.reduceAdd] at q2 e3
      simp only [st32, List.replicate, List.cons_append, List.nil_append] at g4
      rw [L_round hK]
      simp -implicitDefEqProofs only [B32L0, st32, dbody, dexec, ostep, dop, ev, put, wants, dbin, dun, List.replicate, Nat.reduceAdd, Nat.reduceSub, Nat.reduceLT, Nat.reduceLeDiff, Nat.reduceMul, DV.cells, DV.flat, dload, DV.elems, reduceCtorEq, mask, DV.lows, DV.low, DV.coe, DV.isD, dresults, dresult, withHeap, lowCells, LSt.isReady, srcElems, DV.int, DV.mkAgg, same, mnmx2, nilness, bound, fill, flatCells, Int.reduceLE, Int.reduceLT, Int.reduceAdd, Int.reduceSub, Int.reduceNeg, Int.reduceEq, Int.reduceBEq, Int.reduceBNe, Nat.reduceBEq, Nat.reduceEqDiff, Int.reduceToNat, allocCells, stp, e1, q1, e2, h35, e3, q2, g4, ln, tk, tk2, at2, tk3, tk4, at3, app_at, hid, Nat.add_assoc]
    · refine ⟨k1, by omega, hk1l, ?_, ?_⟩
      · rw [hsk]
        rcases hend with h | ⟨y, y1, y2⟩
        · rw [List.drop_eq_nil_of_le h]
          rfl
        · obtain ⟨hlt, hy⟩ := List.getElem?_eq_some_iff.1 y1
          have hdr : rs.drop k1 = rs[k1] :: rs.drop (k1 + 1) := by simp
          have hp : ¬ y.r = 35 := by simpa [peekR, y1] using h35
          rw [hdr, hy]
          simp [sk, y2, hp]
      · have h36 : (peekR rs k1 == 35) = false := by simpa using h35
        rw [L_round hK]
        simp -implicitDefEqProofs only [B32L0, st32, dbody, dexec, ostep, dop, ev, put, wants, dbin, dun, List.replicate, Nat.reduceAdd, Nat.reduceSub, Nat.reduceLT, Nat.reduceLeDiff, Nat.reduceMul, DV.cells, DV.flat, dload, DV.elems, reduceCtorEq, mask, DV.lows, DV.low, DV.coe, DV.isD, dresults, dresult, withHeap, lowCells, LSt.isReady, srcElems, DV.int, DV.mkAgg, same, mnmx2, nilness, bound, fill, flatCells, Int.reduceLE, Int.reduceLT, Int.reduceAdd, Int.reduceSub, Int.reduceNeg, Int.reduceEq, Int.reduceBEq, Int.reduceBNe, Nat.reduceBEq, Nat.reduceEqDiff, Int.reduceToNat, allocCells, stp, e1, q1, e2, h35, h36, ln, tk, tk2, at2, app_at, hid, Nat.add_assoc]

theorem skip_ok {id : Nat} {rs : List Rn} {e l c : Int} (hsz : rs.length ≤ 100000) {t : List Res} {k : Nat} (hk : k ≤ rs.length) (hq : t[id]? = some (rd rs k e l c)) :
    ∃ k', k ≤ k' ∧ k' ≤ rs.length ∧ rs.drop k' = sk false (rs.drop k) ∧ D env 32 [.ptr id 0] t = some (.val (.d (.tup [])) (t.set id (rd rs k' e l c))) := by
  obtain ⟨k', h1, h2, h3, h4⟩ := loop32 hsz (rs.length - k + 1) t k rfl (by omega) hk hq
  refine ⟨k', h1, h2, h3, ?_⟩
  rw [D_own (F := A32) rfl rfl rfl rfl]
  simp only [st32, List.replicate, List.cons_append, List.nil_append] at h4
  simp -implicitDefEqProofs only [A32, B32, dbody, dexec, ostep, dop, ev, put, wants, dbin, dun, List.replicate, Nat.reduceAdd, Nat.reduceSub, Nat.reduceLT, Nat.reduceLeDiff, Nat.reduceMul, DV.cells, DV.flat, dload, DV.elems, reduceCtorEq, mask, DV.lows, DV.low, DV.coe, DV.isD, dresults, dresult, withHeap, lowCells, LSt.isReady, srcElems, DV.int, DV.mkAgg, same, mnmx2, nilness, bound, fill, flatCells, Int.reduceLE, Int.reduceLT, Int.reduceAdd, Int.reduceSub, Int.reduceNeg, Int.reduceEq, Int.reduceBEq, Int.reduceBNe, Nat.reduceBEq, Nat.reduceEqDiff, Int.reduceToNat, allocCells, stp, h4, take_set]
end Go.Proofs.YtoadpaaghjomnaaDoor.Codes
