/-
  The document's Lex: the loop.
  The document's Lex: the same as the program's.
  Conditions: none.
-/
import Derived.Test.YtoadpaaghjomnaaDoorML
set_option linter.unusedVariables false
set_option linter.unusedSimpArgs false
set_option maxRecDepth 100000
namespace Go.Proofs.YtoadpaaghjomnaaDoor.Codes
open Go Go.Deepv

theorem drop_at {rs : List Rn} {i : Nat} {x : Rn} (hx : rs[i]? = some x) : rs.drop i = x :: rs.drop (i + 1) := by
  have := (List.getElem?_eq_some_iff.1 hx).2
  rw [← this]
  simp
theorem skK_blank {rs : List Rn} {i : Nat} {x : Rn} (hx : rs[i]? = some x) (hb : rBlank x.r = true) : skK rs i = skK rs (i + 1) := by
  unfold skK
  rw [drop_at hx]
  simp only [sk, hb, if_true]
theorem skK_hash {rs : List Rn} {i : Nat} {x : Rn} (hx : rs[i]? = some x) (hb : x.r = 35) : skK rs i = skK rs (i + cnt notNl (rs.drop i)) := by
  unfold skK
  have h1 : sk false (rs.drop i) = sk true (rs.drop i) := by
    have b1 : rBlank 35 = false := by decide
    rw [drop_at hx]
    simp only [sk, hb, b1]
    simp
  rw [h1, sk_line, List.drop_drop]
theorem skK_tok {rs : List Rn} {i : Nat} {x : Rn} (hx : rs[i]? = some x) (hb : rBlank x.r = false) (h35 : ¬ x.r = 35) : skK rs i = i := by
  have hlt := (List.getElem?_eq_some_iff.1 hx).1
  unfold skK
  have h1 : sk false (rs.drop i) = rs.drop i := by
    rw [drop_at hx]
    simp [sk, hb, h35]
  rw [h1, List.length_drop]
  omega
theorem skK_end {rs : List Rn} {i : Nat} (h : rs.length ≤ i) : skK rs i = rs.length := by
  unfold skK
  rw [List.drop_eq_nil_of_le h]
  simp [sk]

def st14 (s : ByteArray) (rs : List Rn) (out : List (List FV)) (i : Nat) : List DV := [.d (.str s), .d .undef, .d .undef, .ptr 0 0, .d (.slice 4 (rs.map Rn.enc)), .d .undef, .row 6 out 2, .ptr 3 0, .d (.int .i64 i)] ++ List.replicate 93 (.d .undef)
def ex14 (s : ByteArray) (v : FV) (out : List (List FV)) : List DV := [.d (.str s), .d .undef, .d v, .ptr 0 0, .d .undef, .d .undef, .row 6 out 2, .ptr 3 0] ++ List.replicate 94 (.d .undef)
theorem loop14c (s : ByteArray) {rs : List Rn} (hsz : rs.length ≤ 100000) (out : List (List FV)) (H : List Res) (hH : H.length = 4) :
    ∀ (l : List Rn) (i : Nat), rs.drop i = l → i ≤ rs.length → L env 4 true H14L11 X14L11 B14L11 (st14 s rs out i) H = some (.exit 2, st14 s rs out (i + cnt notNl l), H) := by
  obtain ⟨K, hK⟩ : ∃ K, L env 4 true H14L11 X14L11 B14L11 = K := ⟨_, rfl⟩
  rw [hK]
  have ht : H.take 4 = H := List.take_of_length_le (by omega)
  intro l
  induction l with
  | nil =>
    intro i h1 h2
    have hk : ¬ (i : Int) < rs.length := by
      have := congrArg List.length h1
      rw [List.length_drop, List.length_nil] at this
      omega
    rw [L_round hK]
    simp -implicitDefEqProofs only [B14L11, st14, cnt, dbody, dexec, ostep, dop, ev, put, wants, dbin, dun, List.replicate, Nat.reduceAdd, Nat.reduceSub, Nat.reduceLT, Nat.reduceLeDiff, Nat.reduceMul, DV.cells, DV.flat, dload, DV.elems, reduceCtorEq, mask, DV.lows, DV.low, DV.coe, DV.isD, dresults, dresult, withHeap, lowCells, LSt.isReady, srcElems, DV.int, DV.mkAgg, same, mnmx2, nilness, bound, fill, flatCells, Int.reduceLE, Int.reduceLT, Int.reduceAdd, Int.reduceSub, Int.reduceNeg, Int.reduceEq, Int.reduceBEq, Int.reduceBNe, Nat.reduceBEq, Nat.reduceEqDiff, Int.reduceToNat, allocCells, stp, hk, ht]
  | cons x l ih =>
    intro i h1 h2
    have hx : rs[i]? = some x := by
      have := List.getElem?_drop (xs := rs) (i := i) (j := 0)
      rw [h1] at this
      simpa using this.symm
    have hlt := (List.getElem?_eq_some_iff.1 hx).1
    have hx' := rmap_at (f := Rn.enc) hx
    have hk : (i : Int) < rs.length := by omega
    by_cases h10 : x.r = 10
    · have hc : cnt notNl (x :: l) = 0 := by simp [cnt, notNl, h10]
      rw [hc, Nat.add_zero, L_round hK]
      simp -implicitDefEqProofs only [B14L11, st14, dbody, dexec, ostep, dop, ev, put, wants, dbin, dun, List.replicate, Nat.reduceAdd, Nat.reduceSub, Nat.reduceLT, Nat.reduceLeDiff, Nat.reduceMul, DV.cells, DV.flat, dload, DV.elems, reduceCtorEq, mask, DV.lows, DV.low, DV.coe, DV.isD, dresults, dresult, withHeap, lowCells, LSt.isReady, srcElems, DV.int, DV.mkAgg, same, mnmx2, nilness, bound, fill, flatCells, Int.reduceLE, Int.reduceLT, Int.reduceAdd, Int.reduceSub, Int.reduceNeg, Int.reduceEq, Int.reduceBEq, Int.reduceBNe, Nat.reduceBEq, Nat.reduceEqDiff, Int.reduceToNat, allocCells, stp, hk, ht, hx, hx', Rn.enc, h10]
    · have hn : (x.r != 10) = true := by simpa using h10
      have hc : i + cnt notNl (x :: l) = i + 1 + cnt notNl l := by
        simp only [cnt, notNl, h10, decide_false, Bool.not_false, if_true]
        omega
      have hd : rs.drop (i + 1) = l := by rw [← List.drop_drop, h1]; rfl
      have ih := ih (i + 1) hd (by omega)
      have w1 : IntKind.i64.wrap ((i : Int) + 1) = ((i + 1 : Nat) : Int) := by rw [wrap_i64 (by omega) (by omega)]; simp
      rw [hc]
      generalize hR : some (DExit.exit 2, st14 s rs out (i + 1 + cnt notNl l), H) = RR at *
      simp only [st14, List.replicate, List.cons_append, List.nil_append] at ih
      rw [L_round hK]
      simp -implicitDefEqProofs only [B14L11, st14, dbody, dexec, ostep, dop, ev, put, wants, dbin, dun, List.replicate, Nat.reduceAdd, Nat.reduceSub, Nat.reduceLT, Nat.reduceLeDiff, Nat.reduceMul, DV.cells, DV.flat, dload, DV.elems, reduceCtorEq, mask, DV.lows, DV.low, DV.coe, DV.isD, dresults, dresult, withHeap, lowCells, LSt.isReady, srcElems, DV.int, DV.mkAgg, same, mnmx2, nilness, bound, fill, flatCells, Int.reduceLE, Int.reduceLT, Int.reduceAdd, Int.reduceSub, Int.reduceNeg, Int.reduceEq, Int.reduceBEq, Int.reduceBNe, Nat.reduceBEq, Nat.reduceEqDiff, Int.reduceToNat, allocCells, stp, hk, ht, hx, hx', Rn.enc, hn, w1, ih]

theorem cnt_pos {rs : List Rn} {i : Nat} {x : Rn} (hx : rs[i]? = some x) (hb : x.r = 35) : 1 ≤ cnt notNl (rs.drop i) := by
  rw [drop_at hx]
  have : notNl 35 = true := by decide
  simp only [cnt, hb, this, if_true]
  omega

theorem loop14 (s : ByteArray) {rs : List Rn} (hsz : rs.length ≤ 100000) (hsc : ∀ x ∈ rs, rScal x.r = true) :
    ∀ (n i f : Nat) (out : List (List FV)), rs.length - i < n → rs.length < i + f → i ≤ rs.length → out.length ≤ 4096 →
      L env 4 true H14L7 X14L7 B14L7 (st14 s rs out i) [faultB 0 0 0, faultB 0 0 0, rr 6 out.length, walkB 1 1] =
        match lexK rs f (skK rs i) out.length with
        | (ts, none) => some (.exit 0, ex14 s .undef (out ++ encT ts), [faultB 0 0 0, faultB 0 0 0, rr 6 (out ++ encT ts).length, walkB 1 1])
        | (ts, some (e, l, c)) => some (.ret, ex14 s (.slice 6 []) (out ++ encT ts), [faultB e l c, faultB 0 0 0, rr 6 (out ++ encT ts).length, walkB 1 1]) := by
  obtain ⟨K, hK⟩ : ∃ K, L env 4 true H14L7 X14L7 B14L7 = K := ⟨_, rfl⟩
  rw [hK]
  intro n
  induction n with
  | zero => intro i f out h1; omega
  | succ n ih =>
    intro i f out h1 h2 h3 h4
    by_cases hlt : i < rs.length
    · have hx : rs[i]? = some rs[i] := List.getElem?_eq_getElem _
      generalize rs[i] = x at hx
      have hx' := rmap_at (f := Rn.enc) hx
      have hk : (i : Int) < rs.length := by omega
      have e38 := fun h => rblank_ok x.r h
      have w1 : IntKind.i64.wrap ((i : Int) + 1) = ((i + 1 : Nat) : Int) := by rw [wrap_i64 (by omega) (by omega)]; simp
      cases hb : rBlank x.r with
      | true =>
        rw [hb] at e38
        have ih := ih (i + 1) f out (by omega) (by omega) (by omega) h4
        rw [skK_blank hx hb]
        generalize (match lexK rs f (skK rs (i + 1)) out.length with
        | (ts, none) => some (DExit.exit 0, ex14 s .undef (out ++ encT ts), [faultB 0 0 0, faultB 0 0 0, rr 6 (out ++ encT ts).length, walkB 1 1])
        | (ts, some (e, l, c)) => some (DExit.ret, ex14 s (.slice 6 []) (out ++ encT ts), [faultB e l c, faultB 0 0 0, rr 6 (out ++ encT ts).length, walkB 1 1])) = RHS at *
        simp only [st14, faultB, walkB, List.replicate, List.cons_append, List.nil_append] at *
        rw [L_round hK]
        simp -implicitDefEqProofs only [B14L7, dbody, dexec, ostep, dop, ev, put, wants, dbin, dun, List.replicate, Nat.reduceAdd, Nat.reduceSub, Nat.reduceLT, Nat.reduceLeDiff, Nat.reduceMul, DV.cells, DV.flat, dload, DV.elems, reduceCtorEq, mask, DV.lows, DV.low, DV.coe, DV.isD, dresults, dresult, withHeap, lowCells, LSt.isReady, srcElems, DV.int, DV.mkAgg, same, mnmx2, nilness, bound, fill, flatCells, Int.reduceLE, Int.reduceLT, Int.reduceAdd, Int.reduceSub, Int.reduceNeg, Int.reduceEq, Int.reduceBEq, Int.reduceBNe, Nat.reduceBEq, Nat.reduceEqDiff, Int.reduceToNat, allocCells, stp, hk, hx, hx', Rn.enc, e38, w1, ih]
      | false =>
        rw [hb] at e38
        by_cases h35 : x.r = 35
        · have hc := cnt_pos hx h35
          have hcl := cnt_le notNl (rs.drop i)
          rw [List.length_drop] at hcl
          have ih := ih (i + cnt notNl (rs.drop i)) f out (by omega) (by omega) (by omega) h4
          have hin := loop14c s hsz out [faultB 0 0 0, faultB 0 0 0, rr 6 out.length, walkB 1 1] rfl (rs.drop i) i rfl h3
          rw [skK_hash hx h35]
          rw [h35] at e38
          generalize i + cnt notNl (rs.drop i) = i2 at *
          generalize (match lexK rs f (skK rs i2) out.length with
          | (ts, none) => some (DExit.exit 0, ex14 s .undef (out ++ encT ts), [faultB 0 0 0, faultB 0 0 0, rr 6 (out ++ encT ts).length, walkB 1 1])
          | (ts, some (e, l, c)) => some (DExit.ret, ex14 s (.slice 6 []) (out ++ encT ts), [faultB e l c, faultB 0 0 0, rr 6 (out ++ encT ts).length, walkB 1 1])) = RHS at *
          simp only [st14, faultB, walkB, List.replicate, List.cons_append, List.nil_append] at *
          rw [L_round hK]
          simp -implicitDefEqProofs only [B14L7, dbody, dexec, ostep, dop, ev, put, wants, dbin, dun, List.replicate, Nat.reduceAdd, Nat.reduceSub, Nat.reduceLT, Nat.reduceLeDiff, Nat.reduceMul, DV.cells, DV.flat, dload, DV.elems, reduceCtorEq, mask, DV.lows, DV.low, DV.coe, DV.isD, dresults, dresult, withHeap, lowCells, LSt.isReady, srcElems, DV.int, DV.mkAgg, same, mnmx2, nilness, bound, fill, flatCells, Int.reduceLE, Int.reduceLT, Int.reduceAdd, Int.reduceSub, Int.reduceNeg, Int.reduceEq, Int.reduceBEq, Int.reduceBNe, Nat.reduceBEq, Nat.reduceEqDiff, Int.reduceToNat, allocCells, stp, hk, hx, hx', Rn.enc, e38, h35, hin, ih]
        · have f35 : (x.r == 35) = false := by simpa using h35
          rw [skK_tok hx hb h35]
          match f, h2 with
          | 0, h2 => omega
          | f + 1, h2 =>
          have e39 := one_ok hsz hsc hx [faultB 0 0 0, faultB 0 0 0, rr 6 out.length, walkB 1 1]
          cases htk : tokK rs i with
          | error e =>
            rw [htk] at e39
            simp only at e39
            obtain ⟨v, m, e39⟩ := e39
            have he : ¬ e = 0 := by have := tokK_err htk; omega
            have he1 : (e == 0) = false := by simpa using he
            have he2 : (e != 0) = true := by simpa using he
            have hlk : lexK rs (f + 1) i out.length = ([], some (e, x.l, x.c)) := by simp only [lexK, hx, htk]
            rw [hlk]
            simp only [encT, List.map_nil, List.append_nil]
            simp only [st14, ex14, faultB, walkB, Tk.enc, List.replicate, List.cons_append, List.nil_append] at *
            rw [L_round hK]
            simp -implicitDefEqProofs only [B14L7, dbody, dexec, ostep, dop, ev, put, wants, dbin, dun, List.replicate, Nat.reduceAdd, Nat.reduceSub, Nat.reduceLT, Nat.reduceLeDiff, Nat.reduceMul, DV.cells, DV.flat, dload, DV.elems, reduceCtorEq, mask, DV.lows, DV.low, DV.coe, DV.isD, dresults, dresult, withHeap, lowCells, LSt.isReady, srcElems, DV.int, DV.mkAgg, same, mnmx2, nilness, bound, fill, flatCells, Int.reduceLE, Int.reduceLT, Int.reduceAdd, Int.reduceSub, Int.reduceNeg, Int.reduceEq, Int.reduceBEq, Int.reduceBNe, Nat.reduceBEq, Nat.reduceEqDiff, Int.reduceToNat, allocCells, stp, hk, hx, hx', Rn.enc, e38, f35, e39, he, he1, he2, putCells]
          | ok vk =>
            obtain ⟨v, k'⟩ := vk
            rw [htk] at e39
            simp only at e39
            have hnx := tokK_next hlt htk
            by_cases hn : out.length = 4096
            · have hlk : lexK rs (f + 1) i out.length = ([], some (27, x.l, x.c)) := by simp only [lexK, hx, htk, hn, if_true]
              have g1 : (4096 : Int) ≤ out.length := by omega
              rw [hlk]
              simp only [encT, List.map_nil, List.append_nil]
              simp only [st14, ex14, faultB, walkB, Tk.enc, List.replicate, List.cons_append, List.nil_append] at *
              rw [L_round hK]
              simp -implicitDefEqProofs only [B14L7, dbody, dexec, ostep, dop, ev, put, wants, dbin, dun, List.replicate, Nat.reduceAdd, Nat.reduceSub, Nat.reduceLT, Nat.reduceLeDiff, Nat.reduceMul, DV.cells, DV.flat, dload, DV.elems, reduceCtorEq, mask, DV.lows, DV.low, DV.coe, DV.isD, dresults, dresult, withHeap, lowCells, LSt.isReady, srcElems, DV.int, DV.mkAgg, same, mnmx2, nilness, bound, fill, flatCells, Int.reduceLE, Int.reduceLT, Int.reduceAdd, Int.reduceSub, Int.reduceNeg, Int.reduceEq, Int.reduceBEq, Int.reduceBNe, Nat.reduceBEq, Nat.reduceEqDiff, Int.reduceToNat, allocCells, stp, hk, hx, hx', Rn.enc, e38, f35, e39, g1, putCells]
            · have g1 : ¬ (4096 : Int) ≤ out.length := by omega
              have hlk : lexK rs (f + 1) i out.length = ((v, x.l, x.c) :: (lexK rs f (skK rs k') (out.length + 1)).1, (lexK rs f (skK rs k') (out.length + 1)).2) := by simp only [lexK, hx, htk, hn, if_false]
              have len1 : (out ++ [v.enc x.l x.c]).length = out.length + 1 := by simp
              have ih := ih k' f (out ++ [v.enc x.l x.c]) (by omega) (by omega) hnx.2 (by omega)
              rw [len1] at ih
              rw [hlk]
              have fin : ∀ a h, K a h = (match lexK rs f (skK rs k') (out.length + 1) with
                  | (ts, none) => some (.exit 0, ex14 s .undef (out ++ [v.enc x.l x.c] ++ encT ts), [faultB 0 0 0, faultB 0 0 0, rr 6 (out ++ [v.enc x.l x.c] ++ encT ts).length, walkB 1 1])
                  | (ts, some (e, l, c)) => some (.ret, ex14 s (.slice 6 []) (out ++ [v.enc x.l x.c] ++ encT ts), [faultB e l c, faultB 0 0 0, rr 6 (out ++ [v.enc x.l x.c] ++ encT ts).length, walkB 1 1])) →
                  K a h = (match (((v, x.l, x.c) :: (lexK rs f (skK rs k') (out.length + 1)).1, (lexK rs f (skK rs k') (out.length + 1)).2) : List (Tk × Int × Int) × Option (Int × Int × Int)) with
                  | (ts, none) => some (.exit 0, ex14 s .undef (out ++ encT ts), [faultB 0 0 0, faultB 0 0 0, rr 6 (out ++ encT ts).length, walkB 1 1])
                  | (ts, some (e, l, c)) => some (.ret, ex14 s (.slice 6 []) (out ++ encT ts), [faultB e l c, faultB 0 0 0, rr 6 (out ++ encT ts).length, walkB 1 1])) := fun a h hk => by
                rw [hk]
                generalize lexK rs f (skK rs k') (out.length + 1) = y
                rcases y with ⟨ts, _ | ⟨e, l, c⟩⟩ <;> simp only [encT, List.map_cons, List.append_assoc, List.cons_append, List.nil_append]
              have ih2 := fin _ _ ih
              have e5 : ∀ T1 T2 : Res, appRow 6 72 (.row 6 out 2) (some (6, [v.enc x.l x.c])) [faultB 0 0 0, faultB 0 0 0, rr 6 out.length, walkB 1 1, T1, T2] = some (.val (.row 6 (out ++ [v.enc x.l x.c]) 2) ([faultB 0 0 0, faultB 0 0 0, rr 6 out.length, walkB 1 1, T1, T2].set 2 (rr 6 (out.length + 1)))) := fun T1 T2 =>
                appRow_one rfl (by omega) (by decide) (by decide) 6 rfl
              simp only [List.set_cons_succ, List.set_cons_zero] at e5
              have w2 : IntKind.i64.wrap ((i : Int) + ((k' - i : Nat) : Int)) = (k' : Int) := by rw [wrap_i64 (by omega) (by omega)]; omega
              generalize (match (((v, x.l, x.c) :: (lexK rs f (skK rs k') (out.length + 1)).1, (lexK rs f (skK rs k') (out.length + 1)).2) : List (Tk × Int × Int) × Option (Int × Int × Int)) with
                  | (ts, none) => some (DExit.exit 0, ex14 s .undef (out ++ encT ts), [faultB 0 0 0, faultB 0 0 0, rr 6 (out ++ encT ts).length, walkB 1 1])
                  | (ts, some (e, l, c)) => some (DExit.ret, ex14 s (.slice 6 []) (out ++ encT ts), [faultB e l c, faultB 0 0 0, rr 6 (out ++ encT ts).length, walkB 1 1])) = RHS at *
              simp only [st14, faultB, walkB, Tk.enc, List.replicate, List.cons_append, List.nil_append] at *
              rw [L_round hK]
              simp -implicitDefEqProofs only [B14L7, dbody, dexec, ostep, dop, ev, put, wants, dbin, dun, List.replicate, Nat.reduceAdd, Nat.reduceSub, Nat.reduceLT, Nat.reduceLeDiff, Nat.reduceMul, DV.cells, DV.flat, dload, DV.elems, reduceCtorEq, mask, DV.lows, DV.low, DV.coe, DV.isD, dresults, dresult, withHeap, lowCells, LSt.isReady, srcElems, DV.int, DV.mkAgg, same, mnmx2, nilness, bound, fill, flatCells, Int.reduceLE, Int.reduceLT, Int.reduceAdd, Int.reduceSub, Int.reduceNeg, Int.reduceEq, Int.reduceBEq, Int.reduceBNe, Nat.reduceBEq, Nat.reduceEqDiff, Int.reduceToNat, allocCells, stp, hk, hx, hx', Rn.enc, e38, f35, e39, g1, e5, w2, ih2, putCells]
    · have hk : ¬ (i : Int) < rs.length := by omega
      have hlk : lexK rs f (skK rs i) out.length = ([], none) := by
        rw [skK_end (by omega)]
        cases f with
        | zero => rfl
        | succ f => simp [lexK]
      rw [hlk]
      simp only [encT, List.map_nil, List.append_nil]
      rw [L_round hK]
      simp -implicitDefEqProofs only [B14L7, st14, ex14, faultB, walkB, dbody, dexec, ostep, dop, ev, put, wants, dbin, dun, List.replicate, Nat.reduceAdd, Nat.reduceSub, Nat.reduceLT, Nat.reduceLeDiff, Nat.reduceMul, DV.cells, DV.flat, dload, DV.elems, reduceCtorEq, mask, DV.lows, DV.low, DV.coe, DV.isD, dresults, dresult, withHeap, lowCells, LSt.isReady, srcElems, DV.int, DV.mkAgg, same, mnmx2, nilness, bound, fill, flatCells, Int.reduceLE, Int.reduceLT, Int.reduceAdd, Int.reduceSub, Int.reduceNeg, Int.reduceEq, Int.reduceBEq, Int.reduceBNe, Nat.reduceBEq, Nat.reduceEqDiff, Int.reduceToNat, allocCells, stp, hk]
end Go.Proofs.YtoadpaaghjomnaaDoor.Codes

set_option linter.unusedVariables false
set_option linter.unusedSimpArgs false
set_option maxRecDepth 100000
namespace Go.Proofs.YtoadpaaghjomnaaDoor.Codes
open Go Go.Deepv

theorem rlex_ok (s : ByteArray) (h : List Res) : D env 14 [.d (.str s)] h = some (.val (.d (lexV s)) h) := by
  rw [D_dat (F := A14) rfl rfl rfl rfl]
  have e37 := fun h => rsplit_ok s h
  unfold lexV
  unfold splitV at e37
  by_cases hs : s.size ≤ 16384
  · simp only [hs, if_true] at e37 ⊢
    obtain ⟨ws, hsc, hB | ⟨t, ht, hB⟩⟩ := text_cases _ s.data.toList (Nat.le_refl _)
    · rw [spl_all hsc hB] at e37 ⊢
      have hlen : s.data.toList.length = s.size := Array.length_toList
      have hws := encLs_size ws
      rw [hB] at hlen
      have hpl := place_len ws 0 1 1
      have hpr := place_r ws 0 1 1
      have hsc2 : ∀ x ∈ place ws 0 1 1, rScal x.r = true := fun x hx => hsc x.r (by rw [← hpr]; exact List.mem_map_of_mem hx)
      have e40 := fun h => rplace_ok s ws hs hsc hB h
      simp only [hpr] at e37 ⊢
      generalize place ws 0 1 1 = rs at *
      have hl := loop14 s (by omega) hsc2 (rs.length + 1) 0 (rs.length + 1) [] (by omega) (by omega) (by omega) (by simp)
      have r0 : rr 6 ([] : List (List FV)).length = .nilrow := rfl
      have l0 : ([] : List (List FV)).length = 0 := rfl
      have z0 : ((0 : Nat) : Int) = 0 := rfl
      have hll := lexK_len rs (rs.length + 1) (skK rs 0) 0 (by omega)
      rw [r0, l0] at hl
      unfold lexR
      generalize lexK rs (rs.length + 1) (skK rs 0) 0 = y at *
      simp only [List.nil_append, List.set_cons_succ, List.set_cons_zero] at hl
      have hel : ∀ ts : List (Tk × Int × Int), (encT ts).length = ts.length := fun ts => by simp [encT]
      have hpos : s.size = 0 → advL 1 ws = 1 ∧ advC 1 ws = 1 := fun h0 => by
        have : ws = [] := List.length_eq_zero_iff.1 (by omega)
        rw [this]
        exact ⟨rfl, rfl⟩
      rcases y with ⟨ts, _ | ⟨e, l, c⟩⟩
      · simp only at hl hll ⊢
        simp only [hel] at hl
        have ho := hel ts
        generalize encT ts = out at *
        rw [← ho] at hl
        generalize advL 1 ws = el at *
        generalize advC 1 ws = ec at *
        have e5 : ∀ T0 : Res, appRow 6 72 (.row 6 out 2) (some (6, [endT el ec])) [faultB 0 0 0, faultB 0 0 0, rr 6 out.length, T0] = some (.val (.row 6 (out ++ [endT el ec]) 2) ([faultB 0 0 0, faultB 0 0 0, rr 6 out.length, T0].set 2 (rr 6 (out.length + 1)))) ∨ out.length = 4096 := fun T0 => by
          by_cases hn : out.length = 4096
          · exact .inr hn
          · exact .inl (appRow_one rfl (by omega) (by decide) (by decide) 6 rfl)
        by_cases hn : ts.length = 4096
        · rw [if_pos hn]
          have hn' : (4096 : Int) ≤ out.length := by omega
          by_cases h0 : s.size = 0
          · obtain ⟨rfl, rfl⟩ := hpos h0
            have g0 : ¬ (0 : Int) < s.size := by omega
            simp only [st14, ex14, faultB, walkB, List.replicate, List.cons_append, List.nil_append, z0] at *
            simp -implicitDefEqProofs only [A14, B14, dbody, dexec, ostep, dop, ev, put, wants, dbin, dun, List.replicate, Nat.reduceAdd, Nat.reduceSub, Nat.reduceLT, Nat.reduceLeDiff, Nat.reduceMul, DV.cells, DV.flat, dload, DV.elems, reduceCtorEq, mask, DV.lows, DV.low, DV.coe, DV.isD, dresults, dresult, withHeap, lowCells, LSt.isReady, srcElems, DV.int, DV.mkAgg, same, mnmx2, nilness, bound, fill, flatCells, Int.reduceLE, Int.reduceLT, Int.reduceAdd, Int.reduceSub, Int.reduceNeg, Int.reduceEq, Int.reduceBEq, Int.reduceBNe, Nat.reduceBEq, Nat.reduceEqDiff, Int.reduceToNat, allocCells, stp, e37, hl, g0, hn', putCells]
          · have g0 : (0 : Int) < s.size := by omega
            simp only [st14, ex14, faultB, walkB, List.replicate, List.cons_append, List.nil_append, z0] at *
            simp -implicitDefEqProofs only [A14, B14, dbody, dexec, ostep, dop, ev, put, wants, dbin, dun, List.replicate, Nat.reduceAdd, Nat.reduceSub, Nat.reduceLT, Nat.reduceLeDiff, Nat.reduceMul, DV.cells, DV.flat, dload, DV.elems, reduceCtorEq, mask, DV.lows, DV.low, DV.coe, DV.isD, dresults, dresult, withHeap, lowCells, LSt.isReady, srcElems, DV.int, DV.mkAgg, same, mnmx2, nilness, bound, fill, flatCells, Int.reduceLE, Int.reduceLT, Int.reduceAdd, Int.reduceSub, Int.reduceNeg, Int.reduceEq, Int.reduceBEq, Int.reduceBNe, Nat.reduceBEq, Nat.reduceEqDiff, Int.reduceToNat, allocCells, stp, e37, hl, e40, g0, hn', putCells]
        · rw [if_neg hn]
          have hn' : ¬ (4096 : Int) ≤ out.length := by omega
          have e5 := fun T0 => (e5 T0).resolve_right (by omega)
          simp only [List.set_cons_succ, List.set_cons_zero] at e5
          by_cases h0 : s.size = 0
          · obtain ⟨rfl, rfl⟩ := hpos h0
            have g0 : ¬ (0 : Int) < s.size := by omega
            simp only [st14, ex14, faultB, walkB, endT, Tk.enc, cells_nil, List.replicate, List.cons_append, List.nil_append, z0] at *
            simp -implicitDefEqProofs only [A14, B14, dbody, dexec, ostep, dop, ev, put, wants, dbin, dun, List.replicate, Nat.reduceAdd, Nat.reduceSub, Nat.reduceLT, Nat.reduceLeDiff, Nat.reduceMul, DV.cells, DV.flat, dload, DV.elems, reduceCtorEq, mask, DV.lows, DV.low, DV.coe, DV.isD, dresults, dresult, withHeap, lowCells, LSt.isReady, srcElems, DV.int, DV.mkAgg, same, mnmx2, nilness, bound, fill, flatCells, Int.reduceLE, Int.reduceLT, Int.reduceAdd, Int.reduceSub, Int.reduceNeg, Int.reduceEq, Int.reduceBEq, Int.reduceBNe, Nat.reduceBEq, Nat.reduceEqDiff, Int.reduceToNat, allocCells, stp, e37, hl, g0, hn', e5, putCells]
          · have g0 : (0 : Int) < s.size := by omega
            simp only [st14, ex14, faultB, walkB, endT, Tk.enc, cells_nil, List.replicate, List.cons_append, List.nil_append, z0] at *
            simp -implicitDefEqProofs only [A14, B14, dbody, dexec, ostep, dop, ev, put, wants, dbin, dun, List.replicate, Nat.reduceAdd, Nat.reduceSub, Nat.reduceLT, Nat.reduceLeDiff, Nat.reduceMul, DV.cells, DV.flat, dload, DV.elems, reduceCtorEq, mask, DV.lows, DV.low, DV.coe, DV.isD, dresults, dresult, withHeap, lowCells, LSt.isReady, srcElems, DV.int, DV.mkAgg, same, mnmx2, nilness, bound, fill, flatCells, Int.reduceLE, Int.reduceLT, Int.reduceAdd, Int.reduceSub, Int.reduceNeg, Int.reduceEq, Int.reduceBEq, Int.reduceBNe, Nat.reduceBEq, Nat.reduceEqDiff, Int.reduceToNat, allocCells, stp, e37, hl, e40, g0, hn', e5, putCells]
      · simp only at hl hll ⊢
        simp only [st14, ex14, faultB, walkB, List.replicate, List.cons_append, List.nil_append, z0] at *
        simp -implicitDefEqProofs only [A14, B14, dbody, dexec, ostep, dop, ev, put, wants, dbin, dun, List.replicate, Nat.reduceAdd, Nat.reduceSub, Nat.reduceLT, Nat.reduceLeDiff, Nat.reduceMul, DV.cells, DV.flat, dload, DV.elems, reduceCtorEq, mask, DV.lows, DV.low, DV.coe, DV.isD, dresults, dresult, withHeap, lowCells, LSt.isReady, srcElems, DV.int, DV.mkAgg, same, mnmx2, nilness, bound, fill, flatCells, Int.reduceLE, Int.reduceLT, Int.reduceAdd, Int.reduceSub, Int.reduceNeg, Int.reduceEq, Int.reduceBEq, Int.reduceBNe, Nat.reduceBEq, Nat.reduceEqDiff, Int.reduceToNat, allocCells, stp, e37, hl, putCells]
    · have e := spl_all_bad hsc ht hB
      generalize spl s s.size 0 1 1 = x at *
      rcases x with ⟨x1, x2⟩
      simp only at e
      subst e
      simp only at e37 ⊢
      simp -implicitDefEqProofs only [A14, B14, dbody, dexec, ostep, dop, ev, put, wants, dbin, dun, List.replicate, Nat.reduceAdd, Nat.reduceSub, Nat.reduceLT, Nat.reduceLeDiff, Nat.reduceMul, DV.cells, DV.flat, dload, DV.elems, reduceCtorEq, mask, DV.lows, DV.low, DV.coe, DV.isD, dresults, dresult, withHeap, lowCells, LSt.isReady, srcElems, DV.int, DV.mkAgg, same, mnmx2, nilness, bound, fill, flatCells, Int.reduceLE, Int.reduceLT, Int.reduceAdd, Int.reduceSub, Int.reduceNeg, Int.reduceEq, Int.reduceBEq, Int.reduceBNe, Nat.reduceBEq, Nat.reduceEqDiff, Int.reduceToNat, allocCells, stp, e37, putCells]
  · simp only [hs, if_false] at e37 ⊢
    simp -implicitDefEqProofs only [A14, B14, dbody, dexec, ostep, dop, ev, put, wants, dbin, dun, List.replicate, Nat.reduceAdd, Nat.reduceSub, Nat.reduceLT, Nat.reduceLeDiff, Nat.reduceMul, DV.cells, DV.flat, dload, DV.elems, reduceCtorEq, mask, DV.lows, DV.low, DV.coe, DV.isD, dresults, dresult, withHeap, lowCells, LSt.isReady, srcElems, DV.int, DV.mkAgg, same, mnmx2, nilness, bound, fill, flatCells, Int.reduceLE, Int.reduceLT, Int.reduceAdd, Int.reduceSub, Int.reduceNeg, Int.reduceEq, Int.reduceBEq, Int.reduceBNe, Nat.reduceBEq, Nat.reduceEqDiff, Int.reduceToNat, allocCells, stp, e37, putCells]
end Go.Proofs.YtoadpaaghjomnaaDoor.Codes
