/-
  The document's quoted texts.
  Conditions: none.
-/
import Derived.Test.YtoadpaaghjomnaaDoorMJ
set_option linter.unusedVariables false
set_option linter.unusedSimpArgs false
set_option maxRecDepth 100000
namespace Go.Proofs.YtoadpaaghjomnaaDoor.Codes
open Go Go.Deepv

def st71 (rs : List Rn) (fr : Int) (acc : ByteArray) (k : Nat) : List DV := [.d (.slice 4 (rs.map Rn.enc)), .d (.int .i64 fr), .d .undef, .d .undef, .d .undef, .d .undef, .d .undef, .row 1 (strCells acc) 0, .d (.int .i64 k)] ++ List.replicate 143 (.d .undef)
def ex71 (rs : List Rn) (fr : Int) (acc : ByteArray) (k : Nat) : List DV := [.d (.slice 4 (rs.map Rn.enc)), .d (.int .i64 fr), .d .undef, .d .undef, .d (.slice 1 []), .d (.int .i64 0), .d (.int .i64 4), .row 1 (strCells acc) 0, .d (.int .i64 k)] ++ List.replicate 143 (.d .undef)
/-- How the loop over a quoted text ends. -/
def end71 (rs : List Rn) (fr : Int) (q : Option (ByteArray × Nat)) (o : Option (DExit × List DV × List Res)) : Prop :=
  match q with
  | some (b, k') => ∃ k, k' = k + 1 ∧ peekR rs k = 34 ∧ o = some (.exit 0, st71 rs fr b k, [rr 1 b.size 5])
  | none => (∃ b k, peekR rs k ≠ 34 ∧ k ≤ 1000000 ∧ b.size ≤ 1000000 ∧ o = some (.exit 0, st71 rs fr b k, [rr 1 b.size 5])) ∨ ∃ b k, o = some (.ret, ex71 rs fr b k, [rr 1 b.size 5])

set_option maxHeartbeats 2000000 in
theorem loop71 {rs : List Rn} {fr : Int} (hsz : rs.length ≤ 100000) (hsc : ∀ x ∈ rs, rScal x.r = true) :
    ∀ (f k : Nat) (acc : ByteArray), rs.length < k + f → k ≤ rs.length → acc.size ≤ 4 * k →
      end71 rs fr (qtK rs f k acc) (L env 1 true H71L3 X71L3 B71L3 (st71 rs fr acc k) [rr 1 acc.size 5]) := by
  obtain ⟨K, hK⟩ : ∃ K, L env 1 true H71L3 X71L3 B71L3 = K := ⟨_, rfl⟩
  rw [hK]
  intro f
  induction f with
  | zero => intro k acc h1 h2 h3; omega
  | succ f ih =>
    intro k acc h1 h2 h3
    by_cases hlt : k < rs.length
    · have hx : rs[k]? = some rs[k] := List.getElem?_eq_getElem _
      generalize rs[k] = x at hx
      have hx' := rmap_at (f := Rn.enc) hx
      have hp : peekR rs k = x.r := by simp [peekR, hx]
      have hw := hsc x (List.mem_of_getElem? hx)
      have h0 := ((rScal_iff _).1 hw).1
      have hk : (k : Int) < rs.length := by omega
      have n0 : ¬ x.r < 0 := by omega
      by_cases c1 : x.r = 34
      · have : qtK rs (f + 1) k acc = some (acc, k + 1) := by simp only [qtK, hp, c1]; rfl
        rw [this]
        refine ⟨k, rfl, by rw [hp, c1], ?_⟩
        rw [L_round hK]
        simp -implicitDefEqProofs only [B71L3, st71, dbody, dexec, ostep, dop, ev, put, wants, dbin, dun, List.replicate, Nat.reduceAdd, Nat.reduceSub, Nat.reduceLT, Nat.reduceLeDiff, Nat.reduceMul, DV.cells, DV.flat, dload, DV.elems, reduceCtorEq, mask, DV.lows, DV.low, DV.coe, DV.isD, dresults, dresult, withHeap, lowCells, LSt.isReady, srcElems, DV.int, DV.mkAgg, same, mnmx2, nilness, bound, fill, flatCells, Int.reduceLE, Int.reduceLT, Int.reduceAdd, Int.reduceSub, Int.reduceNeg, Int.reduceEq, Int.reduceBEq, Int.reduceBNe, Nat.reduceBEq, Nat.reduceEqDiff, Int.reduceToNat, allocCells, stp, hk, hx, hx', Rn.enc, c1]
      have d1 : (x.r != 34) = true := by simpa using c1
      by_cases c2 : x.r = 10
      · have : qtK rs (f + 1) k acc = none := by simp only [qtK, hp, c2]; rfl
        rw [this]
        refine .inl ⟨acc, k, by rw [hp]; exact c1, by omega, by omega, ?_⟩
        rw [L_round hK]
        simp -implicitDefEqProofs only [B71L3, st71, dbody, dexec, ostep, dop, ev, put, wants, dbin, dun, List.replicate, Nat.reduceAdd, Nat.reduceSub, Nat.reduceLT, Nat.reduceLeDiff, Nat.reduceMul, DV.cells, DV.flat, dload, DV.elems, reduceCtorEq, mask, DV.lows, DV.low, DV.coe, DV.isD, dresults, dresult, withHeap, lowCells, LSt.isReady, srcElems, DV.int, DV.mkAgg, same, mnmx2, nilness, bound, fill, flatCells, Int.reduceLE, Int.reduceLT, Int.reduceAdd, Int.reduceSub, Int.reduceNeg, Int.reduceEq, Int.reduceBEq, Int.reduceBNe, Nat.reduceBEq, Nat.reduceEqDiff, Int.reduceToNat, allocCells, stp, hk, hx, hx', Rn.enc, c2]
      have d2 : (x.r != 10) = true := by simpa using c2
      have ap : ∀ bs : ByteArray, bs.size ≤ 10 → appRow 1 1 (.row 1 (strCells acc) 0) (some (1, strCells bs)) [rr 1 acc.size 5] 5 = some (.val (.row 1 (strCells (acc ++ bs)) 0) [rr 1 (acc ++ bs).size 5]) := fun bs hbs => by
        have := appRow_any (sz := 1) (bytes := 1) (et := 5) (l := strCells acc) (new := strCells bs) (t := 0) (h := [rr 1 acc.size 5]) (by rw [strCells_len]; rfl) (by rw [strCells_len, strCells_len]; omega) (by decide) (by decide) 1 rfl
        rw [this, strCells_app, strCells_len, strCells_len, ByteArray.size_append]
        rfl
      have w1 : IntKind.i64.wrap ((k : Int) + 1) = ((k + 1 : Nat) : Int) := by rw [wrap_i64 (by omega) (by omega)]; simp
      by_cases c3 : x.r = 92
      · have q1 : qtK rs (f + 1) k acc = if (escV rs (k + 1)).2.1 = true then qtK rs f (k + 1 + (escV rs (k + 1)).2.2) (acc ++ byteB (escV rs (k + 1)).1) else none := by
          simp only [qtK, hp, c3]
          rfl
        by_cases hk1 : k + 1 < rs.length
        · have g1 : ¬ (rs.length : Int) ≤ ((k + 1 : Nat) : Int) := by omega
          have g1' : ((k + 1 : Nat) : Int) < rs.length := by omega
          have hy : rs[k + 1]? = some rs[k + 1] := List.getElem?_eq_getElem _
          generalize rs[k + 1] = y at hy
          have hy' := rmap_at (f := Rn.enc) hy
          have hq : peekR rs (k + 1) = y.r := by simp [peekR, hy]
          have w2 : IntKind.i64.wrap ((k : Int) + 2) = ((k + 2 : Nat) : Int) := by rw [wrap_i64 (by omega) (by omega)]; simp
          have one : ∀ v : Int, 0 ≤ v → v < 256 → escV rs (k + 1) = (v, true, 1) → end71 rs fr (qtK rs (f + 1) k acc) (K (st71 rs fr (acc ++ byteB v) (k + 2)) [rr 1 (acc ++ byteB v).size 5]) := fun v v0 v1 he => by
            rw [q1, he]
            simp only [if_true]
            exact ih (k + 1 + 1) (acc ++ byteB v) (by omega) (by omega) (by rw [ByteArray.size_append, byteB_size]; omega)
          have ap1 : ∀ v : Int, 0 ≤ v → v < 256 → appRow 1 1 (.row 1 (strCells acc) 0) (some (1, [[FV.int .u8 v]])) [rr 1 acc.size 5] 5 = some (.val (.row 1 (strCells (acc ++ byteB v)) 0) [rr 1 (acc ++ byteB v).size 5]) := fun v v0 v1 => by
            have := ap (byteB v) (by rw [byteB_size]; decide)
            rwa [byteB_cells v0 v1] at this
          by_cases e1 : y.r = 110
          · have o := one 10 (by decide) (by decide) (by unfold escV; rw [hq, if_pos e1])
            have a := ap1 10 (by decide) (by decide)
            generalize hR : K (st71 rs fr (acc ++ byteB 10) (k + 2)) [rr 1 (acc ++ byteB 10).size 5] = RR at *
            simp only [st71, List.replicate, List.cons_append, List.nil_append] at hR
            have : K (st71 rs fr acc k) [rr 1 acc.size 5] = RR := by
              rw [L_round hK]
              simp -implicitDefEqProofs only [B71L3, st71, dbody, dexec, ostep, dop, ev, put, wants, dbin, dun, List.replicate, Nat.reduceAdd, Nat.reduceSub, Nat.reduceLT, Nat.reduceLeDiff, Nat.reduceMul, DV.cells, DV.flat, dload, DV.elems, reduceCtorEq, mask, DV.lows, DV.low, DV.coe, DV.isD, dresults, dresult, withHeap, lowCells, LSt.isReady, srcElems, DV.int, DV.mkAgg, same, mnmx2, nilness, bound, fill, flatCells, Int.reduceLE, Int.reduceLT, Int.reduceAdd, Int.reduceSub, Int.reduceNeg, Int.reduceEq, Int.reduceBEq, Int.reduceBNe, Nat.reduceBEq, Nat.reduceEqDiff, Int.reduceToNat, allocCells, stp, hk, hx, hx', Rn.enc, c3, w1, w2, g1, g1', hy, hy', e1, a, hR]
            rw [this]
            exact o
          by_cases e2 : y.r = 116
          · have o := one 9 (by decide) (by decide) (by unfold escV; rw [hq, if_neg e1, if_pos e2])
            have a := ap1 9 (by decide) (by decide)
            generalize hR : K (st71 rs fr (acc ++ byteB 9) (k + 2)) [rr 1 (acc ++ byteB 9).size 5] = RR at *
            simp only [st71, List.replicate, List.cons_append, List.nil_append] at hR
            have : K (st71 rs fr acc k) [rr 1 acc.size 5] = RR := by
              rw [L_round hK]
              simp -implicitDefEqProofs only [B71L3, st71, dbody, dexec, ostep, dop, ev, put, wants, dbin, dun, List.replicate, Nat.reduceAdd, Nat.reduceSub, Nat.reduceLT, Nat.reduceLeDiff, Nat.reduceMul, DV.cells, DV.flat, dload, DV.elems, reduceCtorEq, mask, DV.lows, DV.low, DV.coe, DV.isD, dresults, dresult, withHeap, lowCells, LSt.isReady, srcElems, DV.int, DV.mkAgg, same, mnmx2, nilness, bound, fill, flatCells, Int.reduceLE, Int.reduceLT, Int.reduceAdd, Int.reduceSub, Int.reduceNeg, Int.reduceEq, Int.reduceBEq, Int.reduceBNe, Nat.reduceBEq, Nat.reduceEqDiff, Int.reduceToNat, allocCells, stp, hk, hx, hx', Rn.enc, c3, w1, w2, g1, g1', hy, hy', e2, a, hR]
            rw [this]
            exact o
          by_cases e3 : y.r = 34
          · have o := one 34 (by decide) (by decide) (by unfold escV; rw [hq, if_neg e1, if_neg e2, if_pos e3])
            have a := ap1 34 (by decide) (by decide)
            have wu : IntKind.u8.wrap 34 = 34 := rfl
            generalize hR : K (st71 rs fr (acc ++ byteB 34) (k + 2)) [rr 1 (acc ++ byteB 34).size 5] = RR at *
            simp only [st71, List.replicate, List.cons_append, List.nil_append] at hR
            have : K (st71 rs fr acc k) [rr 1 acc.size 5] = RR := by
              rw [L_round hK]
              simp -implicitDefEqProofs only [B71L3, st71, dbody, dexec, ostep, dop, ev, put, wants, dbin, dun, List.replicate, Nat.reduceAdd, Nat.reduceSub, Nat.reduceLT, Nat.reduceLeDiff, Nat.reduceMul, DV.cells, DV.flat, dload, DV.elems, reduceCtorEq, mask, DV.lows, DV.low, DV.coe, DV.isD, dresults, dresult, withHeap, lowCells, LSt.isReady, srcElems, DV.int, DV.mkAgg, same, mnmx2, nilness, bound, fill, flatCells, Int.reduceLE, Int.reduceLT, Int.reduceAdd, Int.reduceSub, Int.reduceNeg, Int.reduceEq, Int.reduceBEq, Int.reduceBNe, Nat.reduceBEq, Nat.reduceEqDiff, Int.reduceToNat, allocCells, stp, hk, hx, hx', Rn.enc, c3, w1, w2, g1, g1', hy, hy', e3, a, wu, hR]
            rw [this]
            exact o
          by_cases e4 : y.r = 92
          · have o := one 92 (by decide) (by decide) (by unfold escV; rw [hq, if_neg e1, if_neg e2, if_neg e3, if_pos e4])
            have a := ap1 92 (by decide) (by decide)
            have wu : IntKind.u8.wrap 92 = 92 := rfl
            generalize hR : K (st71 rs fr (acc ++ byteB 92) (k + 2)) [rr 1 (acc ++ byteB 92).size 5] = RR at *
            simp only [st71, List.replicate, List.cons_append, List.nil_append] at hR
            have : K (st71 rs fr acc k) [rr 1 acc.size 5] = RR := by
              rw [L_round hK]
              simp -implicitDefEqProofs only [B71L3, st71, dbody, dexec, ostep, dop, ev, put, wants, dbin, dun, List.replicate, Nat.reduceAdd, Nat.reduceSub, Nat.reduceLT, Nat.reduceLeDiff, Nat.reduceMul, DV.cells, DV.flat, dload, DV.elems, reduceCtorEq, mask, DV.lows, DV.low, DV.coe, DV.isD, dresults, dresult, withHeap, lowCells, LSt.isReady, srcElems, DV.int, DV.mkAgg, same, mnmx2, nilness, bound, fill, flatCells, Int.reduceLE, Int.reduceLT, Int.reduceAdd, Int.reduceSub, Int.reduceNeg, Int.reduceEq, Int.reduceBEq, Int.reduceBNe, Nat.reduceBEq, Nat.reduceEqDiff, Int.reduceToNat, allocCells, stp, hk, hx, hx', Rn.enc, c3, w1, w2, g1, g1', hy, hy', e4, a, wu, hR]
            rw [this]
            exact o
          have f1 : (y.r == 110) = false := by simpa using e1
          have f2 : (y.r == 116) = false := by simpa using e2
          have f3 : (y.r == 34) = false := by simpa using e3
          have f4 : (y.r == 92) = false := by simpa using e4
          by_cases e5 : y.r = 120
          · have he : escV rs (k + 1) = (escB (hexOf (peekR rs (k + 2))) (hexOf (peekR rs (k + 3))), decide (0 ≤ hexOf (peekR rs (k + 2))) && decide (0 ≤ hexOf (peekR rs (k + 3))), 3) := by
              unfold escV
              rw [hq, if_neg e1, if_neg e2, if_neg e3, if_neg e4, if_pos e5]
            have w3 : IntKind.i64.wrap ((k : Int) + 3) = ((k + 3 : Nat) : Int) := by rw [wrap_i64 (by omega) (by omega)]; simp
            by_cases hk3 : k + 3 < rs.length
            · have g3 : ¬ (rs.length : Int) ≤ ((k + 3 : Nat) : Int) := by omega
              have g3' : ((k + 3 : Nat) : Int) < rs.length := by omega
              have g2' : ((k + 2 : Nat) : Int) < rs.length := by omega
              have ha : rs[k + 2]? = some rs[k + 2] := List.getElem?_eq_getElem _
              have hb : rs[k + 3]? = some rs[k + 3] := List.getElem?_eq_getElem _
              generalize rs[k + 2] = a at ha
              generalize rs[k + 3] = b at hb
              have ha' := rmap_at (f := Rn.enc) ha
              have hb' := rmap_at (f := Rn.enc) hb
              have hpa : peekR rs (k + 2) = a.r := by simp [peekR, ha]
              have hpb : peekR rs (k + 3) = b.r := by simp [peekR, hb]
              rw [hpa, hpb] at he
              have ea := fun h => hex_ok a.r h
              have eb := fun h => hex_ok b.r h
              have ia := hexOf_in a.r
              have ib := hexOf_in b.r
              by_cases l1 : hexOf a.r < 0
              · have : qtK rs (f + 1) k acc = none := by
                  rw [q1, he]
                  simp
                  intro hh
                  omega
                rw [this]
                refine .inr ⟨acc, k, ?_⟩
                rw [L_round hK]
                simp -implicitDefEqProofs only [B71L3, st71, ex71, dbody, dexec, ostep, dop, ev, put, wants, dbin, dun, List.replicate, Nat.reduceAdd, Nat.reduceSub, Nat.reduceLT, Nat.reduceLeDiff, Nat.reduceMul, DV.cells, DV.flat, dload, DV.elems, reduceCtorEq, mask, DV.lows, DV.low, DV.coe, DV.isD, dresults, dresult, withHeap, lowCells, LSt.isReady, srcElems, DV.int, DV.mkAgg, same, mnmx2, nilness, bound, fill, flatCells, Int.reduceLE, Int.reduceLT, Int.reduceAdd, Int.reduceSub, Int.reduceNeg, Int.reduceEq, Int.reduceBEq, Int.reduceBNe, Nat.reduceBEq, Nat.reduceEqDiff, Int.reduceToNat, allocCells, stp, hk, hx, hx', Rn.enc, c3, w1, w2, w3, g1, g1', g2', g3, g3', hy, hy', e5, ha, ha', hb, hb', ea, eb, l1]
              by_cases l2 : hexOf b.r < 0
              · have : qtK rs (f + 1) k acc = none := by
                  rw [q1, he]
                  simp
                  intro _ hh
                  omega
                rw [this]
                refine .inr ⟨acc, k, ?_⟩
                rw [L_round hK]
                simp -implicitDefEqProofs only [B71L3, st71, ex71, dbody, dexec, ostep, dop, ev, put, wants, dbin, dun, List.replicate, Nat.reduceAdd, Nat.reduceSub, Nat.reduceLT, Nat.reduceLeDiff, Nat.reduceMul, DV.cells, DV.flat, dload, DV.elems, reduceCtorEq, mask, DV.lows, DV.low, DV.coe, DV.isD, dresults, dresult, withHeap, lowCells, LSt.isReady, srcElems, DV.int, DV.mkAgg, same, mnmx2, nilness, bound, fill, flatCells, Int.reduceLE, Int.reduceLT, Int.reduceAdd, Int.reduceSub, Int.reduceNeg, Int.reduceEq, Int.reduceBEq, Int.reduceBNe, Nat.reduceBEq, Nat.reduceEqDiff, Int.reduceToNat, allocCells, stp, hk, hx, hx', Rn.enc, c3, w1, w2, w3, g1, g1', g2', g3, g3', hy, hy', e5, ha, ha', hb, hb', ea, eb, l1, l2]
              have hok : (decide (0 ≤ hexOf a.r) && decide (0 ≤ hexOf b.r)) = true := by simp; omega
              rw [escB_eq (by omega) (by omega), hok] at he
              have o : end71 rs fr (qtK rs (f + 1) k acc) (K (st71 rs fr (acc ++ byteB (16 * hexOf a.r + hexOf b.r)) (k + 4)) [rr 1 (acc ++ byteB (16 * hexOf a.r + hexOf b.r)).size 5]) := by
                rw [q1, he]
                simp only [if_true]
                exact ih (k + 1 + 3) (acc ++ byteB (16 * hexOf a.r + hexOf b.r)) (by omega) (by omega) (by rw [ByteArray.size_append, byteB_size]; omega)
              have a1 := ap1 (16 * hexOf a.r + hexOf b.r) (by omega) (by omega)
              have x1 : IntKind.i64.wrap (16 * hexOf a.r) = 16 * hexOf a.r := wrap_i64 (by omega) (by omega)
              obtain ⟨v, hv⟩ : ∃ v, 16 * hexOf a.r + hexOf b.r = v := ⟨_, rfl⟩
              have x2 : IntKind.i64.wrap (16 * hexOf a.r + hexOf b.r) = v := by rw [wrap_i64 (by omega) (by omega), hv]
              have x3 : IntKind.u8.wrap v = v := wrap_u8 (by omega) (by omega)
              rw [hv] at o a1
              have w4 : IntKind.i64.wrap (((k + 2 : Nat) : Int) + 2) = ((k + 4 : Nat) : Int) := by rw [wrap_i64 (by omega) (by omega)]; omega
              generalize hR : K (st71 rs fr (acc ++ byteB v) (k + 4)) [rr 1 (acc ++ byteB v).size 5] = RR at *
              simp only [st71, List.replicate, List.cons_append, List.nil_append] at hR
              have : K (st71 rs fr acc k) [rr 1 acc.size 5] = RR := by
                rw [L_round hK]
                simp -implicitDefEqProofs only [B71L3, st71, dbody, dexec, ostep, dop, ev, put, wants, dbin, dun, List.replicate, Nat.reduceAdd, Nat.reduceSub, Nat.reduceLT, Nat.reduceLeDiff, Nat.reduceMul, DV.cells, DV.flat, dload, DV.elems, reduceCtorEq, mask, DV.lows, DV.low, DV.coe, DV.isD, dresults, dresult, withHeap, lowCells, LSt.isReady, srcElems, DV.int, DV.mkAgg, same, mnmx2, nilness, bound, fill, flatCells, Int.reduceLE, Int.reduceLT, Int.reduceAdd, Int.reduceSub, Int.reduceNeg, Int.reduceEq, Int.reduceBEq, Int.reduceBNe, Nat.reduceBEq, Nat.reduceEqDiff, Int.reduceToNat, allocCells, stp, hk, hx, hx', Rn.enc, c3, w1, w2, w3, w4, x1, x2, x3, g1, g1', g2', g3, g3', hy, hy', e5, ha, ha', hb, hb', ea, eb, l1, l2, a1, hR]
              rw [this]
              exact o
            · have g3 : (rs.length : Int) ≤ ((k + 3 : Nat) : Int) := by omega
              have hpb : peekR rs (k + 3) = -1 := by
                have : rs[k + 3]? = none := by simp; omega
                simp [peekR, this]
              have : qtK rs (f + 1) k acc = none := by
                have hm : hexOf (-1) = -1 := by decide
                rw [q1, he, hpb, hm]
                simp
              rw [this]
              refine .inr ⟨acc, k, ?_⟩
              rw [L_round hK]
              simp -implicitDefEqProofs only [B71L3, st71, ex71, dbody, dexec, ostep, dop, ev, put, wants, dbin, dun, List.replicate, Nat.reduceAdd, Nat.reduceSub, Nat.reduceLT, Nat.reduceLeDiff, Nat.reduceMul, DV.cells, DV.flat, dload, DV.elems, reduceCtorEq, mask, DV.lows, DV.low, DV.coe, DV.isD, dresults, dresult, withHeap, lowCells, LSt.isReady, srcElems, DV.int, DV.mkAgg, same, mnmx2, nilness, bound, fill, flatCells, Int.reduceLE, Int.reduceLT, Int.reduceAdd, Int.reduceSub, Int.reduceNeg, Int.reduceEq, Int.reduceBEq, Int.reduceBNe, Nat.reduceBEq, Nat.reduceEqDiff, Int.reduceToNat, allocCells, stp, hk, hx, hx', Rn.enc, c3, w1, w2, w3, g1, g1', g3, hy, hy', e5]
          · have f5 : (y.r == 120) = false := by simpa using e5
            have : qtK rs (f + 1) k acc = none := by
              have he : escV rs (k + 1) = (0, false, 1) := by
                unfold escV
                rw [hq, if_neg e1, if_neg e2, if_neg e3, if_neg e4, if_neg e5]
              rw [q1, he]
              simp
            rw [this]
            refine .inr ⟨acc, k, ?_⟩
            rw [L_round hK]
            simp -implicitDefEqProofs only [B71L3, st71, ex71, dbody, dexec, ostep, dop, ev, put, wants, dbin, dun, List.replicate, Nat.reduceAdd, Nat.reduceSub, Nat.reduceLT, Nat.reduceLeDiff, Nat.reduceMul, DV.cells, DV.flat, dload, DV.elems, reduceCtorEq, mask, DV.lows, DV.low, DV.coe, DV.isD, dresults, dresult, withHeap, lowCells, LSt.isReady, srcElems, DV.int, DV.mkAgg, same, mnmx2, nilness, bound, fill, flatCells, Int.reduceLE, Int.reduceLT, Int.reduceAdd, Int.reduceSub, Int.reduceNeg, Int.reduceEq, Int.reduceBEq, Int.reduceBNe, Nat.reduceBEq, Nat.reduceEqDiff, Int.reduceToNat, allocCells, stp, hk, hx, hx', Rn.enc, c3, w1, w2, g1, g1', hy, hy', f1, f2, f3, f4, f5]
        · have g1 : (rs.length : Int) ≤ ((k + 1 : Nat) : Int) := by omega
          have hq : peekR rs (k + 1) = -1 := by
            have : rs[k + 1]? = none := by simp; omega
            simp [peekR, this]
          have : qtK rs (f + 1) k acc = none := by
            have he : escV rs (k + 1) = (0, false, 1) := by
              unfold escV
              rw [hq]
              rfl
            rw [q1, he]
            simp
          rw [this]
          refine .inr ⟨acc, k, ?_⟩
          rw [L_round hK]
          simp -implicitDefEqProofs only [B71L3, st71, ex71, dbody, dexec, ostep, dop, ev, put, wants, dbin, dun, List.replicate, Nat.reduceAdd, Nat.reduceSub, Nat.reduceLT, Nat.reduceLeDiff, Nat.reduceMul, DV.cells, DV.flat, dload, DV.elems, reduceCtorEq, mask, DV.lows, DV.low, DV.coe, DV.isD, dresults, dresult, withHeap, lowCells, LSt.isReady, srcElems, DV.int, DV.mkAgg, same, mnmx2, nilness, bound, fill, flatCells, Int.reduceLE, Int.reduceLT, Int.reduceAdd, Int.reduceSub, Int.reduceNeg, Int.reduceEq, Int.reduceBEq, Int.reduceBNe, Nat.reduceBEq, Nat.reduceEqDiff, Int.reduceToNat, allocCells, stp, hk, hx, hx', Rn.enc, c3, w1, g1]
      · have d3 : (x.r != 92) = true := by simpa using c3
        have q1 : qtK rs (f + 1) k acc = qtK rs f (k + 1) (acc ++ encB x.r) := by
          have : ¬ (x.r < 0 ∨ x.r = 10) := by omega
          simp only [qtK, hp, this, c1, c3, if_false]
        have h5 : (encB x.r).size ≤ 4 := by rw [encB_size]; exact encL_le _
        have o := ih (k + 1) (acc ++ encB x.r) (by omega) (by omega) (by rw [ByteArray.size_append]; omega)
        rw [q1]
        have a := ap (encB x.r) (by omega)
        have e88 := fun h => rput_ok x.r hw h
        generalize hR : K (st71 rs fr (acc ++ encB x.r) (k + 1)) [rr 1 (acc ++ encB x.r).size 5] = RR at *
        simp only [st71, List.replicate, List.cons_append, List.nil_append] at hR
        have : K (st71 rs fr acc k) [rr 1 acc.size 5] = RR := by
          rw [L_round hK]
          simp -implicitDefEqProofs only [B71L3, st71, dbody, dexec, ostep, dop, ev, put, wants, dbin, dun, List.replicate, Nat.reduceAdd, Nat.reduceSub, Nat.reduceLT, Nat.reduceLeDiff, Nat.reduceMul, DV.cells, DV.flat, dload, DV.elems, reduceCtorEq, mask, DV.lows, DV.low, DV.coe, DV.isD, dresults, dresult, withHeap, lowCells, LSt.isReady, srcElems, DV.int, DV.mkAgg, same, mnmx2, nilness, bound, fill, flatCells, Int.reduceLE, Int.reduceLT, Int.reduceAdd, Int.reduceSub, Int.reduceNeg, Int.reduceEq, Int.reduceBEq, Int.reduceBNe, Nat.reduceBEq, Nat.reduceEqDiff, Int.reduceToNat, allocCells, stp, hk, hx, hx', Rn.enc, d1, d2, d3, w1, a, e88, hR]
        rw [this]
        exact o
    · have hk : ¬ (k : Int) < rs.length := by omega
      have hp : peekR rs k = -1 := by
        have : rs[k]? = none := by simp; omega
        simp [peekR, this]
      have : qtK rs (f + 1) k acc = none := by simp only [qtK, hp]; rfl
      rw [this]
      refine .inl ⟨acc, k, by rw [hp]; decide, by omega, by omega, ?_⟩
      rw [L_round hK]
      simp -implicitDefEqProofs only [B71L3, st71, dbody, dexec, ostep, dop, ev, put, wants, dbin, dun, List.replicate, Nat.reduceAdd, Nat.reduceSub, Nat.reduceLT, Nat.reduceLeDiff, Nat.reduceMul, DV.cells, DV.flat, dload, DV.elems, reduceCtorEq, mask, DV.lows, DV.low, DV.coe, DV.isD, dresults, dresult, withHeap, lowCells, LSt.isReady, srcElems, DV.int, DV.mkAgg, same, mnmx2, nilness, bound, fill, flatCells, Int.reduceLE, Int.reduceLT, Int.reduceAdd, Int.reduceSub, Int.reduceNeg, Int.reduceEq, Int.reduceBEq, Int.reduceBNe, Nat.reduceBEq, Nat.reduceEqDiff, Int.reduceToNat, allocCells, stp, hk]
end Go.Proofs.YtoadpaaghjomnaaDoor.Codes
