/-
  QueuePlays, by the deep machine.
  Conditions: none.
-/
import Derived.Test.YtoadpaaghjomnaaQI
import Derived.Test.YtoadpaaghjomnaaQK
set_option linter.unusedVariables false
set_option linter.unusedSimpArgs false
set_option maxRecDepth 100000
namespace Go.Proofs.Ytoadpaaghjomnaa.Codes
open Go.Deepv

def st58 (db : List (List FV)) (l : List (List FV)) (len i : Int) : List DV :=
  [.d .undef, .d .undef, .d (.slice 1 db), .d .undef, .d .undef, .d .undef, .d .undef, .ptr 0 0, .d .undef, .ptr 1 0] ++ List.replicate 31 (.d .undef) ++ [.d (.slice 7 l), .d (.int .i64 len), .d (.int .i64 i)] ++ List.replicate 55 (.d .undef)

theorem samerow_ev (l : List Ev) (hl : l.length ≤ 1000) (ho : ∀ e ∈ l, e.ok) (t : Nat) (h : List Res) : D env 16 [.d (.slice 7 (evs l)), .row 7 (evs l) t] h = some (.val (.d (.bool true)) h) := by
  rw [← sames_ev l hl ho h, D_eq, D_eq]
  unfold dcallF
  rfl

/-- The queue takes events in while it has room, and so does the reference's. -/
theorem loop58 (m : Nat) (dos : List Bool) (l : List Ev) (hl : l.length ≤ 300) (ho : ∀ e ∈ l, e.ok) :
    ∀ (r p : List Ev), l = p ++ r → ∀ (ring : List (List FV)) (f n g : Nat) (P : List Ev), QInv ring f n m P g → P.length ≤ p.length → (∀ e ∈ P, e ∈ l) →
      ∃ h', L env 2 true H5L8 X5L8 B5L8 (st58 (flags dos) (evs l) l.length p.length) [.box (qc ring f n m), .box (rc (evs (P.drop g)) m)] = some (.exit 0, List.replicate 99 (.d .undef), h') := by
  obtain ⟨K, hK⟩ : ∃ K, L env 2 true H5L8 X5L8 B5L8 = K := ⟨_, rfl⟩
  rw [hK]
  intro r
  induction r with
  | nil =>
    intro p hp ring f n g P q hPp hPl
    simp at hp
    subst hp
    refine ⟨[.box (qc ring f n m), .box (rc (evs (P.drop g)) m)], ?_⟩
    rw [L_round hK]
    simp -implicitDefEqProofs only [B5L8, st58, dbody, dexec, dops, dop, ev, put, wants, dbin, dun, List.replicate, List.length_cons, List.length_nil, Nat.reduceAdd, Nat.reduceSub, Nat.reduceLT, Nat.reduceLeDiff, Nat.reduceMul, List.cons_append, List.nil_append, List.append_nil, List.set_cons_zero, List.set_cons_succ, List.set_nil, List.getD_cons_zero, List.getD_cons_succ, List.getD_nil, DV.cells, List.map_cons, List.map_nil, List.all_cons, List.all_nil, one_d1, one_ptr, one_row, one_clo, one_if, one_int, one_bool, one_str, one_slice, one_ref, one_nilp, one_iface, one_nili, one_func, one_nilf, Bool.and_self, Bool.and_true, Bool.true_and, Bool.and_false, Bool.false_and, Bool.or_true, Bool.or_false, if_true, flat_comp, flat_map, List.mapM_cons, List.mapM_nil, DV.flat, Option.pure_def, Option.bind_eq_bind, Option.bind_some, Option.bind_none, Option.map_some, Option.map_none, dload, List.getElem?_cons_zero, List.getElem?_cons_succ, List.getElem?_nil, Nat.zero_add, Nat.add_zero, bne_self_eq_false, beq_self_eq_true, Bool.false_eq_true, if_false, DV.elems, ne_eq, not_true_eq_false, not_false_eq_true, Bool.not_true, Bool.not_false, beq_iff_eq, bne_iff_ne, reduceCtorEq, mask, DV.lows, DV.low, DV.coe, DV.isD, dresults, dresult, withHeap, List.take_zero, List.take_nil, dcallV_fn, dcallV_fnc, dcallV_clo, dcallV_yld, lowCells, LSt.isReady, DV.int, DV.mkAgg, List.drop_zero, List.drop_succ_cons, List.take_succ_cons, same, List.not_mem_nil, false_implies, implies_true, decide_true, decide_false, decide_eq_true_eq, Int.toNat_natCast, Int.natCast_nonneg, and_self, and_true, true_and, mnmx2, List.foldlM_cons, List.foldlM_nil, nilness, bound, fill, flatCells, List.length_append, List.length_map, Nat.le_refl, List.all_map, Function.comp_def, Bool.false_beq, Bool.true_beq, gt_iff_lt, ge_iff_le, cast_lit, Int.reduceLE, Int.reduceLT, Int.reduceAdd, Int.reduceSub, Int.reduceNeg, Int.reduceEq, Int.reduceBEq, Int.reduceBNe, Nat.reduceBEq, Bool.not_eq_true, Int.toNat_zero, Nat.zero_mul, Nat.reduceEqDiff, and_false, false_and, or_false, or_true, true_or, false_or, Int.le_refl, Int.lt_irrefl, Int.reduceToNat, allocCells, List.mem_cons, forall_eq_or_imp, forall_eq, List.append_assoc, List.length_set, List.set_set, DOut.val.injEq, List.take_succ_cons]
  | cons v r ihr =>
    intro p hp ring f n g P q hPp hPl
    have e1 : (p.length : Int) < (l.length : Int) := by rw [hp]; simp; omega
    have e2 : l[p.length]? = some v := by rw [hp]; simp
    have e3 : IntKind.i64.wrap ((p.length : Int) + 1) = (p.length : Int) + 1 := wrap_i64 (by omega) (by omega)
    have hx7 := ev_len v
    have hx1 := ev_one v
    have hx2 : v.enc.all (fun x => x.one) = true := hx1
    have hc := q.count
    have hms := q.most
    have hdl : (P.drop g).length = n := by simp; omega
    have hel : (evs (P.drop g)).length = n := by rw [evs_len, hdl]
    -- what is put
    obtain ⟨ring1, n1, P1, er, q1, hP1, hP1l, hput, hrput⟩ : ∃ (ring1 : List (List FV)) (n1 : Nat) (P1 : List Ev) (er : Int), QInv ring1 f n1 m P1 g ∧ P1.length ≤ p.length + 1 ∧ (∀ e ∈ P1, e ∈ l) ∧
        (∀ t, D env 13 [.ptr 0 0, .d (.agg v.enc)] (.box (qc ring f n m) :: t) = some (.val (.d (.int .i64 er)) (.box (qc ring1 f n1 m) :: t))) ∧
        (∀ x t, D env 18 [.ptr 1 0, .d (.agg v.enc)] (x :: .box (rc (evs (P.drop g)) m) :: t) = some (.val (.d (.int .i64 er)) (x :: .box (rc (evs (P1.drop g)) m) :: t))) := by
      by_cases hn : n < m
      · refine ⟨_, _, _, 0, q.put hn v hx1, by simp; omega, fun e he => ?_, fun t => put_ok q.rok q.first hms.2.1 hn (id := 0) (h := _ :: t) rfl hx7 hx1, fun x t => ?_⟩
        · rcases List.mem_append.1 he with he | he
          · exact hPl e he
          · rw [List.mem_singleton.1 he, hp]; simp
        · have := rput_ok (l := evs (P.drop g)) (m := m) (by rw [hel]; omega) (id := 1) (h := x :: .box (rc (evs (P.drop g)) m) :: t) rfl (by rw [hel]; exact hn) hx7 hx1
          rw [this, evs_snoc, List.drop_append_of_le_length (by omega)]
          rfl
      · have hnm : n = m := by omega
        subst hnm
        refine ⟨_, _, _, 25, q, by omega, hPl, fun t => put_full q.rok (id := 0) (h := _ :: t) rfl hx1, fun x t => ?_⟩
        exact rput_full (l := evs (P.drop g)) (id := 1) (h := x :: .box (rc (evs (P.drop g)) n) :: t) rfl (by rw [hel]; exact Nat.le_refl _) hx1
    have hc1 := q1.count
    have hms1 := q1.most
    have ho1 : ∀ e ∈ P1, e.ok := fun e he => ho e (hP1l e he)
    by_cases hd : dos[p.length]? = some true
    · have hdl : (p.length : Int) < (dos.length : Int) := by have := (List.getElem?_eq_some_iff.1 hd).1; omega
      -- what is taken
      obtain ⟨ring2, f2, n2, g2, ex, ok, q2, htake, hrtake, hone, hex7, hex1⟩ : ∃ (ring2 : List (List FV)) (f2 n2 g2 : Nat) (ex : List FV) (ok : Bool), QInv ring2 f2 n2 m P1 g2 ∧
          (∀ t, D env 14 [.ptr 0 0] (.box (qc ring1 f n1 m) :: t) = some (.val (.d (.tup [.agg ex, .bool ok])) (.box (qc ring2 f2 n2 m) :: t))) ∧
          (∀ x t, D env 19 [.ptr 1 0] (x :: .box (rc (evs (P1.drop g)) m) :: t) = some (.val (.d (.tup [.agg ex, .bool ok])) (x :: .box (rc (evs (P1.drop g2)) m) :: t))) ∧
          (∀ h, D env 20 [.d (.agg ex), .d (.agg ex)] h = some (.val (.d (.bool true)) h)) ∧ ex.length = 7 ∧ ex.all FV.one = true := by
        by_cases hn : 0 < n1
        · obtain ⟨u, hu, hru, q2⟩ := q1.take hn
          have hlt : g < P1.length := by omega
          have hcons : P1.drop g = u :: P1.drop (g + 1) := by
            rw [List.drop_eq_getElem_cons hlt]
            congr 1
            rw [List.getElem?_eq_getElem hlt] at hu
            exact Option.some.inj hu
          refine ⟨_, _, _, g + 1, u.enc, true, q2, fun t => take_ok q1.rok q1.first hn (by omega) (id := 0) (h := _ :: t) rfl hru, fun x t => ?_, one_ok u (ho1 u (List.mem_of_getElem? hu)), ev_len u, ev_one u⟩
          rw [hcons]
          exact rtake_ok (l := evs (P1.drop (g + 1))) (id := 1) (h := x :: .box (rc (evs (u :: P1.drop (g + 1))) m) :: t) rfl (ev_len u) (ev_one u)
        · have hn0 : n1 = 0 := by omega
          subst hn0
          have hnil : P1.drop g = [] := List.drop_of_length_le (by omega)
          refine ⟨_, _, _, g, zeroEv, false, q1, fun t => take_none q1.rok (id := 0) (h := _ :: t) rfl, fun x t => ?_, fun h => ?_, rfl, rfl⟩
          · rw [hnil]
            exact rtake_none (id := 1) (h := x :: .box (rc (evs []) m) :: t) rfl
          · exact one_ok ⟨0, .mk 0 0 [] ⟨#[]⟩ [], 0⟩ (by simp [Ev.ok, V.ok, V.oks]) h
      have hc2 := q2.count
      have hms2 := q2.most
      have hex2 : ex.all (fun x => x.one) = true := hex1
      have hlen : ∀ t, D env 15 [.ptr 0 0] (.box (qc ring2 f2 n2 m) :: t) = some (.val (.d (.int .i64 n2)) (.box (qc ring2 f2 n2 m) :: t)) := fun t => len_ok q2.rok (id := 0) (h := _ :: t) rfl
      have hel2 : (evs (P1.drop g2)).length = n2 := by rw [evs_len, List.length_drop]; omega
      have hrlen : ∀ x t, D env 21 [.ptr 1 0] (x :: .box (rc (evs (P1.drop g2)) m) :: t) = some (.val (.d (.int .i64 n2)) (x :: .box (rc (evs (P1.drop g2)) m) :: t)) := fun x t => by
        have := rlen_ok (l := evs (P1.drop g2)) (m := m) (id := 1) (h := x :: .box (rc (evs (P1.drop g2)) m) :: t) rfl
        rw [hel2] at this
        exact this
      have hall : ∀ t, D env 22 [.ptr 0 0] (.box (qc ring2 f2 n2 m) :: t) = some (.val (.d (.slice 7 (evs (P1.drop g2)))) (.box (qc ring2 f2 n2 m) :: t)) := fun t => all_inv q2 rfl
      have hrall : ∀ x t, D env 23 [.ptr 1 0] (x :: .box (rc (evs (P1.drop g2)) m) :: t) = _ := fun x t => rall_ok (l := evs (P1.drop g2)) (m := m) (by rw [hel2]; omega) (id := 1) (h := x :: .box (rc (evs (P1.drop g2)) m) :: t) rfl
      have hsame := samerow_ev (P1.drop g2) (by simp; omega) (fun e he => ho1 e (List.mem_of_mem_drop he))
      obtain ⟨h', i5⟩ := ihr (p ++ [v]) (by simp [hp]) ring2 f2 n2 g2 P1 q2 (by simp; omega) hP1l
      refine ⟨h', ?_⟩
      rw [L_round hK]
      simp [st58, List.replicate] at i5
      simp -implicitDefEqProofs only [B5L8, st58, dbody, dexec, dops, dop, ev, put, wants, dbin, dun, List.replicate, List.length_cons, List.length_nil, Nat.reduceAdd, Nat.reduceSub, Nat.reduceLT, Nat.reduceLeDiff, Nat.reduceMul, List.cons_append, List.nil_append, List.append_nil, List.set_cons_zero, List.set_cons_succ, List.set_nil, List.getD_cons_zero, List.getD_cons_succ, List.getD_nil, DV.cells, List.map_cons, List.map_nil, List.all_cons, List.all_nil, one_d1, one_ptr, one_row, one_clo, one_if, one_int, one_bool, one_str, one_slice, one_ref, one_nilp, one_iface, one_nili, one_func, one_nilf, Bool.and_self, Bool.and_true, Bool.true_and, Bool.and_false, Bool.false_and, Bool.or_true, Bool.or_false, if_true, flat_comp, flat_map, List.mapM_cons, List.mapM_nil, DV.flat, Option.pure_def, Option.bind_eq_bind, Option.bind_some, Option.bind_none, Option.map_some, Option.map_none, dload, List.getElem?_cons_zero, List.getElem?_cons_succ, List.getElem?_nil, Nat.zero_add, Nat.add_zero, bne_self_eq_false, beq_self_eq_true, Bool.false_eq_true, if_false, DV.elems, ne_eq, not_true_eq_false, not_false_eq_true, Bool.not_true, Bool.not_false, beq_iff_eq, bne_iff_ne, reduceCtorEq, mask, DV.lows, DV.low, DV.coe, DV.isD, dresults, dresult, withHeap, List.take_zero, List.take_nil, dcallV_fn, dcallV_fnc, dcallV_clo, dcallV_yld, lowCells, LSt.isReady, DV.int, DV.mkAgg, List.drop_zero, List.drop_succ_cons, List.take_succ_cons, same, List.not_mem_nil, false_implies, implies_true, decide_true, decide_false, decide_eq_true_eq, Int.toNat_natCast, Int.natCast_nonneg, and_self, and_true, true_and, mnmx2, List.foldlM_cons, List.foldlM_nil, nilness, bound, fill, flatCells, List.length_append, List.length_map, Nat.le_refl, List.all_map, Function.comp_def, Bool.false_beq, Bool.true_beq, gt_iff_lt, ge_iff_le, cast_lit, Int.reduceLE, Int.reduceLT, Int.reduceAdd, Int.reduceSub, Int.reduceNeg, Int.reduceEq, Int.reduceBEq, Int.reduceBNe, Nat.reduceBEq, Bool.not_eq_true, Int.toNat_zero, Nat.zero_mul, Nat.reduceEqDiff, and_false, false_and, or_false, or_true, true_or, false_or, Int.le_refl, Int.lt_irrefl, Int.reduceToNat, allocCells, List.mem_cons, forall_eq_or_imp, forall_eq, List.append_assoc, List.length_set, List.set_set, DOut.val.injEq, e1, e2, e3, evs_at, evs_len, flags_at, flags_len, hd, hdl, hx7, hx1, hx2, hex7, hex1, hex2, take_d, lows_d, put_all, hput, hrput, htake, hrtake, hone, hlen, hrlen, hall, hrall, hsame, i5]
    · have hlen : ∀ t, D env 15 [.ptr 0 0] (.box (qc ring1 f n1 m) :: t) = some (.val (.d (.int .i64 n1)) (.box (qc ring1 f n1 m) :: t)) := fun t => len_ok q1.rok (id := 0) (h := _ :: t) rfl
      have hel2 : (evs (P1.drop g)).length = n1 := by rw [evs_len, List.length_drop]; omega
      have hrlen : ∀ x t, D env 21 [.ptr 1 0] (x :: .box (rc (evs (P1.drop g)) m) :: t) = some (.val (.d (.int .i64 n1)) (x :: .box (rc (evs (P1.drop g)) m) :: t)) := fun x t => by
        have := rlen_ok (l := evs (P1.drop g)) (m := m) (id := 1) (h := x :: .box (rc (evs (P1.drop g)) m) :: t) rfl
        rw [hel2] at this
        exact this
      have hall : ∀ t, D env 22 [.ptr 0 0] (.box (qc ring1 f n1 m) :: t) = some (.val (.d (.slice 7 (evs (P1.drop g)))) (.box (qc ring1 f n1 m) :: t)) := fun t => all_inv q1 rfl
      have hrall : ∀ x t, D env 23 [.ptr 1 0] (x :: .box (rc (evs (P1.drop g)) m) :: t) = _ := fun x t => rall_ok (l := evs (P1.drop g)) (m := m) (by rw [hel2]; omega) (id := 1) (h := x :: .box (rc (evs (P1.drop g)) m) :: t) rfl
      have hsame := samerow_ev (P1.drop g) (by simp; omega) (fun e he => ho1 e (List.mem_of_mem_drop he))
      obtain ⟨h', i5⟩ := ihr (p ++ [v]) (by simp [hp]) ring1 f n1 g P1 q1 (by simp; omega) hP1l
      refine ⟨h', ?_⟩
      rw [L_round hK]
      simp [st58, List.replicate] at i5
      by_cases hdl : p.length < dos.length
      · have hd2 : dos[p.length]? = some false := by
          rw [List.getElem?_eq_getElem hdl] at hd ⊢
          cases hh : dos[p.length] with
          | true => rw [hh] at hd; exact absurd rfl hd
          | false => rfl
        have hdl2 : (p.length : Int) < (dos.length : Int) := by omega
        simp -implicitDefEqProofs only [B5L8, st58, dbody, dexec, dops, dop, ev, put, wants, dbin, dun, List.replicate, List.length_cons, List.length_nil, Nat.reduceAdd, Nat.reduceSub, Nat.reduceLT, Nat.reduceLeDiff, Nat.reduceMul, List.cons_append, List.nil_append, List.append_nil, List.set_cons_zero, List.set_cons_succ, List.set_nil, List.getD_cons_zero, List.getD_cons_succ, List.getD_nil, DV.cells, List.map_cons, List.map_nil, List.all_cons, List.all_nil, one_d1, one_ptr, one_row, one_clo, one_if, one_int, one_bool, one_str, one_slice, one_ref, one_nilp, one_iface, one_nili, one_func, one_nilf, Bool.and_self, Bool.and_true, Bool.true_and, Bool.and_false, Bool.false_and, Bool.or_true, Bool.or_false, if_true, flat_comp, flat_map, List.mapM_cons, List.mapM_nil, DV.flat, Option.pure_def, Option.bind_eq_bind, Option.bind_some, Option.bind_none, Option.map_some, Option.map_none, dload, List.getElem?_cons_zero, List.getElem?_cons_succ, List.getElem?_nil, Nat.zero_add, Nat.add_zero, bne_self_eq_false, beq_self_eq_true, Bool.false_eq_true, if_false, DV.elems, ne_eq, not_true_eq_false, not_false_eq_true, Bool.not_true, Bool.not_false, beq_iff_eq, bne_iff_ne, reduceCtorEq, mask, DV.lows, DV.low, DV.coe, DV.isD, dresults, dresult, withHeap, List.take_zero, List.take_nil, dcallV_fn, dcallV_fnc, dcallV_clo, dcallV_yld, lowCells, LSt.isReady, DV.int, DV.mkAgg, List.drop_zero, List.drop_succ_cons, List.take_succ_cons, same, List.not_mem_nil, false_implies, implies_true, decide_true, decide_false, decide_eq_true_eq, Int.toNat_natCast, Int.natCast_nonneg, and_self, and_true, true_and, mnmx2, List.foldlM_cons, List.foldlM_nil, nilness, bound, fill, flatCells, List.length_append, List.length_map, Nat.le_refl, List.all_map, Function.comp_def, Bool.false_beq, Bool.true_beq, gt_iff_lt, ge_iff_le, cast_lit, Int.reduceLE, Int.reduceLT, Int.reduceAdd, Int.reduceSub, Int.reduceNeg, Int.reduceEq, Int.reduceBEq, Int.reduceBNe, Nat.reduceBEq, Bool.not_eq_true, Int.toNat_zero, Nat.zero_mul, Nat.reduceEqDiff, and_false, false_and, or_false, or_true, true_or, false_or, Int.le_refl, Int.lt_irrefl, Int.reduceToNat, allocCells, List.mem_cons, forall_eq_or_imp, forall_eq, List.append_assoc, List.length_set, List.set_set, DOut.val.injEq, e1, e2, e3, evs_at, evs_len, flags_at, flags_len, hd2, hdl2, hx7, hx1, hx2, take_d, lows_d, put_all, hput, hrput, hlen, hrlen, hall, hrall, hsame, i5]
      · have hdl2 : ¬ (p.length : Int) < (dos.length : Int) := by omega
        simp -implicitDefEqProofs only [B5L8, st58, dbody, dexec, dops, dop, ev, put, wants, dbin, dun, List.replicate, List.length_cons, List.length_nil, Nat.reduceAdd, Nat.reduceSub, Nat.reduceLT, Nat.reduceLeDiff, Nat.reduceMul, List.cons_append, List.nil_append, List.append_nil, List.set_cons_zero, List.set_cons_succ, List.set_nil, List.getD_cons_zero, List.getD_cons_succ, List.getD_nil, DV.cells, List.map_cons, List.map_nil, List.all_cons, List.all_nil, one_d1, one_ptr, one_row, one_clo, one_if, one_int, one_bool, one_str, one_slice, one_ref, one_nilp, one_iface, one_nili, one_func, one_nilf, Bool.and_self, Bool.and_true, Bool.true_and, Bool.and_false, Bool.false_and, Bool.or_true, Bool.or_false, if_true, flat_comp, flat_map, List.mapM_cons, List.mapM_nil, DV.flat, Option.pure_def, Option.bind_eq_bind, Option.bind_some, Option.bind_none, Option.map_some, Option.map_none, dload, List.getElem?_cons_zero, List.getElem?_cons_succ, List.getElem?_nil, Nat.zero_add, Nat.add_zero, bne_self_eq_false, beq_self_eq_true, Bool.false_eq_true, if_false, DV.elems, ne_eq, not_true_eq_false, not_false_eq_true, Bool.not_true, Bool.not_false, beq_iff_eq, bne_iff_ne, reduceCtorEq, mask, DV.lows, DV.low, DV.coe, DV.isD, dresults, dresult, withHeap, List.take_zero, List.take_nil, dcallV_fn, dcallV_fnc, dcallV_clo, dcallV_yld, lowCells, LSt.isReady, DV.int, DV.mkAgg, List.drop_zero, List.drop_succ_cons, List.take_succ_cons, same, List.not_mem_nil, false_implies, implies_true, decide_true, decide_false, decide_eq_true_eq, Int.toNat_natCast, Int.natCast_nonneg, and_self, and_true, true_and, mnmx2, List.foldlM_cons, List.foldlM_nil, nilness, bound, fill, flatCells, List.length_append, List.length_map, Nat.le_refl, List.all_map, Function.comp_def, Bool.false_beq, Bool.true_beq, gt_iff_lt, ge_iff_le, cast_lit, Int.reduceLE, Int.reduceLT, Int.reduceAdd, Int.reduceSub, Int.reduceNeg, Int.reduceEq, Int.reduceBEq, Int.reduceBNe, Nat.reduceBEq, Bool.not_eq_true, Int.toNat_zero, Nat.zero_mul, Nat.reduceEqDiff, and_false, false_and, or_false, or_true, true_or, false_or, Int.le_refl, Int.lt_irrefl, Int.reduceToNat, allocCells, List.mem_cons, forall_eq_or_imp, forall_eq, List.append_assoc, List.length_set, List.set_set, DOut.val.injEq, e1, e2, e3, evs_at, evs_len, flags_at, flags_len, hdl2, hx7, hx1, hx2, take_d, lows_d, put_all, hput, hrput, hlen, hrlen, hall, hrall, hsame, i5]

def st58n (db : List (List FV)) (l : List (List FV)) (len i : Int) : List DV :=
  [.d .undef, .d .undef, .d (.slice 1 db), .d .undef, .d .undef, .d .undef, .d .undef, .d .nilp, .d .undef, .d .nilp] ++ List.replicate 31 (.d .undef) ++ [.d (.slice 7 l), .d (.int .i64 len), .d (.int .i64 i)] ++ List.replicate 55 (.d .undef)
/-- Queues that are none. -/
theorem loop58n (dos : List Bool) (l : List Ev) (hl : l.length ≤ 300) :
    ∀ (r p : List Ev), l = p ++ r → L env 0 true H5L8 X5L8 B5L8 (st58n (flags dos) (evs l) l.length p.length) [] = some (.exit 0, List.replicate 99 (.d .undef), []) := by
  obtain ⟨K, hK⟩ : ∃ K, L env 0 true H5L8 X5L8 B5L8 = K := ⟨_, rfl⟩
  rw [hK]
  intro r
  induction r with
  | nil =>
    intro p hp
    simp at hp
    subst hp
    rw [L_round hK]
    simp -implicitDefEqProofs only [B5L8, st58n, dbody, dexec, dops, dop, ev, put, wants, dbin, dun, List.replicate, List.length_cons, List.length_nil, Nat.reduceAdd, Nat.reduceSub, Nat.reduceLT, Nat.reduceLeDiff, Nat.reduceMul, List.cons_append, List.nil_append, List.append_nil, List.set_cons_zero, List.set_cons_succ, List.set_nil, List.getD_cons_zero, List.getD_cons_succ, List.getD_nil, DV.cells, List.map_cons, List.map_nil, List.all_cons, List.all_nil, one_d1, one_ptr, one_row, one_clo, one_if, one_int, one_bool, one_str, one_slice, one_ref, one_nilp, one_iface, one_nili, one_func, one_nilf, Bool.and_self, Bool.and_true, Bool.true_and, Bool.and_false, Bool.false_and, Bool.or_true, Bool.or_false, if_true, flat_comp, flat_map, List.mapM_cons, List.mapM_nil, DV.flat, Option.pure_def, Option.bind_eq_bind, Option.bind_some, Option.bind_none, Option.map_some, Option.map_none, dload, List.getElem?_cons_zero, List.getElem?_cons_succ, List.getElem?_nil, Nat.zero_add, Nat.add_zero, bne_self_eq_false, beq_self_eq_true, Bool.false_eq_true, if_false, DV.elems, ne_eq, not_true_eq_false, not_false_eq_true, Bool.not_true, Bool.not_false, beq_iff_eq, bne_iff_ne, reduceCtorEq, mask, DV.lows, DV.low, DV.coe, DV.isD, dresults, dresult, withHeap, List.take_zero, List.take_nil, dcallV_fn, dcallV_fnc, dcallV_clo, dcallV_yld, lowCells, LSt.isReady, DV.int, DV.mkAgg, List.drop_zero, List.drop_succ_cons, List.take_succ_cons, same, List.not_mem_nil, false_implies, implies_true, decide_true, decide_false, decide_eq_true_eq, Int.toNat_natCast, Int.natCast_nonneg, and_self, and_true, true_and, mnmx2, List.foldlM_cons, List.foldlM_nil, nilness, bound, fill, flatCells, List.length_append, List.length_map, Nat.le_refl, List.all_map, Function.comp_def, Bool.false_beq, Bool.true_beq, gt_iff_lt, ge_iff_le, cast_lit, Int.reduceLE, Int.reduceLT, Int.reduceAdd, Int.reduceSub, Int.reduceNeg, Int.reduceEq, Int.reduceBEq, Int.reduceBNe, Nat.reduceBEq, Bool.not_eq_true, Int.toNat_zero, Nat.zero_mul, Nat.reduceEqDiff, and_false, false_and, or_false, or_true, true_or, false_or, Int.le_refl, Int.lt_irrefl, Int.reduceToNat, allocCells, List.mem_cons, forall_eq_or_imp, forall_eq, List.append_assoc, List.length_set, List.set_set, DOut.val.injEq]
  | cons v r ihr =>
    intro p hp
    have e1 : (p.length : Int) < (l.length : Int) := by rw [hp]; simp; omega
    have e2 : l[p.length]? = some v := by rw [hp]; simp
    have e3 : IntKind.i64.wrap ((p.length : Int) + 1) = (p.length : Int) + 1 := wrap_i64 (by omega) (by omega)
    have hx7 := ev_len v
    have hx1 := ev_one v
    have hx2 : v.enc.all (fun x => x.one) = true := hx1
    have i5 := ihr (p ++ [v]) (by simp [hp])
    simp [st58n, List.replicate] at i5
    have hone := one_ok ⟨0, .mk 0 0 [] ⟨#[]⟩ [], 0⟩ (by simp [Ev.ok, V.ok, V.oks])
    simp only [Ev.enc, V.enc, V.encs, List.map_nil, List.cons_append, List.nil_append] at hone
    have hsame := fun t h => samerow_ev [] (by simp) (fun e he => by cases he) t h
    simp only [evs, List.map_nil] at hsame
    have htk := ntake_ok
    have hrtk := nrtake_ok
    simp only [zeroEv] at htk hrtk
    rw [L_round hK]
    by_cases hd : dos[p.length]? = some true
    · have hdl : (p.length : Int) < (dos.length : Int) := by have := (List.getElem?_eq_some_iff.1 hd).1; omega
      simp -implicitDefEqProofs only [B5L8, st58n, dbody, dexec, dops, dop, ev, put, wants, dbin, dun, List.replicate, List.length_cons, List.length_nil, Nat.reduceAdd, Nat.reduceSub, Nat.reduceLT, Nat.reduceLeDiff, Nat.reduceMul, List.cons_append, List.nil_append, List.append_nil, List.set_cons_zero, List.set_cons_succ, List.set_nil, List.getD_cons_zero, List.getD_cons_succ, List.getD_nil, DV.cells, List.map_cons, List.map_nil, List.all_cons, List.all_nil, one_d1, one_ptr, one_row, one_clo, one_if, one_int, one_bool, one_str, one_slice, one_ref, one_nilp, one_iface, one_nili, one_func, one_nilf, Bool.and_self, Bool.and_true, Bool.true_and, Bool.and_false, Bool.false_and, Bool.or_true, Bool.or_false, if_true, flat_comp, flat_map, List.mapM_cons, List.mapM_nil, DV.flat, Option.pure_def, Option.bind_eq_bind, Option.bind_some, Option.bind_none, Option.map_some, Option.map_none, dload, List.getElem?_cons_zero, List.getElem?_cons_succ, List.getElem?_nil, Nat.zero_add, Nat.add_zero, bne_self_eq_false, beq_self_eq_true, Bool.false_eq_true, if_false, DV.elems, ne_eq, not_true_eq_false, not_false_eq_true, Bool.not_true, Bool.not_false, beq_iff_eq, bne_iff_ne, reduceCtorEq, mask, DV.lows, DV.low, DV.coe, DV.isD, dresults, dresult, withHeap, List.take_zero, List.take_nil, dcallV_fn, dcallV_fnc, dcallV_clo, dcallV_yld, lowCells, LSt.isReady, DV.int, DV.mkAgg, List.drop_zero, List.drop_succ_cons, List.take_succ_cons, same, List.not_mem_nil, false_implies, implies_true, decide_true, decide_false, decide_eq_true_eq, Int.toNat_natCast, Int.natCast_nonneg, and_self, and_true, true_and, mnmx2, List.foldlM_cons, List.foldlM_nil, nilness, bound, fill, flatCells, List.length_append, List.length_map, Nat.le_refl, List.all_map, Function.comp_def, Bool.false_beq, Bool.true_beq, gt_iff_lt, ge_iff_le, cast_lit, Int.reduceLE, Int.reduceLT, Int.reduceAdd, Int.reduceSub, Int.reduceNeg, Int.reduceEq, Int.reduceBEq, Int.reduceBNe, Nat.reduceBEq, Bool.not_eq_true, Int.toNat_zero, Nat.zero_mul, Nat.reduceEqDiff, and_false, false_and, or_false, or_true, true_or, false_or, Int.le_refl, Int.lt_irrefl, Int.reduceToNat, allocCells, List.mem_cons, forall_eq_or_imp, forall_eq, List.append_assoc, List.length_set, List.set_set, DOut.val.injEq, e1, e2, e3, evs_at, evs_len, flags_at, flags_len, hd, hdl, hx7, hx1, hx2, take_d, lows_d, put_all, nput_ok, nrput_ok, htk, hrtk, hone, nlen_ok, nrlen_ok, nall_ok, nrall_ok, hsame, i5]
    · by_cases hdl : p.length < dos.length
      · have hd2 : dos[p.length]? = some false := by
          rw [List.getElem?_eq_getElem hdl] at hd ⊢
          cases hh : dos[p.length] with
          | true => rw [hh] at hd; exact absurd rfl hd
          | false => rfl
        have hdl2 : (p.length : Int) < (dos.length : Int) := by omega
        simp -implicitDefEqProofs only [B5L8, st58n, dbody, dexec, dops, dop, ev, put, wants, dbin, dun, List.replicate, List.length_cons, List.length_nil, Nat.reduceAdd, Nat.reduceSub, Nat.reduceLT, Nat.reduceLeDiff, Nat.reduceMul, List.cons_append, List.nil_append, List.append_nil, List.set_cons_zero, List.set_cons_succ, List.set_nil, List.getD_cons_zero, List.getD_cons_succ, List.getD_nil, DV.cells, List.map_cons, List.map_nil, List.all_cons, List.all_nil, one_d1, one_ptr, one_row, one_clo, one_if, one_int, one_bool, one_str, one_slice, one_ref, one_nilp, one_iface, one_nili, one_func, one_nilf, Bool.and_self, Bool.and_true, Bool.true_and, Bool.and_false, Bool.false_and, Bool.or_true, Bool.or_false, if_true, flat_comp, flat_map, List.mapM_cons, List.mapM_nil, DV.flat, Option.pure_def, Option.bind_eq_bind, Option.bind_some, Option.bind_none, Option.map_some, Option.map_none, dload, List.getElem?_cons_zero, List.getElem?_cons_succ, List.getElem?_nil, Nat.zero_add, Nat.add_zero, bne_self_eq_false, beq_self_eq_true, Bool.false_eq_true, if_false, DV.elems, ne_eq, not_true_eq_false, not_false_eq_true, Bool.not_true, Bool.not_false, beq_iff_eq, bne_iff_ne, reduceCtorEq, mask, DV.lows, DV.low, DV.coe, DV.isD, dresults, dresult, withHeap, List.take_zero, List.take_nil, dcallV_fn, dcallV_fnc, dcallV_clo, dcallV_yld, lowCells, LSt.isReady, DV.int, DV.mkAgg, List.drop_zero, List.drop_succ_cons, List.take_succ_cons, same, List.not_mem_nil, false_implies, implies_true, decide_true, decide_false, decide_eq_true_eq, Int.toNat_natCast, Int.natCast_nonneg, and_self, and_true, true_and, mnmx2, List.foldlM_cons, List.foldlM_nil, nilness, bound, fill, flatCells, List.length_append, List.length_map, Nat.le_refl, List.all_map, Function.comp_def, Bool.false_beq, Bool.true_beq, gt_iff_lt, ge_iff_le, cast_lit, Int.reduceLE, Int.reduceLT, Int.reduceAdd, Int.reduceSub, Int.reduceNeg, Int.reduceEq, Int.reduceBEq, Int.reduceBNe, Nat.reduceBEq, Bool.not_eq_true, Int.toNat_zero, Nat.zero_mul, Nat.reduceEqDiff, and_false, false_and, or_false, or_true, true_or, false_or, Int.le_refl, Int.lt_irrefl, Int.reduceToNat, allocCells, List.mem_cons, forall_eq_or_imp, forall_eq, List.append_assoc, List.length_set, List.set_set, DOut.val.injEq, e1, e2, e3, evs_at, evs_len, flags_at, flags_len, hd2, hdl2, hx7, hx1, hx2, take_d, lows_d, put_all, nput_ok, nrput_ok, nlen_ok, nrlen_ok, nall_ok, nrall_ok, hsame, i5]
      · have hdl2 : ¬ (p.length : Int) < (dos.length : Int) := by omega
        simp -implicitDefEqProofs only [B5L8, st58n, dbody, dexec, dops, dop, ev, put, wants, dbin, dun, List.replicate, List.length_cons, List.length_nil, Nat.reduceAdd, Nat.reduceSub, Nat.reduceLT, Nat.reduceLeDiff, Nat.reduceMul, List.cons_append, List.nil_append, List.append_nil, List.set_cons_zero, List.set_cons_succ, List.set_nil, List.getD_cons_zero, List.getD_cons_succ, List.getD_nil, DV.cells, List.map_cons, List.map_nil, List.all_cons, List.all_nil, one_d1, one_ptr, one_row, one_clo, one_if, one_int, one_bool, one_str, one_slice, one_ref, one_nilp, one_iface, one_nili, one_func, one_nilf, Bool.and_self, Bool.and_true, Bool.true_and, Bool.and_false, Bool.false_and, Bool.or_true, Bool.or_false, if_true, flat_comp, flat_map, List.mapM_cons, List.mapM_nil, DV.flat, Option.pure_def, Option.bind_eq_bind, Option.bind_some, Option.bind_none, Option.map_some, Option.map_none, dload, List.getElem?_cons_zero, List.getElem?_cons_succ, List.getElem?_nil, Nat.zero_add, Nat.add_zero, bne_self_eq_false, beq_self_eq_true, Bool.false_eq_true, if_false, DV.elems, ne_eq, not_true_eq_false, not_false_eq_true, Bool.not_true, Bool.not_false, beq_iff_eq, bne_iff_ne, reduceCtorEq, mask, DV.lows, DV.low, DV.coe, DV.isD, dresults, dresult, withHeap, List.take_zero, List.take_nil, dcallV_fn, dcallV_fnc, dcallV_clo, dcallV_yld, lowCells, LSt.isReady, DV.int, DV.mkAgg, List.drop_zero, List.drop_succ_cons, List.take_succ_cons, same, List.not_mem_nil, false_implies, implies_true, decide_true, decide_false, decide_eq_true_eq, Int.toNat_natCast, Int.natCast_nonneg, and_self, and_true, true_and, mnmx2, List.foldlM_cons, List.foldlM_nil, nilness, bound, fill, flatCells, List.length_append, List.length_map, Nat.le_refl, List.all_map, Function.comp_def, Bool.false_beq, Bool.true_beq, gt_iff_lt, ge_iff_le, cast_lit, Int.reduceLE, Int.reduceLT, Int.reduceAdd, Int.reduceSub, Int.reduceNeg, Int.reduceEq, Int.reduceBEq, Int.reduceBNe, Nat.reduceBEq, Bool.not_eq_true, Int.toNat_zero, Nat.zero_mul, Nat.reduceEqDiff, and_false, false_and, or_false, or_true, true_or, false_or, Int.le_refl, Int.lt_irrefl, Int.reduceToNat, allocCells, List.mem_cons, forall_eq_or_imp, forall_eq, List.append_assoc, List.length_set, List.set_set, DOut.val.injEq, e1, e2, e3, evs_at, evs_len, flags_at, flags_len, hdl2, hx7, hx1, hx2, take_d, lows_d, put_all, nput_ok, nrput_ok, nlen_ok, nrlen_ok, nall_ok, nrall_ok, hsame, i5]

theorem queuePlays_ok (mo : Int) (l : List Ev) (dos : List Bool) : ∃ h', D env 5 [.d (.int .i64 mo), .d (.slice 7 (evs l)), .d (.slice 1 (flags dos))] [] = some (.val (.d (.bool true)) h') := by
  rw [D_dat (F := A5) rfl rfl rfl rfl]
  have hli := evlight_ok l []
  by_cases hlight : 0 ≤ evLights l 3000 ∧ (l.length : Int) ≤ 300
  · have ho := ok_of_lights l 3000 (by omega) hlight.1
    have e1 : decide (0 ≤ evLights l 3000) = true := by simpa using hlight.1
    have e2 : decide ((l.length : Int) ≤ 300) = true := by simpa using hlight.2
    rw [e1, e2] at hli
    by_cases hm : 1 ≤ mo ∧ mo ≤ 32
    · obtain ⟨m, rfl⟩ : ∃ m : Nat, mo = m := ⟨mo.toNat, by omega⟩
      have hnew := new_ok m (by omega) (by omega) []
      have hrnew := rnew_ok m (by omega) (by omega) [.box (qc zring 0 0 m)]
      obtain ⟨h', k1⟩ := loop58 m dos l (by omega) ho l [] rfl zring 0 0 0 [] (qinv_new m (by omega) (by omega)) (by simp) (by simp)
      generalize zring = z at *
      simp only [List.length_cons, List.length_nil, List.nil_append, List.cons_append, Nat.zero_add] at hnew hrnew
      simp only [st58, List.replicate, List.cons_append, List.nil_append, List.length_nil, Int.natCast_zero, List.drop_zero, evs, List.map_nil] at k1
      simp only [evs] at hli
      simp -implicitDefEqProofs only [A5, B5, dbody, dexec, dops, dop, ev, put, wants, dbin, dun, List.replicate, List.length_cons, List.length_nil, Nat.reduceAdd, Nat.reduceSub, Nat.reduceLT, Nat.reduceLeDiff, Nat.reduceMul, List.cons_append, List.nil_append, List.append_nil, List.set_cons_zero, List.set_cons_succ, List.set_nil, List.getD_cons_zero, List.getD_cons_succ, List.getD_nil, DV.cells, List.map_cons, List.map_nil, List.all_cons, List.all_nil, one_d1, one_ptr, one_row, one_clo, one_if, one_int, one_bool, one_str, one_slice, one_ref, one_nilp, one_iface, one_nili, one_func, one_nilf, Bool.and_self, Bool.and_true, Bool.true_and, Bool.and_false, Bool.false_and, Bool.or_true, Bool.or_false, if_true, flat_comp, flat_map, List.mapM_cons, List.mapM_nil, DV.flat, Option.pure_def, Option.bind_eq_bind, Option.bind_some, Option.bind_none, Option.map_some, Option.map_none, dload, List.getElem?_cons_zero, List.getElem?_cons_succ, List.getElem?_nil, Nat.zero_add, Nat.add_zero, bne_self_eq_false, beq_self_eq_true, Bool.false_eq_true, if_false, DV.elems, ne_eq, not_true_eq_false, not_false_eq_true, Bool.not_true, Bool.not_false, beq_iff_eq, bne_iff_ne, reduceCtorEq, mask, DV.lows, DV.low, DV.coe, DV.isD, dresults, dresult, withHeap, List.take_zero, List.take_nil, dcallV_fn, dcallV_fnc, dcallV_clo, dcallV_yld, lowCells, LSt.isReady, DV.int, DV.mkAgg, List.drop_zero, List.drop_succ_cons, List.take_succ_cons, same, List.not_mem_nil, false_implies, implies_true, decide_true, decide_false, decide_eq_true_eq, Int.toNat_natCast, Int.natCast_nonneg, and_self, and_true, true_and, mnmx2, List.foldlM_cons, List.foldlM_nil, nilness, bound, fill, flatCells, List.length_append, List.length_map, Nat.le_refl, List.all_map, Function.comp_def, Bool.false_beq, Bool.true_beq, gt_iff_lt, ge_iff_le, cast_lit, Int.reduceLE, Int.reduceLT, Int.reduceAdd, Int.reduceSub, Int.reduceNeg, Int.reduceEq, Int.reduceBEq, Int.reduceBNe, Nat.reduceBEq, Bool.not_eq_true, Int.toNat_zero, Nat.zero_mul, Nat.reduceEqDiff, and_false, false_and, or_false, or_true, true_or, false_or, Int.le_refl, Int.lt_irrefl, Int.reduceToNat, allocCells, List.mem_cons, forall_eq_or_imp, forall_eq, List.append_assoc, List.length_set, List.set_set, DOut.val.injEq, hli, hnew, hrnew, k1, evs, List.length_map, awake_ok]
      exact ⟨_, rfl⟩
    · have hnew := new_no mo (by omega) []
      have hrnew := rnew_no mo (by omega) []
      have k1 := loop58n dos l (by omega) l [] rfl
      simp only [st58n, List.replicate, List.cons_append, List.nil_append, List.length_nil, Int.natCast_zero] at k1
      simp -implicitDefEqProofs only [A5, B5, dbody, dexec, dops, dop, ev, put, wants, dbin, dun, List.replicate, List.length_cons, List.length_nil, Nat.reduceAdd, Nat.reduceSub, Nat.reduceLT, Nat.reduceLeDiff, Nat.reduceMul, List.cons_append, List.nil_append, List.append_nil, List.set_cons_zero, List.set_cons_succ, List.set_nil, List.getD_cons_zero, List.getD_cons_succ, List.getD_nil, DV.cells, List.map_cons, List.map_nil, List.all_cons, List.all_nil, one_d1, one_ptr, one_row, one_clo, one_if, one_int, one_bool, one_str, one_slice, one_ref, one_nilp, one_iface, one_nili, one_func, one_nilf, Bool.and_self, Bool.and_true, Bool.true_and, Bool.and_false, Bool.false_and, Bool.or_true, Bool.or_false, if_true, flat_comp, flat_map, List.mapM_cons, List.mapM_nil, DV.flat, Option.pure_def, Option.bind_eq_bind, Option.bind_some, Option.bind_none, Option.map_some, Option.map_none, dload, List.getElem?_cons_zero, List.getElem?_cons_succ, List.getElem?_nil, Nat.zero_add, Nat.add_zero, bne_self_eq_false, beq_self_eq_true, Bool.false_eq_true, if_false, DV.elems, ne_eq, not_true_eq_false, not_false_eq_true, Bool.not_true, Bool.not_false, beq_iff_eq, bne_iff_ne, reduceCtorEq, mask, DV.lows, DV.low, DV.coe, DV.isD, dresults, dresult, withHeap, List.take_zero, List.take_nil, dcallV_fn, dcallV_fnc, dcallV_clo, dcallV_yld, lowCells, LSt.isReady, DV.int, DV.mkAgg, List.drop_zero, List.drop_succ_cons, List.take_succ_cons, same, List.not_mem_nil, false_implies, implies_true, decide_true, decide_false, decide_eq_true_eq, Int.toNat_natCast, Int.natCast_nonneg, and_self, and_true, true_and, mnmx2, List.foldlM_cons, List.foldlM_nil, nilness, bound, fill, flatCells, List.length_append, List.length_map, Nat.le_refl, List.all_map, Function.comp_def, Bool.false_beq, Bool.true_beq, gt_iff_lt, ge_iff_le, cast_lit, Int.reduceLE, Int.reduceLT, Int.reduceAdd, Int.reduceSub, Int.reduceNeg, Int.reduceEq, Int.reduceBEq, Int.reduceBNe, Nat.reduceBEq, Bool.not_eq_true, Int.toNat_zero, Nat.zero_mul, Nat.reduceEqDiff, and_false, false_and, or_false, or_true, true_or, false_or, Int.le_refl, Int.lt_irrefl, Int.reduceToNat, allocCells, List.mem_cons, forall_eq_or_imp, forall_eq, List.append_assoc, List.length_set, List.set_set, DOut.val.injEq, hli, hnew, hrnew, evs_len, k1, awake_ok]
      exact ⟨_, rfl⟩
  · have e1 : (decide (0 ≤ evLights l 3000) && decide ((l.length : Int) ≤ 300)) = false := by
      rw [Bool.and_eq_false_iff, decide_eq_false_iff_not, decide_eq_false_iff_not]
      by_cases h1 : 0 ≤ evLights l 3000
      · exact .inr fun h2 => hlight ⟨h1, h2⟩
      · exact .inl h1
    rw [e1] at hli
    simp -implicitDefEqProofs only [A5, B5, dbody, dexec, dops, dop, ev, put, wants, dbin, dun, List.replicate, List.length_cons, List.length_nil, Nat.reduceAdd, Nat.reduceSub, Nat.reduceLT, Nat.reduceLeDiff, Nat.reduceMul, List.cons_append, List.nil_append, List.append_nil, List.set_cons_zero, List.set_cons_succ, List.set_nil, List.getD_cons_zero, List.getD_cons_succ, List.getD_nil, DV.cells, List.map_cons, List.map_nil, List.all_cons, List.all_nil, one_d1, one_ptr, one_row, one_clo, one_if, one_int, one_bool, one_str, one_slice, one_ref, one_nilp, one_iface, one_nili, one_func, one_nilf, Bool.and_self, Bool.and_true, Bool.true_and, Bool.and_false, Bool.false_and, Bool.or_true, Bool.or_false, if_true, flat_comp, flat_map, List.mapM_cons, List.mapM_nil, DV.flat, Option.pure_def, Option.bind_eq_bind, Option.bind_some, Option.bind_none, Option.map_some, Option.map_none, dload, List.getElem?_cons_zero, List.getElem?_cons_succ, List.getElem?_nil, Nat.zero_add, Nat.add_zero, bne_self_eq_false, beq_self_eq_true, Bool.false_eq_true, if_false, DV.elems, ne_eq, not_true_eq_false, not_false_eq_true, Bool.not_true, Bool.not_false, beq_iff_eq, bne_iff_ne, reduceCtorEq, mask, DV.lows, DV.low, DV.coe, DV.isD, dresults, dresult, withHeap, List.take_zero, List.take_nil, dcallV_fn, dcallV_fnc, dcallV_clo, dcallV_yld, lowCells, LSt.isReady, DV.int, DV.mkAgg, List.drop_zero, List.drop_succ_cons, List.take_succ_cons, same, List.not_mem_nil, false_implies, implies_true, decide_true, decide_false, decide_eq_true_eq, Int.toNat_natCast, Int.natCast_nonneg, and_self, and_true, true_and, mnmx2, List.foldlM_cons, List.foldlM_nil, nilness, bound, fill, flatCells, List.length_append, List.length_map, Nat.le_refl, List.all_map, Function.comp_def, Bool.false_beq, Bool.true_beq, gt_iff_lt, ge_iff_le, cast_lit, Int.reduceLE, Int.reduceLT, Int.reduceAdd, Int.reduceSub, Int.reduceNeg, Int.reduceEq, Int.reduceBEq, Int.reduceBNe, Nat.reduceBEq, Bool.not_eq_true, Int.toNat_zero, Nat.zero_mul, Nat.reduceEqDiff, and_false, false_and, or_false, or_true, true_or, false_or, Int.le_refl, Int.lt_irrefl, Int.reduceToNat, allocCells, List.mem_cons, forall_eq_or_imp, forall_eq, List.append_assoc, List.length_set, List.set_set, DOut.val.injEq, hli, awake_ok]
    exact ⟨_, rfl⟩
end Go.Proofs.Ytoadpaaghjomnaa.Codes
