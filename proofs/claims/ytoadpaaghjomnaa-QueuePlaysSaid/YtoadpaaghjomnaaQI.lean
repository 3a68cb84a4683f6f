/-
  QueueAll, by the deep machine.
  Conditions: none.
-/
import Derived.Test.YtoadpaaghjomnaaQH
import Derived.Test.YtoadpaaghjomnaaQE
set_option linter.unusedVariables false
set_option linter.unusedSimpArgs false
set_option maxRecDepth 100000
namespace Go.Proofs.Ytoadpaaghjomnaa.Codes
open Go.Deepv

def st67 (mo : Nat) (l : List (List FV)) (len i : Int) : List DV := [.d (.int .u8 mo), .d (.slice 7 l), .d .undef, .d .undef, .d .undef, .ptr 0 0] ++ List.replicate 22 (.d .undef) ++ [.d (.slice 7 l), .d (.int .i64 len), .d (.int .i64 i)] ++ List.replicate 85 (.d .undef)
def ex67 (mo : Nat) (l : List (List FV)) : List DV := [.d (.int .u8 mo), .d (.slice 7 l), .d .undef, .d .undef, .d .undef, .ptr 0 0] ++ List.replicate 110 (.d .undef)

/-- All are put; those beyond are not taken in. -/
theorem loop67 (mo m : Nat) (l : List Ev) (hl : l.length ≤ 300) :
    ∀ (r p : List Ev), l = p ++ r → ∀ (ring : List (List FV)) (n : Nat), QInv ring 0 n m (p.take m) 0 →
      ∃ ring' n', QInv ring' 0 n' m (l.take m) 0 ∧
        L env 1 true H6L7 X6L7 B6L7 (st67 mo (evs l) l.length p.length) [.box (qc ring 0 n m)] = some (.exit 0, ex67 mo (evs l), [.box (qc ring' 0 n' m)]) := by
  obtain ⟨K, hK⟩ : ∃ K, L env 1 true H6L7 X6L7 B6L7 = K := ⟨_, rfl⟩
  rw [hK]
  intro r
  induction r with
  | nil =>
    intro p hp ring n q
    simp at hp
    subst hp
    refine ⟨ring, n, q, ?_⟩
    rw [L_round hK]
    simp -implicitDefEqProofs only [B6L7, st67, ex67, dbody, dexec, dops, dop, ev, put, wants, dbin, dun, List.replicate, List.length_cons, List.length_nil, Nat.reduceAdd, Nat.reduceSub, Nat.reduceLT, Nat.reduceLeDiff, Nat.reduceMul, List.cons_append, List.nil_append, List.append_nil, List.set_cons_zero, List.set_cons_succ, List.set_nil, List.getD_cons_zero, List.getD_cons_succ, List.getD_nil, DV.cells, List.map_cons, List.map_nil, List.all_cons, List.all_nil, one_d1, one_ptr, one_row, one_clo, one_if, one_int, one_bool, one_str, one_slice, one_ref, one_nilp, one_iface, one_nili, one_func, one_nilf, Bool.and_self, Bool.and_true, Bool.true_and, Bool.and_false, Bool.false_and, Bool.or_true, Bool.or_false, if_true, flat_comp, flat_map, List.mapM_cons, List.mapM_nil, DV.flat, Option.pure_def, Option.bind_eq_bind, Option.bind_some, Option.bind_none, Option.map_some, Option.map_none, dload, List.getElem?_cons_zero, List.getElem?_cons_succ, List.getElem?_nil, Nat.zero_add, Nat.add_zero, bne_self_eq_false, beq_self_eq_true, Bool.false_eq_true, if_false, DV.elems, ne_eq, not_true_eq_false, not_false_eq_true, Bool.not_true, Bool.not_false, beq_iff_eq, bne_iff_ne, reduceCtorEq, mask, DV.lows, DV.low, DV.coe, DV.isD, dresults, dresult, withHeap, List.take_zero, List.take_nil, dcallV_fn, dcallV_fnc, dcallV_clo, dcallV_yld, lowCells, LSt.isReady, DV.int, DV.mkAgg, List.drop_zero, List.drop_succ_cons, List.take_succ_cons, same, List.not_mem_nil, false_implies, implies_true, decide_true, decide_false, decide_eq_true_eq, Int.toNat_natCast, Int.natCast_nonneg, and_self, and_true, true_and, mnmx2, List.foldlM_cons, List.foldlM_nil, nilness, bound, fill, flatCells, List.length_append, List.length_map, Nat.le_refl, List.all_map, Function.comp_def, Bool.false_beq, Bool.true_beq, gt_iff_lt, ge_iff_le, cast_lit, Int.reduceLE, Int.reduceLT, Int.reduceAdd, Int.reduceSub, Int.reduceNeg, Int.reduceEq, Int.reduceBEq, Int.reduceBNe, Nat.reduceBEq, Bool.not_eq_true, Int.toNat_zero, Nat.zero_mul, Nat.reduceEqDiff, and_false, false_and, or_false, or_true, true_or, false_or, Int.le_refl, Int.lt_irrefl, Int.reduceToNat, allocCells, List.mem_cons, forall_eq_or_imp, forall_eq, List.append_assoc, List.length_set, List.set_set, DOut.val.injEq]
  | cons v r ihr =>
    intro p hp ring n q
    have e1 : (p.length : Int) < (l.length : Int) := by rw [hp]; simp; omega
    have e2 : l[p.length]? = some v := by rw [hp]; simp
    have e3 : IntKind.i64.wrap ((p.length : Int) + 1) = (p.length : Int) + 1 := wrap_i64 (by omega) (by omega)
    have hx7 := ev_len v
    have hx1 := ev_one v
    have hx2 : v.enc.all (fun x => x.one) = true := hx1
    have hc := q.count
    have hms := q.most
    have hlen : (p.take m).length = min m p.length := by simp
    by_cases hn : n < m
    · have hpm : p.length < m := by omega
      have et : (p ++ [v]).take m = p.take m ++ [v] := by rw [List.take_append, List.take_of_length_le (by simp; omega : [v].length ≤ m - p.length)]
      have q1 := q.put hn v hx1
      rw [← et] at q1
      have hput : ∀ t, D env 13 [.ptr 0 0, .d (.agg v.enc)] (.box (qc ring 0 n m) :: t) = some (.val (.d (.int .i64 0)) (.box (qc (ring.set ((0 + n) % 32) v.enc) 0 (n + 1) m) :: t)) :=
        fun t => put_ok q.rok q.first hms.2.1 hn (id := 0) (h := _ :: t) rfl hx7 hx1
      generalize hr1 : ring.set ((0 + n) % 32) v.enc = ring1 at hput q1
      obtain ⟨ring', n', i1, i5⟩ := ihr (p ++ [v]) (by simp [hp]) _ _ q1
      refine ⟨ring', n', i1, ?_⟩
      rw [L_round hK]
      simp [st67, ex67, List.replicate] at i5
      simp -implicitDefEqProofs only [B6L7, st67, ex67, dbody, dexec, dops, dop, ev, put, wants, dbin, dun, List.replicate, List.length_cons, List.length_nil, Nat.reduceAdd, Nat.reduceSub, Nat.reduceLT, Nat.reduceLeDiff, Nat.reduceMul, List.cons_append, List.nil_append, List.append_nil, List.set_cons_zero, List.set_cons_succ, List.set_nil, List.getD_cons_zero, List.getD_cons_succ, List.getD_nil, DV.cells, List.map_cons, List.map_nil, List.all_cons, List.all_nil, one_d1, one_ptr, one_row, one_clo, one_if, one_int, one_bool, one_str, one_slice, one_ref, one_nilp, one_iface, one_nili, one_func, one_nilf, Bool.and_self, Bool.and_true, Bool.true_and, Bool.and_false, Bool.false_and, Bool.or_true, Bool.or_false, if_true, flat_comp, flat_map, List.mapM_cons, List.mapM_nil, DV.flat, Option.pure_def, Option.bind_eq_bind, Option.bind_some, Option.bind_none, Option.map_some, Option.map_none, dload, List.getElem?_cons_zero, List.getElem?_cons_succ, List.getElem?_nil, Nat.zero_add, Nat.add_zero, bne_self_eq_false, beq_self_eq_true, Bool.false_eq_true, if_false, DV.elems, ne_eq, not_true_eq_false, not_false_eq_true, Bool.not_true, Bool.not_false, beq_iff_eq, bne_iff_ne, reduceCtorEq, mask, DV.lows, DV.low, DV.coe, DV.isD, dresults, dresult, withHeap, List.take_zero, List.take_nil, dcallV_fn, dcallV_fnc, dcallV_clo, dcallV_yld, lowCells, LSt.isReady, DV.int, DV.mkAgg, List.drop_zero, List.drop_succ_cons, List.take_succ_cons, same, List.not_mem_nil, false_implies, implies_true, decide_true, decide_false, decide_eq_true_eq, Int.toNat_natCast, Int.natCast_nonneg, and_self, and_true, true_and, mnmx2, List.foldlM_cons, List.foldlM_nil, nilness, bound, fill, flatCells, List.length_append, List.length_map, Nat.le_refl, List.all_map, Function.comp_def, Bool.false_beq, Bool.true_beq, gt_iff_lt, ge_iff_le, cast_lit, Int.reduceLE, Int.reduceLT, Int.reduceAdd, Int.reduceSub, Int.reduceNeg, Int.reduceEq, Int.reduceBEq, Int.reduceBNe, Nat.reduceBEq, Bool.not_eq_true, Int.toNat_zero, Nat.zero_mul, Nat.reduceEqDiff, and_false, false_and, or_false, or_true, true_or, false_or, Int.le_refl, Int.lt_irrefl, Int.reduceToNat, allocCells, List.mem_cons, forall_eq_or_imp, forall_eq, List.append_assoc, List.length_set, List.set_set, DOut.val.injEq, e1, e2, e3, evs_at, evs_len, hx7, hx1, hx2, take_d, lows_d, put_all, hput, i5]
    · have hnm : n = m := by omega
      subst hnm
      have hpm : n ≤ p.length := by omega
      have et : (p ++ [v]).take n = p.take n := List.take_append_of_le_length hpm
      have hput : ∀ t, D env 13 [.ptr 0 0, .d (.agg v.enc)] (.box (qc ring 0 n n) :: t) = some (.val (.d (.int .i64 25)) (.box (qc ring 0 n n) :: t)) :=
        fun t => put_full q.rok (id := 0) (h := _ :: t) rfl hx1
      obtain ⟨ring', n', i1, i5⟩ := ihr (p ++ [v]) (by simp [hp]) _ _ (by rw [et]; exact q)
      refine ⟨ring', n', i1, ?_⟩
      rw [L_round hK]
      simp [st67, ex67, List.replicate] at i5
      simp -implicitDefEqProofs only [B6L7, st67, ex67, dbody, dexec, dops, dop, ev, put, wants, dbin, dun, List.replicate, List.length_cons, List.length_nil, Nat.reduceAdd, Nat.reduceSub, Nat.reduceLT, Nat.reduceLeDiff, Nat.reduceMul, List.cons_append, List.nil_append, List.append_nil, List.set_cons_zero, List.set_cons_succ, List.set_nil, List.getD_cons_zero, List.getD_cons_succ, List.getD_nil, DV.cells, List.map_cons, List.map_nil, List.all_cons, List.all_nil, one_d1, one_ptr, one_row, one_clo, one_if, one_int, one_bool, one_str, one_slice, one_ref, one_nilp, one_iface, one_nili, one_func, one_nilf, Bool.and_self, Bool.and_true, Bool.true_and, Bool.and_false, Bool.false_and, Bool.or_true, Bool.or_false, if_true, flat_comp, flat_map, List.mapM_cons, List.mapM_nil, DV.flat, Option.pure_def, Option.bind_eq_bind, Option.bind_some, Option.bind_none, Option.map_some, Option.map_none, dload, List.getElem?_cons_zero, List.getElem?_cons_succ, List.getElem?_nil, Nat.zero_add, Nat.add_zero, bne_self_eq_false, beq_self_eq_true, Bool.false_eq_true, if_false, DV.elems, ne_eq, not_true_eq_false, not_false_eq_true, Bool.not_true, Bool.not_false, beq_iff_eq, bne_iff_ne, reduceCtorEq, mask, DV.lows, DV.low, DV.coe, DV.isD, dresults, dresult, withHeap, List.take_zero, List.take_nil, dcallV_fn, dcallV_fnc, dcallV_clo, dcallV_yld, lowCells, LSt.isReady, DV.int, DV.mkAgg, List.drop_zero, List.drop_succ_cons, List.take_succ_cons, same, List.not_mem_nil, false_implies, implies_true, decide_true, decide_false, decide_eq_true_eq, Int.toNat_natCast, Int.natCast_nonneg, and_self, and_true, true_and, mnmx2, List.foldlM_cons, List.foldlM_nil, nilness, bound, fill, flatCells, List.length_append, List.length_map, Nat.le_refl, List.all_map, Function.comp_def, Bool.false_beq, Bool.true_beq, gt_iff_lt, ge_iff_le, cast_lit, Int.reduceLE, Int.reduceLT, Int.reduceAdd, Int.reduceSub, Int.reduceNeg, Int.reduceEq, Int.reduceBEq, Int.reduceBNe, Nat.reduceBEq, Bool.not_eq_true, Int.toNat_zero, Nat.zero_mul, Nat.reduceEqDiff, and_false, false_and, or_false, or_true, true_or, false_or, Int.le_refl, Int.lt_irrefl, Int.reduceToNat, allocCells, List.mem_cons, forall_eq_or_imp, forall_eq, List.append_assoc, List.length_set, List.set_set, DOut.val.injEq, e1, e2, e3, evs_at, evs_len, hx7, hx1, hx2, take_d, lows_d, put_all, hput, i5]

/-- All that wait. -/
theorem all_inv {ring : List (List FV)} {f n m : Nat} {P : List Ev} {g : Nat} (q : QInv ring f n m P g) {h : List Res} (hq : h[0]? = some (.box (qc ring f n m))) : D env 22 [.ptr 0 0] h = some (.val (.d (.slice 7 (evs (P.drop g)))) h) := by
  have hc := q.count
  refine all_ok q.rok q.first (by have := q.most; omega) hq (by rw [evs_len, List.length_drop]; omega) fun i hi => ?_
  rw [q.waits i hi, evs_at, List.getElem?_drop]

def st615 (l all : List (List FV)) (len i : Int) : List DV := [.d .undef, .d (.slice 7 l), .d .undef, .d .undef, .d .undef, .ptr 0 0, .d .undef, .d .undef, .d .undef, .d (.slice 7 all)] ++ List.replicate 56 (.d .undef) ++ [.d (.slice 7 all), .d (.int .i64 len), .d (.int .i64 i)] ++ List.replicate 47 (.d .undef)
def ex615 (l all : List (List FV)) : List DV := [.d .undef, .d (.slice 7 l)] ++ List.replicate 7 (.d .undef) ++ [.d (.slice 7 all)] ++ List.replicate 106 (.d .undef)

theorem loop615 (l : List (List FV)) (m : Nat) (P : List Ev) (hP : P.length ≤ 32) (ho : ∀ e ∈ P, e.ok) :
    ∀ (j g n f : Nat) (ring : List (List FV)), g + j = P.length → QInv ring f n m P g →
      ∃ ring' f', L env 1 true H6L15 X6L15 B6L15 (st615 l (evs P) P.length g) [.box (qc ring f n m)] = some (.exit 2, ex615 l (evs P), [.box (qc ring' f' 0 m)]) := by
  obtain ⟨K, hK⟩ : ∃ K, L env 1 true H6L15 X6L15 B6L15 = K := ⟨_, rfl⟩
  rw [hK]
  intro j
  induction j with
  | zero =>
    intro g n f ring hg q
    have hc := q.count
    have hn : n = 0 := by omega
    subst hn
    have : g = P.length := by omega
    subst this
    refine ⟨ring, f, ?_⟩
    rw [L_round hK]
    simp -implicitDefEqProofs only [B6L15, st615, ex615, dbody, dexec, dops, dop, ev, put, wants, dbin, dun, List.replicate, List.length_cons, List.length_nil, Nat.reduceAdd, Nat.reduceSub, Nat.reduceLT, Nat.reduceLeDiff, Nat.reduceMul, List.cons_append, List.nil_append, List.append_nil, List.set_cons_zero, List.set_cons_succ, List.set_nil, List.getD_cons_zero, List.getD_cons_succ, List.getD_nil, DV.cells, List.map_cons, List.map_nil, List.all_cons, List.all_nil, one_d1, one_ptr, one_row, one_clo, one_if, one_int, one_bool, one_str, one_slice, one_ref, one_nilp, one_iface, one_nili, one_func, one_nilf, Bool.and_self, Bool.and_true, Bool.true_and, Bool.and_false, Bool.false_and, Bool.or_true, Bool.or_false, if_true, flat_comp, flat_map, List.mapM_cons, List.mapM_nil, DV.flat, Option.pure_def, Option.bind_eq_bind, Option.bind_some, Option.bind_none, Option.map_some, Option.map_none, dload, List.getElem?_cons_zero, List.getElem?_cons_succ, List.getElem?_nil, Nat.zero_add, Nat.add_zero, bne_self_eq_false, beq_self_eq_true, Bool.false_eq_true, if_false, DV.elems, ne_eq, not_true_eq_false, not_false_eq_true, Bool.not_true, Bool.not_false, beq_iff_eq, bne_iff_ne, reduceCtorEq, mask, DV.lows, DV.low, DV.coe, DV.isD, dresults, dresult, withHeap, List.take_zero, List.take_nil, dcallV_fn, dcallV_fnc, dcallV_clo, dcallV_yld, lowCells, LSt.isReady, DV.int, DV.mkAgg, List.drop_zero, List.drop_succ_cons, List.take_succ_cons, same, List.not_mem_nil, false_implies, implies_true, decide_true, decide_false, decide_eq_true_eq, Int.toNat_natCast, Int.natCast_nonneg, and_self, and_true, true_and, mnmx2, List.foldlM_cons, List.foldlM_nil, nilness, bound, fill, flatCells, List.length_append, List.length_map, Nat.le_refl, List.all_map, Function.comp_def, Bool.false_beq, Bool.true_beq, gt_iff_lt, ge_iff_le, cast_lit, Int.reduceLE, Int.reduceLT, Int.reduceAdd, Int.reduceSub, Int.reduceNeg, Int.reduceEq, Int.reduceBEq, Int.reduceBNe, Nat.reduceBEq, Bool.not_eq_true, Int.toNat_zero, Nat.zero_mul, Nat.reduceEqDiff, and_false, false_and, or_false, or_true, true_or, false_or, Int.le_refl, Int.lt_irrefl, Int.reduceToNat, allocCells, List.mem_cons, forall_eq_or_imp, forall_eq, List.append_assoc, List.length_set, List.set_set, DOut.val.injEq]
  | succ j ih =>
    intro g n f ring hg q
    have hc := q.count
    have hms := q.most
    obtain ⟨u, hu, hru, q2⟩ := q.take (by omega)
    have e1 : (g : Int) < (P.length : Int) := by omega
    have e3 : IntKind.i64.wrap ((g : Int) + 1) = ((g + 1 : Nat) : Int) := by rw [wrap_i64 (by omega) (by omega)]; omega
    have w1 : IntKind.i64.wrap ((P.length : Int) - (g : Int)) = (n : Int) := by rw [wrap_i64 (by omega) (by omega)]; omega
    have w2 : IntKind.i64.wrap ((n : Int) - 1) = ((n - 1 : Nat) : Int) := by rw [wrap_i64 (by omega) (by omega)]; omega
    have w3 : ((g + 1 : Nat) : Int) ≤ (P.length : Int) := by omega
    have hu7 := ev_len u
    have hu1 := ev_one u
    have hu2 : u.enc.all (fun x => x.one) = true := hu1
    have hone := one_ok u (ho u (List.mem_of_getElem? hu))
    have htake : ∀ t, D env 14 [.ptr 0 0] (.box (qc ring f n m) :: t) = some (.val (.d (.tup [.agg u.enc, .bool true])) (.box (qc (ring.set f zeroEv) ((f + 1) % 32) (n - 1) m) :: t)) :=
      fun t => take_ok q.rok q.first (by omega) (by omega) (id := 0) (h := _ :: t) rfl hru
    generalize hr2 : ring.set f zeroEv = ring2 at htake q2
    have hlen : ∀ t, D env 15 [.ptr 0 0] (.box (qc ring2 ((f + 1) % 32) (n - 1) m) :: t) = some (.val (.d (.int .i64 ((n - 1 : Nat) : Int))) (.box (qc ring2 ((f + 1) % 32) (n - 1) m) :: t)) := fun t => len_ok q2.rok (id := 0) (h := _ :: t) rfl
    have hall : ∀ t, D env 22 [.ptr 0 0] (.box (qc ring2 ((f + 1) % 32) (n - 1) m) :: t) = some (.val (.d (.slice 7 (evs (P.drop (g + 1))))) (.box (qc ring2 ((f + 1) % 32) (n - 1) m) :: t)) := fun t => all_inv q2 rfl
    have hsame := sames_ev (P.drop (g + 1)) (by simp; omega) (fun e he => ho e (List.mem_of_mem_drop he))
    have hdrop : List.drop (g + 1) (List.take P.length (evs P)) = evs (P.drop (g + 1)) := by rw [List.take_of_length_le (by rw [evs_len]; omega), evs, evs, List.map_drop]
    obtain ⟨ring', f', i5⟩ := ih (g + 1) (n - 1) _ ring2 (by omega) q2
    refine ⟨ring', f', ?_⟩
    rw [L_round hK]
    simp only [st615, ex615, List.replicate, List.cons_append, List.nil_append] at i5
    simp -implicitDefEqProofs only [B6L15, st615, ex615, dbody, dexec, dops, dop, ev, put, wants, dbin, dun, List.replicate, List.length_cons, List.length_nil, Nat.reduceAdd, Nat.reduceSub, Nat.reduceLT, Nat.reduceLeDiff, Nat.reduceMul, List.cons_append, List.nil_append, List.append_nil, List.set_cons_zero, List.set_cons_succ, List.set_nil, List.getD_cons_zero, List.getD_cons_succ, List.getD_nil, DV.cells, List.map_cons, List.map_nil, List.all_cons, List.all_nil, one_d1, one_ptr, one_row, one_clo, one_if, one_int, one_bool, one_str, one_slice, one_ref, one_nilp, one_iface, one_nili, one_func, one_nilf, Bool.and_self, Bool.and_true, Bool.true_and, Bool.and_false, Bool.false_and, Bool.or_true, Bool.or_false, if_true, flat_comp, flat_map, List.mapM_cons, List.mapM_nil, DV.flat, Option.pure_def, Option.bind_eq_bind, Option.bind_some, Option.bind_none, Option.map_some, Option.map_none, dload, List.getElem?_cons_zero, List.getElem?_cons_succ, List.getElem?_nil, Nat.zero_add, Nat.add_zero, bne_self_eq_false, beq_self_eq_true, Bool.false_eq_true, if_false, DV.elems, ne_eq, not_true_eq_false, not_false_eq_true, Bool.not_true, Bool.not_false, beq_iff_eq, bne_iff_ne, reduceCtorEq, mask, DV.lows, DV.low, DV.coe, DV.isD, dresults, dresult, withHeap, List.take_zero, List.take_nil, dcallV_fn, dcallV_fnc, dcallV_clo, dcallV_yld, lowCells, LSt.isReady, DV.int, DV.mkAgg, List.drop_zero, List.drop_succ_cons, List.take_succ_cons, same, List.not_mem_nil, false_implies, implies_true, decide_true, decide_false, decide_eq_true_eq, Int.toNat_natCast, Int.natCast_nonneg, and_self, and_true, true_and, mnmx2, List.foldlM_cons, List.foldlM_nil, nilness, bound, fill, flatCells, List.length_append, List.length_map, Nat.le_refl, List.all_map, Function.comp_def, Bool.false_beq, Bool.true_beq, gt_iff_lt, ge_iff_le, cast_lit, Int.reduceLE, Int.reduceLT, Int.reduceAdd, Int.reduceSub, Int.reduceNeg, Int.reduceEq, Int.reduceBEq, Int.reduceBNe, Nat.reduceBEq, Bool.not_eq_true, Int.toNat_zero, Nat.zero_mul, Nat.reduceEqDiff, and_false, false_and, or_false, or_true, true_or, false_or, Int.le_refl, Int.lt_irrefl, Int.reduceToNat, allocCells, List.mem_cons, forall_eq_or_imp, forall_eq, List.append_assoc, List.length_set, List.set_set, DOut.val.injEq, e1, e3, w1, w2, w3, evs_at, evs_len, hu, hu7, hu1, hu2, hone, take_d, lows_d, put_all, htake, hlen, hall, hsame, hdrop, Int.toNat_natCast, i5]

theorem queueAll_ok (mo : Nat) (hmo : mo < 256) (l : List Ev) : ∃ h', D env 6 [.d (.int .u8 mo), .d (.slice 7 (evs l))] [] = some (.val (.d (.bool true)) h') := by
  rw [D_dat (F := A6) rfl rfl rfl rfl]
  have hli := evlight_ok l []
  by_cases hlight : 0 ≤ evLights l 3000 ∧ (l.length : Int) ≤ 300
  · have ho := ok_of_lights l 3000 (by omega) hlight.1
    have e1 : decide (0 ≤ evLights l 3000) = true := by simpa using hlight.1
    have e2 : decide ((l.length : Int) ≤ 300) = true := by simpa using hlight.2
    rw [e1, e2] at hli
    have w2 : IntKind.i64.wrap (mo : Int) = (mo : Int) := wrap_i64 (by omega) (by omega)
    have w3 : (mo : Int).tmod 32 = ((mo % 32 : Nat) : Int) := by rw [Int.tmod_eq_emod_of_nonneg (by omega)]; omega
    have w4 : IntKind.i64.wrap (1 + ((mo % 32 : Nat) : Int)) = ((1 + mo % 32 : Nat) : Int) := by rw [wrap_i64 (by omega) (by omega)]; omega
    have hm1 : 1 + mo % 32 ≤ 32 := by omega
    have hnew := new_ok (1 + mo % 32) (by omega) (by omega) []
    obtain ⟨ring1, n1, q1, k1⟩ := loop67 mo (1 + mo % 32) l (by omega) l [] rfl zring 0 (by simpa using qinv_new _ (by omega) (by omega))
    generalize 1 + mo % 32 = mm at *
    have hlen : ∀ t, D env 15 [.ptr 0 0] (.box (qc ring1 0 n1 mm) :: t) = some (.val (.d (.int .i64 n1)) (.box (qc ring1 0 n1 mm) :: t)) := fun t => len_ok q1.rok (id := 0) (h := _ :: t) rfl
    have hall : ∀ t, D env 22 [.ptr 0 0] (.box (qc ring1 0 n1 mm) :: t) = some (.val (.d (.slice 7 (evs (l.take mm)))) (.box (qc ring1 0 n1 mm) :: t)) := fun t => all_inv q1 rfl
    have hl2 : (l.take mm).length ≤ 32 := by simp; omega
    have ho2 : ∀ e ∈ l.take mm, e.ok := fun e he => ho e (List.mem_of_mem_take he)
    have hsame := sames_ev (l.take mm) (by omega) ho2
    have hn1 : (n1 : Int) = ((l.take mm).length : Int) := by have := q1.count; omega
    have hmin : ((l.take mm).length : Int) = (if (mm : Int) < (l.length : Int) then (mm : Int) else (l.length : Int)) := by
      simp only [List.length_take]
      split <;> omega
    have htk : List.take (l.take mm).length (evs l) = evs (l.take mm) := by
      rw [evs, evs, List.map_take, List.length_take]
      rcases Nat.le_total mm l.length with h | h
      · rw [Nat.min_eq_left h]
      · rw [Nat.min_eq_right h, List.take_of_length_le (by simp), List.take_of_length_le (by simpa using h)]
    have hle : ((l.take mm).length : Int) ≤ (l.length : Int) := by simp; omega
    obtain ⟨ring2, f2, k2⟩ := loop615 (evs l) mm (l.take mm) hl2 ho2 (l.take mm).length 0 n1 0 ring1 (by omega) q1
    rw [hn1] at hlen
    generalize l.take mm = A at *
    simp only [st67, ex67, List.replicate, List.cons_append, List.nil_append, List.length_nil, Int.natCast_zero] at k1
    simp only [st615, ex615, List.replicate, List.cons_append, List.nil_append, Int.natCast_zero] at k2
    simp -implicitDefEqProofs only [A6, B6, dbody, dexec, dops, dop, ev, put, wants, dbin, dun, List.replicate, List.length_cons, List.length_nil, Nat.reduceAdd, Nat.reduceSub, Nat.reduceLT, Nat.reduceLeDiff, Nat.reduceMul, List.cons_append, List.nil_append, List.append_nil, List.set_cons_zero, List.set_cons_succ, List.set_nil, List.getD_cons_zero, List.getD_cons_succ, List.getD_nil, DV.cells, List.map_cons, List.map_nil, List.all_cons, List.all_nil, one_d1, one_ptr, one_row, one_clo, one_if, one_int, one_bool, one_str, one_slice, one_ref, one_nilp, one_iface, one_nili, one_func, one_nilf, Bool.and_self, Bool.and_true, Bool.true_and, Bool.and_false, Bool.false_and, Bool.or_true, Bool.or_false, if_true, flat_comp, flat_map, List.mapM_cons, List.mapM_nil, DV.flat, Option.pure_def, Option.bind_eq_bind, Option.bind_some, Option.bind_none, Option.map_some, Option.map_none, dload, List.getElem?_cons_zero, List.getElem?_cons_succ, List.getElem?_nil, Nat.zero_add, Nat.add_zero, bne_self_eq_false, beq_self_eq_true, Bool.false_eq_true, if_false, DV.elems, ne_eq, not_true_eq_false, not_false_eq_true, Bool.not_true, Bool.not_false, beq_iff_eq, bne_iff_ne, reduceCtorEq, mask, DV.lows, DV.low, DV.coe, DV.isD, dresults, dresult, withHeap, List.take_zero, List.take_nil, dcallV_fn, dcallV_fnc, dcallV_clo, dcallV_yld, lowCells, LSt.isReady, DV.int, DV.mkAgg, List.drop_zero, List.drop_succ_cons, List.take_succ_cons, same, List.not_mem_nil, false_implies, implies_true, decide_true, decide_false, decide_eq_true_eq, Int.toNat_natCast, Int.natCast_nonneg, and_self, and_true, true_and, mnmx2, List.foldlM_cons, List.foldlM_nil, nilness, bound, fill, flatCells, List.length_append, List.length_map, Nat.le_refl, List.all_map, Function.comp_def, Bool.false_beq, Bool.true_beq, gt_iff_lt, ge_iff_le, cast_lit, Int.reduceLE, Int.reduceLT, Int.reduceAdd, Int.reduceSub, Int.reduceNeg, Int.reduceEq, Int.reduceBEq, Int.reduceBNe, Nat.reduceBEq, Bool.not_eq_true, Int.toNat_zero, Nat.zero_mul, Nat.reduceEqDiff, and_false, false_and, or_false, or_true, true_or, false_or, Int.le_refl, Int.lt_irrefl, Int.reduceToNat, allocCells, List.mem_cons, forall_eq_or_imp, forall_eq, List.append_assoc, List.length_set, List.set_set, DOut.val.injEq, hli, w2, w3, w4, hnew, k1, evs_len, hlen, hall, ← hmin, htk, hle, hsame, k2, awake_ok, List.length_map]
    exact ⟨_, rfl⟩
  · have e1 : (decide (0 ≤ evLights l 3000) && decide ((l.length : Int) ≤ 300)) = false := by
      rw [Bool.and_eq_false_iff, decide_eq_false_iff_not, decide_eq_false_iff_not]
      by_cases h1 : 0 ≤ evLights l 3000
      · exact .inr fun h2 => hlight ⟨h1, h2⟩
      · exact .inl h1
    rw [e1] at hli
    simp -implicitDefEqProofs only [A6, B6, dbody, dexec, dops, dop, ev, put, wants, dbin, dun, List.replicate, List.length_cons, List.length_nil, Nat.reduceAdd, Nat.reduceSub, Nat.reduceLT, Nat.reduceLeDiff, Nat.reduceMul, List.cons_append, List.nil_append, List.append_nil, List.set_cons_zero, List.set_cons_succ, List.set_nil, List.getD_cons_zero, List.getD_cons_succ, List.getD_nil, DV.cells, List.map_cons, List.map_nil, List.all_cons, List.all_nil, one_d1, one_ptr, one_row, one_clo, one_if, one_int, one_bool, one_str, one_slice, one_ref, one_nilp, one_iface, one_nili, one_func, one_nilf, Bool.and_self, Bool.and_true, Bool.true_and, Bool.and_false, Bool.false_and, Bool.or_true, Bool.or_false, if_true, flat_comp, flat_map, List.mapM_cons, List.mapM_nil, DV.flat, Option.pure_def, Option.bind_eq_bind, Option.bind_some, Option.bind_none, Option.map_some, Option.map_none, dload, List.getElem?_cons_zero, List.getElem?_cons_succ, List.getElem?_nil, Nat.zero_add, Nat.add_zero, bne_self_eq_false, beq_self_eq_true, Bool.false_eq_true, if_false, DV.elems, ne_eq, not_true_eq_false, not_false_eq_true, Bool.not_true, Bool.not_false, beq_iff_eq, bne_iff_ne, reduceCtorEq, mask, DV.lows, DV.low, DV.coe, DV.isD, dresults, dresult, withHeap, List.take_zero, List.take_nil, dcallV_fn, dcallV_fnc, dcallV_clo, dcallV_yld, lowCells, LSt.isReady, DV.int, DV.mkAgg, List.drop_zero, List.drop_succ_cons, List.take_succ_cons, same, List.not_mem_nil, false_implies, implies_true, decide_true, decide_false, decide_eq_true_eq, Int.toNat_natCast, Int.natCast_nonneg, and_self, and_true, true_and, mnmx2, List.foldlM_cons, List.foldlM_nil, nilness, bound, fill, flatCells, List.length_append, List.length_map, Nat.le_refl, List.all_map, Function.comp_def, Bool.false_beq, Bool.true_beq, gt_iff_lt, ge_iff_le, cast_lit, Int.reduceLE, Int.reduceLT, Int.reduceAdd, Int.reduceSub, Int.reduceNeg, Int.reduceEq, Int.reduceBEq, Int.reduceBNe, Nat.reduceBEq, Bool.not_eq_true, Int.toNat_zero, Nat.zero_mul, Nat.reduceEqDiff, and_false, false_and, or_false, or_true, true_or, false_or, Int.le_refl, Int.lt_irrefl, Int.reduceToNat, allocCells, List.mem_cons, forall_eq_or_imp, forall_eq, List.append_assoc, List.length_set, List.set_set, DOut.val.injEq, hli, awake_ok]
    exact ⟨_, rfl⟩
end Go.Proofs.Ytoadpaaghjomnaa.Codes
