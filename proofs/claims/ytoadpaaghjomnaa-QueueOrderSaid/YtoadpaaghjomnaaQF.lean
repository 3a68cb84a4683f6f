/-
  QueueOrder, by the deep machine.
  Conditions: none.
-/
import Derived.Test.YtoadpaaghjomnaaQE
set_option linter.unusedVariables false
set_option linter.unusedSimpArgs false
set_option maxRecDepth 100000
namespace Go.Proofs.Ytoadpaaghjomnaa.Codes
open Go.Deepv

def st21 (P G : List (List FV)) : List DV := List.replicate 7 (.d .undef) ++ [.ptr 0 0, .d .undef, .row 7 P 1, .row 7 G 2] ++ List.replicate 109 (.d .undef)

theorem loop21 (m : Nat) : ∀ (n : Nat) (ring : List (List FV)) (f : Nat) (P G : List Ev), QInv ring f n m P G.length → G = P.take G.length → P.length ≤ 300 →
      ∃ ring' f', RingOk ring' ∧
        L env 3 true H4L21 X4L21 B4L21 (st21 (evs P) (evs G)) [.box (qc ring f n m), rr 7 P.length, rr 7 G.length] =
          some (.exit 2, ex8 (evs P) (evs P), [.box (qc ring' f' 0 m), rr 7 P.length, rr 7 P.length]) := by
  obtain ⟨K, hK⟩ : ∃ K, L env 3 true H4L21 X4L21 B4L21 = K := ⟨_, rfl⟩
  rw [hK]
  intro n
  induction n with
  | zero =>
    intro ring f P G q hG hP
    have hc := q.count
    have hGP : G = P := by rw [hG, List.take_of_length_le (by omega)]
    subst hGP
    have hlen : ∀ t, D env 15 [.ptr 0 0] (.box (qc ring f 0 m) :: t) = some (.val (.d (.int .i64 0)) (.box (qc ring f 0 m) :: t)) := fun t => len_ok q.rok (id := 0) (h := _ :: t) rfl
    refine ⟨ring, f, q.rok, ?_⟩
    rw [L_round hK]
    simp -implicitDefEqProofs only [B4L21, st21, ex8, dbody, dexec, dops, dop, ev, put, wants, dbin, dun, List.replicate, List.length_cons, List.length_nil, Nat.reduceAdd, Nat.reduceSub, Nat.reduceLT, Nat.reduceLeDiff, Nat.reduceMul, List.cons_append, List.nil_append, List.append_nil, List.set_cons_zero, List.set_cons_succ, List.set_nil, List.getD_cons_zero, List.getD_cons_succ, List.getD_nil, DV.cells, List.map_cons, List.map_nil, List.all_cons, List.all_nil, one_d1, one_ptr, one_row, one_clo, one_if, one_int, one_bool, one_str, one_slice, one_ref, one_nilp, one_iface, one_nili, one_func, one_nilf, Bool.and_self, Bool.and_true, Bool.true_and, Bool.and_false, Bool.false_and, Bool.or_true, Bool.or_false, if_true, flat_comp, flat_map, List.mapM_cons, List.mapM_nil, DV.flat, Option.pure_def, Option.bind_eq_bind, Option.bind_some, Option.bind_none, Option.map_some, Option.map_none, dload, List.getElem?_cons_zero, List.getElem?_cons_succ, List.getElem?_nil, Nat.zero_add, Nat.add_zero, bne_self_eq_false, beq_self_eq_true, Bool.false_eq_true, if_false, DV.elems, ne_eq, not_true_eq_false, not_false_eq_true, Bool.not_true, Bool.not_false, beq_iff_eq, bne_iff_ne, reduceCtorEq, mask, DV.lows, DV.low, DV.coe, DV.isD, dresults, dresult, withHeap, List.take_zero, List.take_nil, dcallV_fn, DV.int, DV.mkAgg, List.drop_zero, List.drop_succ_cons, List.take_succ_cons, same, List.not_mem_nil, false_implies, implies_true, decide_true, decide_false, decide_eq_true_eq, Int.toNat_natCast, Int.natCast_nonneg, and_self, and_true, true_and, mnmx2, List.foldlM_cons, List.foldlM_nil, nilness, bound, fill, flatCells, List.length_append, List.length_map, Nat.le_refl, List.all_map, Function.comp_def, Bool.false_beq, Bool.true_beq, gt_iff_lt, ge_iff_le, cast_lit, Int.reduceLE, Int.reduceLT, Int.reduceAdd, Int.reduceSub, Int.reduceNeg, Int.reduceEq, Int.reduceBEq, Int.reduceBNe, Nat.reduceBEq, Bool.not_eq_true, Int.toNat_zero, Nat.zero_mul, Nat.reduceEqDiff, and_false, false_and, or_false, or_true, true_or, false_or, Int.le_refl, Int.lt_irrefl, Int.reduceToNat, allocCells, List.mem_cons, forall_eq_or_imp, forall_eq, List.append_assoc, List.length_set, List.set_set, DOut.val.injEq, hlen]
  | succ n ih =>
    intro ring f P G q hG hP
    have hc := q.count
    have hms := q.most
    have hlen : ∀ t, D env 15 [.ptr 0 0] (.box (qc ring f (n + 1) m) :: t) = some (.val (.d (.int .i64 ((n + 1 : Nat) : Int))) (.box (qc ring f (n + 1) m) :: t)) := fun t => len_ok q.rok (id := 0) (h := _ :: t) rfl
    have h0 : (0 : Int) < ((n + 1 : Nat) : Int) := by omega
    have hGP : (G.length : Int) ≤ (P.length : Int) := by omega
    have hG1 : (G.length + 1) * 96 ≤ 140737488355328 := by omega
    obtain ⟨u, hu, hru, q2⟩ := q.take (by omega)
    have hu7 := ev_len u
    have hu1 := ev_one u
    have hu2 : u.enc.all (fun x => x.one) = true := hu1
    have htake : ∀ t, D env 14 [.ptr 0 0] (.box (qc ring f (n + 1) m) :: t) = some (.val (.d (.tup [.agg u.enc, .bool true])) (.box (qc (ring.set f zeroEv) ((f + 1) % 32) n m) :: t)) :=
      fun t => take_ok q.rok q.first (by omega) (by omega) (id := 0) (h := _ :: t) rfl hru
    have hG3 : G ++ [u] = P.take (G ++ [u]).length := by
      rw [List.length_append, List.length_singleton, List.take_add_one, ← hG, hu]; rfl
    obtain ⟨ring', f', i1, i5⟩ := ih _ _ P (G ++ [u]) (by simpa using q2) hG3 hP
    refine ⟨ring', f', i1, ?_⟩
    rw [L_round hK]
    simp [st21, ex8, List.replicate] at i5
    simp -implicitDefEqProofs only [B4L21, st21, ex8, dbody, dexec, dops, dop, ev, put, wants, dbin, dun, List.replicate, List.length_cons, List.length_nil, Nat.reduceAdd, Nat.reduceSub, Nat.reduceLT, Nat.reduceLeDiff, Nat.reduceMul, List.cons_append, List.nil_append, List.append_nil, List.set_cons_zero, List.set_cons_succ, List.set_nil, List.getD_cons_zero, List.getD_cons_succ, List.getD_nil, DV.cells, List.map_cons, List.map_nil, List.all_cons, List.all_nil, one_d1, one_ptr, one_row, one_clo, one_if, one_int, one_bool, one_str, one_slice, one_ref, one_nilp, one_iface, one_nili, one_func, one_nilf, Bool.and_self, Bool.and_true, Bool.true_and, Bool.and_false, Bool.false_and, Bool.or_true, Bool.or_false, if_true, flat_comp, flat_map, List.mapM_cons, List.mapM_nil, DV.flat, Option.pure_def, Option.bind_eq_bind, Option.bind_some, Option.bind_none, Option.map_some, Option.map_none, dload, List.getElem?_cons_zero, List.getElem?_cons_succ, List.getElem?_nil, Nat.zero_add, Nat.add_zero, bne_self_eq_false, beq_self_eq_true, Bool.false_eq_true, if_false, DV.elems, ne_eq, not_true_eq_false, not_false_eq_true, Bool.not_true, Bool.not_false, beq_iff_eq, bne_iff_ne, reduceCtorEq, mask, DV.lows, DV.low, DV.coe, DV.isD, dresults, dresult, withHeap, List.take_zero, List.take_nil, dcallV_fn, DV.int, DV.mkAgg, List.drop_zero, List.drop_succ_cons, List.take_succ_cons, same, List.not_mem_nil, false_implies, implies_true, decide_true, decide_false, decide_eq_true_eq, Int.toNat_natCast, Int.natCast_nonneg, and_self, and_true, true_and, mnmx2, List.foldlM_cons, List.foldlM_nil, nilness, bound, fill, flatCells, List.length_append, List.length_map, Nat.le_refl, List.all_map, Function.comp_def, Bool.false_beq, Bool.true_beq, gt_iff_lt, ge_iff_le, cast_lit, Int.reduceLE, Int.reduceLT, Int.reduceAdd, Int.reduceSub, Int.reduceNeg, Int.reduceEq, Int.reduceBEq, Int.reduceBNe, Nat.reduceBEq, Bool.not_eq_true, Int.toNat_zero, Nat.zero_mul, Nat.reduceEqDiff, and_false, false_and, or_false, or_true, true_or, false_or, Int.le_refl, Int.lt_irrefl, Int.reduceToNat, allocCells, List.mem_cons, forall_eq_or_imp, forall_eq, List.append_assoc, List.length_set, List.set_set, DOut.val.injEq, hlen, h0, hGP, evs_len, hu7, hu1, hu2, take_d, lows_d, put_all, htake, appRow_one, hG1, evs_snoc, i5]

theorem sames_rows (l : List Ev) (hl : l.length ≤ 1000) (ho : ∀ e ∈ l, e.ok) (t t' : Nat) (h : List Res) : D env 16 [.row 7 (evs l) t, .row 7 (evs l) t'] h = some (.val (.d (.bool true)) h) := by
  rw [← sames_ev l hl ho h, D_eq, D_eq]
  unfold dcall
  rfl

theorem rr0 : rr 7 0 = .nilrow := rfl

theorem queueOrder_ok (mo : Nat) (hmo : mo < 256) (l : List Ev) (dos : List Bool) : ∃ h', D env 4 [.d (.int .u8 mo), .d (.slice 7 (evs l)), .d (.slice 1 (flags dos))] [] = some (.val (.d (.bool true)) h') := by
  rw [D_dat (F := A4) rfl rfl rfl rfl]
  have hli := evlight_ok l []
  by_cases hlight : 0 ≤ evLights l 3000 ∧ (l.length : Int) ≤ 300
  · have ho := ok_of_lights l 3000 (by omega) hlight.1
    have e1 : decide (0 ≤ evLights l 3000) = true := by simpa using hlight.1
    have e2 : decide ((l.length : Int) ≤ 300) = true := by simpa using hlight.2
    rw [e1, e2] at hli
    have w2 : IntKind.i64.wrap (mo : Int) = (mo : Int) := wrap_i64 (by omega) (by omega)
    have w3 : (mo : Int).tmod 32 = ((mo % 32 : Nat) : Int) := by rw [Int.tmod_eq_emod_of_nonneg (by omega)]; omega
    have w4 : IntKind.i64.wrap (1 + ((mo % 32 : Nat) : Int)) = ((1 + mo % 32 : Nat) : Int) := by rw [wrap_i64 (by omega) (by omega)]; omega
    have hnew := new_ok (1 + mo % 32) (by omega) (by omega) []
    obtain ⟨ring1, f1, n1, P, G, q1, hG, hPl, hPm, k1⟩ := loop8 mo (1 + mo % 32) hmo rfl dos l (by omega) l [] rfl zring 0 0 [] [] (qinv_new _ (by omega) (by omega)) rfl (by simp) (by simp)
    obtain ⟨ring2, f2, r2, k2⟩ := loop21 (1 + mo % 32) n1 ring1 f1 P G q1 hG (by omega)
    have htake : ∀ t, D env 14 [.ptr 0 0] (.box (qc ring2 f2 0 (1 + mo % 32)) :: t) = some (.val (.d (.tup [.agg zeroEv, .bool false])) (.box (qc ring2 f2 0 (1 + mo % 32)) :: t)) := fun t => take_none r2 (id := 0) (h := _ :: t) rfl
    have hsame := sames_rows P (by omega) (fun e he => ho e (hPm e he)) 1 2
    generalize 1 + mo % 32 = mm at *
    simp [st8, ex8, List.replicate, rr0, evs] at k1
    simp [st21, ex8, List.replicate, evs] at k2
    simp only [zeroEv] at htake
    simp [evs] at hsame hli
    simp -implicitDefEqProofs only [A4, B4, dbody, dexec, dops, dop, ev, put, wants, dbin, dun, List.replicate, List.length_cons, List.length_nil, Nat.reduceAdd, Nat.reduceSub, Nat.reduceLT, Nat.reduceLeDiff, Nat.reduceMul, List.cons_append, List.nil_append, List.append_nil, List.set_cons_zero, List.set_cons_succ, List.set_nil, List.getD_cons_zero, List.getD_cons_succ, List.getD_nil, DV.cells, List.map_cons, List.map_nil, List.all_cons, List.all_nil, one_d1, one_ptr, one_row, one_clo, one_if, one_int, one_bool, one_str, one_slice, one_ref, one_nilp, one_iface, one_nili, one_func, one_nilf, Bool.and_self, Bool.and_true, Bool.true_and, Bool.and_false, Bool.false_and, Bool.or_true, Bool.or_false, if_true, flat_comp, flat_map, List.mapM_cons, List.mapM_nil, DV.flat, Option.pure_def, Option.bind_eq_bind, Option.bind_some, Option.bind_none, Option.map_some, Option.map_none, dload, List.getElem?_cons_zero, List.getElem?_cons_succ, List.getElem?_nil, Nat.zero_add, Nat.add_zero, bne_self_eq_false, beq_self_eq_true, Bool.false_eq_true, if_false, DV.elems, ne_eq, not_true_eq_false, not_false_eq_true, Bool.not_true, Bool.not_false, beq_iff_eq, bne_iff_ne, reduceCtorEq, mask, DV.lows, DV.low, DV.coe, DV.isD, dresults, dresult, withHeap, List.take_zero, List.take_nil, dcallV_fn, DV.int, DV.mkAgg, List.drop_zero, List.drop_succ_cons, List.take_succ_cons, same, List.not_mem_nil, false_implies, implies_true, decide_true, decide_false, decide_eq_true_eq, Int.toNat_natCast, Int.natCast_nonneg, and_self, and_true, true_and, mnmx2, List.foldlM_cons, List.foldlM_nil, nilness, bound, fill, flatCells, List.length_append, List.length_map, Nat.le_refl, List.all_map, Function.comp_def, Bool.false_beq, Bool.true_beq, gt_iff_lt, ge_iff_le, cast_lit, Int.reduceLE, Int.reduceLT, Int.reduceAdd, Int.reduceSub, Int.reduceNeg, Int.reduceEq, Int.reduceBEq, Int.reduceBNe, Nat.reduceBEq, Bool.not_eq_true, Int.toNat_zero, Nat.zero_mul, Nat.reduceEqDiff, and_false, false_and, or_false, or_true, true_or, false_or, Int.le_refl, Int.lt_irrefl, Int.reduceToNat, allocCells, List.mem_cons, forall_eq_or_imp, forall_eq, List.append_assoc, List.length_set, List.set_set, DOut.val.injEq, hli, w2, w3, w4, hnew, k1, k2, evs_len, htake, put_all, hsame, awake_ok, evs, List.length_map]
    exact ⟨_, rfl⟩
  · have e1 : (decide (0 ≤ evLights l 3000) && decide ((l.length : Int) ≤ 300)) = false := by
      rw [Bool.and_eq_false_iff, decide_eq_false_iff_not, decide_eq_false_iff_not]
      by_cases h1 : 0 ≤ evLights l 3000
      · exact .inr fun h2 => hlight ⟨h1, h2⟩
      · exact .inl h1
    rw [e1] at hli
    simp -implicitDefEqProofs only [A4, B4, dbody, dexec, dops, dop, ev, put, wants, dbin, dun, List.replicate, List.length_cons, List.length_nil, Nat.reduceAdd, Nat.reduceSub, Nat.reduceLT, Nat.reduceLeDiff, Nat.reduceMul, List.cons_append, List.nil_append, List.append_nil, List.set_cons_zero, List.set_cons_succ, List.set_nil, List.getD_cons_zero, List.getD_cons_succ, List.getD_nil, DV.cells, List.map_cons, List.map_nil, List.all_cons, List.all_nil, one_d1, one_ptr, one_row, one_clo, one_if, one_int, one_bool, one_str, one_slice, one_ref, one_nilp, one_iface, one_nili, one_func, one_nilf, Bool.and_self, Bool.and_true, Bool.true_and, Bool.and_false, Bool.false_and, Bool.or_true, Bool.or_false, if_true, flat_comp, flat_map, List.mapM_cons, List.mapM_nil, DV.flat, Option.pure_def, Option.bind_eq_bind, Option.bind_some, Option.bind_none, Option.map_some, Option.map_none, dload, List.getElem?_cons_zero, List.getElem?_cons_succ, List.getElem?_nil, Nat.zero_add, Nat.add_zero, bne_self_eq_false, beq_self_eq_true, Bool.false_eq_true, if_false, DV.elems, ne_eq, not_true_eq_false, not_false_eq_true, Bool.not_true, Bool.not_false, beq_iff_eq, bne_iff_ne, reduceCtorEq, mask, DV.lows, DV.low, DV.coe, DV.isD, dresults, dresult, withHeap, List.take_zero, List.take_nil, dcallV_fn, DV.int, DV.mkAgg, List.drop_zero, List.drop_succ_cons, List.take_succ_cons, same, List.not_mem_nil, false_implies, implies_true, decide_true, decide_false, decide_eq_true_eq, Int.toNat_natCast, Int.natCast_nonneg, and_self, and_true, true_and, mnmx2, List.foldlM_cons, List.foldlM_nil, nilness, bound, fill, flatCells, List.length_append, List.length_map, Nat.le_refl, List.all_map, Function.comp_def, Bool.false_beq, Bool.true_beq, gt_iff_lt, ge_iff_le, cast_lit, Int.reduceLE, Int.reduceLT, Int.reduceAdd, Int.reduceSub, Int.reduceNeg, Int.reduceEq, Int.reduceBEq, Int.reduceBNe, Nat.reduceBEq, Bool.not_eq_true, Int.toNat_zero, Nat.zero_mul, Nat.reduceEqDiff, and_false, false_and, or_false, or_true, true_or, false_or, Int.le_refl, Int.lt_irrefl, Int.reduceToNat, allocCells, List.mem_cons, forall_eq_or_imp, forall_eq, List.append_assoc, List.length_set, List.set_set, DOut.val.injEq, hli, awake_ok]
    exact ⟨_, rfl⟩
end Go.Proofs.Ytoadpaaghjomnaa.Codes
