/-
  The first loop of QueueOrder, by the deep machine.
  Conditions: none.
-/
import Derived.Test.YtoadpaaghjomnaaQD
set_option linter.unusedVariables false
set_option linter.unusedSimpArgs false
set_option maxRecDepth 100000
namespace Go.Proofs.Ytoadpaaghjomnaa.Codes
open Go.Deepv

mutual
theorem enc_one : ∀ v : V, v.enc.all FV.one = true
  | .mk k n b s l => by simp [V.enc, FV.one]
end
theorem ev_one (e : Ev) : e.enc.all FV.one = true := by
  have := enc_one e.val
  simp only [Ev.enc, List.all_cons, List.all_append, this, List.all_nil]
  rfl
theorem evs_snoc (P : List Ev) (v : Ev) : evs P ++ [v.enc] = evs (P ++ [v]) := by simp [evs]

def flags (l : List Bool) : List (List FV) := l.map fun b => [.bool b]
theorem flags_len (l : List Bool) : (flags l).length = l.length := by simp [flags]
theorem flags_at (l : List Bool) (i : Nat) : (flags l)[i]? = (l[i]?).map fun b => [.bool b] := by simp [flags]

def st8 (mo : Nat) (db : List (List FV)) (P G l : List (List FV)) (len i : Int) : List DV :=
  [.d (.int .u8 mo), .d .undef, .d (.slice 1 db), .d .undef, .d .undef, .d .undef, .d .undef, .ptr 0 0, .d .undef, .row 7 P 1, .row 7 G 2] ++ List.replicate 23 (.d .undef) ++ [.d (.slice 7 l), .d (.int .i64 len), .d (.int .i64 i)] ++ List.replicate 83 (.d .undef)
def ex8 (P G : List (List FV)) : List DV := List.replicate 7 (.d .undef) ++ [.ptr 0 0, .d .undef, .row 7 P 1, .row 7 G 2] ++ List.replicate 109 (.d .undef)

theorem loop8 (mo m : Nat) (hmo : mo < 256) (hm : m = 1 + mo % 32) (dos : List Bool) (l : List Ev) (hl : l.length ≤ 300) :
    ∀ (r p : List Ev), l = p ++ r → ∀ (ring : List (List FV)) (f n : Nat) (P G : List Ev), QInv ring f n m P G.length → G = P.take G.length → P.length ≤ p.length → (∀ e ∈ P, e ∈ l) →
      ∃ ring' f' n' P' G', QInv ring' f' n' m P' G'.length ∧ G' = P'.take G'.length ∧ P'.length ≤ l.length ∧ (∀ e ∈ P', e ∈ l) ∧
        L env 3 true H4L8 X4L8 B4L8 (st8 mo (flags dos) (evs P) (evs G) (evs l) l.length p.length) [.box (qc ring f n m), rr 7 P.length, rr 7 G.length] =
          some (.exit 0, ex8 (evs P') (evs G'), [.box (qc ring' f' n' m), rr 7 P'.length, rr 7 G'.length]) := by
  obtain ⟨K, hK⟩ : ∃ K, L env 3 true H4L8 X4L8 B4L8 = K := ⟨_, rfl⟩
  rw [hK]
  intro r
  induction r with
  | nil =>
    intro p hp ring f n P G q hG hPp hPl
    simp at hp
    subst hp
    refine ⟨ring, f, n, P, G, q, hG, hPp, hPl, ?_⟩
    rw [L_round hK]
    simp -implicitDefEqProofs only [B4L8, st8, ex8, dbody, dexec, dops, dop, ev, put, wants, dbin, dun, List.replicate, List.length_cons, List.length_nil, Nat.reduceAdd, Nat.reduceSub, Nat.reduceLT, Nat.reduceLeDiff, Nat.reduceMul, List.cons_append, List.nil_append, List.append_nil, List.set_cons_zero, List.set_cons_succ, List.set_nil, List.getD_cons_zero, List.getD_cons_succ, List.getD_nil, DV.cells, List.map_cons, List.map_nil, List.all_cons, List.all_nil, one_d1, one_ptr, one_row, one_clo, one_if, one_int, one_bool, one_str, one_slice, one_ref, one_nilp, one_iface, one_nili, one_func, one_nilf, Bool.and_self, Bool.and_true, Bool.true_and, Bool.and_false, Bool.false_and, Bool.or_true, Bool.or_false, if_true, flat_comp, flat_map, List.mapM_cons, List.mapM_nil, DV.flat, Option.pure_def, Option.bind_eq_bind, Option.bind_some, Option.bind_none, Option.map_some, Option.map_none, dload, List.getElem?_cons_zero, List.getElem?_cons_succ, List.getElem?_nil, Nat.zero_add, Nat.add_zero, bne_self_eq_false, beq_self_eq_true, Bool.false_eq_true, if_false, DV.elems, ne_eq, not_true_eq_false, not_false_eq_true, Bool.not_true, Bool.not_false, beq_iff_eq, bne_iff_ne, reduceCtorEq, mask, DV.lows, DV.low, DV.coe, DV.isD, dresults, dresult, withHeap, List.take_zero, List.take_nil, dcallV_fn, dcallV_fnc, dcallV_clo, dcallV_yld, lowCells, LSt.isReady, DV.int, DV.mkAgg, List.drop_zero, List.drop_succ_cons, List.take_succ_cons, same, List.not_mem_nil, false_implies, implies_true, decide_true, decide_false, decide_eq_true_eq, Int.toNat_natCast, Int.natCast_nonneg, and_self, and_true, true_and, mnmx2, List.foldlM_cons, List.foldlM_nil, nilness, bound, fill, flatCells, List.length_append, List.length_map, Nat.le_refl, List.all_map, Function.comp_def, Bool.false_beq, Bool.true_beq, gt_iff_lt, ge_iff_le, cast_lit, Int.reduceLE, Int.reduceLT, Int.reduceAdd, Int.reduceSub, Int.reduceNeg, Int.reduceEq, Int.reduceBEq, Int.reduceBNe, Nat.reduceBEq, Bool.not_eq_true, Int.toNat_zero, Nat.zero_mul, Nat.reduceEqDiff, and_false, false_and, or_false, or_true, true_or, false_or, Int.le_refl, Int.lt_irrefl, Int.reduceToNat, allocCells, List.mem_cons, forall_eq_or_imp, forall_eq, List.append_assoc, List.length_set, List.set_set, DOut.val.injEq]
  | cons v r ihr =>
    intro p hp ring f n P G q hG hPp hPl
    have e1 : (p.length : Int) < (l.length : Int) := by rw [hp]; simp; omega
    have e2 : l[p.length]? = some v := by rw [hp]; simp
    have e3 : IntKind.i64.wrap ((p.length : Int) + 1) = (p.length : Int) + 1 := wrap_i64 (by omega) (by omega)
    have hx7 := ev_len v
    have hx1 := ev_one v
    have hx2 : v.enc.all (fun x => x.one) = true := hx1
    have hc := q.count
    have hms := q.most
    have hGP : G.length ≤ P.length := by omega
    have w1 : IntKind.i64.wrap ((P.length : Int) - (G.length : Int)) = (n : Int) := by rw [wrap_i64 (by omega) (by omega)]; omega
    have w2 : IntKind.i64.wrap (mo : Int) = (mo : Int) := wrap_i64 (by omega) (by omega)
    have w3 : (mo : Int).tmod 32 = ((m - 1 : Nat) : Int) := by rw [Int.tmod_eq_emod_of_nonneg (by omega)]; omega
    have hP1 : (P.length + 1) * 96 ≤ 140737488355328 := by omega
    have hG1 : (G.length + 1) * 96 ≤ 140737488355328 := by omega
    -- what follows when the flag says that something is taken, and when not
    by_cases hn : n < m
    · have hput : ∀ t, D env 13 [.ptr 0 0, .d (.agg v.enc)] (.box (qc ring f n m) :: t) = some (.val (.d (.int .i64 0)) (.box (qc (ring.set ((f + n) % 32) v.enc) f (n + 1) m) :: t)) :=
        fun t => put_ok q.rok q.first hms.2.1 hn (id := 0) (h := _ :: t) rfl hx7 hx1
      have q1 := q.put hn v hx1
      have hle : ((n : Int) ≤ ((m - 1 : Nat) : Int)) := by omega
      have hG2 : G = (P ++ [v]).take G.length := by rw [List.take_append_of_le_length hGP]; exact hG
      have hPl2 : ∀ e ∈ P ++ [v], e ∈ l := fun e he => by
        rcases List.mem_append.1 he with he | he
        · exact hPl e he
        · rw [List.mem_singleton.1 he, hp]; simp
      generalize hr1 : ring.set ((f + n) % 32) v.enc = ring1 at hput q1
      by_cases hd : dos[p.length]? = some true
      · have hdl : (p.length : Int) < (dos.length : Int) := by have := (List.getElem?_eq_some_iff.1 hd).1; omega
        obtain ⟨u, hu, hru, q2⟩ := q1.take (by omega)
        have hu7 := ev_len u
        have hu1 := ev_one u
        have hu2 : u.enc.all (fun x => x.one) = true := hu1
        have htake : ∀ t, D env 14 [.ptr 0 0] (.box (qc ring1 f (n + 1) m) :: t) = some (.val (.d (.tup [.agg u.enc, .bool true])) (.box (qc (ring1.set f zeroEv) ((f + 1) % 32) ((n + 1) - 1) m) :: t)) :=
          fun t => take_ok q1.rok q1.first (by omega) (by omega) (id := 0) (h := _ :: t) rfl hru
        have hG3 : G ++ [u] = (P ++ [v]).take (G ++ [u]).length := by
          rw [List.length_append, List.length_singleton, List.take_add_one, ← hG2, hu]; rfl
        obtain ⟨ring', f', n', P', G', i1, i2, i3, i4, i5⟩ := ihr (p ++ [v]) (by simp [hp]) _ _ _ (P ++ [v]) (G ++ [u]) (by simpa using q2) hG3 (by simp; omega) hPl2
        refine ⟨ring', f', n', P', G', i1, i2, i3, i4, ?_⟩
        rw [L_round hK]
        simp [st8, ex8, List.replicate] at i5
        simp -implicitDefEqProofs only [B4L8, st8, ex8, dbody, dexec, dops, dop, ev, put, wants, dbin, dun, List.replicate, List.length_cons, List.length_nil, Nat.reduceAdd, Nat.reduceSub, Nat.reduceLT, Nat.reduceLeDiff, Nat.reduceMul, List.cons_append, List.nil_append, List.append_nil, List.set_cons_zero, List.set_cons_succ, List.set_nil, List.getD_cons_zero, List.getD_cons_succ, List.getD_nil, DV.cells, List.map_cons, List.map_nil, List.all_cons, List.all_nil, one_d1, one_ptr, one_row, one_clo, one_if, one_int, one_bool, one_str, one_slice, one_ref, one_nilp, one_iface, one_nili, one_func, one_nilf, Bool.and_self, Bool.and_true, Bool.true_and, Bool.and_false, Bool.false_and, Bool.or_true, Bool.or_false, if_true, flat_comp, flat_map, List.mapM_cons, List.mapM_nil, DV.flat, Option.pure_def, Option.bind_eq_bind, Option.bind_some, Option.bind_none, Option.map_some, Option.map_none, dload, List.getElem?_cons_zero, List.getElem?_cons_succ, List.getElem?_nil, Nat.zero_add, Nat.add_zero, bne_self_eq_false, beq_self_eq_true, Bool.false_eq_true, if_false, DV.elems, ne_eq, not_true_eq_false, not_false_eq_true, Bool.not_true, Bool.not_false, beq_iff_eq, bne_iff_ne, reduceCtorEq, mask, DV.lows, DV.low, DV.coe, DV.isD, dresults, dresult, withHeap, List.take_zero, List.take_nil, dcallV_fn, dcallV_fnc, dcallV_clo, dcallV_yld, lowCells, LSt.isReady, DV.int, DV.mkAgg, List.drop_zero, List.drop_succ_cons, List.take_succ_cons, same, List.not_mem_nil, false_implies, implies_true, decide_true, decide_false, decide_eq_true_eq, Int.toNat_natCast, Int.natCast_nonneg, and_self, and_true, true_and, mnmx2, List.foldlM_cons, List.foldlM_nil, nilness, bound, fill, flatCells, List.length_append, List.length_map, Nat.le_refl, List.all_map, Function.comp_def, Bool.false_beq, Bool.true_beq, gt_iff_lt, ge_iff_le, cast_lit, Int.reduceLE, Int.reduceLT, Int.reduceAdd, Int.reduceSub, Int.reduceNeg, Int.reduceEq, Int.reduceBEq, Int.reduceBNe, Nat.reduceBEq, Bool.not_eq_true, Int.toNat_zero, Nat.zero_mul, Nat.reduceEqDiff, and_false, false_and, or_false, or_true, true_or, false_or, Int.le_refl, Int.lt_irrefl, Int.reduceToNat, allocCells, List.mem_cons, forall_eq_or_imp, forall_eq, List.append_assoc, List.length_set, List.set_set, DOut.val.injEq, e1, e2, e3, evs_at, evs_len, flags_at, flags_len, hd, hdl, hx7, hx1, hx2, hu7, hu1, hu2, take_d, lows_d, put_all, hput, htake, w1, w2, w3, hle, appRow_one, hP1, hG1, evs_snoc, Nat.add_sub_cancel, i5]
      · obtain ⟨ring', f', n', P', G', i1, i2, i3, i4, i5⟩ := ihr (p ++ [v]) (by simp [hp]) _ _ _ (P ++ [v]) G q1 hG2 (by simp; omega) hPl2
        refine ⟨ring', f', n', P', G', i1, i2, i3, i4, ?_⟩
        rw [L_round hK]
        simp [st8, ex8, List.replicate] at i5
        by_cases hdl : p.length < dos.length
        · have hd2 : dos[p.length]? = some false := by
            rw [List.getElem?_eq_getElem hdl] at hd ⊢
            cases hh : dos[p.length] with
            | true => rw [hh] at hd; exact absurd rfl hd
            | false => rfl
          have hdl2 : (p.length : Int) < (dos.length : Int) := by omega
          simp -implicitDefEqProofs only [B4L8, st8, ex8, dbody, dexec, dops, dop, ev, put, wants, dbin, dun, List.replicate, List.length_cons, List.length_nil, Nat.reduceAdd, Nat.reduceSub, Nat.reduceLT, Nat.reduceLeDiff, Nat.reduceMul, List.cons_append, List.nil_append, List.append_nil, List.set_cons_zero, List.set_cons_succ, List.set_nil, List.getD_cons_zero, List.getD_cons_succ, List.getD_nil, DV.cells, List.map_cons, List.map_nil, List.all_cons, List.all_nil, one_d1, one_ptr, one_row, one_clo, one_if, one_int, one_bool, one_str, one_slice, one_ref, one_nilp, one_iface, one_nili, one_func, one_nilf, Bool.and_self, Bool.and_true, Bool.true_and, Bool.and_false, Bool.false_and, Bool.or_true, Bool.or_false, if_true, flat_comp, flat_map, List.mapM_cons, List.mapM_nil, DV.flat, Option.pure_def, Option.bind_eq_bind, Option.bind_some, Option.bind_none, Option.map_some, Option.map_none, dload, List.getElem?_cons_zero, List.getElem?_cons_succ, List.getElem?_nil, Nat.zero_add, Nat.add_zero, bne_self_eq_false, beq_self_eq_true, Bool.false_eq_true, if_false, DV.elems, ne_eq, not_true_eq_false, not_false_eq_true, Bool.not_true, Bool.not_false, beq_iff_eq, bne_iff_ne, reduceCtorEq, mask, DV.lows, DV.low, DV.coe, DV.isD, dresults, dresult, withHeap, List.take_zero, List.take_nil, dcallV_fn, dcallV_fnc, dcallV_clo, dcallV_yld, lowCells, LSt.isReady, DV.int, DV.mkAgg, List.drop_zero, List.drop_succ_cons, List.take_succ_cons, same, List.not_mem_nil, false_implies, implies_true, decide_true, decide_false, decide_eq_true_eq, Int.toNat_natCast, Int.natCast_nonneg, and_self, and_true, true_and, mnmx2, List.foldlM_cons, List.foldlM_nil, nilness, bound, fill, flatCells, List.length_append, List.length_map, Nat.le_refl, List.all_map, Function.comp_def, Bool.false_beq, Bool.true_beq, gt_iff_lt, ge_iff_le, cast_lit, Int.reduceLE, Int.reduceLT, Int.reduceAdd, Int.reduceSub, Int.reduceNeg, Int.reduceEq, Int.reduceBEq, Int.reduceBNe, Nat.reduceBEq, Bool.not_eq_true, Int.toNat_zero, Nat.zero_mul, Nat.reduceEqDiff, and_false, false_and, or_false, or_true, true_or, false_or, Int.le_refl, Int.lt_irrefl, Int.reduceToNat, allocCells, List.mem_cons, forall_eq_or_imp, forall_eq, List.append_assoc, List.length_set, List.set_set, DOut.val.injEq, e1, e2, e3, evs_at, evs_len, flags_at, flags_len, hd2, hdl2, hx7, hx1, hx2, take_d, lows_d, put_all, hput, w1, w2, w3, hle, appRow_one, hP1, hG1, evs_snoc, i5]
        · have hdl2 : ¬ (p.length : Int) < (dos.length : Int) := by omega
          simp -implicitDefEqProofs only [B4L8, st8, ex8, dbody, dexec, dops, dop, ev, put, wants, dbin, dun, List.replicate, List.length_cons, List.length_nil, Nat.reduceAdd, Nat.reduceSub, Nat.reduceLT, Nat.reduceLeDiff, Nat.reduceMul, List.cons_append, List.nil_append, List.append_nil, List.set_cons_zero, List.set_cons_succ, List.set_nil, List.getD_cons_zero, List.getD_cons_succ, List.getD_nil, DV.cells, List.map_cons, List.map_nil, List.all_cons, List.all_nil, one_d1, one_ptr, one_row, one_clo, one_if, one_int, one_bool, one_str, one_slice, one_ref, one_nilp, one_iface, one_nili, one_func, one_nilf, Bool.and_self, Bool.and_true, Bool.true_and, Bool.and_false, Bool.false_and, Bool.or_true, Bool.or_false, if_true, flat_comp, flat_map, List.mapM_cons, List.mapM_nil, DV.flat, Option.pure_def, Option.bind_eq_bind, Option.bind_some, Option.bind_none, Option.map_some, Option.map_none, dload, List.getElem?_cons_zero, List.getElem?_cons_succ, List.getElem?_nil, Nat.zero_add, Nat.add_zero, bne_self_eq_false, beq_self_eq_true, Bool.false_eq_true, if_false, DV.elems, ne_eq, not_true_eq_false, not_false_eq_true, Bool.not_true, Bool.not_false, beq_iff_eq, bne_iff_ne, reduceCtorEq, mask, DV.lows, DV.low, DV.coe, DV.isD, dresults, dresult, withHeap, List.take_zero, List.take_nil, dcallV_fn, dcallV_fnc, dcallV_clo, dcallV_yld, lowCells, LSt.isReady, DV.int, DV.mkAgg, List.drop_zero, List.drop_succ_cons, List.take_succ_cons, same, List.not_mem_nil, false_implies, implies_true, decide_true, decide_false, decide_eq_true_eq, Int.toNat_natCast, Int.natCast_nonneg, and_self, and_true, true_and, mnmx2, List.foldlM_cons, List.foldlM_nil, nilness, bound, fill, flatCells, List.length_append, List.length_map, Nat.le_refl, List.all_map, Function.comp_def, Bool.false_beq, Bool.true_beq, gt_iff_lt, ge_iff_le, cast_lit, Int.reduceLE, Int.reduceLT, Int.reduceAdd, Int.reduceSub, Int.reduceNeg, Int.reduceEq, Int.reduceBEq, Int.reduceBNe, Nat.reduceBEq, Bool.not_eq_true, Int.toNat_zero, Nat.zero_mul, Nat.reduceEqDiff, and_false, false_and, or_false, or_true, true_or, false_or, Int.le_refl, Int.lt_irrefl, Int.reduceToNat, allocCells, List.mem_cons, forall_eq_or_imp, forall_eq, List.append_assoc, List.length_set, List.set_set, DOut.val.injEq, e1, e2, e3, evs_at, evs_len, flags_at, flags_len, hdl2, hx7, hx1, hx2, take_d, lows_d, put_all, hput, w1, w2, w3, hle, appRow_one, hP1, hG1, evs_snoc, i5]
    · have hnm : n = m := by omega
      subst hnm
      have hput : ∀ t, D env 13 [.ptr 0 0, .d (.agg v.enc)] (.box (qc ring f n n) :: t) = some (.val (.d (.int .i64 25)) (.box (qc ring f n n) :: t)) :=
        fun t => put_full q.rok (id := 0) (h := _ :: t) rfl hx1
      have hle : ¬ ((n : Int) ≤ ((n - 1 : Nat) : Int)) := by omega
      by_cases hd : dos[p.length]? = some true
      · have hdl : (p.length : Int) < (dos.length : Int) := by have := (List.getElem?_eq_some_iff.1 hd).1; omega
        obtain ⟨u, hu, hru, q2⟩ := q.take (by omega)
        have hu7 := ev_len u
        have hu1 := ev_one u
        have hu2 : u.enc.all (fun x => x.one) = true := hu1
        have htake : ∀ t, D env 14 [.ptr 0 0] (.box (qc ring f n n) :: t) = some (.val (.d (.tup [.agg u.enc, .bool true])) (.box (qc (ring.set f zeroEv) ((f + 1) % 32) (n - 1) n) :: t)) :=
          fun t => take_ok q.rok q.first (by omega) (by omega) (id := 0) (h := _ :: t) rfl hru
        have hG3 : G ++ [u] = (P).take (G ++ [u]).length := by
          rw [List.length_append, List.length_singleton, List.take_add_one, ← hG, hu]; rfl
        obtain ⟨ring', f', n', P', G', i1, i2, i3, i4, i5⟩ := ihr (p ++ [v]) (by simp [hp]) _ _ _ (P) (G ++ [u]) (by simpa using q2) hG3 (by simp; omega) hPl
        refine ⟨ring', f', n', P', G', i1, i2, i3, i4, ?_⟩
        rw [L_round hK]
        simp [st8, ex8, List.replicate] at i5
        simp -implicitDefEqProofs only [B4L8, st8, ex8, dbody, dexec, dops, dop, ev, put, wants, dbin, dun, List.replicate, List.length_cons, List.length_nil, Nat.reduceAdd, Nat.reduceSub, Nat.reduceLT, Nat.reduceLeDiff, Nat.reduceMul, List.cons_append, List.nil_append, List.append_nil, List.set_cons_zero, List.set_cons_succ, List.set_nil, List.getD_cons_zero, List.getD_cons_succ, List.getD_nil, DV.cells, List.map_cons, List.map_nil, List.all_cons, List.all_nil, one_d1, one_ptr, one_row, one_clo, one_if, one_int, one_bool, one_str, one_slice, one_ref, one_nilp, one_iface, one_nili, one_func, one_nilf, Bool.and_self, Bool.and_true, Bool.true_and, Bool.and_false, Bool.false_and, Bool.or_true, Bool.or_false, if_true, flat_comp, flat_map, List.mapM_cons, List.mapM_nil, DV.flat, Option.pure_def, Option.bind_eq_bind, Option.bind_some, Option.bind_none, Option.map_some, Option.map_none, dload, List.getElem?_cons_zero, List.getElem?_cons_succ, List.getElem?_nil, Nat.zero_add, Nat.add_zero, bne_self_eq_false, beq_self_eq_true, Bool.false_eq_true, if_false, DV.elems, ne_eq, not_true_eq_false, not_false_eq_true, Bool.not_true, Bool.not_false, beq_iff_eq, bne_iff_ne, reduceCtorEq, mask, DV.lows, DV.low, DV.coe, DV.isD, dresults, dresult, withHeap, List.take_zero, List.take_nil, dcallV_fn, dcallV_fnc, dcallV_clo, dcallV_yld, lowCells, LSt.isReady, DV.int, DV.mkAgg, List.drop_zero, List.drop_succ_cons, List.take_succ_cons, same, List.not_mem_nil, false_implies, implies_true, decide_true, decide_false, decide_eq_true_eq, Int.toNat_natCast, Int.natCast_nonneg, and_self, and_true, true_and, mnmx2, List.foldlM_cons, List.foldlM_nil, nilness, bound, fill, flatCells, List.length_append, List.length_map, Nat.le_refl, List.all_map, Function.comp_def, Bool.false_beq, Bool.true_beq, gt_iff_lt, ge_iff_le, cast_lit, Int.reduceLE, Int.reduceLT, Int.reduceAdd, Int.reduceSub, Int.reduceNeg, Int.reduceEq, Int.reduceBEq, Int.reduceBNe, Nat.reduceBEq, Bool.not_eq_true, Int.toNat_zero, Nat.zero_mul, Nat.reduceEqDiff, and_false, false_and, or_false, or_true, true_or, false_or, Int.le_refl, Int.lt_irrefl, Int.reduceToNat, allocCells, List.mem_cons, forall_eq_or_imp, forall_eq, List.append_assoc, List.length_set, List.set_set, DOut.val.injEq, e1, e2, e3, evs_at, evs_len, flags_at, flags_len, hd, hdl, hx7, hx1, hx2, hu7, hu1, hu2, take_d, lows_d, put_all, hput, htake, w1, w2, w3, hle, appRow_one, hP1, hG1, evs_snoc, Nat.add_sub_cancel, i5]
      · obtain ⟨ring', f', n', P', G', i1, i2, i3, i4, i5⟩ := ihr (p ++ [v]) (by simp [hp]) _ _ _ (P) G q hG (by simp; omega) hPl
        refine ⟨ring', f', n', P', G', i1, i2, i3, i4, ?_⟩
        rw [L_round hK]
        simp [st8, ex8, List.replicate] at i5
        by_cases hdl : p.length < dos.length
        · have hd2 : dos[p.length]? = some false := by
            rw [List.getElem?_eq_getElem hdl] at hd ⊢
            cases hh : dos[p.length] with
            | true => rw [hh] at hd; exact absurd rfl hd
            | false => rfl
          have hdl2 : (p.length : Int) < (dos.length : Int) := by omega
          simp -implicitDefEqProofs only [B4L8, st8, ex8, dbody, dexec, dops, dop, ev, put, wants, dbin, dun, List.replicate, List.length_cons, List.length_nil, Nat.reduceAdd, Nat.reduceSub, Nat.reduceLT, Nat.reduceLeDiff, Nat.reduceMul, List.cons_append, List.nil_append, List.append_nil, List.set_cons_zero, List.set_cons_succ, List.set_nil, List.getD_cons_zero, List.getD_cons_succ, List.getD_nil, DV.cells, List.map_cons, List.map_nil, List.all_cons, List.all_nil, one_d1, one_ptr, one_row, one_clo, one_if, one_int, one_bool, one_str, one_slice, one_ref, one_nilp, one_iface, one_nili, one_func, one_nilf, Bool.and_self, Bool.and_true, Bool.true_and, Bool.and_false, Bool.false_and, Bool.or_true, Bool.or_false, if_true, flat_comp, flat_map, List.mapM_cons, List.mapM_nil, DV.flat, Option.pure_def, Option.bind_eq_bind, Option.bind_some, Option.bind_none, Option.map_some, Option.map_none, dload, List.getElem?_cons_zero, List.getElem?_cons_succ, List.getElem?_nil, Nat.zero_add, Nat.add_zero, bne_self_eq_false, beq_self_eq_true, Bool.false_eq_true, if_false, DV.elems, ne_eq, not_true_eq_false, not_false_eq_true, Bool.not_true, Bool.not_false, beq_iff_eq, bne_iff_ne, reduceCtorEq, mask, DV.lows, DV.low, DV.coe, DV.isD, dresults, dresult, withHeap, List.take_zero, List.take_nil, dcallV_fn, dcallV_fnc, dcallV_clo, dcallV_yld, lowCells, LSt.isReady, DV.int, DV.mkAgg, List.drop_zero, List.drop_succ_cons, List.take_succ_cons, same, List.not_mem_nil, false_implies, implies_true, decide_true, decide_false, decide_eq_true_eq, Int.toNat_natCast, Int.natCast_nonneg, and_self, and_true, true_and, mnmx2, List.foldlM_cons, List.foldlM_nil, nilness, bound, fill, flatCells, List.length_append, List.length_map, Nat.le_refl, List.all_map, Function.comp_def, Bool.false_beq, Bool.true_beq, gt_iff_lt, ge_iff_le, cast_lit, Int.reduceLE, Int.reduceLT, Int.reduceAdd, Int.reduceSub, Int.reduceNeg, Int.reduceEq, Int.reduceBEq, Int.reduceBNe, Nat.reduceBEq, Bool.not_eq_true, Int.toNat_zero, Nat.zero_mul, Nat.reduceEqDiff, and_false, false_and, or_false, or_true, true_or, false_or, Int.le_refl, Int.lt_irrefl, Int.reduceToNat, allocCells, List.mem_cons, forall_eq_or_imp, forall_eq, List.append_assoc, List.length_set, List.set_set, DOut.val.injEq, e1, e2, e3, evs_at, evs_len, flags_at, flags_len, hd2, hdl2, hx7, hx1, hx2, take_d, lows_d, put_all, hput, w1, w2, w3, hle, appRow_one, hP1, hG1, evs_snoc, i5]
        · have hdl2 : ¬ (p.length : Int) < (dos.length : Int) := by omega
          simp -implicitDefEqProofs only [B4L8, st8, ex8, dbody, dexec, dops, dop, ev, put, wants, dbin, dun, List.replicate, List.length_cons, List.length_nil, Nat.reduceAdd, Nat.reduceSub, Nat.reduceLT, Nat.reduceLeDiff, Nat.reduceMul, List.cons_append, List.nil_append, List.append_nil, List.set_cons_zero, List.set_cons_succ, List.set_nil, List.getD_cons_zero, List.getD_cons_succ, List.getD_nil, DV.cells, List.map_cons, List.map_nil, List.all_cons, List.all_nil, one_d1, one_ptr, one_row, one_clo, one_if, one_int, one_bool, one_str, one_slice, one_ref, one_nilp, one_iface, one_nili, one_func, one_nilf, Bool.and_self, Bool.and_true, Bool.true_and, Bool.and_false, Bool.false_and, Bool.or_true, Bool.or_false, if_true, flat_comp, flat_map, List.mapM_cons, List.mapM_nil, DV.flat, Option.pure_def, Option.bind_eq_bind, Option.bind_some, Option.bind_none, Option.map_some, Option.map_none, dload, List.getElem?_cons_zero, List.getElem?_cons_succ, List.getElem?_nil, Nat.zero_add, Nat.add_zero, bne_self_eq_false, beq_self_eq_true, Bool.false_eq_true, if_false, DV.elems, ne_eq, not_true_eq_false, not_false_eq_true, Bool.not_true, Bool.not_false, beq_iff_eq, bne_iff_ne, reduceCtorEq, mask, DV.lows, DV.low, DV.coe, DV.isD, dresults, dresult, withHeap, List.take_zero, List.take_nil, dcallV_fn, dcallV_fnc, dcallV_clo, dcallV_yld, lowCells, LSt.isReady, DV.int, DV.mkAgg, List.drop_zero, List.drop_succ_cons, List.take_succ_cons, same, List.not_mem_nil, false_implies, implies_true, decide_true, decide_false, decide_eq_true_eq, Int.toNat_natCast, Int.natCast_nonneg, and_self, and_true, true_and, mnmx2, List.foldlM_cons, List.foldlM_nil, nilness, bound, fill, flatCells, List.length_append, List.length_map, Nat.le_refl, List.all_map, Function.comp_def, Bool.false_beq, Bool.true_beq, gt_iff_lt, ge_iff_le, cast_lit, Int.reduceLE, Int.reduceLT, Int.reduceAdd, Int.reduceSub, Int.reduceNeg, Int.reduceEq, Int.reduceBEq, Int.reduceBNe, Nat.reduceBEq, Bool.not_eq_true, Int.toNat_zero, Nat.zero_mul, Nat.reduceEqDiff, and_false, false_and, or_false, or_true, true_or, false_or, Int.le_refl, Int.lt_irrefl, Int.reduceToNat, allocCells, List.mem_cons, forall_eq_or_imp, forall_eq, List.append_assoc, List.length_set, List.set_set, DOut.val.injEq, e1, e2, e3, evs_at, evs_len, flags_at, flags_len, hdl2, hx7, hx1, hx2, take_d, lows_d, put_all, hput, w1, w2, w3, hle, appRow_one, hP1, hG1, evs_snoc, i5]
end Go.Proofs.Ytoadpaaghjomnaa.Codes
