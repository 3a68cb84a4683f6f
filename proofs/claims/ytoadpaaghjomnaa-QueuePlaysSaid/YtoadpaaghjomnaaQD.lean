/-
  The queue's example and the loops of QueueOrder, by the deep machine.
  Conditions: none.
-/
import Derived.Test.YtoadpaaghjomnaaQC
set_option linter.unusedVariables false
set_option linter.unusedSimpArgs false
set_option maxRecDepth 100000
namespace Go.Proofs.Ytoadpaaghjomnaa.Codes
open Go.Deepv

def seqEv (k : Int) : List FV := [.int .i64 0, .int .i64 0, .int .i64 0, .slice 1 [], .str ⟨#[]⟩, .slice 5 [], .int .i64 k]

theorem awake_ok (h : List Res) : D env 11 [] h = some (.val (.d (.bool true)) h) := by
  have r0 := zring_ok
  have r1 : RingOk (zring.set 0 (seqEv 1)) := set_ok r0 rfl rfl
  have r2 : RingOk ((zring.set 0 (seqEv 1)).set 1 (seqEv 2)) := set_ok r1 rfl rfl
  have n0 := new_ok 2 (by omega) (by omega) []
  have p1 := put_ok (f := 0) (n := 0) (m := 2) r0 (by omega) (by omega) (by omega) (id := 0) (h := [.box (qc zring 0 0 2)]) rfl (x := seqEv 1) rfl rfl
  have p2 := put_ok (f := 0) (n := 1) (m := 2) r1 (by omega) (by omega) (by omega) (id := 0) (h := [.box (qc (zring.set 0 (seqEv 1)) 0 1 2)]) rfl (x := seqEv 2) rfl rfl
  have p3 := put_full (f := 0) (n := 2) r2 (id := 0) (h := [.box (qc ((zring.set 0 (seqEv 1)).set 1 (seqEv 2)) 0 2 2)]) rfl (x := seqEv 3) rfl
  have p4 := take_ok (f := 0) (n := 2) (m := 2) r2 (by omega) (by omega) (by omega) (id := 0) (h := [.box (qc ((zring.set 0 (seqEv 1)).set 1 (seqEv 2)) 0 2 2)]) rfl (x := seqEv 1) rfl
  have r3 : RingOk (((zring.set 0 (seqEv 1)).set 1 (seqEv 2)).set 0 zeroEv) := set_ok r2 rfl rfl
  have p5 : ∀ t, D env 15 [.ptr 0 0] (.box (qc (((zring.set 0 (seqEv 1)).set 1 (seqEv 2)).set 0 zeroEv) 1 1 2) :: t) = some (.val (.d (.int .i64 1)) (.box (qc (((zring.set 0 (seqEv 1)).set 1 (seqEv 2)).set 0 zeroEv) 1 1 2) :: t)) := fun t => len_ok (n := 1) r3 (id := 0) rfl
  generalize hz : zring = z at *
  have q0 : (0 + 0) % 32 = 0 := rfl
  have q1 : (0 + 1) % 32 = 1 := rfl
  simp only [List.length_nil, List.nil_append, List.set_cons_zero, q0, q1, Nat.zero_add, Nat.reduceAdd, Nat.reduceSub] at n0 p1 p2 p3 p4
  generalize hb0 : qc z 0 0 2 = b0 at *
  generalize hb1 : qc (z.set 0 (seqEv 1)) 0 1 2 = b1 at *
  generalize hb2 : qc ((z.set 0 (seqEv 1)).set 1 (seqEv 2)) 0 2 2 = b2 at *
  generalize hb3 : qc (((z.set 0 (seqEv 1)).set 1 (seqEv 2)).set 0 zeroEv) 1 1 2 = b3 at *
  simp only [seqEv, cast_lit] at n0 p1 p2 p3 p4
  rw [D_dat (F := A11) rfl rfl rfl rfl]
  simp -implicitDefEqProofs only [A11, B11, dbody, dexec, dops, dop, ev, put, wants, dbin, dun, List.replicate, List.length_cons, List.length_nil, Nat.reduceAdd, Nat.reduceSub, Nat.reduceLT, Nat.reduceLeDiff, Nat.reduceMul, List.cons_append, List.nil_append, List.append_nil, List.set_cons_zero, List.set_cons_succ, List.set_nil, List.getD_cons_zero, List.getD_cons_succ, List.getD_nil, DV.cells, List.map_cons, List.map_nil, List.all_cons, List.all_nil, one_d1, one_ptr, one_row, one_clo, one_if, one_int, one_bool, one_str, one_slice, one_ref, one_nilp, one_iface, one_nili, one_func, one_nilf, Bool.and_self, Bool.and_true, Bool.true_and, Bool.and_false, Bool.false_and, Bool.or_true, Bool.or_false, if_true, flat_comp, flat_map, List.mapM_cons, List.mapM_nil, DV.flat, Option.pure_def, Option.bind_eq_bind, Option.bind_some, Option.bind_none, Option.map_some, Option.map_none, dload, List.getElem?_cons_zero, List.getElem?_cons_succ, List.getElem?_nil, Nat.zero_add, Nat.add_zero, bne_self_eq_false, beq_self_eq_true, Bool.false_eq_true, if_false, DV.elems, ne_eq, not_true_eq_false, not_false_eq_true, Bool.not_true, Bool.not_false, beq_iff_eq, bne_iff_ne, reduceCtorEq, mask, DV.lows, DV.low, DV.coe, DV.isD, dresults, dresult, withHeap, List.take_zero, List.take_nil, dcallV_fn, dcallV_fnc, dcallV_clo, dcallV_yld, lowCells, LSt.isReady, DV.int, DV.mkAgg, List.drop_zero, List.drop_succ_cons, List.take_succ_cons, same, List.not_mem_nil, false_implies, implies_true, decide_true, decide_false, decide_eq_true_eq, Int.toNat_natCast, Int.natCast_nonneg, and_self, and_true, true_and, mnmx2, List.foldlM_cons, List.foldlM_nil, nilness, bound, fill, flatCells, List.length_append, List.length_map, Nat.le_refl, List.all_map, Function.comp_def, Bool.false_beq, Bool.true_beq, gt_iff_lt, ge_iff_le, cast_lit, Int.reduceLE, Int.reduceLT, Int.reduceAdd, Int.reduceSub, Int.reduceNeg, Int.reduceEq, Int.reduceBEq, Int.reduceBNe, Nat.reduceBEq, Bool.not_eq_true, Int.toNat_zero, Nat.zero_mul, Nat.reduceEqDiff, and_false, false_and, or_false, or_true, true_or, false_or, Int.le_refl, Int.lt_irrefl, Int.reduceToNat, allocCells, List.mem_cons, forall_eq_or_imp, forall_eq, List.append_assoc, List.length_set, List.set_set, DOut.val.injEq, n0, p1, p2, p3, p4, p5, put_all]

/-- What has come to pass: P was put, G was taken. -/
structure QInv (ring : List (List FV)) (f n m : Nat) (P : List Ev) (g : Nat) : Prop where
  rok : RingOk ring
  first : f < 32
  count : P.length = g + n
  most : n ≤ m ∧ m ≤ 32 ∧ 0 < m
  waits : ∀ j, j < n → ring[(f + j) % 32]? = (P[g + j]?).map Ev.enc

theorem QInv.put {ring : List (List FV)} {f n m : Nat} {P : List Ev} {g : Nat} (q : QInv ring f n m P g) (hn : n < m) (v : Ev) (hv1 : v.enc.all FV.one = true) : QInv (ring.set ((f + n) % 32) v.enc) f (n + 1) m (P ++ [v]) g := by
  obtain ⟨h1, h2, h3, h4, h5⟩ := q
  refine ⟨set_ok h1 (ev_len v) hv1, h2, by simp; omega, by omega, fun j hj => ?_⟩
  by_cases hjn : j = n
  · subst hjn
    have : (f + j) % 32 < ring.length := by rw [h1.len]; omega
    simp [this, ← h3]
  · have hne : (f + n) % 32 ≠ (f + j) % 32 := by omega
    rw [List.getElem?_set_ne hne, h5 j (by omega), List.getElem?_append_left (by omega)]

theorem QInv.take {ring : List (List FV)} {f n m : Nat} {P : List Ev} {g : Nat} (q : QInv ring f n m P g) (hn : 0 < n) : ∃ v, P[g]? = some v ∧ ring[f]? = some v.enc ∧ QInv (ring.set f zeroEv) ((f + 1) % 32) (n - 1) m P (g + 1) := by
  obtain ⟨h1, h2, h3, h4, h5⟩ := q
  have hlt : g < P.length := by omega
  refine ⟨P[g], by simp [hlt], ?_, set_ok h1 rfl rfl, by omega, by omega, by omega, fun j hj => ?_⟩
  · have := h5 0 hn
    rw [Nat.add_zero, Nat.mod_eq_of_lt h2] at this
    simpa [hlt] using this
  · have hne : f ≠ ((f + 1) % 32 + j) % 32 := by omega
    rw [List.getElem?_set_ne hne, show ((f + 1) % 32 + j) % 32 = (f + (j + 1)) % 32 from by omega, h5 (j + 1) (by omega)]
    congr 2
    omega
theorem qinv_new (m : Nat) (h1 : 1 ≤ m) (h2 : m ≤ 32) : QInv zring 0 0 m [] 0 := ⟨zring_ok, by omega, rfl, by omega, fun j hj => by omega⟩
end Go.Proofs.Ytoadpaaghjomnaa.Codes
