/-
  The builder's writing and its text, a line of words and numbers.
  Conditions: none.
-/
import Derived.Test.YtoadpaaghjomnaaDoorCodes
import Derived.Test.YtoadpaaghjomnaaDoorDS
set_option linter.unusedVariables false
set_option linter.unusedSimpArgs false
set_option maxRecDepth 100000
namespace Go.Proofs.YtoadpaaghjomnaaDoor.Codes
open Go.Deepv

theorem D_ext {E : Env} {f : FuncId} {F : List DV → List Res → Option DOut} (he : E.ext f = some F) (args : List DV) (h : List Res) : D E f args h = F args h := by
  rw [D_eq]
  unfold dcallF
  rw [he]

theorem strCells_len (s : ByteArray) : (strCells s).length = s.size := by
  unfold strCells
  rw [List.length_map]
  rfl
theorem strCells_app (a b : ByteArray) : strCells a ++ strCells b = strCells (a ++ b) := by
  unfold strCells
  rw [ByteArray.data_append, Array.toList_append, List.map_append]

/-- The heap of a text under way. -/
def bh (r0 b0 : Res) (x : DV) (acc : ByteArray) (l : List Res) : List Res := r0 :: b0 :: rr 1 acc.size 5 :: .box [x, .row 1 (strCells acc) 2] 76 :: l

theorem copy_new {r0 b0 : Res} {acc : ByteArray} {l : List Res} {x : DV} (hx : x = .d .nilp ∨ x = .ptr 3 0) : D env 53 [.ptr 3 0] (bh r0 b0 x acc l) = some (.val (.d (.tup [])) (bh r0 b0 (.ptr 3 0) acc l)) := by
  rw [D_ext (F := xCopy 76) rfl]
  rcases hx with rfl | rfl <;> simp [xCopy, bh]

theorem write_ok {r0 b0 : Res} {acc s : ByteArray} {l : List Res} {x : DV} (hx : x = .d .nilp ∨ x = .ptr 3 0) (hs : acc.size + s.size ≤ 140737488355328) :
    D env 26 [.ptr 3 0, .d (.str s)] (bh r0 b0 x acc l) = some (.val (.d (.tup [.int .i64 s.size, .nili])) (bh r0 b0 (.ptr 3 0) (acc ++ s) l)) := by
  rw [D_own (F := A26) rfl rfl rfl rfl]
  have e1 := copy_new (r0 := r0) (b0 := b0) (acc := acc) (l := l) hx
  have e2 : appRow 1 1 (.row 1 (strCells acc) 2) (some (1, strCells s)) (bh r0 b0 (.ptr 3 0) acc l) 5 = some (.val (.row 1 (strCells acc ++ strCells s) 2) ((bh r0 b0 (.ptr 3 0) acc l).set 2 (rr 1 ((strCells acc).length + (strCells s).length) 5))) := appRow_any (by simp [bh, strCells_len]) (by simpa [strCells_len] using hs) (by decide) (by decide) 1 rfl
  simp only [bh] at e1
  simp only [strCells_app, strCells_len, bh, List.set_cons_succ, List.set_cons_zero] at e2
  have hsz : (acc ++ s).size = acc.size + s.size := by simp
  simp -implicitDefEqProofs only [A26, B26, dbody, dexec, dops_end, dops_step, ostep, dop, ev, put, wants, dbin, dun, List.replicate, List.length_cons, List.length_nil, Nat.reduceAdd, Nat.reduceSub, Nat.reduceLT, Nat.reduceLeDiff, Nat.reduceMul, List.cons_append, List.nil_append, List.append_nil, List.set_cons_zero, List.set_cons_succ, List.set_nil, List.getD_cons_zero, List.getD_cons_succ, List.getD_nil, DV.cells, List.map_cons, List.map_nil, List.all_cons, List.all_nil, one_d1, one_ptr, one_row, one_clo, one_if, one_int, one_bool, one_str, one_slice, one_ref, one_nilp, one_iface, one_nili, one_func, one_nilf, Bool.and_self, Bool.and_true, Bool.true_and, Bool.and_false, Bool.false_and, Bool.or_true, Bool.or_false, if_true, flat_comp, flat_map, List.mapM_cons, List.mapM_nil, DV.flat, Option.pure_def, Option.bind_eq_bind, Option.bind_some, Option.bind_none, Option.map_some, Option.map_none, dload, List.getElem?_cons_zero, List.getElem?_cons_succ, List.getElem?_nil, Nat.zero_add, Nat.add_zero, bne_self_eq_false, beq_self_eq_true, Bool.false_eq_true, if_false, DV.elems, ne_eq, not_true_eq_false, not_false_eq_true, Bool.not_true, Bool.not_false, beq_iff_eq, bne_iff_ne, reduceCtorEq, mask, DV.lows, DV.low, DV.coe, DV.isD, dresults, dresult, withHeap, List.take_zero, List.take_nil, dcallV_fn, dcallV_fnc, dcallV_clo, dcallV_yld, lowCells, LSt.isReady, srcElems, DV.int, DV.mkAgg, List.drop_zero, List.drop_succ_cons, List.take_succ_cons, same, List.not_mem_nil, false_implies, implies_true, decide_true, decide_false, decide_eq_true_eq, Int.toNat_natCast, Int.natCast_nonneg, and_self, and_true, true_and, mnmx2, List.foldlM_cons, List.foldlM_nil, nilness, bound, fill, flatCells, List.length_append, List.length_map, Nat.le_refl, List.all_map, Function.comp_def, Bool.false_beq, Bool.true_beq, gt_iff_lt, ge_iff_le, cast_lit, Int.reduceLE, Int.reduceLT, Int.reduceAdd, Int.reduceSub, Int.reduceNeg, Int.reduceEq, Int.reduceBEq, Int.reduceBNe, Nat.reduceBEq, Bool.not_eq_true, Int.toNat_zero, Nat.zero_mul, Nat.reduceEqDiff, and_false, false_and, or_false, or_true, true_or, false_or, Int.le_refl, Int.lt_irrefl, Int.reduceToNat, allocCells, List.mem_cons, forall_eq_or_imp, forall_eq, List.append_assoc, List.length_set, List.set_set, DOut.val.injEq, e1, e2, bh, putCells, hsz, List.take_length]

theorem nums_ok (s : ByteArray) : numsOf (strCells s) = some (s.data.toList.map fun b => (b.toNat : Int)) := by
  unfold strCells
  generalize s.data.toList = l
  induction l with
  | nil => rfl
  | cons x l ih => simp only [numsOf, List.map_cons, List.mapM_cons] at ih ⊢; rw [ih]; rfl
theorem strOf_ok (s : ByteArray) : strOfNums (s.data.toList.map fun b => (b.toNat : Int)) = s := by
  unfold strOfNums
  rw [List.map_map]
  have : (s.data.toList.map ((fun n : Int => UInt8.ofNat n.toNat) ∘ fun b => (b.toNat : Int))) = s.data.toList := by
    conv => rhs; rw [← List.map_id s.data.toList]
    refine List.map_congr_left fun x _ => ?_
    simp
  rw [this]
theorem nums_in (s : ByteArray) : (s.data.toList.all fun b => decide ((b.toNat : Int) < 256)) = true := by
  rw [List.all_eq_true]
  intro x _
  have := x.toNat_lt
  simp
  omega

theorem string_ok {r0 b0 : Res} {acc : ByteArray} {l : List Res} {x : DV} (hne : acc.size ≠ 0) (hs : acc.size ≤ 140737488355328) :
    D env 28 [.ptr 3 0] (bh r0 b0 x acc l) = some (.val (.d (.str acc)) (r0 :: b0 :: .dead :: .box [x, .row 1 (strCells acc) 2] 76 :: l)) := by
  rw [D_own (F := A28) rfl rfl rfl rfl]
  have e1 : rr 1 acc.size 5 = .row 1 acc.size 5 := by simp [rr, hne]
  have e2 : 0 < acc.size := by omega
  have e3 : strCells acc ≠ [] := by
    intro h
    have := strCells_len acc
    rw [h] at this
    exact hne this.symm
  have e4 : acc.size ≤ 9223372036854775807 := by omega
  simp -implicitDefEqProofs only [A28, B28, dbody, dexec, dops_end, dops_step, ostep, dop, ev, put, wants, dbin, dun, List.replicate, List.length_cons, List.length_nil, Nat.reduceAdd, Nat.reduceSub, Nat.reduceLT, Nat.reduceLeDiff, Nat.reduceMul, List.cons_append, List.nil_append, List.append_nil, List.set_cons_zero, List.set_cons_succ, List.set_nil, List.getD_cons_zero, List.getD_cons_succ, List.getD_nil, DV.cells, List.map_cons, List.map_nil, List.all_cons, List.all_nil, one_d1, one_ptr, one_row, one_clo, one_if, one_int, one_bool, one_str, one_slice, one_ref, one_nilp, one_iface, one_nili, one_func, one_nilf, Bool.and_self, Bool.and_true, Bool.true_and, Bool.and_false, Bool.false_and, Bool.or_true, Bool.or_false, if_true, flat_comp, flat_map, List.mapM_cons, List.mapM_nil, DV.flat, Option.pure_def, Option.bind_eq_bind, Option.bind_some, Option.bind_none, Option.map_some, Option.map_none, dload, List.getElem?_cons_zero, List.getElem?_cons_succ, List.getElem?_nil, Nat.zero_add, Nat.add_zero, bne_self_eq_false, beq_self_eq_true, Bool.false_eq_true, if_false, DV.elems, ne_eq, not_true_eq_false, not_false_eq_true, Bool.not_true, Bool.not_false, beq_iff_eq, bne_iff_ne, reduceCtorEq, mask, DV.lows, DV.low, DV.coe, DV.isD, dresults, dresult, withHeap, List.take_zero, List.take_nil, dcallV_fn, dcallV_fnc, dcallV_clo, dcallV_yld, lowCells, LSt.isReady, srcElems, DV.int, DV.mkAgg, List.drop_zero, List.drop_succ_cons, List.take_succ_cons, same, List.not_mem_nil, false_implies, implies_true, decide_true, decide_false, decide_eq_true_eq, Int.toNat_natCast, Int.natCast_nonneg, and_self, and_true, true_and, mnmx2, List.foldlM_cons, List.foldlM_nil, nilness, bound, fill, flatCells, List.length_append, List.length_map, Nat.le_refl, List.all_map, Function.comp_def, Bool.false_beq, Bool.true_beq, gt_iff_lt, ge_iff_le, cast_lit, Int.reduceLE, Int.reduceLT, Int.reduceAdd, Int.reduceSub, Int.reduceNeg, Int.reduceEq, Int.reduceBEq, Int.reduceBNe, Nat.reduceBEq, Bool.not_eq_true, Int.toNat_zero, Nat.zero_mul, Nat.reduceEqDiff, and_false, false_and, or_false, or_true, true_or, false_or, Int.le_refl, Int.lt_irrefl, Int.reduceToNat, allocCells, List.mem_cons, forall_eq_or_imp, forall_eq, List.append_assoc, List.length_set, List.set_set, DOut.val.injEq, bh, e1, e2, e3, e4, nums_ok, strOf_ok, nums_in, strCells_len, List.take_length]
end Go.Proofs.YtoadpaaghjomnaaDoor.Codes
