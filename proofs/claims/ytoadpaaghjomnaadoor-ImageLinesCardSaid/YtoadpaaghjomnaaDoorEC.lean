/-
  A line of words and numbers.
  Conditions: none.
-/
import Derived.Test.YtoadpaaghjomnaaDoorEB
set_option linter.unusedVariables false
set_option linter.unusedSimpArgs false
set_option maxRecDepth 100000
namespace Go.Proofs.YtoadpaaghjomnaaDoor.Codes
open Go.Deepv

inductive Wd where
  | s (t : ByteArray)
  | n (i : Int)
def Wd.enc : Wd → List FV
  | .s t => [.iface 9 (.str t)]
  | .n i => [.iface 3 (.int .i64 i)]
def Wd.txt : Wd → ByteArray
  | .s t => t
  | .n i => ⟨(Lib.itoa i).toArray⟩
def Wd.ok : Wd → Prop
  | .s t => True
  | .n i => -9223372036854775808 ≤ i ∧ i ≤ 9223372036854775807
def tx (l : List Wd) : List (List FV) := l.map fun w => [.str w.txt]
def lineOf (l : List Wd) : ByteArray := joined (l.map Wd.txt) ⟨#[32]⟩ ++ ⟨#[10]⟩

theorem itoa_d (i : Int) (h : Wd.ok (.n i)) (hp : List Res) : D env 54 [.d (.int .i64 i)] hp = some (.val (.d (.str ⟨(Lib.itoa i).toArray⟩)) hp) := by
  rw [D_ext (F := xItoa) rfl]
  simp only [Wd.ok] at h
  simp [xItoa, h.1, h.2]

def st27 (o : List (List FV)) (l : List (List FV)) (i : Int) : List DV :=
  [.d .undef, .d .undef, .d .undef, .row 1 o 0, .d .undef, .d .undef, .d .undef, .d .undef, .d (.slice 1 l), .d (.int .i64 l.length), .d (.int .i64 i)] ++ List.replicate 23 (.d .undef)
def ex27 (o : List (List FV)) : List DV := [.d .undef, .d .undef, .d .undef, .row 1 o 0] ++ List.replicate 30 (.d .undef)

theorem encs_at (l : List Wd) (i : Nat) (w : Wd) (h : l[i]? = some w) : (l.map Wd.enc)[i]? = some w.enc := by simp [h]

theorem loop27 (ws : List Wd) (hok : ∀ w ∈ ws, w.ok) (hlen : ws.length ≤ 1000) :
    ∀ (r p : List Wd), ws = p ++ r → L env 1 true H27L3 X27L3 B27L3 (st27 (tx p) (ws.map Wd.enc) p.length) [rr 1 p.length] = some (.exit 0, ex27 (tx ws), [rr 1 ws.length]) := by
  obtain ⟨K, hK⟩ : ∃ K, L env 1 true H27L3 X27L3 B27L3 = K := ⟨_, rfl⟩
  rw [hK]
  intro r
  induction r with
  | nil =>
    intro p hp
    simp at hp
    subst hp
    rw [L_round hK]
    simp -implicitDefEqProofs only [B27L3, st27, ex27, dbody, dexec, dops_end, dops_step, ostep, dop, ev, put, wants, dbin, dun, List.replicate, List.length_cons, List.length_nil, Nat.reduceAdd, Nat.reduceSub, Nat.reduceLT, Nat.reduceLeDiff, Nat.reduceMul, List.cons_append, List.nil_append, List.append_nil, List.set_cons_zero, List.set_cons_succ, List.set_nil, List.getD_cons_zero, List.getD_cons_succ, List.getD_nil, DV.cells, List.map_cons, List.map_nil, List.all_cons, List.all_nil, one_d1, one_ptr, one_row, one_clo, one_if, one_int, one_bool, one_str, one_slice, one_ref, one_nilp, one_iface, one_nili, one_func, one_nilf, Bool.and_self, Bool.and_true, Bool.true_and, Bool.and_false, Bool.false_and, Bool.or_true, Bool.or_false, if_true, flat_comp, flat_map, List.mapM_cons, List.mapM_nil, DV.flat, Option.pure_def, Option.bind_eq_bind, Option.bind_some, Option.bind_none, Option.map_some, Option.map_none, dload, List.getElem?_cons_zero, List.getElem?_cons_succ, List.getElem?_nil, Nat.zero_add, Nat.add_zero, bne_self_eq_false, beq_self_eq_true, Bool.false_eq_true, if_false, DV.elems, ne_eq, not_true_eq_false, not_false_eq_true, Bool.not_true, Bool.not_false, beq_iff_eq, bne_iff_ne, reduceCtorEq, mask, DV.lows, DV.low, DV.coe, DV.isD, dresults, dresult, withHeap, List.take_zero, List.take_nil, dcallV_fn, dcallV_fnc, dcallV_clo, dcallV_yld, lowCells, LSt.isReady, srcElems, DV.int, DV.mkAgg, List.drop_zero, List.drop_succ_cons, List.take_succ_cons, same, List.not_mem_nil, false_implies, implies_true, decide_true, decide_false, decide_eq_true_eq, Int.toNat_natCast, Int.natCast_nonneg, and_self, and_true, true_and, mnmx2, List.foldlM_cons, List.foldlM_nil, nilness, bound, fill, flatCells, List.length_append, List.length_map, Nat.le_refl, List.all_map, Function.comp_def, Bool.false_beq, Bool.true_beq, gt_iff_lt, ge_iff_le, cast_lit, Int.reduceLE, Int.reduceLT, Int.reduceAdd, Int.reduceSub, Int.reduceNeg, Int.reduceEq, Int.reduceBEq, Int.reduceBNe, Nat.reduceBEq, Bool.not_eq_true, Int.toNat_zero, Nat.zero_mul, Nat.reduceEqDiff, and_false, false_and, or_false, or_true, true_or, false_or, Int.le_refl, Int.lt_irrefl, Int.reduceToNat, allocCells, List.mem_cons, forall_eq_or_imp, forall_eq, List.append_assoc, List.length_set, List.set_set, DOut.val.injEq]
  | cons w r ihr =>
    intro p hp
    have ih := ihr (p ++ [w]) (by simp [hp])
    have e0 : (p.length : Int) < (ws.map Wd.enc).length := by rw [hp]; simp; omega
    have e1 : (p.length : Int) < ws.length := by rw [hp]; simp; omega
    have e2 : (ws.map Wd.enc)[p.length]? = some w.enc := encs_at _ _ _ (by rw [hp]; simp)
    have e2' : ws[p.length]? = some w := by rw [hp]; simp
    have e3 : IntKind.i64.wrap (p.length + 1) = p.length + 1 := wrap_i64 (by omega) (by rw [hp] at hlen; simp at hlen; omega)
    have e4 : (tx p).length = p.length := by simp [tx]
    have e5 : appRow 1 16 (.row 1 (tx p) 0) (some (1, [[.str w.txt]])) [rr 1 p.length] = some (.val (.row 1 (tx p ++ [[.str w.txt]]) 0) ([rr 1 p.length].set 0 (rr 1 ((tx p).length + 1)))) :=
      appRow_one (by simp [e4]) (by rw [e4]; rw [hp] at hlen; simp at hlen; omega) (by decide) (by decide) 1 rfl
    rw [e4] at e5
    have e6 : tx (p ++ [w]) = tx p ++ [[.str w.txt]] := by simp [tx]
    rw [e6] at ih
    simp only [List.set_cons_zero] at e5
    rw [L_round hK]
    simp [st27, ex27, List.replicate] at ih
    cases w with
    | s t =>
      simp only [Wd.txt] at e5 ih
      simp -implicitDefEqProofs only [B27L3, st27, ex27, dbody, dexec, dops_end, dops_step, ostep, dop, ev, put, wants, dbin, dun, List.replicate, List.length_cons, List.length_nil, Nat.reduceAdd, Nat.reduceSub, Nat.reduceLT, Nat.reduceLeDiff, Nat.reduceMul, List.cons_append, List.nil_append, List.append_nil, List.set_cons_zero, List.set_cons_succ, List.set_nil, List.getD_cons_zero, List.getD_cons_succ, List.getD_nil, DV.cells, List.map_cons, List.map_nil, List.all_cons, List.all_nil, one_d1, one_ptr, one_row, one_clo, one_if, one_int, one_bool, one_str, one_slice, one_ref, one_nilp, one_iface, one_nili, one_func, one_nilf, Bool.and_self, Bool.and_true, Bool.true_and, Bool.and_false, Bool.false_and, Bool.or_true, Bool.or_false, if_true, flat_comp, flat_map, List.mapM_cons, List.mapM_nil, DV.flat, Option.pure_def, Option.bind_eq_bind, Option.bind_some, Option.bind_none, Option.map_some, Option.map_none, dload, List.getElem?_cons_zero, List.getElem?_cons_succ, List.getElem?_nil, Nat.zero_add, Nat.add_zero, bne_self_eq_false, beq_self_eq_true, Bool.false_eq_true, if_false, DV.elems, ne_eq, not_true_eq_false, not_false_eq_true, Bool.not_true, Bool.not_false, beq_iff_eq, bne_iff_ne, reduceCtorEq, mask, DV.lows, DV.low, DV.coe, DV.isD, dresults, dresult, withHeap, List.take_zero, List.take_nil, dcallV_fn, dcallV_fnc, dcallV_clo, dcallV_yld, lowCells, LSt.isReady, srcElems, DV.int, DV.mkAgg, List.drop_zero, List.drop_succ_cons, List.take_succ_cons, same, List.not_mem_nil, false_implies, implies_true, decide_true, decide_false, decide_eq_true_eq, Int.toNat_natCast, Int.natCast_nonneg, and_self, and_true, true_and, mnmx2, List.foldlM_cons, List.foldlM_nil, nilness, bound, fill, flatCells, List.length_append, List.length_map, Nat.le_refl, List.all_map, Function.comp_def, Bool.false_beq, Bool.true_beq, gt_iff_lt, ge_iff_le, cast_lit, Int.reduceLE, Int.reduceLT, Int.reduceAdd, Int.reduceSub, Int.reduceNeg, Int.reduceEq, Int.reduceBEq, Int.reduceBNe, Nat.reduceBEq, Bool.not_eq_true, Int.toNat_zero, Nat.zero_mul, Nat.reduceEqDiff, and_false, false_and, or_false, or_true, true_or, false_or, Int.le_refl, Int.lt_irrefl, Int.reduceToNat, allocCells, List.mem_cons, forall_eq_or_imp, forall_eq, List.append_assoc, List.length_set, List.set_set, DOut.val.injEq, e0, e1, e2, e2', e3, e5, ih, Wd.enc]
    | n i =>
      have e7 := itoa_d i (hok _ (by rw [hp]; simp)) [rr 1 p.length]
      simp only [Wd.txt] at e5 ih
      simp -implicitDefEqProofs only [B27L3, st27, ex27, dbody, dexec, dops_end, dops_step, ostep, dop, ev, put, wants, dbin, dun, List.replicate, List.length_cons, List.length_nil, Nat.reduceAdd, Nat.reduceSub, Nat.reduceLT, Nat.reduceLeDiff, Nat.reduceMul, List.cons_append, List.nil_append, List.append_nil, List.set_cons_zero, List.set_cons_succ, List.set_nil, List.getD_cons_zero, List.getD_cons_succ, List.getD_nil, DV.cells, List.map_cons, List.map_nil, List.all_cons, List.all_nil, one_d1, one_ptr, one_row, one_clo, one_if, one_int, one_bool, one_str, one_slice, one_ref, one_nilp, one_iface, one_nili, one_func, one_nilf, Bool.and_self, Bool.and_true, Bool.true_and, Bool.and_false, Bool.false_and, Bool.or_true, Bool.or_false, if_true, flat_comp, flat_map, List.mapM_cons, List.mapM_nil, DV.flat, Option.pure_def, Option.bind_eq_bind, Option.bind_some, Option.bind_none, Option.map_some, Option.map_none, dload, List.getElem?_cons_zero, List.getElem?_cons_succ, List.getElem?_nil, Nat.zero_add, Nat.add_zero, bne_self_eq_false, beq_self_eq_true, Bool.false_eq_true, if_false, DV.elems, ne_eq, not_true_eq_false, not_false_eq_true, Bool.not_true, Bool.not_false, beq_iff_eq, bne_iff_ne, reduceCtorEq, mask, DV.lows, DV.low, DV.coe, DV.isD, dresults, dresult, withHeap, List.take_zero, List.take_nil, dcallV_fn, dcallV_fnc, dcallV_clo, dcallV_yld, lowCells, LSt.isReady, srcElems, DV.int, DV.mkAgg, List.drop_zero, List.drop_succ_cons, List.take_succ_cons, same, List.not_mem_nil, false_implies, implies_true, decide_true, decide_false, decide_eq_true_eq, Int.toNat_natCast, Int.natCast_nonneg, and_self, and_true, true_and, mnmx2, List.foldlM_cons, List.foldlM_nil, nilness, bound, fill, flatCells, List.length_append, List.length_map, Nat.le_refl, List.all_map, Function.comp_def, Bool.false_beq, Bool.true_beq, gt_iff_lt, ge_iff_le, cast_lit, Int.reduceLE, Int.reduceLT, Int.reduceAdd, Int.reduceSub, Int.reduceNeg, Int.reduceEq, Int.reduceBEq, Int.reduceBNe, Nat.reduceBEq, Bool.not_eq_true, Int.toNat_zero, Nat.zero_mul, Nat.reduceEqDiff, and_false, false_and, or_false, or_true, true_or, false_or, Int.le_refl, Int.lt_irrefl, Int.reduceToNat, allocCells, List.mem_cons, forall_eq_or_imp, forall_eq, List.append_assoc, List.length_set, List.set_set, DOut.val.injEq, e0, e1, e2, e2', e3, e5, e7, ih, Wd.enc]

theorem strs_tx : ∀ ws : List Wd, strs (tx ws) = some (ws.map Wd.txt)
  | [] => rfl
  | w :: ws => by
    have := strs_tx ws
    simp only [tx, List.map_cons, strs] at this ⊢
    rw [this]
    rfl

theorem line_ok (ws : List Wd) (hok : ∀ w ∈ ws, w.ok) (hlen : ws.length ≤ 1000) (hj : (Lib.join ((ws.map Wd.txt).map (·.data.toList)) [32]).length ≤ 140737488355328) (h : List Res) :
    D env 27 [.d (.slice 1 (ws.map Wd.enc))] h = some (.val (.d (.str (lineOf ws))) h) := by
  rw [D_dat (F := A27) rfl rfl rfl rfl]
  have e1 := loop27 ws hok hlen ws [] rfl
  have e2 : D env 55 [.row 1 (tx ws) 0, .d (.str ⟨#[32]⟩)] [rr 1 ws.length] = some (.val (.d (.str (joined (ws.map Wd.txt) ⟨#[32]⟩))) [rr 1 ws.length]) := by
    rw [D_ext (F := xJoin) rfl]
    simp only [xJoin, List.map_cons, List.map_nil, DV.coe, strs_tx]
    rw [if_pos ⟨hj, by simp; omega⟩]
  have r0 : rr 1 ([] : List Wd).length = .nilrow := rfl
  rw [r0] at e1
  simp only [st27, ex27, List.replicate, tx, List.map_nil, List.length_map, List.length_nil, List.cons_append, List.nil_append, cast_lit] at e1
  simp only [tx] at e2
  have e3 : (joined (ws.map Wd.txt) ⟨#[32]⟩).size + (⟨#[10]⟩ : ByteArray).size ≤ 9223372036854775807 := by
    have h1 : (joined (ws.map Wd.txt) ⟨#[32]⟩).size = (Lib.join ((ws.map Wd.txt).map (·.data.toList)) [32]).length := List.size_toArray ..
    have h2 : (⟨#[10]⟩ : ByteArray).size = 1 := rfl
    omega
  simp -implicitDefEqProofs only [A27, B27, dbody, dexec, dops_end, dops_step, ostep, dop, ev, put, wants, dbin, dun, List.replicate, List.length_cons, List.length_nil, Nat.reduceAdd, Nat.reduceSub, Nat.reduceLT, Nat.reduceLeDiff, Nat.reduceMul, List.cons_append, List.nil_append, List.append_nil, List.set_cons_zero, List.set_cons_succ, List.set_nil, List.getD_cons_zero, List.getD_cons_succ, List.getD_nil, DV.cells, List.map_cons, List.map_nil, List.all_cons, List.all_nil, one_d1, one_ptr, one_row, one_clo, one_if, one_int, one_bool, one_str, one_slice, one_ref, one_nilp, one_iface, one_nili, one_func, one_nilf, Bool.and_self, Bool.and_true, Bool.true_and, Bool.and_false, Bool.false_and, Bool.or_true, Bool.or_false, if_true, flat_comp, flat_map, List.mapM_cons, List.mapM_nil, DV.flat, Option.pure_def, Option.bind_eq_bind, Option.bind_some, Option.bind_none, Option.map_some, Option.map_none, dload, List.getElem?_cons_zero, List.getElem?_cons_succ, List.getElem?_nil, Nat.zero_add, Nat.add_zero, bne_self_eq_false, beq_self_eq_true, Bool.false_eq_true, if_false, DV.elems, ne_eq, not_true_eq_false, not_false_eq_true, Bool.not_true, Bool.not_false, beq_iff_eq, bne_iff_ne, reduceCtorEq, mask, DV.lows, DV.low, DV.coe, DV.isD, dresults, dresult, withHeap, List.take_zero, List.take_nil, dcallV_fn, dcallV_fnc, dcallV_clo, dcallV_yld, lowCells, LSt.isReady, srcElems, DV.int, DV.mkAgg, List.drop_zero, List.drop_succ_cons, List.take_succ_cons, same, List.not_mem_nil, false_implies, implies_true, decide_true, decide_false, decide_eq_true_eq, Int.toNat_natCast, Int.natCast_nonneg, and_self, and_true, true_and, mnmx2, List.foldlM_cons, List.foldlM_nil, nilness, bound, fill, flatCells, List.length_append, List.length_map, Nat.le_refl, List.all_map, Function.comp_def, Bool.false_beq, Bool.true_beq, gt_iff_lt, ge_iff_le, cast_lit, Int.reduceLE, Int.reduceLT, Int.reduceAdd, Int.reduceSub, Int.reduceNeg, Int.reduceEq, Int.reduceBEq, Int.reduceBNe, Nat.reduceBEq, Bool.not_eq_true, Int.toNat_zero, Nat.zero_mul, Nat.reduceEqDiff, and_false, false_and, or_false, or_true, true_or, false_or, Int.le_refl, Int.lt_irrefl, Int.reduceToNat, allocCells, List.mem_cons, forall_eq_or_imp, forall_eq, List.append_assoc, List.length_set, List.set_set, DOut.val.injEq, e1, e2, e3, lineOf, tx]
end Go.Proofs.YtoadpaaghjomnaaDoor.Codes
