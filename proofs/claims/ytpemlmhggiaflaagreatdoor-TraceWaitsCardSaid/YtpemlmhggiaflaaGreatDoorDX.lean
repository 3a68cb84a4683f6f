/-
  The equations by which the deep machine is stepped, in one.
  Conditions: none.
-/
import Derived.Test.YtpemlmhggiaflaaGreatDoorDS
set_option linter.unusedVariables false
namespace Go.Deepv

theorem stp :
    type_of% @dops_end ∧
    type_of% @dops_step ∧
    type_of% @List.length_cons.{0} ∧
    type_of% @List.length_cons.{1} ∧
    type_of% @List.length_nil.{0} ∧
    type_of% @List.length_nil.{1} ∧
    type_of% @List.cons_append.{0} ∧
    type_of% @List.cons_append.{1} ∧
    type_of% @List.nil_append.{0} ∧
    type_of% @List.nil_append.{1} ∧
    type_of% @List.append_nil.{0} ∧
    type_of% @List.append_nil.{1} ∧
    type_of% @List.set_cons_zero.{0} ∧
    type_of% @List.set_cons_zero.{1} ∧
    type_of% @List.set_cons_succ.{0} ∧
    type_of% @List.set_cons_succ.{1} ∧
    type_of% @List.set_nil.{0} ∧
    type_of% @List.set_nil.{1} ∧
    type_of% @List.getD_cons_zero.{0} ∧
    type_of% @List.getD_cons_zero.{1} ∧
    type_of% @List.getD_cons_succ.{0} ∧
    type_of% @List.getD_cons_succ.{1} ∧
    type_of% @List.getD_nil.{0} ∧
    type_of% @List.getD_nil.{1} ∧
    type_of% @List.map_cons.{0, 0} ∧
    type_of% @List.map_cons.{1, 1} ∧
    type_of% @List.map_nil.{0, 0} ∧
    type_of% @List.map_nil.{1, 1} ∧
    type_of% @List.all_cons.{0} ∧
    type_of% @List.all_cons.{1} ∧
    type_of% @List.all_nil.{0} ∧
    type_of% @List.all_nil.{1} ∧
    type_of% @one_d1 ∧
    type_of% @one_ptr ∧
    type_of% @one_row ∧
    type_of% @one_clo ∧
    type_of% @one_if ∧
    type_of% @one_int ∧
    type_of% @one_bool ∧
    type_of% @one_str ∧
    type_of% @one_slice ∧
    type_of% @one_ref ∧
    type_of% @one_nilp ∧
    type_of% @one_iface ∧
    type_of% @one_nili ∧
    type_of% @one_func ∧
    type_of% @one_nilf ∧
    type_of% @Bool.and_self ∧
    type_of% @Bool.and_true ∧
    type_of% @Bool.true_and ∧
    type_of% @Bool.and_false ∧
    type_of% @Bool.false_and ∧
    type_of% @Bool.or_true ∧
    type_of% @Bool.or_false ∧
    type_of% @Bool.true_or ∧
    type_of% @Bool.false_or ∧
    type_of% @if_true.{0} ∧
    type_of% @if_true.{1} ∧
    type_of% @flat_comp ∧
    type_of% @flat_map ∧
    type_of% @List.mapM_cons.{0, 0, 0} ∧
    type_of% @List.mapM_cons.{1, 1, 1} ∧
    type_of% @List.mapM_nil.{0, 0, 0} ∧
    type_of% @List.mapM_nil.{1, 1, 1} ∧
    type_of% @Option.pure_def.{0} ∧
    type_of% @Option.pure_def.{1} ∧
    type_of% @Option.bind_eq_bind.{0} ∧
    type_of% @Option.bind_eq_bind.{1} ∧
    type_of% @Option.bind_some.{0, 0} ∧
    type_of% @Option.bind_some.{1, 1} ∧
    type_of% @Option.bind_none.{0, 0} ∧
    type_of% @Option.bind_none.{1, 1} ∧
    type_of% @Option.map_some.{0, 0} ∧
    type_of% @Option.map_some.{1, 1} ∧
    type_of% @Option.map_none.{0, 0} ∧
    type_of% @Option.map_none.{1, 1} ∧
    type_of% @List.getElem?_cons_zero.{0} ∧
    type_of% @List.getElem?_cons_zero.{1} ∧
    type_of% @List.getElem?_cons_succ.{0} ∧
    type_of% @List.getElem?_cons_succ.{1} ∧
    type_of% @List.getElem?_nil.{0} ∧
    type_of% @List.getElem?_nil.{1} ∧
    type_of% @Nat.zero_add ∧
    type_of% @Nat.add_zero ∧
    type_of% @bne_self_eq_false.{0} ∧
    type_of% @bne_self_eq_false.{1} ∧
    type_of% @beq_self_eq_true.{0} ∧
    type_of% @beq_self_eq_true.{1} ∧
    type_of% @Bool.false_eq_true ∧
    type_of% @if_false.{0} ∧
    type_of% @if_false.{1} ∧
    type_of% @ne_eq.{0} ∧
    type_of% @ne_eq.{1} ∧
    type_of% @not_true_eq_false ∧
    type_of% @not_false_eq_true ∧
    type_of% @Bool.not_true ∧
    type_of% @Bool.not_false ∧
    type_of% @beq_iff_eq.{0} ∧
    type_of% @beq_iff_eq.{1} ∧
    type_of% @bne_iff_ne.{0} ∧
    type_of% @bne_iff_ne.{1} ∧
    type_of% @List.take_zero.{0} ∧
    type_of% @List.take_zero.{1} ∧
    type_of% @List.take_nil.{0} ∧
    type_of% @List.take_nil.{1} ∧
    type_of% @dcallV_fn ∧
    type_of% @dcallV_fnc ∧
    type_of% @dcallV_clo ∧
    type_of% @dcallV_yld ∧
    type_of% @List.drop_zero.{0} ∧
    type_of% @List.drop_zero.{1} ∧
    type_of% @List.drop_succ_cons.{0} ∧
    type_of% @List.drop_succ_cons.{1} ∧
    type_of% @List.take_succ_cons.{0} ∧
    type_of% @List.take_succ_cons.{1} ∧
    type_of% @List.not_mem_nil.{0} ∧
    type_of% @List.not_mem_nil.{1} ∧
    type_of% @false_implies ∧
    type_of% @implies_true.{0} ∧
    type_of% @implies_true.{1} ∧
    type_of% @decide_true ∧
    type_of% @decide_false ∧
    type_of% @decide_eq_true_eq ∧
    type_of% @Int.toNat_natCast ∧
    type_of% @Int.natCast_nonneg ∧
    type_of% @and_self ∧
    type_of% @and_true ∧
    type_of% @true_and ∧
    type_of% @List.foldlM_cons.{0, 0, 0} ∧
    type_of% @List.foldlM_cons.{1, 1, 1} ∧
    type_of% @List.foldlM_nil.{0, 0, 0} ∧
    type_of% @List.foldlM_nil.{1, 1, 1} ∧
    type_of% @List.length_append.{0} ∧
    type_of% @List.length_append.{1} ∧
    type_of% @List.length_map.{0, 0} ∧
    type_of% @List.length_map.{1, 1} ∧
    type_of% @Nat.le_refl ∧
    type_of% @List.all_map.{0, 0} ∧
    type_of% @List.all_map.{1, 1} ∧
    type_of% @Function.comp_def.{0, 0, 0} ∧
    type_of% @Function.comp_def.{1, 1, 1} ∧
    type_of% @Bool.false_beq ∧
    type_of% @Bool.true_beq ∧
    type_of% @gt_iff_lt.{0} ∧
    type_of% @gt_iff_lt.{1} ∧
    type_of% @ge_iff_le.{0} ∧
    type_of% @ge_iff_le.{1} ∧
    type_of% @cast_lit ∧
    type_of% @Bool.not_eq_true ∧
    type_of% @Int.toNat_zero ∧
    type_of% @Nat.zero_mul ∧
    type_of% @and_false ∧
    type_of% @false_and ∧
    type_of% @or_false ∧
    type_of% @or_true ∧
    type_of% @true_or ∧
    type_of% @false_or ∧
    type_of% @Int.le_refl ∧
    type_of% @Int.lt_irrefl ∧
    type_of% @List.mem_cons.{0} ∧
    type_of% @List.mem_cons.{1} ∧
    type_of% @forall_eq_or_imp.{0} ∧
    type_of% @forall_eq_or_imp.{1} ∧
    type_of% @forall_eq.{0} ∧
    type_of% @forall_eq.{1} ∧
    type_of% @List.append_assoc.{0} ∧
    type_of% @List.append_assoc.{1} ∧
    type_of% @List.length_set.{0} ∧
    type_of% @List.length_set.{1} ∧
    type_of% @List.set_set.{0} ∧
    type_of% @List.set_set.{1} ∧
    type_of% @DOut.val.injEq ∧
    type_of% @one_bslc ∧
    type_of% @dc_fn :=
  ⟨@dops_end, @dops_step, @List.length_cons.{0}, @List.length_cons.{1}, @List.length_nil.{0}, @List.length_nil.{1}, @List.cons_append.{0}, @List.cons_append.{1}, @List.nil_append.{0}, @List.nil_append.{1}, @List.append_nil.{0}, @List.append_nil.{1}, @List.set_cons_zero.{0}, @List.set_cons_zero.{1}, @List.set_cons_succ.{0}, @List.set_cons_succ.{1}, @List.set_nil.{0}, @List.set_nil.{1}, @List.getD_cons_zero.{0}, @List.getD_cons_zero.{1}, @List.getD_cons_succ.{0}, @List.getD_cons_succ.{1}, @List.getD_nil.{0}, @List.getD_nil.{1}, @List.map_cons.{0, 0}, @List.map_cons.{1, 1}, @List.map_nil.{0, 0}, @List.map_nil.{1, 1}, @List.all_cons.{0}, @List.all_cons.{1}, @List.all_nil.{0}, @List.all_nil.{1}, @one_d1, @one_ptr, @one_row, @one_clo, @one_if, @one_int, @one_bool, @one_str, @one_slice, @one_ref, @one_nilp, @one_iface, @one_nili, @one_func, @one_nilf, @Bool.and_self, @Bool.and_true, @Bool.true_and, @Bool.and_false, @Bool.false_and, @Bool.or_true, @Bool.or_false, @Bool.true_or, @Bool.false_or, @if_true.{0}, @if_true.{1}, @flat_comp, @flat_map, @List.mapM_cons.{0, 0, 0}, @List.mapM_cons.{1, 1, 1}, @List.mapM_nil.{0, 0, 0}, @List.mapM_nil.{1, 1, 1}, @Option.pure_def.{0}, @Option.pure_def.{1}, @Option.bind_eq_bind.{0}, @Option.bind_eq_bind.{1}, @Option.bind_some.{0, 0}, @Option.bind_some.{1, 1}, @Option.bind_none.{0, 0}, @Option.bind_none.{1, 1}, @Option.map_some.{0, 0}, @Option.map_some.{1, 1}, @Option.map_none.{0, 0}, @Option.map_none.{1, 1}, @List.getElem?_cons_zero.{0}, @List.getElem?_cons_zero.{1}, @List.getElem?_cons_succ.{0}, @List.getElem?_cons_succ.{1}, @List.getElem?_nil.{0}, @List.getElem?_nil.{1}, @Nat.zero_add, @Nat.add_zero, @bne_self_eq_false.{0}, @bne_self_eq_false.{1}, @beq_self_eq_true.{0}, @beq_self_eq_true.{1}, @Bool.false_eq_true, @if_false.{0}, @if_false.{1}, @ne_eq.{0}, @ne_eq.{1}, @not_true_eq_false, @not_false_eq_true, @Bool.not_true, @Bool.not_false, @beq_iff_eq.{0}, @beq_iff_eq.{1}, @bne_iff_ne.{0}, @bne_iff_ne.{1}, @List.take_zero.{0}, @List.take_zero.{1}, @List.take_nil.{0}, @List.take_nil.{1}, @dcallV_fn, @dcallV_fnc, @dcallV_clo, @dcallV_yld, @List.drop_zero.{0}, @List.drop_zero.{1}, @List.drop_succ_cons.{0}, @List.drop_succ_cons.{1}, @List.take_succ_cons.{0}, @List.take_succ_cons.{1}, @List.not_mem_nil.{0}, @List.not_mem_nil.{1}, @false_implies, @implies_true.{0}, @implies_true.{1}, @decide_true, @decide_false, @decide_eq_true_eq, @Int.toNat_natCast, @Int.natCast_nonneg, @and_self, @and_true, @true_and, @List.foldlM_cons.{0, 0, 0}, @List.foldlM_cons.{1, 1, 1}, @List.foldlM_nil.{0, 0, 0}, @List.foldlM_nil.{1, 1, 1}, @List.length_append.{0}, @List.length_append.{1}, @List.length_map.{0, 0}, @List.length_map.{1, 1}, @Nat.le_refl, @List.all_map.{0, 0}, @List.all_map.{1, 1}, @Function.comp_def.{0, 0, 0}, @Function.comp_def.{1, 1, 1}, @Bool.false_beq, @Bool.true_beq, @gt_iff_lt.{0}, @gt_iff_lt.{1}, @ge_iff_le.{0}, @ge_iff_le.{1}, @cast_lit, @Bool.not_eq_true, @Int.toNat_zero, @Nat.zero_mul, @and_false, @false_and, @or_false, @or_true, @true_or, @false_or, @Int.le_refl, @Int.lt_irrefl, @List.mem_cons.{0}, @List.mem_cons.{1}, @forall_eq_or_imp.{0}, @forall_eq_or_imp.{1}, @forall_eq.{0}, @forall_eq.{1}, @List.append_assoc.{0}, @List.append_assoc.{1}, @List.length_set.{0}, @List.length_set.{1}, @List.set_set.{0}, @List.set_set.{1}, @DOut.val.injEq, @one_bslc, @dc_fn⟩
end Go.Deepv
