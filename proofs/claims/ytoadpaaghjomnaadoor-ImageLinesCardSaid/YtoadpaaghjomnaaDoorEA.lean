/-
  Types, declarations and images as deep values; how heavy they are.
  Conditions: none.
-/
import Derived.Test.YtoadpaaghjomnaaDoorCodes
import Derived.Test.YtoadpaaghjomnaaDoorDS
set_option linter.unusedVariables false
set_option linter.unusedSimpArgs false
set_option maxRecDepth 100000
namespace Go.Proofs.YtoadpaaghjomnaaDoor.Codes
open Go.Deepv

theorem take_d1 {c : List FV} {n : Nat} (h : c.length = n) : (c.map DV.d).take n = c.map .d := take_d h
theorem L_one (E : Env) (n : Nat) (hd ex : List Bool) (c : ACode) (a : List DV) (h : List Res) :
    L E n true hd ex c a h = match dexec (Dc E) (L E) c a h with
      | some (.normal, a', h') => if DV.lows n (mask hd a') then L E n true hd ex c (mask hd a') (h'.take n) else none
      | some (.pan v, a', h') => some (.pan v, a', h')
      | some (e, a', h') => if DV.lows n (mask ex a') then some (e, mask ex a', h'.take n) else none
      | none => none := L_round rfl a h

inductive T where
  | mk (kind : Int) (name : ByteArray) (parts : List T)
mutual
theorem T.ind {p : T → Prop} (h : ∀ k n l, (∀ v ∈ l, p v) → p (.mk k n l)) : ∀ v, p v
  | .mk k n l => h k n l (T.inds h l)
theorem T.inds {p : T → Prop} (h : ∀ k n l, (∀ v ∈ l, p v) → p (.mk k n l)) : ∀ l : List T, ∀ v ∈ l, p v
  | [], v, hv => by cases hv
  | u :: l, v, hv => by
    have h1 := T.ind h u
    have h2 := T.inds h l v
    rcases List.mem_cons.1 hv with he | hv
    · rw [he]; exact h1
    · exact h2 hv
end
mutual
def T.enc : T → List FV
  | .mk k n l => [.int .i64 k, .str n, .slice 3 (T.encs l)]
def T.encs : List T → List (List FV)
  | [] => []
  | v :: l => v.enc :: T.encs l
end
theorem tenc_len (v : T) : v.enc.length = 3 := by cases v; simp [T.enc]
theorem tencs_len : ∀ l : List T, (T.encs l).length = l.length
  | [] => rfl
  | v :: l => by simp [T.encs, tencs_len l]
theorem tencs_at : ∀ (l : List T) (i : Nat), (T.encs l)[i]? = (l[i]?).map T.enc
  | [], i => by simp [T.encs]
  | v :: l, 0 => by simp [T.encs]
  | v :: l, i + 1 => by simp [T.encs, tencs_at l i]

/-! ### A type's weight -/
def st23 (left : Int) (c : List FV) (i : Int) : List DV := [.d .undef, .d (.int .i64 left), .d (.ref c 0), .d .undef, .d .undef, .d (.int .i64 i)] ++ List.replicate 26 (.d .undef)
def ex23 (left : Int) : List DV := [.d .undef, .d (.int .i64 left)] ++ List.replicate 30 (.d .undef)
def TLight (t : T) : Prop := ∀ (left : Int) (h : List Res), ∃ r : Int, D env 23 [.d (.agg t.enc), .d (.int .i64 left)] h = some (.val (.d (.int .i64 r)) h) ∧ (-1000000 ≤ left → left ≤ 1000000 → r ≤ left - 1)

theorem loop23 (k : Int) (n : ByteArray) (l : List T) (hl : l.length ≤ 9223372036854775807) (ih : ∀ v ∈ l, TLight v) :
    ∀ (r p : List T), l = p ++ r → ∀ (left : Int), ∃ q : Int, L env 0 true H23L3 X23L3 B23L3 (st23 left (T.mk k n l).enc p.length) [] = some (.exit 0, ex23 q, []) ∧ (left ≤ 1000000 → q ≤ left) := by
  obtain ⟨K, hK⟩ : ∃ K, L env 0 true H23L3 X23L3 B23L3 = K := ⟨_, rfl⟩
  rw [hK]
  intro r
  induction r with
  | nil =>
    intro p hp left
    simp at hp
    subst hp
    refine ⟨left, ?_, fun _ => Int.le_refl _⟩
    rw [L_round hK]
    simp -implicitDefEqProofs only [B23L3, st23, ex23, dbody, dexec, dops_end, dops_step, ostep, dop, ev, put, wants, dbin, dun, List.replicate, List.length_cons, List.length_nil, Nat.reduceAdd, Nat.reduceSub, Nat.reduceLT, Nat.reduceLeDiff, Nat.reduceMul, List.cons_append, List.nil_append, List.append_nil, List.set_cons_zero, List.set_cons_succ, List.set_nil, List.getD_cons_zero, List.getD_cons_succ, List.getD_nil, DV.cells, List.map_cons, List.map_nil, List.all_cons, List.all_nil, one_d1, one_ptr, one_row, one_clo, one_if, one_int, one_bool, one_str, one_slice, one_ref, one_nilp, one_iface, one_nili, one_func, one_nilf, Bool.and_self, Bool.and_true, Bool.true_and, Bool.and_false, Bool.false_and, Bool.or_true, Bool.or_false, if_true, flat_comp, flat_map, List.mapM_cons, List.mapM_nil, DV.flat, Option.pure_def, Option.bind_eq_bind, Option.bind_some, Option.bind_none, Option.map_some, Option.map_none, dload, List.getElem?_cons_zero, List.getElem?_cons_succ, List.getElem?_nil, Nat.zero_add, Nat.add_zero, bne_self_eq_false, beq_self_eq_true, Bool.false_eq_true, if_false, DV.elems, ne_eq, not_true_eq_false, not_false_eq_true, Bool.not_true, Bool.not_false, beq_iff_eq, bne_iff_ne, reduceCtorEq, mask, DV.lows, DV.low, DV.coe, DV.isD, dresults, dresult, withHeap, List.take_zero, List.take_nil, dcallV_fn, dcallV_fnc, dcallV_clo, dcallV_yld, lowCells, LSt.isReady, srcElems, DV.int, DV.mkAgg, List.drop_zero, List.drop_succ_cons, List.take_succ_cons, same, List.not_mem_nil, false_implies, implies_true, decide_true, decide_false, decide_eq_true_eq, Int.toNat_natCast, Int.natCast_nonneg, and_self, and_true, true_and, mnmx2, List.foldlM_cons, List.foldlM_nil, nilness, bound, fill, flatCells, List.length_append, List.length_map, Nat.le_refl, List.all_map, Function.comp_def, Bool.false_beq, Bool.true_beq, gt_iff_lt, ge_iff_le, cast_lit, Int.reduceLE, Int.reduceLT, Int.reduceAdd, Int.reduceSub, Int.reduceNeg, Int.reduceEq, Int.reduceBEq, Int.reduceBNe, Nat.reduceBEq, Bool.not_eq_true, Int.toNat_zero, Nat.zero_mul, Nat.reduceEqDiff, and_false, false_and, or_false, or_true, true_or, false_or, Int.le_refl, Int.lt_irrefl, Int.reduceToNat, allocCells, List.mem_cons, forall_eq_or_imp, forall_eq, List.append_assoc, List.length_set, List.set_set, DOut.val.injEq, T.enc, tencs_len]
  | cons v r ihr =>
    intro p hp left
    have e1 : (p.length : Int) < (T.encs l).length := by rw [tencs_len, hp]; simp; omega
    have e2 : l[p.length]? = some v := by rw [hp]; simp
    have e3 : IntKind.i64.wrap (p.length + 1) = p.length + 1 := wrap_i64 (by omega) (by rw [hp] at hl; simp at hl; omega)
    by_cases hlt : left < 0
    · have hn : ¬ 0 ≤ left := by omega
      refine ⟨left, ?_, fun _ => Int.le_refl _⟩
      rw [L_round hK]
      simp -implicitDefEqProofs only [B23L3, st23, ex23, dbody, dexec, dops_end, dops_step, ostep, dop, ev, put, wants, dbin, dun, List.replicate, List.length_cons, List.length_nil, Nat.reduceAdd, Nat.reduceSub, Nat.reduceLT, Nat.reduceLeDiff, Nat.reduceMul, List.cons_append, List.nil_append, List.append_nil, List.set_cons_zero, List.set_cons_succ, List.set_nil, List.getD_cons_zero, List.getD_cons_succ, List.getD_nil, DV.cells, List.map_cons, List.map_nil, List.all_cons, List.all_nil, one_d1, one_ptr, one_row, one_clo, one_if, one_int, one_bool, one_str, one_slice, one_ref, one_nilp, one_iface, one_nili, one_func, one_nilf, Bool.and_self, Bool.and_true, Bool.true_and, Bool.and_false, Bool.false_and, Bool.or_true, Bool.or_false, if_true, flat_comp, flat_map, List.mapM_cons, List.mapM_nil, DV.flat, Option.pure_def, Option.bind_eq_bind, Option.bind_some, Option.bind_none, Option.map_some, Option.map_none, dload, List.getElem?_cons_zero, List.getElem?_cons_succ, List.getElem?_nil, Nat.zero_add, Nat.add_zero, bne_self_eq_false, beq_self_eq_true, Bool.false_eq_true, if_false, DV.elems, ne_eq, not_true_eq_false, not_false_eq_true, Bool.not_true, Bool.not_false, beq_iff_eq, bne_iff_ne, reduceCtorEq, mask, DV.lows, DV.low, DV.coe, DV.isD, dresults, dresult, withHeap, List.take_zero, List.take_nil, dcallV_fn, dcallV_fnc, dcallV_clo, dcallV_yld, lowCells, LSt.isReady, srcElems, DV.int, DV.mkAgg, List.drop_zero, List.drop_succ_cons, List.take_succ_cons, same, List.not_mem_nil, false_implies, implies_true, decide_true, decide_false, decide_eq_true_eq, Int.toNat_natCast, Int.natCast_nonneg, and_self, and_true, true_and, mnmx2, List.foldlM_cons, List.foldlM_nil, nilness, bound, fill, flatCells, List.length_append, List.length_map, Nat.le_refl, List.all_map, Function.comp_def, Bool.false_beq, Bool.true_beq, gt_iff_lt, ge_iff_le, cast_lit, Int.reduceLE, Int.reduceLT, Int.reduceAdd, Int.reduceSub, Int.reduceNeg, Int.reduceEq, Int.reduceBEq, Int.reduceBNe, Nat.reduceBEq, Bool.not_eq_true, Int.toNat_zero, Nat.zero_mul, Nat.reduceEqDiff, and_false, false_and, or_false, or_true, true_or, false_or, Int.le_refl, Int.lt_irrefl, Int.reduceToNat, allocCells, List.mem_cons, forall_eq_or_imp, forall_eq, List.append_assoc, List.length_set, List.set_set, DOut.val.injEq, T.enc, e1, hlt, hn]
    · have hl' : 0 ≤ left := by omega
      obtain ⟨q, hc, hq⟩ := ih v (by rw [hp]; simp) left []
      obtain ⟨q2, hr, hq2⟩ := ihr (p ++ [v]) (by simp [hp]) q
      refine ⟨q2, ?_, fun h => by have := hq (by omega) h; have := hq2 (by omega); omega⟩
      rw [L_round hK]
      simp [st23, ex23, T.enc, List.replicate] at hr
      simp -implicitDefEqProofs only [B23L3, st23, ex23, dbody, dexec, dops_end, dops_step, ostep, dop, ev, put, wants, dbin, dun, List.replicate, List.length_cons, List.length_nil, Nat.reduceAdd, Nat.reduceSub, Nat.reduceLT, Nat.reduceLeDiff, Nat.reduceMul, List.cons_append, List.nil_append, List.append_nil, List.set_cons_zero, List.set_cons_succ, List.set_nil, List.getD_cons_zero, List.getD_cons_succ, List.getD_nil, DV.cells, List.map_cons, List.map_nil, List.all_cons, List.all_nil, one_d1, one_ptr, one_row, one_clo, one_if, one_int, one_bool, one_str, one_slice, one_ref, one_nilp, one_iface, one_nili, one_func, one_nilf, Bool.and_self, Bool.and_true, Bool.true_and, Bool.and_false, Bool.false_and, Bool.or_true, Bool.or_false, if_true, flat_comp, flat_map, List.mapM_cons, List.mapM_nil, DV.flat, Option.pure_def, Option.bind_eq_bind, Option.bind_some, Option.bind_none, Option.map_some, Option.map_none, dload, List.getElem?_cons_zero, List.getElem?_cons_succ, List.getElem?_nil, Nat.zero_add, Nat.add_zero, bne_self_eq_false, beq_self_eq_true, Bool.false_eq_true, if_false, DV.elems, ne_eq, not_true_eq_false, not_false_eq_true, Bool.not_true, Bool.not_false, beq_iff_eq, bne_iff_ne, reduceCtorEq, mask, DV.lows, DV.low, DV.coe, DV.isD, dresults, dresult, withHeap, List.take_zero, List.take_nil, dcallV_fn, dcallV_fnc, dcallV_clo, dcallV_yld, lowCells, LSt.isReady, srcElems, DV.int, DV.mkAgg, List.drop_zero, List.drop_succ_cons, List.take_succ_cons, same, List.not_mem_nil, false_implies, implies_true, decide_true, decide_false, decide_eq_true_eq, Int.toNat_natCast, Int.natCast_nonneg, and_self, and_true, true_and, mnmx2, List.foldlM_cons, List.foldlM_nil, nilness, bound, fill, flatCells, List.length_append, List.length_map, Nat.le_refl, List.all_map, Function.comp_def, Bool.false_beq, Bool.true_beq, gt_iff_lt, ge_iff_le, cast_lit, Int.reduceLE, Int.reduceLT, Int.reduceAdd, Int.reduceSub, Int.reduceNeg, Int.reduceEq, Int.reduceBEq, Int.reduceBNe, Nat.reduceBEq, Bool.not_eq_true, Int.toNat_zero, Nat.zero_mul, Nat.reduceEqDiff, and_false, false_and, or_false, or_true, true_or, false_or, Int.le_refl, Int.lt_irrefl, Int.reduceToNat, allocCells, List.mem_cons, forall_eq_or_imp, forall_eq, List.append_assoc, List.length_set, List.set_set, DOut.val.injEq, T.enc, e1, hlt, hl', tencs_at, e2, e3, tenc_len, take_d, hc, hr]

mutual
def T.fit : T → Prop
  | .mk _ _ l => l.length ≤ 9223372036854775807 ∧ T.fits l
def T.fits : List T → Prop
  | [] => True
  | v :: l => v.fit ∧ T.fits l
end
theorem tfits_mem : ∀ {l : List T}, T.fits l → ∀ v ∈ l, v.fit
  | [], _, v, hv => by cases hv
  | u :: l, h, v, hv => by
    simp only [T.fits] at h
    rcases List.mem_cons.1 hv with he | hv
    · rw [he]; exact h.1
    · exact tfits_mem h.2 v hv

theorem tlight_ok (t : T) : t.fit → TLight t := by
  refine T.ind (p := fun t => t.fit → TLight t) (fun k n l ih => ?_) t
  intro hf left h
  simp only [T.fit] at hf
  have key := loop23 k n l hf.1 (fun v hv => ih v hv (tfits_mem hf.2 v hv)) l [] rfl
  obtain ⟨q, hq, hq2⟩ := key (IntKind.i64.wrap (IntKind.i64.wrap (left - 1) - (if (1048576 : Int) < (n.size : Int) then 1048576 else (n.size : Int))))
  refine ⟨q, ?_, fun h1 h2 => ?_⟩
  · rw [D_dat (F := A23) rfl rfl rfl rfl]
    simp [st23, List.replicate, ex23, T.enc] at hq
    simp -implicitDefEqProofs only [A23, B23, dbody, dexec, dops_end, dops_step, ostep, dop, ev, put, wants, dbin, dun, List.replicate, List.length_cons, List.length_nil, Nat.reduceAdd, Nat.reduceSub, Nat.reduceLT, Nat.reduceLeDiff, Nat.reduceMul, List.cons_append, List.nil_append, List.append_nil, List.set_cons_zero, List.set_cons_succ, List.set_nil, List.getD_cons_zero, List.getD_cons_succ, List.getD_nil, DV.cells, List.map_cons, List.map_nil, List.all_cons, List.all_nil, one_d1, one_ptr, one_row, one_clo, one_if, one_int, one_bool, one_str, one_slice, one_ref, one_nilp, one_iface, one_nili, one_func, one_nilf, Bool.and_self, Bool.and_true, Bool.true_and, Bool.and_false, Bool.false_and, Bool.or_true, Bool.or_false, if_true, flat_comp, flat_map, List.mapM_cons, List.mapM_nil, DV.flat, Option.pure_def, Option.bind_eq_bind, Option.bind_some, Option.bind_none, Option.map_some, Option.map_none, dload, List.getElem?_cons_zero, List.getElem?_cons_succ, List.getElem?_nil, Nat.zero_add, Nat.add_zero, bne_self_eq_false, beq_self_eq_true, Bool.false_eq_true, if_false, DV.elems, ne_eq, not_true_eq_false, not_false_eq_true, Bool.not_true, Bool.not_false, beq_iff_eq, bne_iff_ne, reduceCtorEq, mask, DV.lows, DV.low, DV.coe, DV.isD, dresults, dresult, withHeap, List.take_zero, List.take_nil, dcallV_fn, dcallV_fnc, dcallV_clo, dcallV_yld, lowCells, LSt.isReady, srcElems, DV.int, DV.mkAgg, List.drop_zero, List.drop_succ_cons, List.take_succ_cons, same, List.not_mem_nil, false_implies, implies_true, decide_true, decide_false, decide_eq_true_eq, Int.toNat_natCast, Int.natCast_nonneg, and_self, and_true, true_and, mnmx2, List.foldlM_cons, List.foldlM_nil, nilness, bound, fill, flatCells, List.length_append, List.length_map, Nat.le_refl, List.all_map, Function.comp_def, Bool.false_beq, Bool.true_beq, gt_iff_lt, ge_iff_le, cast_lit, Int.reduceLE, Int.reduceLT, Int.reduceAdd, Int.reduceSub, Int.reduceNeg, Int.reduceEq, Int.reduceBEq, Int.reduceBNe, Nat.reduceBEq, Bool.not_eq_true, Int.toNat_zero, Nat.zero_mul, Nat.reduceEqDiff, and_false, false_and, or_false, or_true, true_or, false_or, Int.le_refl, Int.lt_irrefl, Int.reduceToNat, allocCells, List.mem_cons, forall_eq_or_imp, forall_eq, List.append_assoc, List.length_set, List.set_set, DOut.val.injEq, T.enc, hq]
  · rw [wrap_i64 (n := left - 1) (by omega) (by omega), wrap_i64 (by split <;> omega) (by split <;> omega)] at hq2
    have := hq2 (by split <;> omega)
    split at this <;> omega
end Go.Proofs.YtoadpaaghjomnaaDoor.Codes
