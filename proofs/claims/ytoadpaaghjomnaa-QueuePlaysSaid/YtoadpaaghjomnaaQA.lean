/-
  The functions of values, by the deep machine.
  Conditions: none.
-/
import Derived.Test.YtoadpaaghjomnaaCodes
import Derived.Test.YtoadpaaghjomnaaDS
set_option linter.unusedVariables false
set_option linter.unusedSimpArgs false
set_option maxRecDepth 100000
namespace Go.Proofs.Ytoadpaaghjomnaa.Codes
open Go.Deepv

inductive V where
  | mk (kind num : Int) (bytes : List Int) (name : ByteArray) (kids : List V)

mutual
theorem V.ind {p : V → Prop} (h : ∀ k n b s l, (∀ v ∈ l, p v) → p (.mk k n b s l)) : ∀ v, p v
  | .mk k n b s l => h k n b s l (V.inds h l)
theorem V.inds {p : V → Prop} (h : ∀ k n b s l, (∀ v ∈ l, p v) → p (.mk k n b s l)) : ∀ l : List V, ∀ v ∈ l, p v
  | [], v, hv => by cases hv
  | u :: l, v, hv => by
    have h1 := V.ind h u
    have h2 := V.inds h l v
    rcases List.mem_cons.1 hv with he | hv
    · rw [he]; exact h1
    · exact h2 hv
end
mutual
def V.enc : V → List FV
  | .mk k n b s l => [.int .i64 k, .int .i64 n, .slice 1 (b.map fun x => [.int .u8 x]), .str s, .slice 5 (V.encs l)]
def V.encs : List V → List (List FV)
  | [] => []
  | v :: l => v.enc :: V.encs l
end
mutual
def V.light : V → Int → Int
  | .mk _ _ b s l, left => V.lights l (left - 1 - (if (1048576 : Int) < (b.length : Int) then 1048576 else (b.length : Int)) - (if (1048576 : Int) < (s.size : Int) then 1048576 else (s.size : Int)))
def V.lights : List V → Int → Int
  | [], left => left
  | v :: l, left => if left < 0 then left else V.lights l (v.light left)
end
theorem enc_len (v : V) : v.enc.length = 5 := by cases v; simp [V.enc]
theorem encs_len : ∀ l : List V, (V.encs l).length = l.length
  | [] => rfl
  | v :: l => by simp [V.encs, encs_len l]
theorem encs_at : ∀ (l : List V) (i : Nat), (V.encs l)[i]? = (l[i]?).map V.enc
  | [], i => by simp [V.encs]
  | v :: l, 0 => by simp [V.encs]
  | v :: l, i + 1 => by simp [V.encs, encs_at l i]

mutual
theorem light_le : ∀ (v : V) (left : Int), v.light left ≤ left - 1
  | .mk k n b s l, left => by
    unfold V.light
    refine Int.le_trans (lights_le l _) ?_
    split <;> split <;> omega
theorem lights_le : ∀ (l : List V) (left : Int), V.lights l left ≤ left
  | [], left => by simp [V.lights]
  | v :: l, left => by
    unfold V.lights
    split
    · omega
    · have := light_le v left
      have := lights_le l (v.light left)
      omega
end

def st25 (left : Int) (c : List FV) (i : Int) : List DV := [.d .undef, .d (.int .i64 left), .d (.ref c 0), .d .undef, .d .undef, .d (.int .i64 i)] ++ List.replicate 31 (.d .undef)
def ex25 (left : Int) : List DV := [.d .undef, .d (.int .i64 left)] ++ List.replicate 35 (.d .undef)

theorem loop25 (k n : Int) (b : List Int) (s : ByteArray) (l : List V) (ih : ∀ v ∈ l, ∀ left, 0 ≤ left → left ≤ 3000 → ∀ h, D env 25 [.d (.agg v.enc), .d (.int .i64 left)] h = some (.val (.d (.int .i64 (v.light left))) h)) :
    ∀ (r p : List V), l = p ++ r → ∀ (left : Int), left ≤ 3000 → (left < 0 ∨ p.length + left ≤ 3000) → p.length ≤ 3001 → L env 0 true H25L3 X25L3 B25L3 (st25 left (V.mk k n b s l).enc p.length) [] = some (.exit 0, ex25 (V.lights r left), []) := by
  obtain ⟨K, hK⟩ : ∃ K, L env 0 true H25L3 X25L3 B25L3 = K := ⟨_, rfl⟩
  rw [hK]
  intro r
  induction r with
  | nil =>
    intro p hp left h1 h2 h3
    rw [L_round hK]
    simp at hp
    subst hp
    simp -implicitDefEqProofs only [B25L3, st25, dbody, dexec, dops, dop, ev, put, wants, dbin, dun, List.replicate, List.length_cons, List.length_nil, Nat.reduceAdd, Nat.reduceSub, Nat.reduceLT, Nat.reduceLeDiff, Nat.reduceMul, List.cons_append, List.nil_append, List.append_nil, List.set_cons_zero, List.set_cons_succ, List.set_nil, List.getD_cons_zero, List.getD_cons_succ, List.getD_nil, DV.cells, List.map_cons, List.map_nil, List.all_cons, List.all_nil, one_d1, one_ptr, one_row, one_clo, one_if, one_int, one_bool, one_str, one_slice, one_ref, one_nilp, one_iface, one_nili, one_func, one_nilf, Bool.and_self, Bool.and_true, Bool.true_and, Bool.and_false, Bool.false_and, Bool.or_true, Bool.or_false, if_true, flat_comp, flat_map, List.mapM_cons, List.mapM_nil, DV.flat, Option.pure_def, Option.bind_eq_bind, Option.bind_some, Option.bind_none, Option.map_some, Option.map_none, dload, List.getElem?_cons_zero, List.getElem?_cons_succ, List.getElem?_nil, Nat.zero_add, Nat.add_zero, bne_self_eq_false, beq_self_eq_true, Bool.false_eq_true, if_false, DV.elems, ne_eq, not_true_eq_false, not_false_eq_true, Bool.not_true, Bool.not_false, beq_iff_eq, bne_iff_ne, reduceCtorEq, mask, DV.lows, DV.low, DV.coe, DV.isD, dresults, dresult, withHeap, List.take_zero, List.take_nil, dcallV_fn, dcallV_fnc, dcallV_clo, dcallV_yld, lowCells, LSt.isReady, DV.int, DV.mkAgg, List.drop_zero, List.drop_succ_cons, List.take_succ_cons, same, List.not_mem_nil, false_implies, implies_true, decide_true, decide_false, decide_eq_true_eq, Int.toNat_natCast, Int.natCast_nonneg, and_self, and_true, true_and, mnmx2, List.foldlM_cons, List.foldlM_nil, nilness, bound, fill, flatCells, List.length_append, List.length_map, Nat.le_refl, List.all_map, Function.comp_def, Bool.false_beq, Bool.true_beq, gt_iff_lt, ge_iff_le, cast_lit, Int.reduceLE, Int.reduceLT, Int.reduceAdd, Int.reduceSub, Int.reduceNeg, Int.reduceEq, Int.reduceBEq, Int.reduceBNe, Nat.reduceBEq, Bool.not_eq_true, Int.toNat_zero, Nat.zero_mul, Nat.reduceEqDiff, and_false, false_and, or_false, or_true, true_or, false_or, Int.le_refl, Int.lt_irrefl, Int.reduceToNat, allocCells, List.mem_cons, forall_eq_or_imp, forall_eq, List.append_assoc, List.length_set, List.set_set, DOut.val.injEq, V.enc, ex25, encs_len, V.lights]
  | cons v r ihr =>
    intro p hp left h1 h2 h3
    rw [L_round hK]
    have e1 : (p.length : Int) < (V.encs l).length := by rw [encs_len, hp]; simp; omega
    have e2 : l[p.length]? = some v := by rw [hp]; simp
    have e3 : IntKind.i64.wrap (p.length + 1) = p.length + 1 := wrap_i64 (by omega) (by omega)
    by_cases hl : left < 0
    · have : ¬ 0 ≤ left := by omega
      simp -implicitDefEqProofs only [B25L3, st25, dbody, dexec, dops, dop, ev, put, wants, dbin, dun, List.replicate, List.length_cons, List.length_nil, Nat.reduceAdd, Nat.reduceSub, Nat.reduceLT, Nat.reduceLeDiff, Nat.reduceMul, List.cons_append, List.nil_append, List.append_nil, List.set_cons_zero, List.set_cons_succ, List.set_nil, List.getD_cons_zero, List.getD_cons_succ, List.getD_nil, DV.cells, List.map_cons, List.map_nil, List.all_cons, List.all_nil, one_d1, one_ptr, one_row, one_clo, one_if, one_int, one_bool, one_str, one_slice, one_ref, one_nilp, one_iface, one_nili, one_func, one_nilf, Bool.and_self, Bool.and_true, Bool.true_and, Bool.and_false, Bool.false_and, Bool.or_true, Bool.or_false, if_true, flat_comp, flat_map, List.mapM_cons, List.mapM_nil, DV.flat, Option.pure_def, Option.bind_eq_bind, Option.bind_some, Option.bind_none, Option.map_some, Option.map_none, dload, List.getElem?_cons_zero, List.getElem?_cons_succ, List.getElem?_nil, Nat.zero_add, Nat.add_zero, bne_self_eq_false, beq_self_eq_true, Bool.false_eq_true, if_false, DV.elems, ne_eq, not_true_eq_false, not_false_eq_true, Bool.not_true, Bool.not_false, beq_iff_eq, bne_iff_ne, reduceCtorEq, mask, DV.lows, DV.low, DV.coe, DV.isD, dresults, dresult, withHeap, List.take_zero, List.take_nil, dcallV_fn, dcallV_fnc, dcallV_clo, dcallV_yld, lowCells, LSt.isReady, DV.int, DV.mkAgg, List.drop_zero, List.drop_succ_cons, List.take_succ_cons, same, List.not_mem_nil, false_implies, implies_true, decide_true, decide_false, decide_eq_true_eq, Int.toNat_natCast, Int.natCast_nonneg, and_self, and_true, true_and, mnmx2, List.foldlM_cons, List.foldlM_nil, nilness, bound, fill, flatCells, List.length_append, List.length_map, Nat.le_refl, List.all_map, Function.comp_def, Bool.false_beq, Bool.true_beq, gt_iff_lt, ge_iff_le, cast_lit, Int.reduceLE, Int.reduceLT, Int.reduceAdd, Int.reduceSub, Int.reduceNeg, Int.reduceEq, Int.reduceBEq, Int.reduceBNe, Nat.reduceBEq, Bool.not_eq_true, Int.toNat_zero, Nat.zero_mul, Nat.reduceEqDiff, and_false, false_and, or_false, or_true, true_or, false_or, Int.le_refl, Int.lt_irrefl, Int.reduceToNat, allocCells, List.mem_cons, forall_eq_or_imp, forall_eq, List.append_assoc, List.length_set, List.set_set, DOut.val.injEq, V.enc, ex25, V.lights, e1, hl, this]
    · have hl' : 0 ≤ left := by omega
      have hc := ih v (by rw [hp]; simp) left hl' h1 []
      have hle := light_le v left
      have hr := ihr (p ++ [v]) (by simp [hp]) (v.light left) (by omega) (by simp; omega) (by simp; omega)
      simp [st25, ex25, V.enc, List.replicate] at hr
      simp -implicitDefEqProofs only [B25L3, st25, dbody, dexec, dops, dop, ev, put, wants, dbin, dun, List.replicate, List.length_cons, List.length_nil, Nat.reduceAdd, Nat.reduceSub, Nat.reduceLT, Nat.reduceLeDiff, Nat.reduceMul, List.cons_append, List.nil_append, List.append_nil, List.set_cons_zero, List.set_cons_succ, List.set_nil, List.getD_cons_zero, List.getD_cons_succ, List.getD_nil, DV.cells, List.map_cons, List.map_nil, List.all_cons, List.all_nil, one_d1, one_ptr, one_row, one_clo, one_if, one_int, one_bool, one_str, one_slice, one_ref, one_nilp, one_iface, one_nili, one_func, one_nilf, Bool.and_self, Bool.and_true, Bool.true_and, Bool.and_false, Bool.false_and, Bool.or_true, Bool.or_false, if_true, flat_comp, flat_map, List.mapM_cons, List.mapM_nil, DV.flat, Option.pure_def, Option.bind_eq_bind, Option.bind_some, Option.bind_none, Option.map_some, Option.map_none, dload, List.getElem?_cons_zero, List.getElem?_cons_succ, List.getElem?_nil, Nat.zero_add, Nat.add_zero, bne_self_eq_false, beq_self_eq_true, Bool.false_eq_true, if_false, DV.elems, ne_eq, not_true_eq_false, not_false_eq_true, Bool.not_true, Bool.not_false, beq_iff_eq, bne_iff_ne, reduceCtorEq, mask, DV.lows, DV.low, DV.coe, DV.isD, dresults, dresult, withHeap, List.take_zero, List.take_nil, dcallV_fn, dcallV_fnc, dcallV_clo, dcallV_yld, lowCells, LSt.isReady, DV.int, DV.mkAgg, List.drop_zero, List.drop_succ_cons, List.take_succ_cons, same, List.not_mem_nil, false_implies, implies_true, decide_true, decide_false, decide_eq_true_eq, Int.toNat_natCast, Int.natCast_nonneg, and_self, and_true, true_and, mnmx2, List.foldlM_cons, List.foldlM_nil, nilness, bound, fill, flatCells, List.length_append, List.length_map, Nat.le_refl, List.all_map, Function.comp_def, Bool.false_beq, Bool.true_beq, gt_iff_lt, ge_iff_le, cast_lit, Int.reduceLE, Int.reduceLT, Int.reduceAdd, Int.reduceSub, Int.reduceNeg, Int.reduceEq, Int.reduceBEq, Int.reduceBNe, Nat.reduceBEq, Bool.not_eq_true, Int.toNat_zero, Nat.zero_mul, Nat.reduceEqDiff, and_false, false_and, or_false, or_true, true_or, false_or, Int.le_refl, Int.lt_irrefl, Int.reduceToNat, allocCells, List.mem_cons, forall_eq_or_imp, forall_eq, List.append_assoc, List.length_set, List.set_set, DOut.val.injEq, V.enc, ex25, V.lights, e1, hl, hl', encs_at, e2, e3, enc_len, take_d, hc, hr]

theorem light_ok (v : V) : ∀ (left : Int), 0 ≤ left → left ≤ 3000 → ∀ h, D env 25 [.d (.agg v.enc), .d (.int .i64 left)] h = some (.val (.d (.int .i64 (v.light left))) h) := by
  refine V.ind (p := fun v => ∀ (left : Int), 0 ≤ left → left ≤ 3000 → ∀ h, D env 25 [.d (.agg v.enc), .d (.int .i64 left)] h = some (.val (.d (.int .i64 (v.light left))) h)) (fun k n b s l ih => ?_) v
  intro left h1 h2 h
  have key := loop25 k n b s l ih l [] rfl
  rw [D_dat (F := A25) rfl rfl rfl rfl]
  have w1 : IntKind.i64.wrap (left - 1) = left - 1 := wrap_i64 (by omega) (by omega)
  have w2 : IntKind.i64.wrap (left - 1 - (if (1048576 : Int) < (b.length : Int) then 1048576 else (b.length : Int))) = left - 1 - (if (1048576 : Int) < (b.length : Int) then 1048576 else (b.length : Int)) := wrap_i64 (by split <;> omega) (by split <;> omega)
  have w3 : IntKind.i64.wrap (left - 1 - (if (1048576 : Int) < (b.length : Int) then 1048576 else (b.length : Int)) - (if (1048576 : Int) < (s.size : Int) then 1048576 else (s.size : Int))) = left - 1 - (if (1048576 : Int) < (b.length : Int) then 1048576 else (b.length : Int)) - (if (1048576 : Int) < (s.size : Int) then 1048576 else (s.size : Int)) := wrap_i64 (by split <;> split <;> omega) (by split <;> split <;> omega)
  have key2 := key (left - 1 - (if (1048576 : Int) < (b.length : Int) then 1048576 else (b.length : Int)) - (if (1048576 : Int) < (s.size : Int) then 1048576 else (s.size : Int))) (by split <;> split <;> omega) (by simp; split <;> split <;> omega) (by simp)
  simp [V.enc, st25, List.replicate, ex25] at key2
  simp -implicitDefEqProofs only [A25, B25, dbody, dexec, dops, dop, ev, put, wants, dbin, dun, List.replicate, List.length_cons, List.length_nil, Nat.reduceAdd, Nat.reduceSub, Nat.reduceLT, Nat.reduceLeDiff, Nat.reduceMul, List.cons_append, List.nil_append, List.append_nil, List.set_cons_zero, List.set_cons_succ, List.set_nil, List.getD_cons_zero, List.getD_cons_succ, List.getD_nil, DV.cells, List.map_cons, List.map_nil, List.all_cons, List.all_nil, one_d1, one_ptr, one_row, one_clo, one_if, one_int, one_bool, one_str, one_slice, one_ref, one_nilp, one_iface, one_nili, one_func, one_nilf, Bool.and_self, Bool.and_true, Bool.true_and, Bool.and_false, Bool.false_and, Bool.or_true, Bool.or_false, if_true, flat_comp, flat_map, List.mapM_cons, List.mapM_nil, DV.flat, Option.pure_def, Option.bind_eq_bind, Option.bind_some, Option.bind_none, Option.map_some, Option.map_none, dload, List.getElem?_cons_zero, List.getElem?_cons_succ, List.getElem?_nil, Nat.zero_add, Nat.add_zero, bne_self_eq_false, beq_self_eq_true, Bool.false_eq_true, if_false, DV.elems, ne_eq, not_true_eq_false, not_false_eq_true, Bool.not_true, Bool.not_false, beq_iff_eq, bne_iff_ne, reduceCtorEq, mask, DV.lows, DV.low, DV.coe, DV.isD, dresults, dresult, withHeap, List.take_zero, List.take_nil, dcallV_fn, dcallV_fnc, dcallV_clo, dcallV_yld, lowCells, LSt.isReady, DV.int, DV.mkAgg, List.drop_zero, List.drop_succ_cons, List.take_succ_cons, same, List.not_mem_nil, false_implies, implies_true, decide_true, decide_false, decide_eq_true_eq, Int.toNat_natCast, Int.natCast_nonneg, and_self, and_true, true_and, mnmx2, List.foldlM_cons, List.foldlM_nil, nilness, bound, fill, flatCells, List.length_append, List.length_map, Nat.le_refl, List.all_map, Function.comp_def, Bool.false_beq, Bool.true_beq, gt_iff_lt, ge_iff_le, cast_lit, Int.reduceLE, Int.reduceLT, Int.reduceAdd, Int.reduceSub, Int.reduceNeg, Int.reduceEq, Int.reduceBEq, Int.reduceBNe, Nat.reduceBEq, Bool.not_eq_true, Int.toNat_zero, Nat.zero_mul, Nat.reduceEqDiff, and_false, false_and, or_false, or_true, true_or, false_or, Int.le_refl, Int.lt_irrefl, Int.reduceToNat, allocCells, List.mem_cons, forall_eq_or_imp, forall_eq, List.append_assoc, List.length_set, List.set_set, DOut.val.injEq, V.enc, V.light, List.length_map, w1, w2, w3, key2]

/-! ### The same value -/
mutual
def V.ok : V → Prop
  | .mk _ _ _ _ l => l.length ≤ 4000 ∧ V.oks l
def V.oks : List V → Prop
  | [] => True
  | v :: l => v.ok ∧ V.oks l
end
theorem oks_mem : ∀ {l : List V}, V.oks l → ∀ v ∈ l, v.ok
  | [], _, v, hv => by simp at hv
  | u :: l, h, v, hv => by
    simp only [V.oks] at h
    rcases List.mem_cons.1 hv with he | hv
    · rw [he]; exact h.1
    · exact oks_mem h.2 v hv
mutual
theorem ok_of_light : ∀ (v : V) (left : Int), left ≤ 3000 → 0 ≤ v.light left → v.ok
  | .mk k n b s l, left, h1, h2 => by
    unfold V.light at h2
    have h3 := oks_of_lights l _ (by split <;> split <;> omega) h2
    exact ⟨by have := h3.1; split at this <;> split at this <;> omega, h3.2⟩
theorem oks_of_lights : ∀ (l : List V) (left : Int), left ≤ 3000 → 0 ≤ V.lights l left → (l.length : Int) ≤ left ∧ V.oks l
  | [], left, h1, h2 => by
    simp only [V.lights] at h2
    exact ⟨by simpa using h2, trivial⟩
  | v :: l, left, h1, h2 => by
    unfold V.lights at h2
    split at h2
    · omega
    · have e1 := light_le v left
      have e2 := lights_le l (v.light left)
      have h3 := oks_of_lights l (v.light left) (by omega) h2
      exact ⟨by have := h3.1; simp only [List.length_cons]; omega, ok_of_light v left h1 (by omega), h3.2⟩
end

theorem nums_enc : ∀ b : List Int, numsOf (b.map fun x => [.int .u8 x]) = some b
  | [] => rfl
  | x :: b => by
    have := nums_enc b
    simp only [numsOf] at this ⊢
    simp [this]

def st26 (c : List FV) (i : Int) : List DV := [.d .undef, .d .undef, .d (.ref c 0), .d (.ref c 0), .d .undef, .d (.int .i64 i)] ++ List.replicate 56 (.d .undef)

theorem loop26 (k n : Int) (b : List Int) (s : ByteArray) (l : List V) (hl : l.length ≤ 4000) (ih : ∀ v ∈ l, ∀ h, D env 26 [.d (.agg v.enc), .d (.agg v.enc)] h = some (.val (.d (.bool true)) h)) :
    ∀ (r p : List V), l = p ++ r → L env 0 true H26L4 X26L4 B26L4 (st26 (V.mk k n b s l).enc p.length) [] = some (.exit 0, List.replicate 62 (.d .undef), []) := by
  obtain ⟨K, hK⟩ : ∃ K, L env 0 true H26L4 X26L4 B26L4 = K := ⟨_, rfl⟩
  rw [hK]
  intro r
  induction r with
  | nil =>
    intro p hp
    rw [L_round hK]
    simp at hp
    subst hp
    simp -implicitDefEqProofs only [B26L4, st26, dbody, dexec, dops, dop, ev, put, wants, dbin, dun, List.replicate, List.length_cons, List.length_nil, Nat.reduceAdd, Nat.reduceSub, Nat.reduceLT, Nat.reduceLeDiff, Nat.reduceMul, List.cons_append, List.nil_append, List.append_nil, List.set_cons_zero, List.set_cons_succ, List.set_nil, List.getD_cons_zero, List.getD_cons_succ, List.getD_nil, DV.cells, List.map_cons, List.map_nil, List.all_cons, List.all_nil, one_d1, one_ptr, one_row, one_clo, one_if, one_int, one_bool, one_str, one_slice, one_ref, one_nilp, one_iface, one_nili, one_func, one_nilf, Bool.and_self, Bool.and_true, Bool.true_and, Bool.and_false, Bool.false_and, Bool.or_true, Bool.or_false, if_true, flat_comp, flat_map, List.mapM_cons, List.mapM_nil, DV.flat, Option.pure_def, Option.bind_eq_bind, Option.bind_some, Option.bind_none, Option.map_some, Option.map_none, dload, List.getElem?_cons_zero, List.getElem?_cons_succ, List.getElem?_nil, Nat.zero_add, Nat.add_zero, bne_self_eq_false, beq_self_eq_true, Bool.false_eq_true, if_false, DV.elems, ne_eq, not_true_eq_false, not_false_eq_true, Bool.not_true, Bool.not_false, beq_iff_eq, bne_iff_ne, reduceCtorEq, mask, DV.lows, DV.low, DV.coe, DV.isD, dresults, dresult, withHeap, List.take_zero, List.take_nil, dcallV_fn, dcallV_fnc, dcallV_clo, dcallV_yld, lowCells, LSt.isReady, DV.int, DV.mkAgg, List.drop_zero, List.drop_succ_cons, List.take_succ_cons, same, List.not_mem_nil, false_implies, implies_true, decide_true, decide_false, decide_eq_true_eq, Int.toNat_natCast, Int.natCast_nonneg, and_self, and_true, true_and, mnmx2, List.foldlM_cons, List.foldlM_nil, nilness, bound, fill, flatCells, List.length_append, List.length_map, Nat.le_refl, List.all_map, Function.comp_def, Bool.false_beq, Bool.true_beq, gt_iff_lt, ge_iff_le, cast_lit, Int.reduceLE, Int.reduceLT, Int.reduceAdd, Int.reduceSub, Int.reduceNeg, Int.reduceEq, Int.reduceBEq, Int.reduceBNe, Nat.reduceBEq, Bool.not_eq_true, Int.toNat_zero, Nat.zero_mul, Nat.reduceEqDiff, and_false, false_and, or_false, or_true, true_or, false_or, Int.le_refl, Int.lt_irrefl, Int.reduceToNat, allocCells, List.mem_cons, forall_eq_or_imp, forall_eq, List.append_assoc, List.length_set, List.set_set, DOut.val.injEq, V.enc, encs_len]
  | cons v r ihr =>
    intro p hp
    rw [L_round hK]
    have e1 : (p.length : Int) < (V.encs l).length := by rw [encs_len, hp]; simp; omega
    have e2 : l[p.length]? = some v := by rw [hp]; simp
    have e4 : p.length ≤ 4000 := by rw [hp] at hl; simp at hl; omega
    have e3 : IntKind.i64.wrap (p.length + 1) = p.length + 1 := wrap_i64 (by omega) (by omega)
    have hc := ih v (by rw [hp]; simp) []
    have hr := ihr (p ++ [v]) (by simp [hp])
    simp [st26, V.enc, List.replicate] at hr
    simp -implicitDefEqProofs only [B26L4, st26, dbody, dexec, dops, dop, ev, put, wants, dbin, dun, List.replicate, List.length_cons, List.length_nil, Nat.reduceAdd, Nat.reduceSub, Nat.reduceLT, Nat.reduceLeDiff, Nat.reduceMul, List.cons_append, List.nil_append, List.append_nil, List.set_cons_zero, List.set_cons_succ, List.set_nil, List.getD_cons_zero, List.getD_cons_succ, List.getD_nil, DV.cells, List.map_cons, List.map_nil, List.all_cons, List.all_nil, one_d1, one_ptr, one_row, one_clo, one_if, one_int, one_bool, one_str, one_slice, one_ref, one_nilp, one_iface, one_nili, one_func, one_nilf, Bool.and_self, Bool.and_true, Bool.true_and, Bool.and_false, Bool.false_and, Bool.or_true, Bool.or_false, if_true, flat_comp, flat_map, List.mapM_cons, List.mapM_nil, DV.flat, Option.pure_def, Option.bind_eq_bind, Option.bind_some, Option.bind_none, Option.map_some, Option.map_none, dload, List.getElem?_cons_zero, List.getElem?_cons_succ, List.getElem?_nil, Nat.zero_add, Nat.add_zero, bne_self_eq_false, beq_self_eq_true, Bool.false_eq_true, if_false, DV.elems, ne_eq, not_true_eq_false, not_false_eq_true, Bool.not_true, Bool.not_false, beq_iff_eq, bne_iff_ne, reduceCtorEq, mask, DV.lows, DV.low, DV.coe, DV.isD, dresults, dresult, withHeap, List.take_zero, List.take_nil, dcallV_fn, dcallV_fnc, dcallV_clo, dcallV_yld, lowCells, LSt.isReady, DV.int, DV.mkAgg, List.drop_zero, List.drop_succ_cons, List.take_succ_cons, same, List.not_mem_nil, false_implies, implies_true, decide_true, decide_false, decide_eq_true_eq, Int.toNat_natCast, Int.natCast_nonneg, and_self, and_true, true_and, mnmx2, List.foldlM_cons, List.foldlM_nil, nilness, bound, fill, flatCells, List.length_append, List.length_map, Nat.le_refl, List.all_map, Function.comp_def, Bool.false_beq, Bool.true_beq, gt_iff_lt, ge_iff_le, cast_lit, Int.reduceLE, Int.reduceLT, Int.reduceAdd, Int.reduceSub, Int.reduceNeg, Int.reduceEq, Int.reduceBEq, Int.reduceBNe, Nat.reduceBEq, Bool.not_eq_true, Int.toNat_zero, Nat.zero_mul, Nat.reduceEqDiff, and_false, false_and, or_false, or_true, true_or, false_or, Int.le_refl, Int.lt_irrefl, Int.reduceToNat, allocCells, List.mem_cons, forall_eq_or_imp, forall_eq, List.append_assoc, List.length_set, List.set_set, DOut.val.injEq, V.enc, e1, encs_at, e2, e3, enc_len, take_d, hc, hr]


theorem same_ok (v : V) : v.ok → ∀ h, D env 26 [.d (.agg v.enc), .d (.agg v.enc)] h = some (.val (.d (.bool true)) h) := by
  refine V.ind (p := fun v => v.ok → ∀ h, D env 26 [.d (.agg v.enc), .d (.agg v.enc)] h = some (.val (.d (.bool true)) h)) (fun k n b s l ih => ?_) v
  intro ho h
  simp only [V.ok] at ho
  have key := loop26 k n b s l ho.1 (fun v hv => ih v hv (oks_mem ho.2 v hv)) l [] rfl
  rw [D_dat (F := A26) rfl rfl rfl rfl]
  simp -implicitDefEqProofs only [V.enc, st26, dbody, dexec, dops, dop, ev, put, wants, dbin, dun, List.replicate, List.length_cons, List.length_nil, Nat.reduceAdd, Nat.reduceSub, Nat.reduceLT, Nat.reduceLeDiff, Nat.reduceMul, List.cons_append, List.nil_append, List.append_nil, List.set_cons_zero, List.set_cons_succ, List.set_nil, List.getD_cons_zero, List.getD_cons_succ, List.getD_nil, DV.cells, List.map_cons, List.map_nil, List.all_cons, List.all_nil, one_d1, one_ptr, one_row, one_clo, one_if, one_int, one_bool, one_str, one_slice, one_ref, one_nilp, one_iface, one_nili, one_func, one_nilf, Bool.and_self, Bool.and_true, Bool.true_and, Bool.and_false, Bool.false_and, Bool.or_true, Bool.or_false, if_true, flat_comp, flat_map, List.mapM_cons, List.mapM_nil, DV.flat, Option.pure_def, Option.bind_eq_bind, Option.bind_some, Option.bind_none, Option.map_some, Option.map_none, dload, List.getElem?_cons_zero, List.getElem?_cons_succ, List.getElem?_nil, Nat.zero_add, Nat.add_zero, bne_self_eq_false, beq_self_eq_true, Bool.false_eq_true, if_false, DV.elems, ne_eq, not_true_eq_false, not_false_eq_true, Bool.not_true, Bool.not_false, beq_iff_eq, bne_iff_ne, reduceCtorEq, mask, DV.lows, DV.low, DV.coe, DV.isD, dresults, dresult, withHeap, List.take_zero, List.take_nil, dcallV_fn, dcallV_fnc, dcallV_clo, dcallV_yld, lowCells, LSt.isReady, DV.int, DV.mkAgg, List.drop_zero, List.drop_succ_cons, List.take_succ_cons, same, List.not_mem_nil, false_implies, implies_true, decide_true, decide_false, decide_eq_true_eq, Int.toNat_natCast, Int.natCast_nonneg, and_self, and_true, true_and, mnmx2, List.foldlM_cons, List.foldlM_nil, nilness, bound, fill, flatCells, List.length_append, List.length_map, Nat.le_refl, List.all_map, Function.comp_def, Bool.false_beq, Bool.true_beq, gt_iff_lt, ge_iff_le, cast_lit, Int.reduceLE, Int.reduceLT, Int.reduceAdd, Int.reduceSub, Int.reduceNeg, Int.reduceEq, Int.reduceBEq, Int.reduceBNe, Nat.reduceBEq, Bool.not_eq_true, Int.toNat_zero, Nat.zero_mul, Nat.reduceEqDiff, and_false, false_and, or_false, or_true, true_or, false_or, Int.le_refl, Int.lt_irrefl, Int.reduceToNat, allocCells, List.mem_cons, forall_eq_or_imp, forall_eq, List.append_assoc, List.length_set, List.set_set, DOut.val.injEq, Int.ofNat_zero] at key
  simp -implicitDefEqProofs only [A26, B26, dbody, dexec, dops, dop, ev, put, wants, dbin, dun, List.replicate, List.length_cons, List.length_nil, Nat.reduceAdd, Nat.reduceSub, Nat.reduceLT, Nat.reduceLeDiff, Nat.reduceMul, List.cons_append, List.nil_append, List.append_nil, List.set_cons_zero, List.set_cons_succ, List.set_nil, List.getD_cons_zero, List.getD_cons_succ, List.getD_nil, DV.cells, List.map_cons, List.map_nil, List.all_cons, List.all_nil, one_d1, one_ptr, one_row, one_clo, one_if, one_int, one_bool, one_str, one_slice, one_ref, one_nilp, one_iface, one_nili, one_func, one_nilf, Bool.and_self, Bool.and_true, Bool.true_and, Bool.and_false, Bool.false_and, Bool.or_true, Bool.or_false, if_true, flat_comp, flat_map, List.mapM_cons, List.mapM_nil, DV.flat, Option.pure_def, Option.bind_eq_bind, Option.bind_some, Option.bind_none, Option.map_some, Option.map_none, dload, List.getElem?_cons_zero, List.getElem?_cons_succ, List.getElem?_nil, Nat.zero_add, Nat.add_zero, bne_self_eq_false, beq_self_eq_true, Bool.false_eq_true, if_false, DV.elems, ne_eq, not_true_eq_false, not_false_eq_true, Bool.not_true, Bool.not_false, beq_iff_eq, bne_iff_ne, reduceCtorEq, mask, DV.lows, DV.low, DV.coe, DV.isD, dresults, dresult, withHeap, List.take_zero, List.take_nil, dcallV_fn, dcallV_fnc, dcallV_clo, dcallV_yld, lowCells, LSt.isReady, DV.int, DV.mkAgg, List.drop_zero, List.drop_succ_cons, List.take_succ_cons, same, List.not_mem_nil, false_implies, implies_true, decide_true, decide_false, decide_eq_true_eq, Int.toNat_natCast, Int.natCast_nonneg, and_self, and_true, true_and, mnmx2, List.foldlM_cons, List.foldlM_nil, nilness, bound, fill, flatCells, List.length_append, List.length_map, Nat.le_refl, List.all_map, Function.comp_def, Bool.false_beq, Bool.true_beq, gt_iff_lt, ge_iff_le, cast_lit, Int.reduceLE, Int.reduceLT, Int.reduceAdd, Int.reduceSub, Int.reduceNeg, Int.reduceEq, Int.reduceBEq, Int.reduceBNe, Nat.reduceBEq, Bool.not_eq_true, Int.toNat_zero, Nat.zero_mul, Nat.reduceEqDiff, and_false, false_and, or_false, or_true, true_or, false_or, Int.le_refl, Int.lt_irrefl, Int.reduceToNat, allocCells, List.mem_cons, forall_eq_or_imp, forall_eq, List.append_assoc, List.length_set, List.set_set, DOut.val.injEq, V.enc, key, nums_enc]
end Go.Proofs.Ytoadpaaghjomnaa.Codes
