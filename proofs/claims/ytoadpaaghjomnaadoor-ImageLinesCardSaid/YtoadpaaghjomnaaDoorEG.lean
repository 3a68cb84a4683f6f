/-
  An image as a deep value; the look whether it is of few parts.
  Conditions: none.
-/
import Derived.Test.YtoadpaaghjomnaaDoorEF
set_option linter.unusedVariables false
set_option linter.unusedSimpArgs false
set_option maxRecDepth 100000
namespace Go.Proofs.YtoadpaaghjomnaaDoor.Codes
open Go.Deepv

structure Ent where
  name : ByteArray
  tk : Int
  tn : ByteArray
  tp : List T
  cap : Int
  fn : Int
def Ent.enc (x : Ent) : List FV := [.str x.name, .int .i64 x.tk, .str x.tn, .slice 3 (T.encs x.tp), .int .i64 x.cap, .int .i64 x.fn]
def Ent.fit (x : Ent) : Prop := x.tp.length ≤ 9223372036854775807 ∧ T.fits x.tp
structure Cp where
  words : Int
  steps : Int
  slots : Int
  event : Int
def Cp.enc (x : Cp) : List FV := [.int .i64 x.words, .int .i64 x.steps, .int .i64 x.slots, .int .i64 x.event]
structure Img where
  datas : List Data
  sk : Int
  sn : ByteArray
  sp : List T
  cap : Int
  queue : Int
  timers : Int
  hands : List Ent
  init : Int
  code : Cd
  words : Int
  load : Int
  slots : Int
  live : Int
  half : Int
  heap : Int
  tax : Int
  once : Int
  event : Int
  caps : List Cp
def Img.enc (x : Img) : List FV := [.slice 4 (x.datas.map Data.enc), .int .i64 x.sk, .str x.sn, .slice 3 (T.encs x.sp), .int .i64 x.cap, .int .i64 x.queue, .int .i64 x.timers, .slice 6 (x.hands.map Ent.enc), .int .i64 x.init,
  .slice 4 (x.code.funs.map Fn.enc), .slice 1 (x.code.texts.map rowF), .slice 1 (x.code.tables.map rowF), .int .i64 x.words, .int .i64 x.load, .int .i64 x.slots, .int .i64 x.live, .int .i64 x.half, .int .i64 x.heap, .int .i64 x.tax, .int .i64 x.once, .int .i64 x.event, .slice 4 (x.caps.map Cp.enc)]
structure Img.fit (x : Img) : Prop where
  datas : x.datas.length ≤ 9223372036854775807 ∧ ∀ d ∈ x.datas, d.fit
  state : x.sp.length ≤ 9223372036854775807 ∧ T.fits x.sp
  hands : x.hands.length ≤ 9223372036854775807 ∧ ∀ e ∈ x.hands, e.fit
  code : x.code.fit

def st8 (c : List FV) (left i : Int) : List DV := [.d .undef, .d (.ref c 0), .d .undef, .d (.int .i64 left), .d (.int .i64 i)] ++ List.replicate 59 (.d .undef)
def ex8 (c : List FV) (left : Int) : List DV := [.d .undef, .d (.ref c 0), .d .undef, .d (.int .i64 left)] ++ List.replicate 60 (.d .undef)

theorem loop8 (x : Img) (hf : x.fit) :
    ∀ (r p : List Ent), x.hands = p ++ r → ∀ (left : Int), ∃ q : Int, L env 0 true H8L3 X8L3 B8L3 (st8 x.enc left p.length) [] = some (.exit 0, ex8 x.enc q, []) ∧
      (left ≤ 1000 → q ≤ left ∧ (0 ≤ q → (∀ e ∈ r, e.name.size < 1000) ∧ (r.length : Int) ≤ left)) := by
  obtain ⟨K, hK⟩ : ∃ K, L env 0 true H8L3 X8L3 B8L3 = K := ⟨_, rfl⟩
  rw [hK]
  intro r
  induction r with
  | nil =>
    intro p hp left
    simp at hp
    refine ⟨left, ?_, fun h => ⟨Int.le_refl _, fun h0 => ⟨fun e he => by simp at he, by simpa using h0⟩⟩⟩
    rw [L_round hK]
    simp -implicitDefEqProofs only [B8L3, st8, ex8, Img.enc, dbody, dexec, dops_end, dops_step, ostep, dop, ev, put, wants, dbin, dun, List.replicate, List.length_cons, List.length_nil, Nat.reduceAdd, Nat.reduceSub, Nat.reduceLT, Nat.reduceLeDiff, Nat.reduceMul, List.cons_append, List.nil_append, List.append_nil, List.set_cons_zero, List.set_cons_succ, List.set_nil, List.getD_cons_zero, List.getD_cons_succ, List.getD_nil, DV.cells, List.map_cons, List.map_nil, List.all_cons, List.all_nil, one_d1, one_ptr, one_row, one_clo, one_if, one_int, one_bool, one_str, one_slice, one_ref, one_nilp, one_iface, one_nili, one_func, one_nilf, Bool.and_self, Bool.and_true, Bool.true_and, Bool.and_false, Bool.false_and, Bool.or_true, Bool.or_false, if_true, flat_comp, flat_map, List.mapM_cons, List.mapM_nil, DV.flat, Option.pure_def, Option.bind_eq_bind, Option.bind_some, Option.bind_none, Option.map_some, Option.map_none, dload, List.getElem?_cons_zero, List.getElem?_cons_succ, List.getElem?_nil, Nat.zero_add, Nat.add_zero, bne_self_eq_false, beq_self_eq_true, Bool.false_eq_true, if_false, DV.elems, ne_eq, not_true_eq_false, not_false_eq_true, Bool.not_true, Bool.not_false, beq_iff_eq, bne_iff_ne, reduceCtorEq, mask, DV.lows, DV.low, DV.coe, DV.isD, dresults, dresult, withHeap, List.take_zero, List.take_nil, dcallV_fn, dcallV_fnc, dcallV_clo, dcallV_yld, lowCells, LSt.isReady, srcElems, DV.int, DV.mkAgg, List.drop_zero, List.drop_succ_cons, List.take_succ_cons, same, List.not_mem_nil, false_implies, implies_true, decide_true, decide_false, decide_eq_true_eq, Int.toNat_natCast, Int.natCast_nonneg, and_self, and_true, true_and, mnmx2, List.foldlM_cons, List.foldlM_nil, nilness, bound, fill, flatCells, List.length_append, List.length_map, Nat.le_refl, List.all_map, Function.comp_def, Bool.false_beq, Bool.true_beq, gt_iff_lt, ge_iff_le, cast_lit, Int.reduceLE, Int.reduceLT, Int.reduceAdd, Int.reduceSub, Int.reduceNeg, Int.reduceEq, Int.reduceBEq, Int.reduceBNe, Nat.reduceBEq, Bool.not_eq_true, Int.toNat_zero, Nat.zero_mul, Nat.reduceEqDiff, and_false, false_and, or_false, or_true, true_or, false_or, Int.le_refl, Int.lt_irrefl, Int.reduceToNat, allocCells, List.mem_cons, forall_eq_or_imp, forall_eq, List.append_assoc, List.length_set, List.set_set, DOut.val.injEq, hp]
  | cons v r ihr =>
    intro p hp left
    have e1 : (p.length : Int) < x.hands.length := by rw [hp]; simp; omega
    have e3 : IntKind.i64.wrap (p.length + 1) = p.length + 1 := wrap_i64 (by omega) (by have hl := hf.hands.1; rw [hp] at hl; simp at hl; omega)
    have e4 : x.hands[p.length]? = some v := by rw [hp]; simp
    have e4' := map_at (f := Ent.enc) e4
    by_cases hlt : left < 0
    · have hn' : ¬ 0 ≤ left := by omega
      refine ⟨left, ?_, fun h => ⟨Int.le_refl _, fun h0 => absurd h0 hn'⟩⟩
      rw [L_round hK]
      simp -implicitDefEqProofs only [B8L3, st8, ex8, Img.enc, dbody, dexec, dops_end, dops_step, ostep, dop, ev, put, wants, dbin, dun, List.replicate, List.length_cons, List.length_nil, Nat.reduceAdd, Nat.reduceSub, Nat.reduceLT, Nat.reduceLeDiff, Nat.reduceMul, List.cons_append, List.nil_append, List.append_nil, List.set_cons_zero, List.set_cons_succ, List.set_nil, List.getD_cons_zero, List.getD_cons_succ, List.getD_nil, DV.cells, List.map_cons, List.map_nil, List.all_cons, List.all_nil, one_d1, one_ptr, one_row, one_clo, one_if, one_int, one_bool, one_str, one_slice, one_ref, one_nilp, one_iface, one_nili, one_func, one_nilf, Bool.and_self, Bool.and_true, Bool.true_and, Bool.and_false, Bool.false_and, Bool.or_true, Bool.or_false, if_true, flat_comp, flat_map, List.mapM_cons, List.mapM_nil, DV.flat, Option.pure_def, Option.bind_eq_bind, Option.bind_some, Option.bind_none, Option.map_some, Option.map_none, dload, List.getElem?_cons_zero, List.getElem?_cons_succ, List.getElem?_nil, Nat.zero_add, Nat.add_zero, bne_self_eq_false, beq_self_eq_true, Bool.false_eq_true, if_false, DV.elems, ne_eq, not_true_eq_false, not_false_eq_true, Bool.not_true, Bool.not_false, beq_iff_eq, bne_iff_ne, reduceCtorEq, mask, DV.lows, DV.low, DV.coe, DV.isD, dresults, dresult, withHeap, List.take_zero, List.take_nil, dcallV_fn, dcallV_fnc, dcallV_clo, dcallV_yld, lowCells, LSt.isReady, srcElems, DV.int, DV.mkAgg, List.drop_zero, List.drop_succ_cons, List.take_succ_cons, same, List.not_mem_nil, false_implies, implies_true, decide_true, decide_false, decide_eq_true_eq, Int.toNat_natCast, Int.natCast_nonneg, and_self, and_true, true_and, mnmx2, List.foldlM_cons, List.foldlM_nil, nilness, bound, fill, flatCells, List.length_append, List.length_map, Nat.le_refl, List.all_map, Function.comp_def, Bool.false_beq, Bool.true_beq, gt_iff_lt, ge_iff_le, cast_lit, Int.reduceLE, Int.reduceLT, Int.reduceAdd, Int.reduceSub, Int.reduceNeg, Int.reduceEq, Int.reduceBEq, Int.reduceBNe, Nat.reduceBEq, Bool.not_eq_true, Int.toNat_zero, Nat.zero_mul, Nat.reduceEqDiff, and_false, false_and, or_false, or_true, true_or, false_or, Int.le_refl, Int.lt_irrefl, Int.reduceToNat, allocCells, List.mem_cons, forall_eq_or_imp, forall_eq, List.append_assoc, List.length_set, List.set_set, DOut.val.injEq, e1, hlt, hn']
    · have hl' : 0 ≤ left := by omega
      have hv := hf.hands.2 v (by rw [hp]; simp)
      obtain ⟨q1, hq1, b1⟩ := tlight_ok (T.mk v.tk v.tn v.tp) (by simp only [T.fit]; exact hv) (IntKind.i64.wrap (IntKind.i64.wrap (left - 1) - (if (1000 : Int) < (v.name.size : Int) then 1000 else (v.name.size : Int)))) []
      obtain ⟨q2, hq2, b2⟩ := ihr (p ++ [v]) (by simp [hp]) q1
      refine ⟨q2, ?_, fun h => ?_⟩
      · rw [L_round hK]
        simp [st8, ex8, Img.enc, List.replicate] at hq2
        simp only [T.enc] at hq1
        simp -implicitDefEqProofs only [B8L3, st8, ex8, Img.enc, Ent.enc, dbody, dexec, dops_end, dops_step, ostep, dop, ev, put, wants, dbin, dun, List.replicate, List.length_cons, List.length_nil, Nat.reduceAdd, Nat.reduceSub, Nat.reduceLT, Nat.reduceLeDiff, Nat.reduceMul, List.cons_append, List.nil_append, List.append_nil, List.set_cons_zero, List.set_cons_succ, List.set_nil, List.getD_cons_zero, List.getD_cons_succ, List.getD_nil, DV.cells, List.map_cons, List.map_nil, List.all_cons, List.all_nil, one_d1, one_ptr, one_row, one_clo, one_if, one_int, one_bool, one_str, one_slice, one_ref, one_nilp, one_iface, one_nili, one_func, one_nilf, Bool.and_self, Bool.and_true, Bool.true_and, Bool.and_false, Bool.false_and, Bool.or_true, Bool.or_false, if_true, flat_comp, flat_map, List.mapM_cons, List.mapM_nil, DV.flat, Option.pure_def, Option.bind_eq_bind, Option.bind_some, Option.bind_none, Option.map_some, Option.map_none, dload, List.getElem?_cons_zero, List.getElem?_cons_succ, List.getElem?_nil, Nat.zero_add, Nat.add_zero, bne_self_eq_false, beq_self_eq_true, Bool.false_eq_true, if_false, DV.elems, ne_eq, not_true_eq_false, not_false_eq_true, Bool.not_true, Bool.not_false, beq_iff_eq, bne_iff_ne, reduceCtorEq, mask, DV.lows, DV.low, DV.coe, DV.isD, dresults, dresult, withHeap, List.take_zero, List.take_nil, dcallV_fn, dcallV_fnc, dcallV_clo, dcallV_yld, lowCells, LSt.isReady, srcElems, DV.int, DV.mkAgg, List.drop_zero, List.drop_succ_cons, List.take_succ_cons, same, List.not_mem_nil, false_implies, implies_true, decide_true, decide_false, decide_eq_true_eq, Int.toNat_natCast, Int.natCast_nonneg, and_self, and_true, true_and, mnmx2, List.foldlM_cons, List.foldlM_nil, nilness, bound, fill, flatCells, List.length_append, List.length_map, Nat.le_refl, List.all_map, Function.comp_def, Bool.false_beq, Bool.true_beq, gt_iff_lt, ge_iff_le, cast_lit, Int.reduceLE, Int.reduceLT, Int.reduceAdd, Int.reduceSub, Int.reduceNeg, Int.reduceEq, Int.reduceBEq, Int.reduceBNe, Nat.reduceBEq, Bool.not_eq_true, Int.toNat_zero, Nat.zero_mul, Nat.reduceEqDiff, and_false, false_and, or_false, or_true, true_or, false_or, Int.le_refl, Int.lt_irrefl, Int.reduceToNat, allocCells, List.mem_cons, forall_eq_or_imp, forall_eq, List.append_assoc, List.length_set, List.set_set, DOut.val.injEq, e1, e3, e4, e4', hlt, hl', hq1, hq2]
      · rw [wrap_i64 (n := left - 1) (by omega) (by omega), wrap_i64 (by split <;> omega) (by split <;> omega)] at b1
        have b1' := b1 (by split <;> omega) (by split <;> omega)
        have b2' := b2 (by split at b1' <;> omega)
        refine ⟨by split at b1' <;> omega, fun h0 => ?_⟩
        obtain ⟨c1, c2⟩ := b2'.2 h0
        refine ⟨fun e he => ?_, ?_⟩
        · rcases List.mem_cons.1 he with rfl | he
          · split at b1' <;> omega
          · exact c1 e he
        · simp only [List.length_cons]
          split at b1' <;> omega

theorem tiny_ok (x : Img) (hf : x.fit) (h : List Res) : ∃ b : Bool, D env 8 [.d (.agg x.enc)] h = some (.val (.d (.bool b)) h) ∧
    (b = true → (∀ e ∈ x.hands, e.name.size < 1000) ∧ x.hands.length ≤ 1000 ∧ x.caps.length ≤ 100) := by
  obtain ⟨q0, h0, b0⟩ := tlight_ok (T.mk x.sk x.sn x.sp) (by simp only [T.fit]; exact hf.state) 1000 []
  obtain ⟨q1, h1, b1⟩ := loop8 x hf x.hands [] rfl q0
  obtain ⟨q2, h2⟩ := lightProg_ok x.datas hf.datas.1 hf.datas.2 2000 []
  obtain ⟨b3, h3⟩ := lightCode_ok x.code hf.code 2000 []
  have c0 := b0 (by omega) (by omega)
  have c1 := b1 (by omega)
  simp [st8, ex8, Img.enc, List.replicate] at h1
  simp only [T.enc] at h0
  simp only [progC] at h2
  simp only [Cd.enc] at h3
  by_cases g1 : 0 ≤ q1
  · have c2 := c1.2 g1
    by_cases g2 : (x.caps.length : Int) ≤ 100
    · by_cases g3 : (x.datas.length : Int) ≤ 60
      · by_cases g4 : 0 ≤ q2
        · refine ⟨b3, ?_, fun _ => ⟨c2.1, by omega, by omega⟩⟩
          rw [D_dat (F := A8) rfl rfl rfl rfl]
          simp -implicitDefEqProofs only [A8, B8, Img.enc, dbody, dexec, dops_end, dops_step, ostep, dop, ev, put, wants, dbin, dun, List.replicate, List.length_cons, List.length_nil, Nat.reduceAdd, Nat.reduceSub, Nat.reduceLT, Nat.reduceLeDiff, Nat.reduceMul, List.cons_append, List.nil_append, List.append_nil, List.set_cons_zero, List.set_cons_succ, List.set_nil, List.getD_cons_zero, List.getD_cons_succ, List.getD_nil, DV.cells, List.map_cons, List.map_nil, List.all_cons, List.all_nil, one_d1, one_ptr, one_row, one_clo, one_if, one_int, one_bool, one_str, one_slice, one_ref, one_nilp, one_iface, one_nili, one_func, one_nilf, Bool.and_self, Bool.and_true, Bool.true_and, Bool.and_false, Bool.false_and, Bool.or_true, Bool.or_false, if_true, flat_comp, flat_map, List.mapM_cons, List.mapM_nil, DV.flat, Option.pure_def, Option.bind_eq_bind, Option.bind_some, Option.bind_none, Option.map_some, Option.map_none, dload, List.getElem?_cons_zero, List.getElem?_cons_succ, List.getElem?_nil, Nat.zero_add, Nat.add_zero, bne_self_eq_false, beq_self_eq_true, Bool.false_eq_true, if_false, DV.elems, ne_eq, not_true_eq_false, not_false_eq_true, Bool.not_true, Bool.not_false, beq_iff_eq, bne_iff_ne, reduceCtorEq, mask, DV.lows, DV.low, DV.coe, DV.isD, dresults, dresult, withHeap, List.take_zero, List.take_nil, dcallV_fn, dcallV_fnc, dcallV_clo, dcallV_yld, lowCells, LSt.isReady, srcElems, DV.int, DV.mkAgg, List.drop_zero, List.drop_succ_cons, List.take_succ_cons, same, List.not_mem_nil, false_implies, implies_true, decide_true, decide_false, decide_eq_true_eq, Int.toNat_natCast, Int.natCast_nonneg, and_self, and_true, true_and, mnmx2, List.foldlM_cons, List.foldlM_nil, nilness, bound, fill, flatCells, List.length_append, List.length_map, Nat.le_refl, List.all_map, Function.comp_def, Bool.false_beq, Bool.true_beq, gt_iff_lt, ge_iff_le, cast_lit, Int.reduceLE, Int.reduceLT, Int.reduceAdd, Int.reduceSub, Int.reduceNeg, Int.reduceEq, Int.reduceBEq, Int.reduceBNe, Nat.reduceBEq, Bool.not_eq_true, Int.toNat_zero, Nat.zero_mul, Nat.reduceEqDiff, and_false, false_and, or_false, or_true, true_or, false_or, Int.le_refl, Int.lt_irrefl, Int.reduceToNat, allocCells, List.mem_cons, forall_eq_or_imp, forall_eq, List.append_assoc, List.length_set, List.set_set, DOut.val.injEq, h0, h1, h2, h3, g1, g2, g3, g4]
        · refine ⟨false, ?_, fun h => by cases h⟩
          rw [D_dat (F := A8) rfl rfl rfl rfl]
          simp -implicitDefEqProofs only [A8, B8, Img.enc, dbody, dexec, dops_end, dops_step, ostep, dop, ev, put, wants, dbin, dun, List.replicate, List.length_cons, List.length_nil, Nat.reduceAdd, Nat.reduceSub, Nat.reduceLT, Nat.reduceLeDiff, Nat.reduceMul, List.cons_append, List.nil_append, List.append_nil, List.set_cons_zero, List.set_cons_succ, List.set_nil, List.getD_cons_zero, List.getD_cons_succ, List.getD_nil, DV.cells, List.map_cons, List.map_nil, List.all_cons, List.all_nil, one_d1, one_ptr, one_row, one_clo, one_if, one_int, one_bool, one_str, one_slice, one_ref, one_nilp, one_iface, one_nili, one_func, one_nilf, Bool.and_self, Bool.and_true, Bool.true_and, Bool.and_false, Bool.false_and, Bool.or_true, Bool.or_false, if_true, flat_comp, flat_map, List.mapM_cons, List.mapM_nil, DV.flat, Option.pure_def, Option.bind_eq_bind, Option.bind_some, Option.bind_none, Option.map_some, Option.map_none, dload, List.getElem?_cons_zero, List.getElem?_cons_succ, List.getElem?_nil, Nat.zero_add, Nat.add_zero, bne_self_eq_false, beq_self_eq_true, Bool.false_eq_true, if_false, DV.elems, ne_eq, not_true_eq_false, not_false_eq_true, Bool.not_true, Bool.not_false, beq_iff_eq, bne_iff_ne, reduceCtorEq, mask, DV.lows, DV.low, DV.coe, DV.isD, dresults, dresult, withHeap, List.take_zero, List.take_nil, dcallV_fn, dcallV_fnc, dcallV_clo, dcallV_yld, lowCells, LSt.isReady, srcElems, DV.int, DV.mkAgg, List.drop_zero, List.drop_succ_cons, List.take_succ_cons, same, List.not_mem_nil, false_implies, implies_true, decide_true, decide_false, decide_eq_true_eq, Int.toNat_natCast, Int.natCast_nonneg, and_self, and_true, true_and, mnmx2, List.foldlM_cons, List.foldlM_nil, nilness, bound, fill, flatCells, List.length_append, List.length_map, Nat.le_refl, List.all_map, Function.comp_def, Bool.false_beq, Bool.true_beq, gt_iff_lt, ge_iff_le, cast_lit, Int.reduceLE, Int.reduceLT, Int.reduceAdd, Int.reduceSub, Int.reduceNeg, Int.reduceEq, Int.reduceBEq, Int.reduceBNe, Nat.reduceBEq, Bool.not_eq_true, Int.toNat_zero, Nat.zero_mul, Nat.reduceEqDiff, and_false, false_and, or_false, or_true, true_or, false_or, Int.le_refl, Int.lt_irrefl, Int.reduceToNat, allocCells, List.mem_cons, forall_eq_or_imp, forall_eq, List.append_assoc, List.length_set, List.set_set, DOut.val.injEq, h0, h1, h2, h3, g1, g2, g3, g4]
      · refine ⟨false, ?_, fun h => by cases h⟩
        rw [D_dat (F := A8) rfl rfl rfl rfl]
        simp -implicitDefEqProofs only [A8, B8, Img.enc, dbody, dexec, dops_end, dops_step, ostep, dop, ev, put, wants, dbin, dun, List.replicate, List.length_cons, List.length_nil, Nat.reduceAdd, Nat.reduceSub, Nat.reduceLT, Nat.reduceLeDiff, Nat.reduceMul, List.cons_append, List.nil_append, List.append_nil, List.set_cons_zero, List.set_cons_succ, List.set_nil, List.getD_cons_zero, List.getD_cons_succ, List.getD_nil, DV.cells, List.map_cons, List.map_nil, List.all_cons, List.all_nil, one_d1, one_ptr, one_row, one_clo, one_if, one_int, one_bool, one_str, one_slice, one_ref, one_nilp, one_iface, one_nili, one_func, one_nilf, Bool.and_self, Bool.and_true, Bool.true_and, Bool.and_false, Bool.false_and, Bool.or_true, Bool.or_false, if_true, flat_comp, flat_map, List.mapM_cons, List.mapM_nil, DV.flat, Option.pure_def, Option.bind_eq_bind, Option.bind_some, Option.bind_none, Option.map_some, Option.map_none, dload, List.getElem?_cons_zero, List.getElem?_cons_succ, List.getElem?_nil, Nat.zero_add, Nat.add_zero, bne_self_eq_false, beq_self_eq_true, Bool.false_eq_true, if_false, DV.elems, ne_eq, not_true_eq_false, not_false_eq_true, Bool.not_true, Bool.not_false, beq_iff_eq, bne_iff_ne, reduceCtorEq, mask, DV.lows, DV.low, DV.coe, DV.isD, dresults, dresult, withHeap, List.take_zero, List.take_nil, dcallV_fn, dcallV_fnc, dcallV_clo, dcallV_yld, lowCells, LSt.isReady, srcElems, DV.int, DV.mkAgg, List.drop_zero, List.drop_succ_cons, List.take_succ_cons, same, List.not_mem_nil, false_implies, implies_true, decide_true, decide_false, decide_eq_true_eq, Int.toNat_natCast, Int.natCast_nonneg, and_self, and_true, true_and, mnmx2, List.foldlM_cons, List.foldlM_nil, nilness, bound, fill, flatCells, List.length_append, List.length_map, Nat.le_refl, List.all_map, Function.comp_def, Bool.false_beq, Bool.true_beq, gt_iff_lt, ge_iff_le, cast_lit, Int.reduceLE, Int.reduceLT, Int.reduceAdd, Int.reduceSub, Int.reduceNeg, Int.reduceEq, Int.reduceBEq, Int.reduceBNe, Nat.reduceBEq, Bool.not_eq_true, Int.toNat_zero, Nat.zero_mul, Nat.reduceEqDiff, and_false, false_and, or_false, or_true, true_or, false_or, Int.le_refl, Int.lt_irrefl, Int.reduceToNat, allocCells, List.mem_cons, forall_eq_or_imp, forall_eq, List.append_assoc, List.length_set, List.set_set, DOut.val.injEq, h0, h1, h2, h3, g1, g2, g3]
    · refine ⟨false, ?_, fun h => by cases h⟩
      rw [D_dat (F := A8) rfl rfl rfl rfl]
      simp -implicitDefEqProofs only [A8, B8, Img.enc, dbody, dexec, dops_end, dops_step, ostep, dop, ev, put, wants, dbin, dun, List.replicate, List.length_cons, List.length_nil, Nat.reduceAdd, Nat.reduceSub, Nat.reduceLT, Nat.reduceLeDiff, Nat.reduceMul, List.cons_append, List.nil_append, List.append_nil, List.set_cons_zero, List.set_cons_succ, List.set_nil, List.getD_cons_zero, List.getD_cons_succ, List.getD_nil, DV.cells, List.map_cons, List.map_nil, List.all_cons, List.all_nil, one_d1, one_ptr, one_row, one_clo, one_if, one_int, one_bool, one_str, one_slice, one_ref, one_nilp, one_iface, one_nili, one_func, one_nilf, Bool.and_self, Bool.and_true, Bool.true_and, Bool.and_false, Bool.false_and, Bool.or_true, Bool.or_false, if_true, flat_comp, flat_map, List.mapM_cons, List.mapM_nil, DV.flat, Option.pure_def, Option.bind_eq_bind, Option.bind_some, Option.bind_none, Option.map_some, Option.map_none, dload, List.getElem?_cons_zero, List.getElem?_cons_succ, List.getElem?_nil, Nat.zero_add, Nat.add_zero, bne_self_eq_false, beq_self_eq_true, Bool.false_eq_true, if_false, DV.elems, ne_eq, not_true_eq_false, not_false_eq_true, Bool.not_true, Bool.not_false, beq_iff_eq, bne_iff_ne, reduceCtorEq, mask, DV.lows, DV.low, DV.coe, DV.isD, dresults, dresult, withHeap, List.take_zero, List.take_nil, dcallV_fn, dcallV_fnc, dcallV_clo, dcallV_yld, lowCells, LSt.isReady, srcElems, DV.int, DV.mkAgg, List.drop_zero, List.drop_succ_cons, List.take_succ_cons, same, List.not_mem_nil, false_implies, implies_true, decide_true, decide_false, decide_eq_true_eq, Int.toNat_natCast, Int.natCast_nonneg, and_self, and_true, true_and, mnmx2, List.foldlM_cons, List.foldlM_nil, nilness, bound, fill, flatCells, List.length_append, List.length_map, Nat.le_refl, List.all_map, Function.comp_def, Bool.false_beq, Bool.true_beq, gt_iff_lt, ge_iff_le, cast_lit, Int.reduceLE, Int.reduceLT, Int.reduceAdd, Int.reduceSub, Int.reduceNeg, Int.reduceEq, Int.reduceBEq, Int.reduceBNe, Nat.reduceBEq, Bool.not_eq_true, Int.toNat_zero, Nat.zero_mul, Nat.reduceEqDiff, and_false, false_and, or_false, or_true, true_or, false_or, Int.le_refl, Int.lt_irrefl, Int.reduceToNat, allocCells, List.mem_cons, forall_eq_or_imp, forall_eq, List.append_assoc, List.length_set, List.set_set, DOut.val.injEq, h0, h1, h2, h3, g1, g2]
  · refine ⟨false, ?_, fun h => by cases h⟩
    rw [D_dat (F := A8) rfl rfl rfl rfl]
    simp -implicitDefEqProofs only [A8, B8, Img.enc, dbody, dexec, dops_end, dops_step, ostep, dop, ev, put, wants, dbin, dun, List.replicate, List.length_cons, List.length_nil, Nat.reduceAdd, Nat.reduceSub, Nat.reduceLT, Nat.reduceLeDiff, Nat.reduceMul, List.cons_append, List.nil_append, List.append_nil, List.set_cons_zero, List.set_cons_succ, List.set_nil, List.getD_cons_zero, List.getD_cons_succ, List.getD_nil, DV.cells, List.map_cons, List.map_nil, List.all_cons, List.all_nil, one_d1, one_ptr, one_row, one_clo, one_if, one_int, one_bool, one_str, one_slice, one_ref, one_nilp, one_iface, one_nili, one_func, one_nilf, Bool.and_self, Bool.and_true, Bool.true_and, Bool.and_false, Bool.false_and, Bool.or_true, Bool.or_false, if_true, flat_comp, flat_map, List.mapM_cons, List.mapM_nil, DV.flat, Option.pure_def, Option.bind_eq_bind, Option.bind_some, Option.bind_none, Option.map_some, Option.map_none, dload, List.getElem?_cons_zero, List.getElem?_cons_succ, List.getElem?_nil, Nat.zero_add, Nat.add_zero, bne_self_eq_false, beq_self_eq_true, Bool.false_eq_true, if_false, DV.elems, ne_eq, not_true_eq_false, not_false_eq_true, Bool.not_true, Bool.not_false, beq_iff_eq, bne_iff_ne, reduceCtorEq, mask, DV.lows, DV.low, DV.coe, DV.isD, dresults, dresult, withHeap, List.take_zero, List.take_nil, dcallV_fn, dcallV_fnc, dcallV_clo, dcallV_yld, lowCells, LSt.isReady, srcElems, DV.int, DV.mkAgg, List.drop_zero, List.drop_succ_cons, List.take_succ_cons, same, List.not_mem_nil, false_implies, implies_true, decide_true, decide_false, decide_eq_true_eq, Int.toNat_natCast, Int.natCast_nonneg, and_self, and_true, true_and, mnmx2, List.foldlM_cons, List.foldlM_nil, nilness, bound, fill, flatCells, List.length_append, List.length_map, Nat.le_refl, List.all_map, Function.comp_def, Bool.false_beq, Bool.true_beq, gt_iff_lt, ge_iff_le, cast_lit, Int.reduceLE, Int.reduceLT, Int.reduceAdd, Int.reduceSub, Int.reduceNeg, Int.reduceEq, Int.reduceBEq, Int.reduceBNe, Nat.reduceBEq, Bool.not_eq_true, Int.toNat_zero, Nat.zero_mul, Nat.reduceEqDiff, and_false, false_and, or_false, or_true, true_or, false_or, Int.le_refl, Int.lt_irrefl, Int.reduceToNat, allocCells, List.mem_cons, forall_eq_or_imp, forall_eq, List.append_assoc, List.length_set, List.set_set, DOut.val.injEq, h0, h1, h2, h3, g1]
end Go.Proofs.YtoadpaaghjomnaaDoor.Codes
