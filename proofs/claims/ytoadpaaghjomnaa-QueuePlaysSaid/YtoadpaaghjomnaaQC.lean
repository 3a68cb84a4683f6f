/-
  The queue's own functions, by the deep machine.
  Conditions: none.
-/
import Derived.Test.YtoadpaaghjomnaaQB
set_option linter.unusedVariables false
set_option linter.unusedSimpArgs false
set_option maxRecDepth 100000
namespace Go.Proofs.Ytoadpaaghjomnaa.Codes
open Go.Deepv

def qc (ring : List (List FV)) (f n m : Nat) : List DV := ring.flatten.map .d ++ [.d (.int .i64 f), .d (.int .i64 n), .d (.int .i64 m)]
structure RingOk (ring : List (List FV)) : Prop where
  len : ring.length = 32
  each : ∀ c ∈ ring, c.length = 7 ∧ c.all FV.one = true

theorem flat_len : ∀ (ring : List (List FV)), (∀ c ∈ ring, c.length = 7) → ring.flatten.length = ring.length * 7
  | [], _ => rfl
  | c :: r, h => by
    have := flat_len r fun c hc => h c (by simp [hc])
    simp [h c (by simp), this]
    omega
theorem flat_take : ∀ (ring : List (List FV)), (∀ c ∈ ring, c.length = 7) → ∀ (i : Nat) (x : List FV), ring[i]? = some x → (ring.flatten.drop (i * 7)).take 7 = x
  | [], _, i, x, hx => by simp at hx
  | c :: r, h, 0, x, hx => by
    simp at hx
    subst hx
    have := h c (by simp)
    simp [← this]
  | c :: r, h, i + 1, x, hx => by
    have hc := h c (by simp)
    have := flat_take r (fun c hc => h c (by simp [hc])) i x (by simpa using hx)
    rw [List.flatten_cons, List.drop_append, hc, List.drop_of_length_le (by rw [hc]; omega)]
    rw [show (i + 1) * 7 - 7 = i * 7 from by omega]
    simpa using this
theorem flat_set : ∀ (ring : List (List FV)), (∀ c ∈ ring, c.length = 7) → ∀ (i : Nat) (x : List FV), i < ring.length → ring.flatten.take (i * 7) ++ x ++ ring.flatten.drop (i * 7 + 7) = (ring.set i x).flatten
  | [], _, i, x, hx => by simp at hx
  | c :: r, h, 0, x, hx => by
    have := h c (by simp)
    simp [← this]
  | c :: r, h, i + 1, x, hx => by
    have hc := h c (by simp)
    have := flat_set r (fun c hc => h c (by simp [hc])) i x (by simpa using hx)
    rw [List.set_cons_succ, List.flatten_cons, List.flatten_cons, ← this, List.take_append, List.drop_append, hc, List.take_of_length_le (by rw [hc]; omega), List.drop_of_length_le (by rw [hc]; omega)]
    rw [show (i + 1) * 7 - 7 = i * 7 from by omega, show (i + 1) * 7 + 7 - 7 = i * 7 + 7 from by omega]
    simp

variable {ring : List (List FV)} {f n m : Nat}
theorem qc_ring (hr : RingOk ring) : ring.flatten.length = 224 := by rw [flat_len ring fun c hc => (hr.each c hc).1, hr.len]
theorem qc_len (hr : RingOk ring) : (qc ring f n m).length = 227 := by
  have h := qc_ring hr
  unfold qc
  generalize ring.flatten = g at h ⊢
  simp [h]
theorem qc_224 (hr : RingOk ring) : (qc ring f n m)[224]? = some (.d (.int .i64 f)) := by
  have h := qc_ring hr
  unfold qc
  generalize ring.flatten = g at h ⊢
  simp [List.getElem?_append, h]
theorem qc_225 (hr : RingOk ring) : (qc ring f n m)[225]? = some (.d (.int .i64 n)) := by
  have h := qc_ring hr
  unfold qc
  generalize ring.flatten = g at h ⊢
  simp [List.getElem?_append, h]
theorem qc_226 (hr : RingOk ring) : (qc ring f n m)[226]? = some (.d (.int .i64 m)) := by
  have h := qc_ring hr
  unfold qc
  generalize ring.flatten = g at h ⊢
  simp [List.getElem?_append, h]
theorem qc_at (hr : RingOk ring) {i : Nat} {x : List FV} (hx : ring[i]? = some x) : List.take 7 (List.drop (i * 7) (qc ring f n m)) = x.map .d := by
  have h1 := qc_ring hr
  have hi : i < 32 := by rw [← hr.len]; exact (List.getElem?_eq_some_iff.1 hx).1
  have h2 := flat_take ring (fun c hc => (hr.each c hc).1) i x hx
  rw [qc, List.drop_append, List.take_append]
  have e1 : i * 7 - (List.map DV.d ring.flatten).length = 0 := by simp only [List.length_map, h1]; omega
  have e2 : 7 - (List.drop (i * 7) (List.map DV.d ring.flatten)).length = 0 := by simp only [List.length_drop, List.length_map, h1]; omega
  rw [e1, e2, ← List.map_drop, ← List.map_take, h2]
  simp
theorem lows_d (k : Nat) : ∀ c : List FV, DV.lows k (c.map .d) = true
  | [] => rfl
  | x :: c => by simp [DV.lows, DV.low, lows_d k c]
theorem one_d (c : List FV) : (c.map DV.d).all DV.one = c.all FV.one := by
  induction c with
  | nil => rfl
  | cons x c ih => rw [List.map_cons, List.all_cons, List.all_cons, ih]; rfl
theorem qc_put (hr : RingOk ring) {i : Nat} (hi : i < 32) {x : List FV} (hx : x.length = 7) (hx1 : x.all FV.one = true) : putCells (qc ring f n m) (i * 7) (x.map .d) = some (qc (ring.set i x) f n m) := by
  have h1 := qc_ring hr
  have h2 := flat_set ring (fun c hc => (hr.each c hc).1) i x (by rw [hr.len]; exact hi)
  have c1 : i * 7 + (x.map DV.d).length ≤ (qc ring f n m).length ∧ (x.map DV.d).all DV.one = true := by
    rw [qc_len hr, one_d, List.length_map, hx]
    exact ⟨by omega, hx1⟩
  rw [putCells, if_pos c1]
  congr 1
  simp only [qc]
  rw [← h2, List.take_append, List.drop_append, List.length_map, List.length_map, hx, h1]
  rw [show i * 7 - 224 = 0 from by omega, show i * 7 + 7 - 224 = 0 from by omega]
  simp [List.map_take, List.map_drop]
theorem qc_put224 (hr : RingOk ring) (k : Nat) : putCells (qc ring f n m) 224 [.d (.int .i64 k)] = some (qc ring k n m) := by
  have h1 := qc_ring hr
  have c1 : 224 + ([.d (.int .i64 k)] : List DV).length ≤ (qc ring f n m).length ∧ ([.d (.int .i64 k)] : List DV).all DV.one = true := by rw [qc_len hr]; simp [DV.one, FV.one]
  rw [putCells, if_pos c1]
  clear c1
  unfold qc
  generalize ring.flatten = g at h1 ⊢
  simp [List.take_append, List.drop_append, h1, List.take_of_length_le, List.drop_of_length_le]
theorem qc_put225 (hr : RingOk ring) (k : Nat) : putCells (qc ring f n m) 225 [.d (.int .i64 k)] = some (qc ring f k m) := by
  have h1 := qc_ring hr
  have c1 : 225 + ([.d (.int .i64 k)] : List DV).length ≤ (qc ring f n m).length ∧ ([.d (.int .i64 k)] : List DV).all DV.one = true := by rw [qc_len hr]; simp [DV.one, FV.one]
  rw [putCells, if_pos c1]
  clear c1
  unfold qc
  generalize ring.flatten = g at h1 ⊢
  simp [List.take_append, List.drop_append, h1, List.take_of_length_le, List.drop_of_length_le]
theorem set_ok (hr : RingOk ring) {i : Nat} {x : List FV} (hx : x.length = 7) (hx1 : x.all FV.one = true) : RingOk (ring.set i x) := by
  refine ⟨by simp [hr.len], fun c hc => ?_⟩
  rcases List.mem_or_eq_of_mem_set hc with h | h
  · exact hr.each c h
  · rw [h]; exact ⟨hx, hx1⟩
theorem put_all {cells new : List DV} (h : new.length = cells.length) (h1 : new.all DV.one = true) : putCells cells 0 new = some new := by
  have c1 : 0 + new.length ≤ cells.length ∧ new.all DV.one = true := ⟨by omega, h1⟩
  rw [putCells, if_pos c1]
  simp [h]
theorem get_set {h : List Res} {id : Nat} (hlt : id < h.length) (x : Res) : (h.set id x)[id]? = some x := by simp [hlt]
theorem take_set (h : List Res) (id : Nat) (x : Res) : (h.set id x).take h.length = h.set id x := by rw [List.take_of_length_le (by simp)]

/-- Len -/
theorem len_ok (hr : RingOk ring) {id : Nat} {h : List Res} (hq : h[id]? = some (.box (qc ring f n m))) : D env 15 [.ptr id 0] h = some (.val (.d (.int .i64 n)) h) := by
  rw [D_own (F := A15) rfl rfl rfl rfl]
  simp -implicitDefEqProofs only [A15, B15, dbody, dexec, dops, dop, ev, put, wants, dbin, dun, List.replicate, List.length_cons, List.length_nil, Nat.reduceAdd, Nat.reduceSub, Nat.reduceLT, Nat.reduceLeDiff, Nat.reduceMul, List.cons_append, List.nil_append, List.append_nil, List.set_cons_zero, List.set_cons_succ, List.set_nil, List.getD_cons_zero, List.getD_cons_succ, List.getD_nil, DV.cells, List.map_cons, List.map_nil, List.all_cons, List.all_nil, one_d1, one_ptr, one_row, one_clo, one_if, one_int, one_bool, one_str, one_slice, one_ref, one_nilp, one_iface, one_nili, one_func, one_nilf, Bool.and_self, Bool.and_true, Bool.true_and, Bool.and_false, Bool.false_and, Bool.or_true, Bool.or_false, if_true, flat_comp, flat_map, List.mapM_cons, List.mapM_nil, DV.flat, Option.pure_def, Option.bind_eq_bind, Option.bind_some, Option.bind_none, Option.map_some, Option.map_none, dload, List.getElem?_cons_zero, List.getElem?_cons_succ, List.getElem?_nil, Nat.zero_add, Nat.add_zero, bne_self_eq_false, beq_self_eq_true, Bool.false_eq_true, if_false, DV.elems, ne_eq, not_true_eq_false, not_false_eq_true, Bool.not_true, Bool.not_false, beq_iff_eq, bne_iff_ne, reduceCtorEq, mask, DV.lows, DV.low, DV.coe, DV.isD, dresults, dresult, withHeap, List.take_zero, List.take_nil, dcallV_fn, dcallV_fnc, dcallV_clo, dcallV_yld, lowCells, LSt.isReady, DV.int, DV.mkAgg, List.drop_zero, List.drop_succ_cons, List.take_succ_cons, same, List.not_mem_nil, false_implies, implies_true, decide_true, decide_false, decide_eq_true_eq, Int.toNat_natCast, Int.natCast_nonneg, and_self, and_true, true_and, mnmx2, List.foldlM_cons, List.foldlM_nil, nilness, bound, fill, flatCells, List.length_append, List.length_map, Nat.le_refl, List.all_map, Function.comp_def, Bool.false_beq, Bool.true_beq, gt_iff_lt, ge_iff_le, cast_lit, Int.reduceLE, Int.reduceLT, Int.reduceAdd, Int.reduceSub, Int.reduceNeg, Int.reduceEq, Int.reduceBEq, Int.reduceBNe, Nat.reduceBEq, Bool.not_eq_true, Int.toNat_zero, Nat.zero_mul, Nat.reduceEqDiff, and_false, false_and, or_false, or_true, true_or, false_or, Int.le_refl, Int.lt_irrefl, Int.reduceToNat, allocCells, List.mem_cons, forall_eq_or_imp, forall_eq, List.append_assoc, List.length_set, List.set_set, DOut.val.injEq, hq, qc_225 hr, List.take_length]

/-- Put, with room -/
theorem put_ok (hr : RingOk ring) (hf : f < 32) (hm : m ≤ 32) (hn : n < m) {id : Nat} {h : List Res} (hq : h[id]? = some (.box (qc ring f n m))) {x : List FV} (hx : x.length = 7) (hx1 : x.all FV.one = true) :
    D env 13 [.ptr id 0, .d (.agg x)] h = some (.val (.d (.int .i64 0)) (h.set id (.box (qc (ring.set ((f + n) % 32) x) f (n + 1) m)))) := by
  have hlt : id < h.length := (List.getElem?_eq_some_iff.1 hq).1
  have hne : ((n : Int) == (m : Int)) = false := by simp; omega
  have w1 : IntKind.i64.wrap ((f : Int) + (n : Int)) = ((f + n : Nat) : Int) := by rw [wrap_i64 (by omega) (by omega)]; omega
  have w2 : ((f + n : Nat) : Int).tmod 32 = (((f + n) % 32 : Nat) : Int) := by rw [Int.tmod_eq_emod_of_nonneg (by omega)]; omega
  have w3 : IntKind.i64.wrap ((n : Int) + 1) = ((n + 1 : Nat) : Int) := by rw [wrap_i64 (by omega) (by omega)]; omega
  have w4 : (((f + n) % 32 : Nat) : Int) < 32 := by omega
  have hi : (f + n) % 32 < 32 := Nat.mod_lt _ (by omega)
  have hr2 := set_ok (i := (f + n) % 32) hr hx hx1
  have hx2 : x.all (fun x => x.one) = true := hx1
  rw [D_own (F := A13) rfl rfl rfl rfl]
  simp -implicitDefEqProofs only [A13, B13, dbody, dexec, dops, dop, ev, put, wants, dbin, dun, List.replicate, List.length_cons, List.length_nil, Nat.reduceAdd, Nat.reduceSub, Nat.reduceLT, Nat.reduceLeDiff, Nat.reduceMul, List.cons_append, List.nil_append, List.append_nil, List.set_cons_zero, List.set_cons_succ, List.set_nil, List.getD_cons_zero, List.getD_cons_succ, List.getD_nil, DV.cells, List.map_cons, List.map_nil, List.all_cons, List.all_nil, one_d1, one_ptr, one_row, one_clo, one_if, one_int, one_bool, one_str, one_slice, one_ref, one_nilp, one_iface, one_nili, one_func, one_nilf, Bool.and_self, Bool.and_true, Bool.true_and, Bool.and_false, Bool.false_and, Bool.or_true, Bool.or_false, if_true, flat_comp, flat_map, List.mapM_cons, List.mapM_nil, DV.flat, Option.pure_def, Option.bind_eq_bind, Option.bind_some, Option.bind_none, Option.map_some, Option.map_none, dload, List.getElem?_cons_zero, List.getElem?_cons_succ, List.getElem?_nil, Nat.zero_add, Nat.add_zero, bne_self_eq_false, beq_self_eq_true, Bool.false_eq_true, if_false, DV.elems, ne_eq, not_true_eq_false, not_false_eq_true, Bool.not_true, Bool.not_false, beq_iff_eq, bne_iff_ne, reduceCtorEq, mask, DV.lows, DV.low, DV.coe, DV.isD, dresults, dresult, withHeap, List.take_zero, List.take_nil, dcallV_fn, dcallV_fnc, dcallV_clo, dcallV_yld, lowCells, LSt.isReady, DV.int, DV.mkAgg, List.drop_zero, List.drop_succ_cons, List.take_succ_cons, same, List.not_mem_nil, false_implies, implies_true, decide_true, decide_false, decide_eq_true_eq, Int.toNat_natCast, Int.natCast_nonneg, and_self, and_true, true_and, mnmx2, List.foldlM_cons, List.foldlM_nil, nilness, bound, fill, flatCells, List.length_append, List.length_map, Nat.le_refl, List.all_map, Function.comp_def, Bool.false_beq, Bool.true_beq, gt_iff_lt, ge_iff_le, cast_lit, Int.reduceLE, Int.reduceLT, Int.reduceAdd, Int.reduceSub, Int.reduceNeg, Int.reduceEq, Int.reduceBEq, Int.reduceBNe, Nat.reduceBEq, Bool.not_eq_true, Int.toNat_zero, Nat.zero_mul, Nat.reduceEqDiff, and_false, false_and, or_false, or_true, true_or, false_or, Int.le_refl, Int.lt_irrefl, Int.reduceToNat, allocCells, List.mem_cons, forall_eq_or_imp, forall_eq, List.append_assoc, List.length_set, List.set_set, DOut.val.injEq, hq, qc_225 hr, qc_226 hr, qc_224 hr, hne, w1, w2, w3, w4, qc_put hr hi hx hx1, hx, take_d, lows_d, get_set hlt, qc_225 hr2, qc_put225 hr2, take_set, hx1, hx2]

/-- Put, without room -/
theorem put_full (hr : RingOk ring) {id : Nat} {h : List Res} (hq : h[id]? = some (.box (qc ring f n n))) {x : List FV} (hx1 : x.all FV.one = true) :
    D env 13 [.ptr id 0, .d (.agg x)] h = some (.val (.d (.int .i64 25)) h) := by
  have hx2 : x.all (fun x => x.one) = true := hx1
  rw [D_own (F := A13) rfl rfl rfl rfl]
  simp -implicitDefEqProofs only [A13, B13, dbody, dexec, dops, dop, ev, put, wants, dbin, dun, List.replicate, List.length_cons, List.length_nil, Nat.reduceAdd, Nat.reduceSub, Nat.reduceLT, Nat.reduceLeDiff, Nat.reduceMul, List.cons_append, List.nil_append, List.append_nil, List.set_cons_zero, List.set_cons_succ, List.set_nil, List.getD_cons_zero, List.getD_cons_succ, List.getD_nil, DV.cells, List.map_cons, List.map_nil, List.all_cons, List.all_nil, one_d1, one_ptr, one_row, one_clo, one_if, one_int, one_bool, one_str, one_slice, one_ref, one_nilp, one_iface, one_nili, one_func, one_nilf, Bool.and_self, Bool.and_true, Bool.true_and, Bool.and_false, Bool.false_and, Bool.or_true, Bool.or_false, if_true, flat_comp, flat_map, List.mapM_cons, List.mapM_nil, DV.flat, Option.pure_def, Option.bind_eq_bind, Option.bind_some, Option.bind_none, Option.map_some, Option.map_none, dload, List.getElem?_cons_zero, List.getElem?_cons_succ, List.getElem?_nil, Nat.zero_add, Nat.add_zero, bne_self_eq_false, beq_self_eq_true, Bool.false_eq_true, if_false, DV.elems, ne_eq, not_true_eq_false, not_false_eq_true, Bool.not_true, Bool.not_false, beq_iff_eq, bne_iff_ne, reduceCtorEq, mask, DV.lows, DV.low, DV.coe, DV.isD, dresults, dresult, withHeap, List.take_zero, List.take_nil, dcallV_fn, dcallV_fnc, dcallV_clo, dcallV_yld, lowCells, LSt.isReady, DV.int, DV.mkAgg, List.drop_zero, List.drop_succ_cons, List.take_succ_cons, same, List.not_mem_nil, false_implies, implies_true, decide_true, decide_false, decide_eq_true_eq, Int.toNat_natCast, Int.natCast_nonneg, and_self, and_true, true_and, mnmx2, List.foldlM_cons, List.foldlM_nil, nilness, bound, fill, flatCells, List.length_append, List.length_map, Nat.le_refl, List.all_map, Function.comp_def, Bool.false_beq, Bool.true_beq, gt_iff_lt, ge_iff_le, cast_lit, Int.reduceLE, Int.reduceLT, Int.reduceAdd, Int.reduceSub, Int.reduceNeg, Int.reduceEq, Int.reduceBEq, Int.reduceBNe, Nat.reduceBEq, Bool.not_eq_true, Int.toNat_zero, Nat.zero_mul, Nat.reduceEqDiff, and_false, false_and, or_false, or_true, true_or, false_or, Int.le_refl, Int.lt_irrefl, Int.reduceToNat, allocCells, List.mem_cons, forall_eq_or_imp, forall_eq, List.append_assoc, List.length_set, List.set_set, DOut.val.injEq, hq, qc_225 hr, qc_226 hr, List.take_length, hx1, hx2]

theorem app_lt {h l : List Res} {id : Nat} (hlt : id < h.length) : (h ++ l)[id]? = h[id]? := List.getElem?_append_left hlt
theorem app_at (h l : List Res) (i : Nat) : (h ++ l)[h.length + i]? = l[i]? := by rw [List.getElem?_append_right (by omega)]; congr 1; omega
theorem app_set_lt {h l : List Res} {id : Nat} (hlt : id < h.length) (x : Res) : (h ++ l).set id x = h.set id x ++ l := List.set_append_left id x hlt
theorem app_set (h l : List Res) (i : Nat) (x : Res) : (h ++ l).set (h.length + i) x = h ++ l.set i x := by rw [List.set_append_right _ _ (by omega)]; congr 2; omega
theorem setapp_lt {h l : List Res} {id : Nat} (hlt : id < h.length) (y : Res) : (h.set id y ++ l)[id]? = some y := by rw [List.getElem?_append_left (by simpa using hlt)]; simp [hlt]
theorem setapp_at (h l : List Res) (i id : Nat) (y : Res) : (h.set id y ++ l)[h.length + i]? = l[i]? := by
  have := app_at (h.set id y) l i
  rwa [List.length_set] at this
theorem setapp_set_lt {h l : List Res} {id : Nat} (hlt : id < h.length) (x y : Res) : (h.set id y ++ l).set id x = h.set id x ++ l := by rw [List.set_append_left _ _ (by simpa using hlt)]; simp
theorem setapp_set (h l : List Res) (i id : Nat) (x y : Res) : (h.set id y ++ l).set (h.length + i) x = h.set id y ++ l.set i x := by
  have := app_set (h.set id y) l i x
  rwa [List.length_set] at this
theorem take_setapp (h l : List Res) (id : Nat) (x : Res) : (h.set id x ++ l).take h.length = h.set id x := by
  rw [List.take_append_of_le_length (by simp), take_set]

def zeroEv : List FV := [.int .i64 0, .int .i64 0, .int .i64 0, .slice 1 [], .str ⟨#[]⟩, .slice 5 [], .int .i64 0]

/-- Take, where some wait -/
theorem take_ok (hr : RingOk ring) (hf : f < 32) (hn : 0 < n) (hn2 : n ≤ 32) {id : Nat} {h : List Res} (hq : h[id]? = some (.box (qc ring f n m))) {x : List FV} (hx : ring[f]? = some x) :
    D env 14 [.ptr id 0] h = some (.val (.d (.tup [.agg x, .bool true])) (h.set id (.box (qc (ring.set f zeroEv) ((f + 1) % 32) (n - 1) m)))) := by
  have hlt : id < h.length := (List.getElem?_eq_some_iff.1 hq).1
  obtain ⟨hx7, hx1⟩ := hr.each x (List.mem_of_getElem? hx)
  have hne : ((n : Int) == 0) = false := by simp; omega
  have w1 : IntKind.i64.wrap ((f : Int) + 1) = ((f + 1 : Nat) : Int) := by rw [wrap_i64 (by omega) (by omega)]; omega
  have w2 : ((f + 1 : Nat) : Int).tmod 32 = (((f + 1) % 32 : Nat) : Int) := by rw [Int.tmod_eq_emod_of_nonneg (by omega)]; omega
  have w3 : IntKind.i64.wrap ((n : Int) - 1) = ((n - 1 : Nat) : Int) := by rw [wrap_i64 (by omega) (by omega)]; omega
  have w4 : (f : Int) < 32 := by omega
  have hz : RingOk (ring.set f zeroEv) := set_ok hr rfl rfl
  have hlen : ∀ h, h[id]? = some (.box (qc ring f n m)) → D env 15 [.ptr id 0] h = some (.val (.d (.int .i64 n)) h) := fun h hh => len_ok hr hh
  have hp := qc_put (f := f) (n := n) (m := m) hr hf (x := zeroEv) rfl rfl
  have hb : f * 7 + 7 ≤ (qc ring f n m).length := by rw [qc_len hr]; omega
  rw [D_own (F := A14) rfl rfl rfl rfl]
  have hx2 : x.all (fun x => x.one) = true := hx1
  simp only [zeroEv, List.map_cons, List.map_nil] at hp hz
  simp -implicitDefEqProofs only [A14, B14, dbody, dexec, dops, dop, ev, put, wants, dbin, dun, List.replicate, List.length_cons, List.length_nil, Nat.reduceAdd, Nat.reduceSub, Nat.reduceLT, Nat.reduceLeDiff, Nat.reduceMul, List.cons_append, List.nil_append, List.append_nil, List.set_cons_zero, List.set_cons_succ, List.set_nil, List.getD_cons_zero, List.getD_cons_succ, List.getD_nil, DV.cells, List.map_cons, List.map_nil, List.all_cons, List.all_nil, one_d1, one_ptr, one_row, one_clo, one_if, one_int, one_bool, one_str, one_slice, one_ref, one_nilp, one_iface, one_nili, one_func, one_nilf, Bool.and_self, Bool.and_true, Bool.true_and, Bool.and_false, Bool.false_and, Bool.or_true, Bool.or_false, if_true, flat_comp, flat_map, List.mapM_cons, List.mapM_nil, DV.flat, Option.pure_def, Option.bind_eq_bind, Option.bind_some, Option.bind_none, Option.map_some, Option.map_none, dload, List.getElem?_cons_zero, List.getElem?_cons_succ, List.getElem?_nil, Nat.zero_add, Nat.add_zero, bne_self_eq_false, beq_self_eq_true, Bool.false_eq_true, if_false, DV.elems, ne_eq, not_true_eq_false, not_false_eq_true, Bool.not_true, Bool.not_false, beq_iff_eq, bne_iff_ne, reduceCtorEq, mask, DV.lows, DV.low, DV.coe, DV.isD, dresults, dresult, withHeap, List.take_zero, List.take_nil, dcallV_fn, dcallV_fnc, dcallV_clo, dcallV_yld, lowCells, LSt.isReady, DV.int, DV.mkAgg, List.drop_zero, List.drop_succ_cons, List.take_succ_cons, same, List.not_mem_nil, false_implies, implies_true, decide_true, decide_false, decide_eq_true_eq, Int.toNat_natCast, Int.natCast_nonneg, and_self, and_true, true_and, mnmx2, List.foldlM_cons, List.foldlM_nil, nilness, bound, fill, flatCells, List.length_append, List.length_map, Nat.le_refl, List.all_map, Function.comp_def, Bool.false_beq, Bool.true_beq, gt_iff_lt, ge_iff_le, cast_lit, Int.reduceLE, Int.reduceLT, Int.reduceAdd, Int.reduceSub, Int.reduceNeg, Int.reduceEq, Int.reduceBEq, Int.reduceBNe, Nat.reduceBEq, Bool.not_eq_true, Int.toNat_zero, Nat.zero_mul, Nat.reduceEqDiff, and_false, false_and, or_false, or_true, true_or, false_or, Int.le_refl, Int.lt_irrefl, Int.reduceToNat, allocCells, List.mem_cons, forall_eq_or_imp, forall_eq, List.append_assoc, List.length_set, List.set_set, DOut.val.injEq, hq, hlen, qc_225 hr, qc_226 hr, qc_224 hr, hne, w1, w2, w3, w4, hx7, take_d, lows_d, get_set hlt, app_lt hlt, app_at, app_set_lt hlt, app_set, setapp_lt hlt, setapp_at, setapp_set_lt hlt, setapp_set, take_setapp, Nat.add_assoc, qc_at hr hx, hb, hx1, hx2, put_all, hp, zeroEv, qc_225 hz, qc_224 hz, qc_put225 hz, qc_put224 hz]

/-- Take, where none waits -/
theorem take_none (hr : RingOk ring) {id : Nat} {h : List Res} (hq : h[id]? = some (.box (qc ring f 0 m))) :
    D env 14 [.ptr id 0] h = some (.val (.d (.tup [.agg zeroEv, .bool false])) h) := by
  have hlt : id < h.length := (List.getElem?_eq_some_iff.1 hq).1
  have hlen : ∀ h, h[id]? = some (.box (qc ring f 0 m)) → D env 15 [.ptr id 0] h = some (.val (.d (.int .i64 0)) h) := fun h hh => len_ok hr hh
  rw [D_own (F := A14) rfl rfl rfl rfl]
  simp -implicitDefEqProofs only [A14, B14, dbody, dexec, dops, dop, ev, put, wants, dbin, dun, List.replicate, List.length_cons, List.length_nil, Nat.reduceAdd, Nat.reduceSub, Nat.reduceLT, Nat.reduceLeDiff, Nat.reduceMul, List.cons_append, List.nil_append, List.append_nil, List.set_cons_zero, List.set_cons_succ, List.set_nil, List.getD_cons_zero, List.getD_cons_succ, List.getD_nil, DV.cells, List.map_cons, List.map_nil, List.all_cons, List.all_nil, one_d1, one_ptr, one_row, one_clo, one_if, one_int, one_bool, one_str, one_slice, one_ref, one_nilp, one_iface, one_nili, one_func, one_nilf, Bool.and_self, Bool.and_true, Bool.true_and, Bool.and_false, Bool.false_and, Bool.or_true, Bool.or_false, if_true, flat_comp, flat_map, List.mapM_cons, List.mapM_nil, DV.flat, Option.pure_def, Option.bind_eq_bind, Option.bind_some, Option.bind_none, Option.map_some, Option.map_none, dload, List.getElem?_cons_zero, List.getElem?_cons_succ, List.getElem?_nil, Nat.zero_add, Nat.add_zero, bne_self_eq_false, beq_self_eq_true, Bool.false_eq_true, if_false, DV.elems, ne_eq, not_true_eq_false, not_false_eq_true, Bool.not_true, Bool.not_false, beq_iff_eq, bne_iff_ne, reduceCtorEq, mask, DV.lows, DV.low, DV.coe, DV.isD, dresults, dresult, withHeap, List.take_zero, List.take_nil, dcallV_fn, dcallV_fnc, dcallV_clo, dcallV_yld, lowCells, LSt.isReady, DV.int, DV.mkAgg, List.drop_zero, List.drop_succ_cons, List.take_succ_cons, same, List.not_mem_nil, false_implies, implies_true, decide_true, decide_false, decide_eq_true_eq, Int.toNat_natCast, Int.natCast_nonneg, and_self, and_true, true_and, mnmx2, List.foldlM_cons, List.foldlM_nil, nilness, bound, fill, flatCells, List.length_append, List.length_map, Nat.le_refl, List.all_map, Function.comp_def, Bool.false_beq, Bool.true_beq, gt_iff_lt, ge_iff_le, cast_lit, Int.reduceLE, Int.reduceLT, Int.reduceAdd, Int.reduceSub, Int.reduceNeg, Int.reduceEq, Int.reduceBEq, Int.reduceBNe, Nat.reduceBEq, Bool.not_eq_true, Int.toNat_zero, Nat.zero_mul, Nat.reduceEqDiff, and_false, false_and, or_false, or_true, true_or, false_or, Int.le_refl, Int.lt_irrefl, Int.reduceToNat, allocCells, List.mem_cons, forall_eq_or_imp, forall_eq, List.append_assoc, List.length_set, List.set_set, DOut.val.injEq, hq, hlen, app_lt hlt, app_at, app_set_lt hlt, app_set, put_all, zeroEv, List.take_left, Nat.add_assoc]

def zring : List (List FV) := List.replicate 32 zeroEv
theorem zring_ok : RingOk zring := ⟨by simp [zring], fun c hc => by
  have := (List.mem_replicate.1 hc).2
  subst this
  exact ⟨rfl, rfl⟩⟩

theorem take_app1 (h : List Res) (x : Res) : (h ++ [x]).take (h.length + 1) = h ++ [x] := by rw [List.take_of_length_le (by simp)]

/-- New -/
theorem new_ok (k : Nat) (h1 : 1 ≤ k) (h2 : k ≤ 32) (h : List Res) : D env 12 [.d (.int .i64 k)] h = some (.val (.tup [.ptr h.length 0, .d (.int .i64 0)]) (h ++ [.box (qc zring 0 0 k)])) := by
  have e1 : ¬ (k : Int) < 1 := by omega
  have e2 : ¬ (32 : Int) < k := by omega
  rw [D_own (F := A12) rfl rfl rfl rfl]
  simp -implicitDefEqProofs only [A12, B12, dbody, dexec, dops, dop, ev, put, wants, dbin, dun, List.replicate, List.length_cons, List.length_nil, Nat.reduceAdd, Nat.reduceSub, Nat.reduceLT, Nat.reduceLeDiff, Nat.reduceMul, List.cons_append, List.nil_append, List.append_nil, List.set_cons_zero, List.set_cons_succ, List.set_nil, List.getD_cons_zero, List.getD_cons_succ, List.getD_nil, DV.cells, List.map_cons, List.map_nil, List.all_cons, List.all_nil, one_d1, one_ptr, one_row, one_clo, one_if, one_int, one_bool, one_str, one_slice, one_ref, one_nilp, one_iface, one_nili, one_func, one_nilf, Bool.and_self, Bool.and_true, Bool.true_and, Bool.and_false, Bool.false_and, Bool.or_true, Bool.or_false, if_true, flat_comp, flat_map, List.mapM_cons, List.mapM_nil, DV.flat, Option.pure_def, Option.bind_eq_bind, Option.bind_some, Option.bind_none, Option.map_some, Option.map_none, dload, List.getElem?_cons_zero, List.getElem?_cons_succ, List.getElem?_nil, Nat.zero_add, Nat.add_zero, bne_self_eq_false, beq_self_eq_true, Bool.false_eq_true, if_false, DV.elems, ne_eq, not_true_eq_false, not_false_eq_true, Bool.not_true, Bool.not_false, beq_iff_eq, bne_iff_ne, reduceCtorEq, mask, DV.lows, DV.low, DV.coe, DV.isD, dresults, dresult, withHeap, List.take_zero, List.take_nil, dcallV_fn, dcallV_fnc, dcallV_clo, dcallV_yld, lowCells, LSt.isReady, DV.int, DV.mkAgg, List.drop_zero, List.drop_succ_cons, List.take_succ_cons, same, List.not_mem_nil, false_implies, implies_true, decide_true, decide_false, decide_eq_true_eq, Int.toNat_natCast, Int.natCast_nonneg, and_self, and_true, true_and, mnmx2, List.foldlM_cons, List.foldlM_nil, nilness, bound, fill, flatCells, List.length_append, List.length_map, Nat.le_refl, List.all_map, Function.comp_def, Bool.false_beq, Bool.true_beq, gt_iff_lt, ge_iff_le, cast_lit, Int.reduceLE, Int.reduceLT, Int.reduceAdd, Int.reduceSub, Int.reduceNeg, Int.reduceEq, Int.reduceBEq, Int.reduceBNe, Nat.reduceBEq, Bool.not_eq_true, Int.toNat_zero, Nat.zero_mul, Nat.reduceEqDiff, and_false, false_and, or_false, or_true, true_or, false_or, Int.le_refl, Int.lt_irrefl, Int.reduceToNat, allocCells, List.mem_cons, forall_eq_or_imp, forall_eq, List.append_assoc, List.length_set, List.set_set, DOut.val.injEq, e1, e2, take_app1, Nat.lt_add_one, qc, zring, zeroEv, List.flatten_cons, List.flatten_nil, Int.natCast_zero]
end Go.Proofs.Ytoadpaaghjomnaa.Codes
