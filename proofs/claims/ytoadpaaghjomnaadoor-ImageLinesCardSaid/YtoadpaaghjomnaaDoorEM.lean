/-
  The law: whatever the image and the name, true.
  Conditions: none.
-/
import Derived.Test.YtoadpaaghjomnaaDoorEL
set_option linter.unusedVariables false
set_option linter.unusedSimpArgs false
set_option maxRecDepth 100000
namespace Go.Proofs.YtoadpaaghjomnaaDoor.Codes
open Go.Deepv

/-! ### The chapter's example -/
def img0 : Img := { datas := [], sk := 0, sn := ⟨#[]⟩, sp := [], cap := 0, queue := 0, timers := 0, hands := [], init := 0, code := ⟨[], [], []⟩, words := 0, load := 0, slots := 0, live := 0, half := 0, heap := 0, tax := 0, once := 0, event := 0, caps := [] }
theorem in0 : in64 0 := ⟨by decide, by decide⟩
theorem nums0 : img0.nums := ⟨in0, in0, in0, in0, in0, in0, fun c hc => by simp [img0] at hc⟩
theorem fit0 : img0.fit := ⟨⟨by simp [img0], fun d hd => by simp [img0] at hd⟩, ⟨by simp [img0], by simp [img0, T.fits]⟩, ⟨by simp [img0], fun e he => by simp [img0] at he⟩, ⟨by simp [img0], by simp [img0], by simp [img0]⟩⟩
theorem itoa0 : Lib.itoa 0 = [48] := by
  unfold Lib.itoa
  rw [if_neg (by decide)]
  exact Lib.decDigits_one (by decide)
theorem line_data (w : Wd) (ws : List Wd) : (lineOf (w :: ws)).data.toList = w.txt.data.toList ++ Lib.joinTail [32] ((ws.map Wd.txt).map (·.data.toList)) ++ [10] := by
  unfold lineOf
  rw [data_app]
  show Lib.join (((w :: ws).map Wd.txt).map (·.data.toList)) [32] ++ [10] = _
  rw [List.map_cons, List.map_cons, Lib.join_cons]
theorem show0 : showOf img0 = ⟨#[104, 101, 97, 112, 32, 48, 10, 104, 97, 108, 102, 32, 48, 10, 108, 105, 118, 101, 32, 48, 10, 116, 97, 120, 32, 48, 32, 48, 10, 101, 118, 101, 110, 116, 32, 48, 10]⟩ := by
  refine Go.WideShapes.bytes_inj ?_
  have h : showOf img0 = head5 img0 := rfl
  rw [h]
  simp only [head5, data_app, w1, w2, w3, w4, w5, line_data, Wd.txt, img0, itoa0, List.map_cons, List.map_nil]
  rfl

theorem awake_ok (h : List Res) : D env 9 [] h = some (.val (.d (.bool true)) h) := by
  have e1 := fun h => show_ok img0 (fun e he => by simp [img0] at he) nums0 (by simp [img0]) h
  rw [show0] at e1
  obtain ⟨i, e2, e3⟩ := find_ok img0 fit0 ⟨#[97]⟩ []
  have hi : i = -1 := by
    rcases e3 with ⟨n, e, h1, h2, _⟩ | h1
    · simp [img0] at h2
    · exact h1.1
  subst hi
  simp only [img0, Img.enc, List.map_nil, T.encs] at e1 e2
  rw [D_dat (F := A9) rfl rfl rfl rfl]
  simp -implicitDefEqProofs only [A9, B9, dbody, dexec, dops_end, dops_step, ostep, dop, ev, put, wants, dbin, dun, List.replicate, List.length_cons, List.length_nil, Nat.reduceAdd, Nat.reduceSub, Nat.reduceLT, Nat.reduceLeDiff, Nat.reduceMul, List.cons_append, List.nil_append, List.append_nil, List.set_cons_zero, List.set_cons_succ, List.set_nil, List.getD_cons_zero, List.getD_cons_succ, List.getD_nil, DV.cells, List.map_cons, List.map_nil, List.all_cons, List.all_nil, one_d1, one_ptr, one_row, one_clo, one_if, one_int, one_bool, one_str, one_slice, one_ref, one_nilp, one_iface, one_nili, one_func, one_nilf, Bool.and_self, Bool.and_true, Bool.true_and, Bool.and_false, Bool.false_and, Bool.or_true, Bool.or_false, if_true, flat_comp, flat_map, List.mapM_cons, List.mapM_nil, DV.flat, Option.pure_def, Option.bind_eq_bind, Option.bind_some, Option.bind_none, Option.map_some, Option.map_none, dload, List.getElem?_cons_zero, List.getElem?_cons_succ, List.getElem?_nil, Nat.zero_add, Nat.add_zero, bne_self_eq_false, beq_self_eq_true, Bool.false_eq_true, if_false, DV.elems, ne_eq, not_true_eq_false, not_false_eq_true, Bool.not_true, Bool.not_false, beq_iff_eq, bne_iff_ne, reduceCtorEq, mask, DV.lows, DV.low, DV.coe, DV.isD, dresults, dresult, withHeap, List.take_zero, List.take_nil, dcallV_fn, dcallV_fnc, dcallV_clo, dcallV_yld, lowCells, LSt.isReady, srcElems, DV.int, DV.mkAgg, List.drop_zero, List.drop_succ_cons, List.take_succ_cons, same, List.not_mem_nil, false_implies, implies_true, decide_true, decide_false, decide_eq_true_eq, Int.toNat_natCast, Int.natCast_nonneg, and_self, and_true, true_and, mnmx2, List.foldlM_cons, List.foldlM_nil, nilness, bound, fill, flatCells, List.length_append, List.length_map, Nat.le_refl, List.all_map, Function.comp_def, Bool.false_beq, Bool.true_beq, gt_iff_lt, ge_iff_le, cast_lit, Int.reduceLE, Int.reduceLT, Int.reduceAdd, Int.reduceSub, Int.reduceNeg, Int.reduceEq, Int.reduceBEq, Int.reduceBNe, Nat.reduceBEq, Bool.not_eq_true, Int.toNat_zero, Nat.zero_mul, Nat.reduceEqDiff, and_false, false_and, or_false, or_true, true_or, false_or, Int.le_refl, Int.lt_irrefl, Int.reduceToNat, allocCells, List.mem_cons, forall_eq_or_imp, forall_eq, List.append_assoc, List.length_set, List.set_set, DOut.val.injEq, e1, e2]

/-! ### The sums are the same -/
theorem sum_range_ext (f : Nat → Nat) (m n : Nat) (h : m ≤ n) (h0 : ∀ k, m ≤ k → f k = 0) : ((List.range n).map f).sum = ((List.range m).map f).sum := by
  induction n with
  | zero =>
    have : m = 0 := by omega
    rw [this]
  | succ n ih =>
    by_cases e : m = n + 1
    · rw [e]
    · rw [List.range_succ, List.map_append, List.sum_append, ih (by omega)]
      simp [h0 n (by omega)]
theorem nls_eq (c : Nat) : ∀ (l : List Ent) (i : Nat) (g : Nat → Nat), (∀ k e, l[k]? = some e → g (i + k) = nl e.name) → nls c i l = ((List.range l.length).map fun k => if i + k < c then g (i + k) else 0).sum
  | [], i, g, h => by simp [nls]
  | e :: l, i, g, h => by
    have h1 := nls_eq c l (i + 1) g fun k f hk => by
      have := h (k + 1) f (by simpa using hk)
      rw [← this]
      congr 1
      omega
    have h2 := h 0 e rfl
    simp only [nls, List.length_cons]
    rw [h1, List.range_succ_eq_map, List.map_cons, List.sum_cons, List.map_map]
    simp only [Nat.add_zero] at h2 ⊢
    rw [h2]
    congr 2
    refine List.map_congr_left fun k _ => ?_
    simp only [Function.comp]
    have : i + 1 + k = i + k.succ := by omega
    rw [this]
theorem sums_eq (x : Img) : nls x.caps.length 0 x.hands = ((List.range x.caps.length).map fun k => nl (nm x k)).sum := by
  rw [nls_eq x.caps.length x.hands 0 (fun k => nl (nm x k)) fun k e hk => by simp [nm, hk]]
  simp only [Nat.zero_add]
  have z : ∀ k, x.hands.length ≤ k → nl (nm x k) = 0 := fun k hk => by
    have : x.hands[k]? = none := by simp [hk]
    simp only [nm, this]
    rfl
  have a : ((List.range (max x.hands.length x.caps.length)).map fun k => if k < x.caps.length then nl (nm x k) else 0).sum = ((List.range x.hands.length).map fun k => if k < x.caps.length then nl (nm x k) else 0).sum :=
    sum_range_ext _ _ _ (Nat.le_max_left _ _) fun k hk => by rw [z k hk]; split <;> rfl
  have b : ((List.range (max x.hands.length x.caps.length)).map fun k => if k < x.caps.length then nl (nm x k) else 0).sum = ((List.range x.caps.length).map fun k => if k < x.caps.length then nl (nm x k) else 0).sum :=
    sum_range_ext _ _ _ (Nat.le_max_right _ _) fun k hk => by rw [if_neg (by omega)]
  rw [← a, b]
  congr 1
  refine List.map_congr_left fun k hk => ?_
  rw [if_pos (List.mem_range.1 hk)]

/-! ### The law -/
theorem law_small (x : Img) (name : ByteArray) (ea : D env 9 [] [] = some (.val (.d (.bool true)) [])) (e8 : D env 8 [.d (.agg x.enc)] [] = some (.val (.d (.bool false)) [])) :
    D env 3 [.d (.agg x.enc), .d (.str name)] [] = some (.val (.d (.bool true)) []) := by
  have el : x.enc.length = 22 := rfl
  have e0 := dload_all el
  have eo : (x.enc.all fun y => y.one) = true := rfl
  rw [D_dat (F := A3) rfl rfl rfl rfl]
  generalize x.enc = c at *
  simp -implicitDefEqProofs only [A3, B3, dbody, dexec, dops_end, dops_step, ostep, dop, ev, put, wants, dbin, dun, List.replicate, List.length_cons, List.length_nil, Nat.reduceAdd, Nat.reduceSub, Nat.reduceLT, Nat.reduceLeDiff, Nat.reduceMul, List.cons_append, List.nil_append, List.append_nil, List.set_cons_zero, List.set_cons_succ, List.set_nil, List.getD_cons_zero, List.getD_cons_succ, List.getD_nil, DV.cells, List.map_cons, List.map_nil, List.all_cons, List.all_nil, one_d1, one_ptr, one_row, one_clo, one_if, one_int, one_bool, one_str, one_slice, one_ref, one_nilp, one_iface, one_nili, one_func, one_nilf, Bool.and_self, Bool.and_true, Bool.true_and, Bool.and_false, Bool.false_and, Bool.or_true, Bool.or_false, if_true, flat_comp, flat_map, List.mapM_cons, List.mapM_nil, DV.flat, Option.pure_def, Option.bind_eq_bind, Option.bind_some, Option.bind_none, Option.map_some, Option.map_none, dload, List.getElem?_cons_zero, List.getElem?_cons_succ, List.getElem?_nil, Nat.zero_add, Nat.add_zero, bne_self_eq_false, beq_self_eq_true, Bool.false_eq_true, if_false, DV.elems, ne_eq, not_true_eq_false, not_false_eq_true, Bool.not_true, Bool.not_false, beq_iff_eq, bne_iff_ne, reduceCtorEq, mask, DV.lows, DV.low, DV.coe, DV.isD, dresults, dresult, withHeap, List.take_zero, List.take_nil, dcallV_fn, dcallV_fnc, dcallV_clo, dcallV_yld, lowCells, LSt.isReady, srcElems, DV.int, DV.mkAgg, List.drop_zero, List.drop_succ_cons, List.take_succ_cons, same, List.not_mem_nil, false_implies, implies_true, decide_true, decide_false, decide_eq_true_eq, Int.toNat_natCast, Int.natCast_nonneg, and_self, and_true, true_and, mnmx2, List.foldlM_cons, List.foldlM_nil, nilness, bound, fill, flatCells, List.length_append, List.length_map, Nat.le_refl, List.all_map, Function.comp_def, Bool.false_beq, Bool.true_beq, gt_iff_lt, ge_iff_le, cast_lit, Int.reduceLE, Int.reduceLT, Int.reduceAdd, Int.reduceSub, Int.reduceNeg, Int.reduceEq, Int.reduceBEq, Int.reduceBNe, Nat.reduceBEq, Bool.not_eq_true, Int.toNat_zero, Nat.zero_mul, Nat.reduceEqDiff, and_false, false_and, or_false, or_true, true_or, false_or, Int.le_refl, Int.lt_irrefl, Int.reduceToNat, allocCells, List.mem_cons, forall_eq_or_imp, forall_eq, List.append_assoc, List.length_set, List.set_set, DOut.val.injEq, e8, ea, el, e0, eo, take_d el]
theorem law_long (x : Img) (name : ByteArray) (ea : D env 9 [] [] = some (.val (.d (.bool true)) [])) (e8 : D env 8 [.d (.agg x.enc)] [] = some (.val (.d (.bool true)) [])) (h300 : (300 : Int) < name.size) :
    D env 3 [.d (.agg x.enc), .d (.str name)] [] = some (.val (.d (.bool true)) []) := by
  have el : x.enc.length = 22 := rfl
  have e0 := dload_all el
  have eo : (x.enc.all fun y => y.one) = true := rfl
  rw [D_dat (F := A3) rfl rfl rfl rfl]
  generalize x.enc = c at *
  simp -implicitDefEqProofs only [A3, B3, dbody, dexec, dops_end, dops_step, ostep, dop, ev, put, wants, dbin, dun, List.replicate, List.length_cons, List.length_nil, Nat.reduceAdd, Nat.reduceSub, Nat.reduceLT, Nat.reduceLeDiff, Nat.reduceMul, List.cons_append, List.nil_append, List.append_nil, List.set_cons_zero, List.set_cons_succ, List.set_nil, List.getD_cons_zero, List.getD_cons_succ, List.getD_nil, DV.cells, List.map_cons, List.map_nil, List.all_cons, List.all_nil, one_d1, one_ptr, one_row, one_clo, one_if, one_int, one_bool, one_str, one_slice, one_ref, one_nilp, one_iface, one_nili, one_func, one_nilf, Bool.and_self, Bool.and_true, Bool.true_and, Bool.and_false, Bool.false_and, Bool.or_true, Bool.or_false, if_true, flat_comp, flat_map, List.mapM_cons, List.mapM_nil, DV.flat, Option.pure_def, Option.bind_eq_bind, Option.bind_some, Option.bind_none, Option.map_some, Option.map_none, dload, List.getElem?_cons_zero, List.getElem?_cons_succ, List.getElem?_nil, Nat.zero_add, Nat.add_zero, bne_self_eq_false, beq_self_eq_true, Bool.false_eq_true, if_false, DV.elems, ne_eq, not_true_eq_false, not_false_eq_true, Bool.not_true, Bool.not_false, beq_iff_eq, bne_iff_ne, reduceCtorEq, mask, DV.lows, DV.low, DV.coe, DV.isD, dresults, dresult, withHeap, List.take_zero, List.take_nil, dcallV_fn, dcallV_fnc, dcallV_clo, dcallV_yld, lowCells, LSt.isReady, srcElems, DV.int, DV.mkAgg, List.drop_zero, List.drop_succ_cons, List.take_succ_cons, same, List.not_mem_nil, false_implies, implies_true, decide_true, decide_false, decide_eq_true_eq, Int.toNat_natCast, Int.natCast_nonneg, and_self, and_true, true_and, mnmx2, List.foldlM_cons, List.foldlM_nil, nilness, bound, fill, flatCells, List.length_append, List.length_map, Nat.le_refl, List.all_map, Function.comp_def, Bool.false_beq, Bool.true_beq, gt_iff_lt, ge_iff_le, cast_lit, Int.reduceLE, Int.reduceLT, Int.reduceAdd, Int.reduceSub, Int.reduceNeg, Int.reduceEq, Int.reduceBEq, Int.reduceBNe, Nat.reduceBEq, Bool.not_eq_true, Int.toNat_zero, Nat.zero_mul, Nat.reduceEqDiff, and_false, false_and, or_false, or_true, true_or, false_or, Int.le_refl, Int.lt_irrefl, Int.reduceToNat, allocCells, List.mem_cons, forall_eq_or_imp, forall_eq, List.append_assoc, List.length_set, List.set_set, DOut.val.injEq, e8, ea, el, e0, eo, take_d el, h300]

def repl : ACode → Nat → ACode → ACode
  | _, 0, X => X
  | .seq a b, n + 1, X => .seq a (repl b n X)
  | c, _, _ => c
def tail : ACode → Nat → ACode
  | c, 0 => c
  | .seq _ b, n + 1 => tail b n
  | c, _ => c

/-- The state ahead of the comparisons. -/
def sA (c : List FV) (name s : ByteArray) (T n i : Int) : List DV := [.d .undef, .d (.str name), .d (.ref c 0), .d .undef, .d .undef, .d (.int .i64 T), .d .undef, .d .undef, .d (.str s), .d (.int .i64 n), .d .undef, .d (.int .i64 i)] ++ List.replicate 61 (.d .undef) ++ [.d (.agg c), .d (.str name), .d (.int .i64 i)] ++ List.replicate 67 (.d .undef)
def sC : List DV := [.d .undef, .d .undef, .d .undef, .d .undef, .d (.bool true)] ++ List.replicate 137 (.d .undef) ++ [.d (.bool true)]

theorem law_a (x : Img) (name s : ByteArray) (i T n : Int) (ea : D env 9 [] [] = some (.val (.d (.bool true)) [])) (e8 : D env 8 [.d (.agg x.enc)] [] = some (.val (.d (.bool true)) [])) (h300 : ¬ (300 : Int) < name.size)
    (eS : D env 10 [.d (.agg x.enc)] [] = some (.val (.d (.str s)) [])) (eF : D env 11 [.d (.agg x.enc), .d (.str name)] [] = some (.val (.d (.int .i64 i)) []))
    (l1 : L env 0 true H3L5 X3L5 B3L5 (s5 x.enc name 0 x.hands.length 0) [] = some (.exit 0, x5 x.enc name T, []))
    (l2 : L env 0 true H3L15 X3L15 B3L15 (s15 x.enc name s T 0 0) [] = some (.exit 4, x15 x.enc name s T n, [])) (X : ACode) :
    dexec (Dc env) (L env) (repl B3 7 X) ([.d (.agg x.enc), .d (.str name)] ++ List.replicate 141 (.d .undef)) [] = dexec (Dc env) (L env) X (sA x.enc name s T n i) [] := by
  have el : x.enc.length = 22 := rfl
  have e0 := dload_all el
  have eo : (x.enc.all fun y => y.one) = true := rfl
  have m7 : (x.enc.map DV.d)[7]? = some (.d (.slice 6 (x.hands.map Ent.enc))) := rfl
  generalize x.enc = c at *
  simp only [s5, x5, List.replicate, List.cons_append, List.nil_append] at l1
  simp only [s15, x15, List.replicate, List.cons_append, List.nil_append] at l2
  simp -implicitDefEqProofs only [B3, repl, sA, dbody, dexec, dops_end, dops_step, ostep, dop, ev, put, wants, dbin, dun, List.replicate, List.length_cons, List.length_nil, Nat.reduceAdd, Nat.reduceSub, Nat.reduceLT, Nat.reduceLeDiff, Nat.reduceMul, List.cons_append, List.nil_append, List.append_nil, List.set_cons_zero, List.set_cons_succ, List.set_nil, List.getD_cons_zero, List.getD_cons_succ, List.getD_nil, DV.cells, List.map_cons, List.map_nil, List.all_cons, List.all_nil, one_d1, one_ptr, one_row, one_clo, one_if, one_int, one_bool, one_str, one_slice, one_ref, one_nilp, one_iface, one_nili, one_func, one_nilf, Bool.and_self, Bool.and_true, Bool.true_and, Bool.and_false, Bool.false_and, Bool.or_true, Bool.or_false, if_true, flat_comp, flat_map, List.mapM_cons, List.mapM_nil, DV.flat, Option.pure_def, Option.bind_eq_bind, Option.bind_some, Option.bind_none, Option.map_some, Option.map_none, dload, List.getElem?_cons_zero, List.getElem?_cons_succ, List.getElem?_nil, Nat.zero_add, Nat.add_zero, bne_self_eq_false, beq_self_eq_true, Bool.false_eq_true, if_false, DV.elems, ne_eq, not_true_eq_false, not_false_eq_true, Bool.not_true, Bool.not_false, beq_iff_eq, bne_iff_ne, reduceCtorEq, mask, DV.lows, DV.low, DV.coe, DV.isD, dresults, dresult, withHeap, List.take_zero, List.take_nil, dcallV_fn, dcallV_fnc, dcallV_clo, dcallV_yld, lowCells, LSt.isReady, srcElems, DV.int, DV.mkAgg, List.drop_zero, List.drop_succ_cons, List.take_succ_cons, same, List.not_mem_nil, false_implies, implies_true, decide_true, decide_false, decide_eq_true_eq, Int.toNat_natCast, Int.natCast_nonneg, and_self, and_true, true_and, mnmx2, List.foldlM_cons, List.foldlM_nil, nilness, bound, fill, flatCells, List.length_append, List.length_map, Nat.le_refl, List.all_map, Function.comp_def, Bool.false_beq, Bool.true_beq, gt_iff_lt, ge_iff_le, cast_lit, Int.reduceLE, Int.reduceLT, Int.reduceAdd, Int.reduceSub, Int.reduceNeg, Int.reduceEq, Int.reduceBEq, Int.reduceBNe, Nat.reduceBEq, Bool.not_eq_true, Int.toNat_zero, Nat.zero_mul, Nat.reduceEqDiff, and_false, false_and, or_false, or_true, true_or, false_or, Int.le_refl, Int.lt_irrefl, Int.reduceToNat, allocCells, List.mem_cons, forall_eq_or_imp, forall_eq, List.append_assoc, List.length_set, List.set_set, DOut.val.injEq, e8, ea, el, e0, eo, take_d el, h300, m7, l1, eS, l2, eF]

theorem law_b (x : Img) (name s : ByteArray) (i T : Int) (hc : x.caps.length ≤ 100) (ea : D env 9 [] [] = some (.val (.d (.bool true)) []))
    (l3 : L env 0 true H3L23 X3L23 B3L23 (s23 x.enc name i x.hands.length 0) [] = some (.exit 6, x23, []))
    (w2 : IntKind.i64.wrap (5 + (x.caps.length : Int) + T) = 5 + x.caps.length + T) (w4 : IntKind.i64.wrap (s.size - 1) = s.size - 1) (w5 : (s.toList == (⟨#[]⟩ : ByteArray).toList) = false)
    (w6 : s[(s.size - 1 : Int).toNat]? = some 10) (w8 : (0 : Int) ≤ s.size - 1) (g1 : ¬ (x.hands.length : Int) ≤ i) (hi : i = -1) :
    dexec (Dc env) (L env) (tail B3 7) (sA x.enc name s T (5 + x.caps.length + T) i) [] = some (.ret, sC, []) := by
  have w1 : IntKind.i64.wrap (5 + (x.caps.length : Int)) = 5 + x.caps.length := wrap_i64 (by omega) (by omega)
  have w7 : ((10 : UInt8).toNat : Int) = 10 := rfl
  have m7 : (x.enc.map DV.d)[7]? = some (.d (.slice 6 (x.hands.map Ent.enc))) := rfl
  have m21 : (x.enc.map DV.d)[21]? = some (.d (.slice 4 (x.caps.map Cp.enc))) := rfl
  generalize x.enc = c at *
  simp only [s23, x23, List.replicate, List.cons_append, List.nil_append] at l3
  subst hi
  simp -implicitDefEqProofs only [B3, tail, sA, sC, dbody, dexec, dops_end, dops_step, ostep, dop, ev, put, wants, dbin, dun, List.replicate, List.length_cons, List.length_nil, Nat.reduceAdd, Nat.reduceSub, Nat.reduceLT, Nat.reduceLeDiff, Nat.reduceMul, List.cons_append, List.nil_append, List.append_nil, List.set_cons_zero, List.set_cons_succ, List.set_nil, List.getD_cons_zero, List.getD_cons_succ, List.getD_nil, DV.cells, List.map_cons, List.map_nil, List.all_cons, List.all_nil, one_d1, one_ptr, one_row, one_clo, one_if, one_int, one_bool, one_str, one_slice, one_ref, one_nilp, one_iface, one_nili, one_func, one_nilf, Bool.and_self, Bool.and_true, Bool.true_and, Bool.and_false, Bool.false_and, Bool.or_true, Bool.or_false, if_true, flat_comp, flat_map, List.mapM_cons, List.mapM_nil, DV.flat, Option.pure_def, Option.bind_eq_bind, Option.bind_some, Option.bind_none, Option.map_some, Option.map_none, dload, List.getElem?_cons_zero, List.getElem?_cons_succ, List.getElem?_nil, Nat.zero_add, Nat.add_zero, bne_self_eq_false, beq_self_eq_true, Bool.false_eq_true, if_false, DV.elems, ne_eq, not_true_eq_false, not_false_eq_true, Bool.not_true, Bool.not_false, beq_iff_eq, bne_iff_ne, reduceCtorEq, mask, DV.lows, DV.low, DV.coe, DV.isD, dresults, dresult, withHeap, List.take_zero, List.take_nil, dcallV_fn, dcallV_fnc, dcallV_clo, dcallV_yld, lowCells, LSt.isReady, srcElems, DV.int, DV.mkAgg, List.drop_zero, List.drop_succ_cons, List.take_succ_cons, same, List.not_mem_nil, false_implies, implies_true, decide_true, decide_false, decide_eq_true_eq, Int.toNat_natCast, Int.natCast_nonneg, and_self, and_true, true_and, mnmx2, List.foldlM_cons, List.foldlM_nil, nilness, bound, fill, flatCells, List.length_append, List.length_map, Nat.le_refl, List.all_map, Function.comp_def, Bool.false_beq, Bool.true_beq, gt_iff_lt, ge_iff_le, cast_lit, Int.reduceLE, Int.reduceLT, Int.reduceAdd, Int.reduceSub, Int.reduceNeg, Int.reduceEq, Int.reduceBEq, Int.reduceBNe, Nat.reduceBEq, Bool.not_eq_true, Int.toNat_zero, Nat.zero_mul, Nat.reduceEqDiff, and_false, false_and, or_false, or_true, true_or, false_or, Int.le_refl, Int.lt_irrefl, Int.reduceToNat, allocCells, List.mem_cons, forall_eq_or_imp, forall_eq, List.append_assoc, List.length_set, List.set_set, DOut.val.injEq, ea, m7, m21, l3, w1, w2, w4, w5, w6, w7, w8, g1]

theorem law_c (x : Img) (name s : ByteArray) (i T : Int) (hc : x.caps.length ≤ 100) (ea : D env 9 [] [] = some (.val (.d (.bool true)) []))
    (l3 : L env 0 true H3L23 X3L23 B3L23 (s23 x.enc name i x.hands.length 0) [] = some (.exit 6, x23, []))
    (w2 : IntKind.i64.wrap (5 + (x.caps.length : Int) + T) = 5 + x.caps.length + T) (w4 : IntKind.i64.wrap (s.size - 1) = s.size - 1) (w5 : (s.toList == (⟨#[]⟩ : ByteArray).toList) = false)
    (w6 : s[(s.size - 1 : Int).toNat]? = some 10) (w8 : (0 : Int) ≤ s.size - 1) (g1 : ¬ (x.hands.length : Int) ≤ i) (n : Nat) (e : Ent) (hi : i = n) (h2 : x.hands[n]? = some e) (h3 : sm e.name name = true) :
    dexec (Dc env) (L env) (tail B3 7) (sA x.enc name s T (5 + x.caps.length + T) i) [] = some (.ret, sC, []) := by
  have w1 : IntKind.i64.wrap (5 + (x.caps.length : Int)) = 5 + x.caps.length := wrap_i64 (by omega) (by omega)
  have w7 : ((10 : UInt8).toNat : Int) = 10 := rfl
  have m7 : (x.enc.map DV.d)[7]? = some (.d (.slice 6 (x.hands.map Ent.enc))) := rfl
  have m21 : (x.enc.map DV.d)[21]? = some (.d (.slice 4 (x.caps.map Cp.enc))) := rfl
  generalize x.enc = c at *
  simp only [s23, x23, List.replicate, List.cons_append, List.nil_append] at l3
  subst hi
  have h2' := map_at (f := Ent.enc) h2
  simp only [sm] at h3
  simp -implicitDefEqProofs only [B3, tail, sA, sC, dbody, dexec, dops_end, dops_step, ostep, dop, ev, put, wants, dbin, dun, List.replicate, List.length_cons, List.length_nil, Nat.reduceAdd, Nat.reduceSub, Nat.reduceLT, Nat.reduceLeDiff, Nat.reduceMul, List.cons_append, List.nil_append, List.append_nil, List.set_cons_zero, List.set_cons_succ, List.set_nil, List.getD_cons_zero, List.getD_cons_succ, List.getD_nil, DV.cells, List.map_cons, List.map_nil, List.all_cons, List.all_nil, one_d1, one_ptr, one_row, one_clo, one_if, one_int, one_bool, one_str, one_slice, one_ref, one_nilp, one_iface, one_nili, one_func, one_nilf, Bool.and_self, Bool.and_true, Bool.true_and, Bool.and_false, Bool.false_and, Bool.or_true, Bool.or_false, if_true, flat_comp, flat_map, List.mapM_cons, List.mapM_nil, DV.flat, Option.pure_def, Option.bind_eq_bind, Option.bind_some, Option.bind_none, Option.map_some, Option.map_none, dload, List.getElem?_cons_zero, List.getElem?_cons_succ, List.getElem?_nil, Nat.zero_add, Nat.add_zero, bne_self_eq_false, beq_self_eq_true, Bool.false_eq_true, if_false, DV.elems, ne_eq, not_true_eq_false, not_false_eq_true, Bool.not_true, Bool.not_false, beq_iff_eq, bne_iff_ne, reduceCtorEq, mask, DV.lows, DV.low, DV.coe, DV.isD, dresults, dresult, withHeap, List.take_zero, List.take_nil, dcallV_fn, dcallV_fnc, dcallV_clo, dcallV_yld, lowCells, LSt.isReady, srcElems, DV.int, DV.mkAgg, List.drop_zero, List.drop_succ_cons, List.take_succ_cons, same, List.not_mem_nil, false_implies, implies_true, decide_true, decide_false, decide_eq_true_eq, Int.toNat_natCast, Int.natCast_nonneg, and_self, and_true, true_and, mnmx2, List.foldlM_cons, List.foldlM_nil, nilness, bound, fill, flatCells, List.length_append, List.length_map, Nat.le_refl, List.all_map, Function.comp_def, Bool.false_beq, Bool.true_beq, gt_iff_lt, ge_iff_le, cast_lit, Int.reduceLE, Int.reduceLT, Int.reduceAdd, Int.reduceSub, Int.reduceNeg, Int.reduceEq, Int.reduceBEq, Int.reduceBNe, Nat.reduceBEq, Bool.not_eq_true, Int.toNat_zero, Nat.zero_mul, Nat.reduceEqDiff, and_false, false_and, or_false, or_true, true_or, false_or, Int.le_refl, Int.lt_irrefl, Int.reduceToNat, allocCells, List.mem_cons, forall_eq_or_imp, forall_eq, List.append_assoc, List.length_set, List.set_set, DOut.val.injEq, ea, m7, m21, l3, w1, w2, w4, w5, w6, w7, w8, g1, h2, h2', Ent.enc, h3]

theorem law_main (x : Img) (name s : ByteArray) (i T : Int) (hc : x.caps.length ≤ 100) (ea : D env 9 [] [] = some (.val (.d (.bool true)) [])) (e8 : D env 8 [.d (.agg x.enc)] [] = some (.val (.d (.bool true)) [])) (h300 : ¬ (300 : Int) < name.size)
    (eS : D env 10 [.d (.agg x.enc)] [] = some (.val (.d (.str s)) [])) (eF : D env 11 [.d (.agg x.enc), .d (.str name)] [] = some (.val (.d (.int .i64 i)) []))
    (l1 : L env 0 true H3L5 X3L5 B3L5 (s5 x.enc name 0 x.hands.length 0) [] = some (.exit 0, x5 x.enc name T, []))
    (l2 : L env 0 true H3L15 X3L15 B3L15 (s15 x.enc name s T 0 0) [] = some (.exit 4, x15 x.enc name s T (5 + x.caps.length + T), []))
    (l3 : L env 0 true H3L23 X3L23 B3L23 (s23 x.enc name i x.hands.length 0) [] = some (.exit 6, x23, []))
    (w2 : IntKind.i64.wrap (5 + (x.caps.length : Int) + T) = 5 + x.caps.length + T) (w4 : IntKind.i64.wrap (s.size - 1) = s.size - 1) (w5 : (s.toList == (⟨#[]⟩ : ByteArray).toList) = false)
    (w6 : s[(s.size - 1 : Int).toNat]? = some 10) (w8 : (0 : Int) ≤ s.size - 1)
    (g1 : ¬ (x.hands.length : Int) ≤ i) (g2 : (∃ n e, i = (n : Nat) ∧ x.hands[n]? = some e ∧ sm e.name name = true) ∨ i = -1) :
    D env 3 [.d (.agg x.enc), .d (.str name)] [] = some (.val (.d (.bool true)) []) := by
  have ha := law_a x name s i T _ ea e8 h300 eS eF l1 l2 (tail B3 7)
  have hr : repl B3 7 (tail B3 7) = B3 := rfl
  have hb : dexec (Dc env) (L env) (tail B3 7) (sA x.enc name s T (5 + x.caps.length + T) i) [] = some (.ret, sC, []) := by
    rcases g2 with ⟨n, e, hi, h2, h3⟩ | hi
    · exact law_c x name s i T hc ea l3 w2 w4 w5 w6 w8 g1 n e hi h2 h3
    · exact law_b x name s i T hc ea l3 w2 w4 w5 w6 w8 g1 hi
  rw [hr, hb] at ha
  rw [D_dat (F := A3) rfl rfl rfl rfl]
  generalize x.enc = c at *
  simp only [List.replicate, List.cons_append, List.nil_append] at ha
  simp -implicitDefEqProofs only [A3, dbody, List.replicate, List.cons_append, List.nil_append, List.length_cons, List.length_nil, Nat.reduceAdd, Nat.reduceSub]
  rw [ha]
  rfl

theorem imageLines_ok (x : Img) (hf : x.fit) (hx : x.nums) (name : ByteArray) : ∃ h', D env 3 [.d (.agg x.enc), .d (.str name)] [] = some (.val (.d (.bool true)) h') := by
  have ea := awake_ok []
  obtain ⟨b, e8, hb⟩ := tiny_ok x hf []
  refine ⟨[], ?_⟩
  cases b with
  | false => exact law_small x name ea e8
  | true =>
    obtain ⟨hn, hl, hc⟩ := hb rfl
    by_cases h300 : (300 : Int) < name.size
    · exact law_long x name ea e8 h300
    · have hsz : (showOf x).size ≤ 1000000 := by
        have bs := body_size x hn x.caps 0 (head5 x) hx.caps
        have hs := head_size x hx
        unfold showOf
        omega
      have l1 := loop5 x name hn hl x.hands [] rfl 0 (by omega) (by simp)
      simp only [List.length_nil, sums_eq, Int.zero_add] at l1
      have eS := show_ok x hn hx hc []
      have hnl := show_nl x
      generalize ((List.range x.caps.length).map fun k => nl (nm x k)).sum = T at *
      have l2 := loop15 x.enc name (showOf x) T (by omega) (showOf x).data.toList [] rfl 0 (by omega) (by simp)
      have hle := nl_le (showOf x)
      obtain ⟨i, eF, hF⟩ := find_ok x hf name []
      have l3 := loop3_23 x name i hl (fun k e hk hor => by
        rcases hF with ⟨n, e', rfl, h2, h3, h4⟩ | ⟨rfl, h2⟩
        · exact h4 k e (by omega) hk
        · exact h2 k e hk) x.hands [] rfl
      have w3 : (0 : Int) + ((showOf x).data.toList.count 10 : Int) = 5 + x.caps.length + T := by
        have : (showOf x).data.toList.count 10 = nl (showOf x) := rfl
        omega
      rw [w3] at l2
      obtain ⟨l, hends⟩ := show_ends x
      have hpos : 0 < (showOf x).size := by rw [size_eq, hends]; simp
      refine law_main x name (showOf x) i T hc ea e8 h300 eS eF l1 l2 l3 (wrap_i64 (by omega) (by omega)) (wrap_i64 (by omega) (by omega)) ?_ ?_ (by omega) ?_ ?_
      · rw [ByteArray.toList_eq, ByteArray.toList_eq, hends]
        simp
      · refine byte_at ?_
        have : ((showOf x).size - 1 : Int).toNat = l.length := by rw [size_eq, hends]; simp
        rw [this, hends]
        simp
      · rcases hF with ⟨n, e, rfl, h2, h3, h4⟩ | ⟨rfl, h2⟩
        · have hlt : n < x.hands.length := (List.getElem?_eq_some_iff.1 h2).1
          omega
        · omega
      · rcases hF with ⟨n, e, h1, h2, h3, h4⟩ | ⟨h1, h2⟩
        · exact .inl ⟨n, e, h1, h2, h3⟩
        · exact .inr h1
end Go.Proofs.YtoadpaaghjomnaaDoor.Codes
