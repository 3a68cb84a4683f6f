/-
  What an image says of itself: the run.
  Conditions: none.
-/
import Derived.Test.YtoadpaaghjomnaaDoorEH
import Derived.Test.YtoadpaaghjomnaaDoorDW
set_option linter.unusedVariables false
set_option linter.unusedSimpArgs false
set_option maxRecDepth 100000
namespace Go.Proofs.YtoadpaaghjomnaaDoor.Codes
open Go.Deepv


def Cp.fit (c : Cp) : Prop := in64 c.words ∧ in64 c.steps ∧ in64 c.slots ∧ in64 c.event
structure Img.nums (x : Img) : Prop where
  live : in64 x.live
  half : in64 x.half
  heap : in64 x.heap
  tax : in64 x.tax
  once : in64 x.once
  event : in64 x.event
  caps : ∀ c ∈ x.caps, c.fit

def nm (x : Img) (i : Nat) : ByteArray := ((x.hands[i]?).map Ent.name).getD ⟨#[]⟩
def onW (x : Img) (i : Nat) (c : Cp) : List Wd := [.s ⟨#[111, 110]⟩, .s (nm x i), .n c.words, .n c.steps, .n c.slots, .n c.event]
def body (x : Img) : Nat → List Cp → ByteArray → ByteArray
  | _, [], acc => acc
  | i, c :: r, acc => body x (i + 1) r (acc ++ lineOf (onW x i c))
def w1 (x : Img) : List Wd := [.s ⟨#[104, 101, 97, 112]⟩, .n x.heap]
def w2 (x : Img) : List Wd := [.s ⟨#[104, 97, 108, 102]⟩, .n x.half]
def w3 (x : Img) : List Wd := [.s ⟨#[108, 105, 118, 101]⟩, .n x.live]
def w4 (x : Img) : List Wd := [.s ⟨#[116, 97, 120]⟩, .n x.tax, .n x.once]
def w5 (x : Img) : List Wd := [.s ⟨#[101, 118, 101, 110, 116]⟩, .n x.event]
def head5 (x : Img) : ByteArray := ⟨#[]⟩ ++ lineOf (w1 x) ++ lineOf (w2 x) ++ lineOf (w3 x) ++ lineOf (w4 x) ++ lineOf (w5 x)
def showOf (x : Img) : ByteArray := body x 0 x.caps (head5 x)

theorem app_size (a b : ByteArray) : (a ++ b).size = a.size + b.size := by rw [size_eq, data_app, List.length_append]; rfl

theorem on_ok (x : Img) (i : Nat) (c : Cp) (hn : ∀ e ∈ x.hands, e.name.size < 1000) (hc : c.fit) : (∀ w ∈ onW x i c, w.ok) ∧ (lineOf (onW x i c)).size ≤ 2000 ∧ (Lib.join (((onW x i c).map Wd.txt).map (·.data.toList)) [32]).length ≤ 140737488355328 := by
  obtain ⟨h1, h2, h3, h4⟩ := hc
  have ok : ∀ w ∈ onW x i c, w.ok := by
    intro w hw
    simp only [onW, List.mem_cons, List.not_mem_nil, or_false] at hw
    rcases hw with rfl | rfl | rfl | rfl | rfl | rfl
    · trivial
    · trivial
    · exact h1
    · exact h2
    · exact h3
    · exact h4
  have hnm : (nm x i).size < 1000 := by
    unfold nm
    cases h : x.hands[i]? with
    | none => show (0 : Nat) < 1000; decide
    | some e => simpa using hn e (List.mem_of_getElem? h)
  have l1 := line_size _ _ ok
  have l2 := line_len _ _ ok
  simp only [List.map_cons, List.map_nil, List.sum_cons, List.sum_nil, Wd.len] at l1 l2
  have z : (⟨#[111, 110]⟩ : ByteArray).size = 2 := rfl
  refine ⟨ok, ?_, ?_⟩
  · simp only [onW] at l1 ⊢; omega
  · simp only [onW, List.map_cons, List.map_nil] at l2 ⊢; omega

theorem two_ok (t : ByteArray) (n : Int) (ht : t.size ≤ 10) (h : in64 n) : (∀ w ∈ ([.s t, .n n] : List Wd), w.ok) ∧ (lineOf [.s t, .n n]).size ≤ 100 ∧ (Lib.join ((([.s t, .n n] : List Wd).map Wd.txt).map (·.data.toList)) [32]).length ≤ 140737488355328 := by
  have ok : ∀ w ∈ ([.s t, .n n] : List Wd), w.ok := by
    intro w hw
    simp only [List.mem_cons, List.not_mem_nil, or_false] at hw
    rcases hw with rfl | rfl
    · trivial
    · exact h
  have l1 := line_size _ _ ok
  have l2 := line_len _ _ ok
  simp only [List.map_cons, List.map_nil, List.sum_cons, List.sum_nil, Wd.len] at l1 l2
  refine ⟨ok, by omega, ?_⟩
  simp only [List.map_cons, List.map_nil] at l2 ⊢; omega
theorem three_ok (t : ByteArray) (n m : Int) (ht : t.size ≤ 10) (h : in64 n) (h' : in64 m) : (∀ w ∈ ([.s t, .n n, .n m] : List Wd), w.ok) ∧ (lineOf [.s t, .n n, .n m]).size ≤ 100 ∧ (Lib.join ((([.s t, .n n, .n m] : List Wd).map Wd.txt).map (·.data.toList)) [32]).length ≤ 140737488355328 := by
  have ok : ∀ w ∈ ([.s t, .n n, .n m] : List Wd), w.ok := by
    intro w hw
    simp only [List.mem_cons, List.not_mem_nil, or_false] at hw
    rcases hw with rfl | rfl | rfl
    · trivial
    · exact h
    · exact h'
  have l1 := line_size _ _ ok
  have l2 := line_len _ _ ok
  simp only [List.map_cons, List.map_nil, List.sum_cons, List.sum_nil, Wd.len] at l1 l2
  refine ⟨ok, by omega, ?_⟩
  simp only [List.map_cons, List.map_nil] at l2 ⊢; omega

def capC (x : Img) : Res := .box [.d (.int .i64 x.words), .d (.int .i64 x.load), .d (.int .i64 x.slots), .d (.int .i64 x.live), .d (.int .i64 x.half), .d (.int .i64 x.heap), .d (.int .i64 x.tax), .d (.int .i64 x.once), .d (.int .i64 x.event), .d (.slice 4 (x.caps.map Cp.enc))]
def st10 (x : Img) (i : Int) : List DV := [.d .undef, .d (.ref x.enc 0), .d .undef, .d .undef, .ptr 3 0] ++ List.replicate 44 (.d .undef) ++ [.d (.slice 4 (x.caps.map Cp.enc)), .d (.int .i64 x.caps.length), .d (.int .i64 i)] ++ List.replicate 35 (.d .undef)
def ex10 : List DV := [.d .undef, .d .undef, .d .undef, .d .undef, .ptr 3 0] ++ List.replicate 82 (.d .undef)

theorem loop10 (x : Img) (hn : ∀ e ∈ x.hands, e.name.size < 1000) (hx : x.nums) (hl : x.caps.length ≤ 100) :
    ∀ (r p : List Cp) (acc : ByteArray), x.caps = p ++ r → acc.size ≤ 1000 + 2000 * p.length → L env 4 true H10L9 X10L9 B10L9 (st10 x p.length) (bh .nilrow (capC x) (.ptr 3 0) acc []) = some (.exit 0, ex10, bh .nilrow (capC x) (.ptr 3 0) (body x p.length r acc) []) := by
  obtain ⟨K, hK⟩ : ∃ K, L env 4 true H10L9 X10L9 B10L9 = K := ⟨_, rfl⟩
  rw [hK]
  intro r
  induction r with
  | nil =>
    intro p acc hp ha
    simp at hp
    rw [L_round hK]
    simp -implicitDefEqProofs only [B10L9, st10, ex10, Img.enc, bh, body, dbody, dexec, dops_end, dops_step, ostep, dop, ev, put, wants, dbin, dun, List.replicate, List.length_cons, List.length_nil, Nat.reduceAdd, Nat.reduceSub, Nat.reduceLT, Nat.reduceLeDiff, Nat.reduceMul, List.cons_append, List.nil_append, List.append_nil, List.set_cons_zero, List.set_cons_succ, List.set_nil, List.getD_cons_zero, List.getD_cons_succ, List.getD_nil, DV.cells, List.map_cons, List.map_nil, List.all_cons, List.all_nil, one_d1, one_ptr, one_row, one_clo, one_if, one_int, one_bool, one_str, one_slice, one_ref, one_nilp, one_iface, one_nili, one_func, one_nilf, Bool.and_self, Bool.and_true, Bool.true_and, Bool.and_false, Bool.false_and, Bool.or_true, Bool.or_false, if_true, flat_comp, flat_map, List.mapM_cons, List.mapM_nil, DV.flat, Option.pure_def, Option.bind_eq_bind, Option.bind_some, Option.bind_none, Option.map_some, Option.map_none, dload, List.getElem?_cons_zero, List.getElem?_cons_succ, List.getElem?_nil, Nat.zero_add, Nat.add_zero, bne_self_eq_false, beq_self_eq_true, Bool.false_eq_true, if_false, DV.elems, ne_eq, not_true_eq_false, not_false_eq_true, Bool.not_true, Bool.not_false, beq_iff_eq, bne_iff_ne, reduceCtorEq, mask, DV.lows, DV.low, DV.coe, DV.isD, dresults, dresult, withHeap, List.take_zero, List.take_nil, dcallV_fn, dcallV_fnc, dcallV_clo, dcallV_yld, lowCells, LSt.isReady, srcElems, DV.int, DV.mkAgg, List.drop_zero, List.drop_succ_cons, List.take_succ_cons, same, List.not_mem_nil, false_implies, implies_true, decide_true, decide_false, decide_eq_true_eq, Int.toNat_natCast, Int.natCast_nonneg, and_self, and_true, true_and, mnmx2, List.foldlM_cons, List.foldlM_nil, nilness, bound, fill, flatCells, List.length_append, List.length_map, Nat.le_refl, List.all_map, Function.comp_def, Bool.false_beq, Bool.true_beq, gt_iff_lt, ge_iff_le, cast_lit, Int.reduceLE, Int.reduceLT, Int.reduceAdd, Int.reduceSub, Int.reduceNeg, Int.reduceEq, Int.reduceBEq, Int.reduceBNe, Nat.reduceBEq, Bool.not_eq_true, Int.toNat_zero, Nat.zero_mul, Nat.reduceEqDiff, and_false, false_and, or_false, or_true, true_or, false_or, Int.le_refl, Int.lt_irrefl, Int.reduceToNat, allocCells, List.mem_cons, forall_eq_or_imp, forall_eq, List.append_assoc, List.length_set, List.set_set, DOut.val.injEq, hp]
  | cons v r ihr =>
    intro p acc hp ha
    have e1 : (p.length : Int) < x.caps.length := by rw [hp]; simp; omega
    have e3 : IntKind.i64.wrap (p.length + 1) = p.length + 1 := wrap_i64 (by omega) (by rw [hp] at hl; simp at hl; omega)
    have e4 : x.caps[p.length]? = some v := by rw [hp]; simp
    have e4' := map_at (f := Cp.enc) e4
    have hv := hx.caps v (by rw [hp]; simp)
    obtain ⟨o1, o2, o3⟩ := on_ok x p.length v hn hv
    have hpl : p.length < 100 := by omega
    have e5 := fun h => line_ok (onW x p.length v) o1 (by simp [onW]) o3 h
    have e6 := fun l => write_ok (r0 := .nilrow) (b0 := capC x) (acc := acc) (s := lineOf (onW x p.length v)) (l := l) (x := .ptr 3 0) (.inr rfl) (by omega)
    have ih := ihr (p ++ [v]) (acc ++ lineOf (onW x p.length v)) (by simp [hp]) (by rw [app_size]; simp; omega)
    simp only [onW, List.map_cons, List.map_nil, Wd.enc] at e5
    simp only [bh, onW] at e6
    have len1 : (p ++ [v]).length = p.length + 1 := by simp
    have len2 : ((p.length + 1 : Nat) : Int) = (p.length : Int) + 1 := by simp
    simp only [st10, ex10, Img.enc, bh, List.replicate, onW, len1, len2, List.cons_append, List.nil_append] at ih
    rw [L_round hK]
    by_cases hi : (p.length : Int) < x.hands.length
    · obtain ⟨e, he⟩ : ∃ e, x.hands[p.length]? = some e := ⟨x.hands[p.length]'(by omega), by simp⟩
      have he' := map_at (f := Ent.enc) he
      have hnm : nm x p.length = e.name := by simp [nm, he]
      simp only [hnm] at e5 e6 ih
      simp -implicitDefEqProofs only [B10L9, st10, ex10, Img.enc, bh, body, onW, dbody, dexec, dops_end, dops_step, ostep, dop, ev, put, wants, dbin, dun, List.replicate, List.length_cons, List.length_nil, Nat.reduceAdd, Nat.reduceSub, Nat.reduceLT, Nat.reduceLeDiff, Nat.reduceMul, List.cons_append, List.nil_append, List.append_nil, List.set_cons_zero, List.set_cons_succ, List.set_nil, List.getD_cons_zero, List.getD_cons_succ, List.getD_nil, DV.cells, List.map_cons, List.map_nil, List.all_cons, List.all_nil, one_d1, one_ptr, one_row, one_clo, one_if, one_int, one_bool, one_str, one_slice, one_ref, one_nilp, one_iface, one_nili, one_func, one_nilf, Bool.and_self, Bool.and_true, Bool.true_and, Bool.and_false, Bool.false_and, Bool.or_true, Bool.or_false, if_true, flat_comp, flat_map, List.mapM_cons, List.mapM_nil, DV.flat, Option.pure_def, Option.bind_eq_bind, Option.bind_some, Option.bind_none, Option.map_some, Option.map_none, dload, List.getElem?_cons_zero, List.getElem?_cons_succ, List.getElem?_nil, Nat.zero_add, Nat.add_zero, bne_self_eq_false, beq_self_eq_true, Bool.false_eq_true, if_false, DV.elems, ne_eq, not_true_eq_false, not_false_eq_true, Bool.not_true, Bool.not_false, beq_iff_eq, bne_iff_ne, reduceCtorEq, mask, DV.lows, DV.low, DV.coe, DV.isD, dresults, dresult, withHeap, List.take_zero, List.take_nil, dcallV_fn, dcallV_fnc, dcallV_clo, dcallV_yld, lowCells, LSt.isReady, srcElems, DV.int, DV.mkAgg, List.drop_zero, List.drop_succ_cons, List.take_succ_cons, same, List.not_mem_nil, false_implies, implies_true, decide_true, decide_false, decide_eq_true_eq, Int.toNat_natCast, Int.natCast_nonneg, and_self, and_true, true_and, mnmx2, List.foldlM_cons, List.foldlM_nil, nilness, bound, fill, flatCells, List.length_append, List.length_map, Nat.le_refl, List.all_map, Function.comp_def, Bool.false_beq, Bool.true_beq, gt_iff_lt, ge_iff_le, cast_lit, Int.reduceLE, Int.reduceLT, Int.reduceAdd, Int.reduceSub, Int.reduceNeg, Int.reduceEq, Int.reduceBEq, Int.reduceBNe, Nat.reduceBEq, Bool.not_eq_true, Int.toNat_zero, Nat.zero_mul, Nat.reduceEqDiff, and_false, false_and, or_false, or_true, true_or, false_or, Int.le_refl, Int.lt_irrefl, Int.reduceToNat, allocCells, List.mem_cons, forall_eq_or_imp, forall_eq, List.append_assoc, List.length_set, List.set_set, DOut.val.injEq, e1, e3, e4, e4', Cp.enc, hi, he, he', hnm, Ent.enc, e5, e6, ih, putCells]
    · have hnm : nm x p.length = ⟨#[]⟩ := by
        have : x.hands[p.length]? = none := by simp; omega
        simp [nm, this]
      simp only [hnm] at e5 e6 ih
      simp -implicitDefEqProofs only [B10L9, st10, ex10, Img.enc, bh, body, onW, dbody, dexec, dops_end, dops_step, ostep, dop, ev, put, wants, dbin, dun, List.replicate, List.length_cons, List.length_nil, Nat.reduceAdd, Nat.reduceSub, Nat.reduceLT, Nat.reduceLeDiff, Nat.reduceMul, List.cons_append, List.nil_append, List.append_nil, List.set_cons_zero, List.set_cons_succ, List.set_nil, List.getD_cons_zero, List.getD_cons_succ, List.getD_nil, DV.cells, List.map_cons, List.map_nil, List.all_cons, List.all_nil, one_d1, one_ptr, one_row, one_clo, one_if, one_int, one_bool, one_str, one_slice, one_ref, one_nilp, one_iface, one_nili, one_func, one_nilf, Bool.and_self, Bool.and_true, Bool.true_and, Bool.and_false, Bool.false_and, Bool.or_true, Bool.or_false, if_true, flat_comp, flat_map, List.mapM_cons, List.mapM_nil, DV.flat, Option.pure_def, Option.bind_eq_bind, Option.bind_some, Option.bind_none, Option.map_some, Option.map_none, dload, List.getElem?_cons_zero, List.getElem?_cons_succ, List.getElem?_nil, Nat.zero_add, Nat.add_zero, bne_self_eq_false, beq_self_eq_true, Bool.false_eq_true, if_false, DV.elems, ne_eq, not_true_eq_false, not_false_eq_true, Bool.not_true, Bool.not_false, beq_iff_eq, bne_iff_ne, reduceCtorEq, mask, DV.lows, DV.low, DV.coe, DV.isD, dresults, dresult, withHeap, List.take_zero, List.take_nil, dcallV_fn, dcallV_fnc, dcallV_clo, dcallV_yld, lowCells, LSt.isReady, srcElems, DV.int, DV.mkAgg, List.drop_zero, List.drop_succ_cons, List.take_succ_cons, same, List.not_mem_nil, false_implies, implies_true, decide_true, decide_false, decide_eq_true_eq, Int.toNat_natCast, Int.natCast_nonneg, and_self, and_true, true_and, mnmx2, List.foldlM_cons, List.foldlM_nil, nilness, bound, fill, flatCells, List.length_append, List.length_map, Nat.le_refl, List.all_map, Function.comp_def, Bool.false_beq, Bool.true_beq, gt_iff_lt, ge_iff_le, cast_lit, Int.reduceLE, Int.reduceLT, Int.reduceAdd, Int.reduceSub, Int.reduceNeg, Int.reduceEq, Int.reduceBEq, Int.reduceBNe, Nat.reduceBEq, Bool.not_eq_true, Int.toNat_zero, Nat.zero_mul, Nat.reduceEqDiff, and_false, false_and, or_false, or_true, true_or, false_or, Int.le_refl, Int.lt_irrefl, Int.reduceToNat, allocCells, List.mem_cons, forall_eq_or_imp, forall_eq, List.append_assoc, List.length_set, List.set_set, DOut.val.injEq, e1, e3, e4, e4', Cp.enc, hi, hnm, e5, e6, ih, putCells]
end Go.Proofs.YtoadpaaghjomnaaDoor.Codes
