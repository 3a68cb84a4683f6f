/-
  What an image says of itself: the whole text, its lines.
  Conditions: none.
-/
import Derived.Test.YtoadpaaghjomnaaDoorEI
set_option linter.unusedVariables false
set_option linter.unusedSimpArgs false
set_option maxRecDepth 100000
namespace Go.Proofs.YtoadpaaghjomnaaDoor.Codes
open Go.Deepv

theorem body_size (x : Img) (hn : ∀ e ∈ x.hands, e.name.size < 1000) : ∀ (r : List Cp) (i : Nat) (acc : ByteArray), (∀ c ∈ r, c.fit) → (body x i r acc).size ≤ acc.size + 2000 * r.length ∧ acc.size ≤ (body x i r acc).size
  | [], i, acc, _ => by simp [body]
  | c :: r, i, acc, h => by
    have h1 := body_size x hn r (i + 1) (acc ++ lineOf (onW x i c)) fun c' hc => h c' (List.mem_cons_of_mem _ hc)
    have h2 := on_ok x i c hn (h c (by simp))
    rw [app_size] at h1
    simp only [body, List.length_cons]
    omega
theorem body_nl (x : Img) : ∀ (r : List Cp) (i : Nat) (acc : ByteArray), nl (body x i r acc) = nl acc + r.length + ((List.range r.length).map fun k => nl (nm x (i + k))).sum
  | [], i, acc => by simp [body]
  | c :: r, i, acc => by
    have h1 := body_nl x r (i + 1) (acc ++ lineOf (onW x i c))
    have h2 := line_nl (.s ⟨#[111, 110]⟩) [.s (nm x i), .n c.words, .n c.steps, .n c.slots, .n c.event]
    have h3 : nl ⟨#[111, 110]⟩ = 0 := rfl
    simp only [Wd.nls, List.map_cons, List.map_nil, List.sum_cons, List.sum_nil] at h2
    simp only [body, List.length_cons]
    rw [h1, nl_app, List.range_succ_eq_map, List.map_cons, List.sum_cons, List.map_map]
    have h4 : ((List.range r.length).map ((fun k => nl (nm x (i + k))) ∘ Nat.succ)) = (List.range r.length).map fun k => nl (nm x (i + 1 + k)) :=
      List.map_congr_left fun k _ => by simp [Nat.add_assoc, Nat.add_comm 1]
    rw [h4]
    simp only [onW, Nat.add_zero]
    omega
theorem head_nl (x : Img) : nl (head5 x) = 5 := by
  have z0 : nl ⟨#[]⟩ = 0 := rfl
  have z1 : nl ⟨#[104, 101, 97, 112]⟩ = 0 := rfl
  have z2 : nl ⟨#[104, 97, 108, 102]⟩ = 0 := rfl
  have z3 : nl ⟨#[108, 105, 118, 101]⟩ = 0 := rfl
  have z4 : nl ⟨#[116, 97, 120]⟩ = 0 := rfl
  have z5 : nl ⟨#[101, 118, 101, 110, 116]⟩ = 0 := rfl
  simp only [head5, nl_app, w1, w2, w3, w4, w5, line_nl, Wd.nls, List.map_cons, List.map_nil, List.sum_cons, List.sum_nil, z0, z1, z2, z3, z4, z5]
  omega
theorem show_nl (x : Img) : nl (showOf x) = 5 + x.caps.length + ((List.range x.caps.length).map fun k => nl (nm x k)).sum := by
  unfold showOf
  rw [body_nl, head_nl]
  simp

/-- It ends a line. -/
def ends (b : ByteArray) : Prop := ∃ l, b.data.toList = l ++ [10]
theorem ends_line (a : ByteArray) (ws : List Wd) : ends (a ++ lineOf ws) := by
  refine ⟨a.data.toList ++ (joined (ws.map Wd.txt) ⟨#[32]⟩).data.toList, ?_⟩
  unfold lineOf
  rw [data_app, data_app, List.append_assoc]
theorem body_ends (x : Img) : ∀ (r : List Cp) (i : Nat) (acc : ByteArray), ends acc → ends (body x i r acc)
  | [], i, acc, h => h
  | c :: r, i, acc, h => body_ends x r (i + 1) _ (ends_line _ _)
theorem show_ends (x : Img) : ends (showOf x) := body_ends x _ _ _ (ends_line _ _)

theorem head_size (x : Img) (hx : x.nums) : (head5 x).size ≤ 500 := by
  have s1 := (two_ok ⟨#[104, 101, 97, 112]⟩ x.heap (by decide) hx.heap).2.1
  have s2 := (two_ok ⟨#[104, 97, 108, 102]⟩ x.half (by decide) hx.half).2.1
  have s3 := (two_ok ⟨#[108, 105, 118, 101]⟩ x.live (by decide) hx.live).2.1
  have s4 := (three_ok ⟨#[116, 97, 120]⟩ x.tax x.once (by decide) hx.tax hx.once).2.1
  have s5 := (two_ok ⟨#[101, 118, 101, 110, 116]⟩ x.event (by decide) hx.event).2.1
  have z0 : (⟨#[]⟩ : ByteArray).size = 0 := rfl
  simp only [head5, app_size, w1, w2, w3, w4, w5]
  omega

theorem show_ok (x : Img) (hn : ∀ e ∈ x.hands, e.name.size < 1000) (hx : x.nums) (hl : x.caps.length ≤ 100) (h : List Res) :
    D env 10 [.d (.agg x.enc)] h = some (.val (.d (.str (showOf x))) h) := by
  obtain ⟨p1, s1, j1⟩ := two_ok ⟨#[104, 101, 97, 112]⟩ x.heap (by decide) hx.heap
  obtain ⟨p2, s2, j2⟩ := two_ok ⟨#[104, 97, 108, 102]⟩ x.half (by decide) hx.half
  obtain ⟨p3, s3, j3⟩ := two_ok ⟨#[108, 105, 118, 101]⟩ x.live (by decide) hx.live
  obtain ⟨p4, s4, j4⟩ := three_ok ⟨#[116, 97, 120]⟩ x.tax x.once (by decide) hx.tax hx.once
  obtain ⟨p5, s5, j5⟩ := two_ok ⟨#[101, 118, 101, 110, 116]⟩ x.event (by decide) hx.event
  have z0 : (⟨#[]⟩ : ByteArray).size = 0 := rfl
  have e1 := fun h => line_ok _ p1 (by simp) j1 h
  have e2 := fun h => line_ok _ p2 (by simp) j2 h
  have e3 := fun h => line_ok _ p3 (by simp) j3 h
  have e4 := fun h => line_ok _ p4 (by simp) j4 h
  have e5 := fun h => line_ok _ p5 (by simp) j5 h
  simp only [List.map_cons, List.map_nil, Wd.enc] at e1 e2 e3 e4 e5
  have f1 := write_ok (r0 := .nilrow) (b0 := capC x) (acc := ⟨#[]⟩) (s := lineOf [.s ⟨#[104, 101, 97, 112]⟩, .n x.heap]) (l := []) (x := .d .nilp) (.inl rfl) (by omega)
  generalize h1 : lineOf [.s ⟨#[104, 101, 97, 112]⟩, .n x.heap] = t1 at *
  have f2 := write_ok (r0 := .nilrow) (b0 := capC x) (acc := ⟨#[]⟩ ++ t1) (s := lineOf [.s ⟨#[104, 97, 108, 102]⟩, .n x.half]) (l := []) (x := .ptr 3 0) (.inr rfl) (by simp only [app_size]; omega)
  generalize h2 : lineOf [.s ⟨#[104, 97, 108, 102]⟩, .n x.half] = t2 at *
  have f3 := write_ok (r0 := .nilrow) (b0 := capC x) (acc := ⟨#[]⟩ ++ t1 ++ t2) (s := lineOf [.s ⟨#[108, 105, 118, 101]⟩, .n x.live]) (l := []) (x := .ptr 3 0) (.inr rfl) (by simp only [app_size]; omega)
  generalize h3 : lineOf [.s ⟨#[108, 105, 118, 101]⟩, .n x.live] = t3 at *
  have f4 := write_ok (r0 := .nilrow) (b0 := capC x) (acc := ⟨#[]⟩ ++ t1 ++ t2 ++ t3) (s := lineOf [.s ⟨#[116, 97, 120]⟩, .n x.tax, .n x.once]) (l := []) (x := .ptr 3 0) (.inr rfl) (by simp only [app_size]; omega)
  generalize h4 : lineOf [.s ⟨#[116, 97, 120]⟩, .n x.tax, .n x.once] = t4 at *
  have f5 := write_ok (r0 := .nilrow) (b0 := capC x) (acc := ⟨#[]⟩ ++ t1 ++ t2 ++ t3 ++ t4) (s := lineOf [.s ⟨#[101, 118, 101, 110, 116]⟩, .n x.event]) (l := []) (x := .ptr 3 0) (.inr rfl) (by simp only [app_size]; omega)
  generalize h5 : lineOf [.s ⟨#[101, 118, 101, 110, 116]⟩, .n x.event] = t5 at *
  have hh : head5 x = ⟨#[]⟩ ++ t1 ++ t2 ++ t3 ++ t4 ++ t5 := by
    rw [← h1, ← h2, ← h3, ← h4, ← h5]
    rfl
  have g1 := loop10 x hn hx hl x.caps [] (head5 x) rfl (by have := head_size x hx; simp; omega)
  have bs := body_size x hn x.caps 0 (head5 x) hx.caps
  have hs := head_size x hx
  have hpos : 0 < (showOf x).size := by
    obtain ⟨l, hl⟩ := show_ends x
    rw [size_eq, hl]
    simp
  have g2 := string_ok (r0 := .nilrow) (b0 := capC x) (acc := showOf x) (l := []) (x := .ptr 3 0) (by omega) (by unfold showOf; omega)
  have hb : body x 0 x.caps (⟨#[]⟩ ++ t1 ++ t2 ++ t3 ++ t4 ++ t5) = showOf x := by rw [← hh]; rfl
  rw [hh] at g1
  have r0 : rr 1 0 5 = .nilrow := rfl
  have r1 : strCells ⟨#[]⟩ = [] := rfl
  simp only [bh, z0, r0, r1, capC] at f1 f2 f3 f4 f5 g1 g2
  simp only [st10, ex10, Img.enc, List.replicate, List.cons_append, List.nil_append, List.length_nil, cast_lit, hb] at g1
  rw [D_dat (F := A10) rfl rfl rfl rfl]
  simp -implicitDefEqProofs only [A10, B10, Img.enc, dbody, dexec, dops_end, dops_step, ostep, dop, ev, put, wants, dbin, dun, List.replicate, List.length_cons, List.length_nil, Nat.reduceAdd, Nat.reduceSub, Nat.reduceLT, Nat.reduceLeDiff, Nat.reduceMul, List.cons_append, List.nil_append, List.append_nil, List.set_cons_zero, List.set_cons_succ, List.set_nil, List.getD_cons_zero, List.getD_cons_succ, List.getD_nil, DV.cells, List.map_cons, List.map_nil, List.all_cons, List.all_nil, one_d1, one_ptr, one_row, one_clo, one_if, one_int, one_bool, one_str, one_slice, one_ref, one_nilp, one_iface, one_nili, one_func, one_nilf, Bool.and_self, Bool.and_true, Bool.true_and, Bool.and_false, Bool.false_and, Bool.or_true, Bool.or_false, if_true, flat_comp, flat_map, List.mapM_cons, List.mapM_nil, DV.flat, Option.pure_def, Option.bind_eq_bind, Option.bind_some, Option.bind_none, Option.map_some, Option.map_none, dload, List.getElem?_cons_zero, List.getElem?_cons_succ, List.getElem?_nil, Nat.zero_add, Nat.add_zero, bne_self_eq_false, beq_self_eq_true, Bool.false_eq_true, if_false, DV.elems, ne_eq, not_true_eq_false, not_false_eq_true, Bool.not_true, Bool.not_false, beq_iff_eq, bne_iff_ne, reduceCtorEq, mask, DV.lows, DV.low, DV.coe, DV.isD, dresults, dresult, withHeap, List.take_zero, List.take_nil, dcallV_fn, dcallV_fnc, dcallV_clo, dcallV_yld, lowCells, LSt.isReady, srcElems, DV.int, DV.mkAgg, List.drop_zero, List.drop_succ_cons, List.take_succ_cons, same, List.not_mem_nil, false_implies, implies_true, decide_true, decide_false, decide_eq_true_eq, Int.toNat_natCast, Int.natCast_nonneg, and_self, and_true, true_and, mnmx2, List.foldlM_cons, List.foldlM_nil, nilness, bound, fill, flatCells, List.length_append, List.length_map, Nat.le_refl, List.all_map, Function.comp_def, Bool.false_beq, Bool.true_beq, gt_iff_lt, ge_iff_le, cast_lit, Int.reduceLE, Int.reduceLT, Int.reduceAdd, Int.reduceSub, Int.reduceNeg, Int.reduceEq, Int.reduceBEq, Int.reduceBNe, Nat.reduceBEq, Bool.not_eq_true, Int.toNat_zero, Nat.zero_mul, Nat.reduceEqDiff, and_false, false_and, or_false, or_true, true_or, false_or, Int.le_refl, Int.lt_irrefl, Int.reduceToNat, allocCells, List.mem_cons, forall_eq_or_imp, forall_eq, List.append_assoc, List.length_set, List.set_set, DOut.val.injEq, e1, e2, e3, e4, e5, f1, f2, f3, f4, f5, g1, g2, putCells]
end Go.Proofs.YtoadpaaghjomnaaDoor.Codes
