/-
  What the trace's laws take, as deep values.
  Conditions: none.
-/
import Derived.Test.YtpemlmhggiaflaaGreatDoorKF
import Derived.Test.YtpemlmhggiaflaaGreatDoorKS
import Derived.Test.YtpemlmhggiaflaaGreatDoorTB
import Derived.Test.YtpemlmhggiaflaaGreatDoorTC
set_option linter.unusedVariables false
set_option linter.unusedSimpArgs false
set_option maxRecDepth 100000
namespace Go.Proofs.YtpemlmhggiaflaaGreatDoor.Codes
open Go Go.Deepv Go.WideShapes

theorem len1 {c : List FV} (h : c.length = 1) : ∃ a, c = [a] := by match c, h with | [a], _ => exact ⟨a, rfl⟩
theorem len4 {c : List FV} (h : c.length = 4) : ∃ a b d e, c = [a, b, d, e] := by match c, h with | [a, b, d, e], _ => exact ⟨a, b, d, e, rfl⟩
theorem slice_any {P : Program} {n : Nat} {t e : TypeId} {c : List FV} (hu : P.underlying t = some (.slice e)) (h : Fits P n t c) : ∃ m l, n = m + 1 ∧ c = [.slice (P.cellsOf e) l] ∧ l.length ≤ maxLen ∧ ∀ x ∈ l, x.length = P.cellsOf e ∧ Fits P m e x := by
  cases n with
  | zero => exact h.elim
  | succ n =>
    simp only [Fits, hu] at h
    obtain ⟨l, h1, h2, h3⟩ := h
    exact ⟨n, l, rfl, h1, h2, h3⟩
theorem resp_of (n : Nat) (c : List FV) (h : Fits Tryz.prog n 24 c) : ∃ r : Rsp, c = r.enc := by
  obtain ⟨m, rfl, hl, hf⟩ := struct_fits Tryz.underlying24 h
  rw [c24] at hl
  obtain ⟨a1, a2, a3, a4, rfl⟩ := len4 hl
  simp only [List.mem_cons, List.not_mem_nil, or_false, forall_eq_or_imp, forall_eq, c3, c2, c22, List.drop_succ_cons, List.drop_zero, List.take_succ_cons, List.take_zero] at hf
  obtain ⟨f1, f2, f3, f4⟩ := hf
  obtain ⟨k1, e1, _⟩ := int_fits Tryz.underlying3 f1
  obtain ⟨k2, e2, _⟩ := int_fits Tryz.underlying3 f2
  obtain ⟨k3, e3, _⟩ := int_fits Tryz.underlying2 f3
  obtain ⟨_, l, _, e4, _, _⟩ := slice_any Tryz.underlying22 f4
  rw [c5] at e4
  simp only [List.cons.injEq, and_true] at e1 e2 e3 e4
  subst e1 e2 e3 e4
  exact ⟨⟨k1, k2, k3, l⟩, rfl⟩
theorem told_of (n : Nat) (c : List FV) (h : Fits Tryz.prog n 35 c) (hz : Sized Tryz.prog n 35 c) : ∃ ls : List (List Rsp), c = [.slice 1 (toldF ls)] ∧ ls.length < 9223372036854775807 ∧ ∀ x ∈ ls, x.length ≤ 9223372036854770000 := by
  obtain ⟨m, l, rfl, rfl, _, hl⟩ := slice_any Tryz.underlying35 h
  obtain ⟨z1, z2⟩ := slice_sized Tryz.underlying35 hz
  rw [b38] at z1
  rw [c38] at hl ⊢
  have hb : reachBytes = 140737488351232 := rfl
  rw [hb] at z1
  obtain ⟨xs, e, hp⟩ := all_of (l := l) (f := fun x : List Rsp => [.slice 4 (rspF x)]) (p := fun x => x.length ≤ 9223372036854770000) fun c hc => by
    obtain ⟨m2, l2, rfl, rfl, _, hl2⟩ := slice_any Tryz.underlying38 (hl c hc).2
    obtain ⟨z3, _⟩ := slice_sized Tryz.underlying38 (z2 _ hc)
    rw [b24, hb] at z3
    rw [c24] at hl2 ⊢
    obtain ⟨rs, e2, _⟩ := all_of (l := l2) (f := Rsp.enc) (p := fun _ => True) fun c hc => by
      obtain ⟨r, hr⟩ := resp_of m2 c (hl2 c hc).2
      exact ⟨r, hr, trivial⟩
    refine ⟨rs, by rw [e2]; rfl, ?_⟩
    rw [e2] at z3
    simp only [List.length_map] at z3
    omega
  refine ⟨xs, by rw [e]; rfl, ?_, hp⟩
  rw [e] at z1
  simp only [List.length_map] at z1
  omega
theorem told_arg {H : Type} {enc : TypeId × Value → H} {W : World} {r : Reach} {base : Nat} {v : Value} {d : DataW H} {ps : List MemPlace} (hv : Value.okWide Tryz.prog W r base 35 v) (h : DataW.Trod enc Tryz.prog W 0 (fun _ => true) true 35 v d ps) (hz : (d.weights Tryz.prog 35).all (· ≤ reachBytes) = true) :
    ∃ ls : List (List Rsp), RepF (Go.Deepv.Start W) W v (.slice 1 (toldF ls)) ∧ ls.length < 9223372036854775807 ∧ ∀ x ∈ ls, x.length ≤ 9223372036854770000 := by
  obtain ⟨a, n, c, rfl⟩ := okWide_slice Tryz.underlying35 hv
  obtain ⟨k, x, h1, h2, h3⟩ := arg_one2 kids plain (by simp [tys]) h hz rfl
  obtain ⟨ls, e, h4, h5⟩ := told_of k [x] h2 h3
  simp only [List.cons.injEq, and_true] at e
  subst e
  exact ⟨ls, h1, h4, h5⟩
end Go.Proofs.YtpemlmhggiaflaaGreatDoor.Codes
