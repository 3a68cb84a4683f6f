/-
  An instruction as an argument.
  Conditions: none.
-/
import Derived.Test.YtckmpipiginhaaaDoorKF
set_option linter.unusedVariables false
set_option linter.unusedSimpArgs false
namespace Go.Proofs.YtckmpipiginhaaaDoor.Codes
open Go.Deepv Go.WideShapes

theorem len4 {c : List FV} (h : c.length = 4) : ∃ a b d e, c = [a, b, d, e] := by match c, h with | [a, b, d, e], _ => exact ⟨a, b, d, e, rfl⟩
theorem inst_of (n : Nat) (c : List FV) (h : Fits Tryd.prog n 23 c) : ∃ o a b d : Int, c = [.int .i64 o, .int .i64 a, .int .i64 b, .int .i64 d] ∧ -9223372036854775808 ≤ a ∧ a < 9223372036854775808 := by
  obtain ⟨m, rfl, hl, hf⟩ := struct_fits Tryd.underlying23 h
  rw [c23] at hl
  obtain ⟨a1, a2, a3, a4, rfl⟩ := len4 hl
  simp only [List.mem_cons, List.not_mem_nil, or_false, forall_eq_or_imp, forall_eq, c3, List.drop_succ_cons, List.drop_zero, List.take_succ_cons, List.take_zero] at hf
  obtain ⟨f1, f2, f3, f4⟩ := hf
  obtain ⟨k1, e1, _⟩ := int_fits Tryd.underlying3 f1
  obtain ⟨k2, e2, h2⟩ := int_fits Tryd.underlying3 f2
  obtain ⟨k3, e3, _⟩ := int_fits Tryd.underlying3 f3
  obtain ⟨k4, e4, _⟩ := int_fits Tryd.underlying3 f4
  simp only [List.cons.injEq, and_true] at e1 e2 e3 e4
  subst e1 e2 e3 e4
  unfold in64 at h2
  exact ⟨k1, k2, k3, k4, rfl, h2.1, by omega⟩
end Go.Proofs.YtckmpipiginhaaaDoor.Codes
