/-
  QueueAll, the given statement.
  Conditions: none.
-/
import Derived.Test.YtoadpaaghjomnaaRows
import Derived.Test.YtoadpaaghjomnaaQI
import Derived.Test.YtoadpaaghjomnaaQT
import Derived.WalkKit
import Derived.ProofKit
import Derived.OpenShut
import Derived.ShutString
import Derived.ChangeOld
import Derived.Below
import Derived.SizedLaws
namespace Go.Proofs.Ytoadpaaghjomnaa.queueAll
open Go.ChangeShapes Go.WideShapes Go.ChangeAt Go.RowKit Go.Deepv
open Go.Proofs.Ytoadpaaghjomnaa.Codes
set_option linter.unusedVariables false
theorem own : ownKnob Try.prog.godebug = none := by kernel_rfl
set_option maxRecDepth 100000 in
theorem lifted (os : Os) (started : os.Started) (H : Type) (enc : TypeId × Value → H) :
    ReturnsInHanded {} Try.checked os 6 .any (Rows.queueAllSpec.pre6 enc Try.prog Try.f6 Rows.queueAllRow.domain false) (Rows.queueAllSpec.post enc Try.prog Try.f6 false true false false) := by
  refine returnsInHanded_of_change_sized (C := Try.checked) own started (by kernel_rfl) Try.func6
    (ChangeSpec.witness6 (enc := enc) (C := Try.checked) false ⟨#[], #[.int .u8 0, .slice none 0 0], []⟩ 8 (by kernel_rfl) (by kernel_rfl) (by kernel_rfl) (by kernel_rfl)) ?_
  intro W base args ds gs before hval0 hW hcnd hsz0 _
  have hval : ∀ (j : Nat) t v, Try.f6.params[j]? = some t → args[j]? = some v → Value.okWide Try.prog W .any base t v := hval0
  have hW' := hW
  obtain ⟨p, q, hA0, hV, rfl, hfz, hnd⟩ := hW
  have hA : DataW.TrodAll enc Try.prog W 0 (fun _ => true) true Try.f6.params.toList args.toList ds p := hA0
  have hAA := hA
  rw [Try.params6] at hA hval
  obtain ⟨v0, vs0, d0, ds0, p0, q0, hargs, rfl, rfl, h0, r0⟩ := trodAll_cons hA
  obtain ⟨v1, vs1, d1, ds1, p1, q1, rfl, rfl, rfl, h1, r1⟩ := trodAll_cons r0
  obtain ⟨rfl, rfl, rfl⟩ := trodAll_nil r1
  obtain rfl : args = #[v0, v1] := by cases args; simp_all
  obtain ⟨rfl, rfl⟩ := trodVars_none hV
  obtain ⟨a0, rfl, rfl, rfl, w0⟩ := open_int Try.underlying5 (hval 0 5 v0 rfl rfl) h0
  obtain ⟨x1, hx1⟩ := events_arg (hval 1 27 v1 rfl rfl) h1
  obtain ⟨mo, rfl, hmo⟩ : ∃ mo : Nat, a0 = (mo : Int) ∧ mo < 256 := by
    have w1 : 0 ≤ a0 ∧ a0 ≤ 255 := by simpa [Lit.wf, IntKind.min, IntKind.max, IntKind.signed, IntKind.bits] using w0
    exact ⟨a0.toNat, by omega, by omega⟩
  obtain ⟨h', hd⟩ := queueAll_ok mo hmo x1
  refine (D_law (P := Try.prog) env_ok (g := 6) (w := W) (args := #[.int .u8 (mo : Int), v1]) (fs := [.int .u8 mo, .slice 7 (evs x1)]) rfl (fun j x hx => ?_) hd).mono fun e W' ⟨he, bel⟩ => ?_
  · match j, hx with
    | 0, hx => simp at hx; subst hx; exact .int _ _
    | 1, hx => simp at hx; subst hx; exact hx1
    | j + 2, hx => simp at hx
  · subst he
    exact ⟨_, rfl, _, _, _, [], _, [], hW', trodAll_mk1 (shut_bool Try.underlying4 _), args_back kids full bel (by rw [Try.params6]; simp [tys]) hAA, rfl, bel.frame _, fun h => by cases h⟩
theorem over : Rows.queueAllRow.holds Try.pinned (OpenSpec.ofChange Rows.queueAllSpec) :=
  OpenClaim.holds_of_wide 6 Try.f6 rfl rfl rfl rfl rfl rfl rfl ⟨rfl, rfl, rfl, rfl, rfl⟩ rfl rfl rfl rfl rfl (by kernel_rfl) Try.func6 (by kernel_rfl)
    (of_decide_eq_true (by kernel_rfl)) (by unfold Func.isWrapper; first | (rw [if_pos (by decide +kernel)]; kernel_rfl) | (rw [if_neg (by decide +kernel)]; exact ⟨rfl, rfl⟩))
    (fun os started H enc _ => lifted os started H enc)
theorem proved : Rows.QueueAllSaid := over
#print axioms proved
end Go.Proofs.Ytoadpaaghjomnaa.queueAll
namespace Go.Proofs.Ytoadpaaghjomnaa
/-- The row, under a short name, for the claim. -/
theorem queueAll_holds : Rows.QueueAllSaid := queueAll.proved
end Go.Proofs.Ytoadpaaghjomnaa
