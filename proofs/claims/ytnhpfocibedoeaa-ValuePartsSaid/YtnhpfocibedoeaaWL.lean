/-
  ValueParts, the given statement.
  Conditions: none.
-/
import Derived.Test.YtnhpfocibedoeaaRows
import Derived.Test.YtnhpfocibedoeaaPD
import Derived.ProofKit
import Derived.OpenShut
import Derived.ShutString
import Derived.ChangeOld
import Derived.Below
import Derived.SizedLaws
namespace Go.Proofs.Ytnhpfocibedoeaa.valueParts
open Go.ChangeShapes Go.WideShapes Go.ChangeAt Go.RowKit Go.Deepv
open Go.Proofs.Ytnhpfocibedoeaa.Codes
set_option linter.unusedVariables false
theorem own : ownKnob Try.prog.godebug = none := by kernel_rfl
set_option maxRecDepth 100000 in
theorem lifted (os : Os) (started : os.Started) (H : Type) (enc : TypeId × Value → H) :
  ReturnsInHanded {} Try.checked os 3 .any (Rows.valuePartsSpec.pre6 enc Try.prog Try.f3 Rows.valuePartsRow.domain false) (Rows.valuePartsSpec.post enc Try.prog Try.f3 false true false false) := by
 refine returnsInHanded_of_change_sized (C := Try.checked) own started (by kernel_rfl) Try.func3
  (ChangeSpec.witness6 (enc := enc) (C := Try.checked) false ⟨#[], #[.slice none 0 0, .agg #[.int .i64 0, .int .i64 0, .slice none 0 0, .string ⟨#[]⟩, .slice none 0 0], .agg #[.int .i64 0, .string ⟨#[]⟩, .slice none 0 0], .int .u8 0], []⟩ 8 (by kernel_rfl) (by kernel_rfl) (by kernel_rfl) (by kernel_rfl)) ?_
 intro W base args ds gs before hval0 hW hcnd hsz0 _
 have hval : ∀ (j : Nat) t v, Try.f3.params[j]? = some t → args[j]? = some v → Value.okWide Try.prog W .any base t v := hval0
 have hW' := hW
 obtain ⟨p, q, hA0, hV, rfl, hfz, hnd⟩ := hW
 have hA : DataW.TrodAll enc Try.prog W 0 (fun _ => true) true Try.f3.params.toList args.toList ds p := hA0
 have hAA := hA
 rw [Try.params3] at hA hval
 obtain ⟨v0, vs0, d0, ds0, p0, q0, hargs, rfl, rfl, h0, r0⟩ := trodAll_cons hA
 obtain ⟨v1, vs1, d1, ds1, p1, q1, rfl, rfl, rfl, h1, r1⟩ := trodAll_cons r0
 obtain ⟨v2, vs2, d2, ds2, p2, q2, rfl, rfl, rfl, h2, r2⟩ := trodAll_cons r1
 obtain ⟨v3, vs3, d3, ds3, p3, q3, rfl, rfl, rfl, h3, r3⟩ := trodAll_cons r2
 obtain ⟨rfl, rfl, rfl⟩ := trodAll_nil r3
 obtain rfl : args = #[v0, v1, v2, v3] := by cases args; simp_all
 obtain ⟨rfl, rfl⟩ := trodVars_none hV
 obtain ⟨b0, m0, k0, rfl⟩ := okWide_slice Try.underlying22 (hval 0 22 v0 rfl rfl)
 obtain ⟨n0, x0, hx0, g0⟩ := arg_one kids plain (by simp [tys]) h0 rfl
 obtain ⟨l0, rfl⟩ := datas_of n0 x0 g0
 obtain ⟨n1, x1, hx1, g1⟩ := arg_struct kids plain (by simp [tys]) Try.underlying26 (hval 1 26 v1 rfl rfl) h1
 obtain ⟨l1, rfl⟩ := value_of n1 x1 g1
 obtain ⟨n2, x2, hx2, g2⟩ := arg_struct kids plain (by simp [tys]) Try.underlying29 (hval 2 29 v2 rfl rfl) h2
 obtain ⟨l2, rfl⟩ := type_of n2 x2 g2
 obtain ⟨a3, rfl, rfl, rfl, w3⟩ := open_int Try.underlying5 (hval 3 5 v3 rfl rfl) h3
 have w4 : 0 ≤ a3 ∧ a3 ≤ 255 := by simpa [Lit.wf, IntKind.min, IntKind.max, IntKind.signed, IntKind.bits] using w3
 have hd := parts_law l0 l1 l2 a3 w4.1 (by omega) []
 refine (D_law (P := Try.prog) (envOk ⟨trivial⟩) (g := 3) (w := W) (gw_start W) (args := #[.slice b0 m0 k0, v1, v2, .int .u8 a3]) (fs := [datasF l0, .agg l1.enc, .agg l2.enc, .int .u8 a3]) rfl (fun j x hx => ?_) hd).mono fun e W' ⟨he, bel⟩ => ?_
 ·match j, hx with
  | 0, hx => simp at hx; subst hx; exact hx0
  | 1, hx => simp at hx; subst hx; exact hx1
  | 2, hx => simp at hx; subst hx; exact hx2
  | 3, hx => simp at hx; subst hx; exact .int _ _
  | j + 4, hx => simp at hx
 ·subst he
  exact ⟨_, rfl, _, _, _, [], _, [], hW', trodAll_mk1 (shut_bool Try.underlying4 _), args_back kids full bel (by rw [Try.params3]; simp [tys]) hAA, rfl, bel.frame _, fun h => by cases h⟩
theorem over : Rows.valuePartsRow.holds Try.pinned (OpenSpec.ofChange Rows.valuePartsSpec) :=
 OpenClaim.holds_of_wide 3 Try.f3 rfl rfl rfl rfl rfl rfl rfl ⟨rfl, rfl, rfl, rfl, rfl⟩ rfl rfl rfl rfl rfl (by kernel_rfl) Try.func3 (by kernel_rfl)
  (of_decide_eq_true (by kernel_rfl)) (by unfold Func.isWrapper; first | (rw [if_pos (by decide +kernel)]; kernel_rfl) | (rw [if_neg (by decide +kernel)]; exact ⟨rfl, rfl⟩))
  (fun os started H enc _ => lifted os started H enc)
theorem proved : Rows.ValuePartsSaid := over
end Go.Proofs.Ytnhpfocibedoeaa.valueParts
namespace Go.Proofs.Ytnhpfocibedoeaa
theorem valueParts_holds : Rows.ValuePartsSaid := valueParts.proved
end Go.Proofs.Ytnhpfocibedoeaa
