/-
  LexDoes, the given statement: the row.
  Conditions: none.
-/
import Derived.Test.YtoadpaaghjomnaaDoorRows
import Derived.Test.YtoadpaaghjomnaaDoorLB
import Derived.Lay
namespace Go.Proofs.YtoadpaaghjomnaaDoor.lexDoes
open Go.ChangeShapes Go.WideShapes Go.ChangeAt Go.RowKit Go.Deepv
open Go.Proofs.YtoadpaaghjomnaaDoor.Codes
set_option linter.unusedVariables false
theorem met {W : World} (h : laidMetH Tryd.prog Rows.lexDoesRow.laid W) : Five W := h
theorem door_met (os : Os) (args : Array Value) : laidMetH Tryd.prog Rows.lexDoesRow.laid ((World.laidAll Tryd.prog os Rows.lexDoesRow.laid).forCall (fun _ _ => 0) ⟨#[], args, []⟩).memory :=
  laidMet_laidAll _ (by kernel_rfl) (by kernel_rfl)

set_option maxRecDepth 100000 in
theorem lifted (os : Os) (started : os.Started) (H : Type) (enc : TypeId × Value → H) :
    ReturnsInHanded {} Tryd.checked os 4 .any (fun w args => (Rows.lexDoesSpec.pre enc Tryd.prog Tryd.f4 [] false w args ∧ laidMetH Tryd.prog Rows.lexDoesRow.laid w) ∧ sizedMet enc Tryd.prog Tryd.f4 (OpenSpec.ofChange Rows.lexDoesSpec) false w args)
      (Rows.lexDoesSpec.post enc Tryd.prog Tryd.f4 false true false false) := by
  refine returnsInHanded_of_change_and (C := Tryd.checked) (X := fun w _ => laidMetH Tryd.prog Rows.lexDoesRow.laid w) (fun _ _ _ hh h => h.of_heap hh) own started (by kernel_rfl) Tryd.func4
    (ChangeSpec.witness_shaped (enc := enc) (C := Tryd.checked) (os := os) (X := fun w _ => laidMetH Tryd.prog Rows.lexDoesRow.laid w) false (World.laidAll Tryd.prog os Rows.lexDoesRow.laid) #[.string ⟨#[]⟩, .agg #[.int .i64 0, .string ⟨#[]⟩, .int .i64 0, .slice none 0 0, .int .i64 0, .int .i64 0], .bool false] 8 (World.laidAll_os _ _ _) (World.shaped_of_ZipB (by kernel_rfl) (by kernel_rfl)) (by kernel_rfl) (by kernel_rfl) (by kernel_rfl) (door_met os _)) ?_
  intro W base args ds gs before hval0 hW _ _ hL _
  have hval : ∀ (j : Nat) t v, Tryd.f4.params[j]? = some t → args[j]? = some v → Value.okWide Tryd.prog W .any base t v := hval0
  have hW' := hW
  obtain ⟨p, q, hA0, hV, rfl, hfz, hnd⟩ := hW
  have hA : DataW.TrodAll enc Tryd.prog W 0 (fun _ => true) true Tryd.f4.params.toList args.toList ds p := hA0
  have hAA := hA
  rw [Tryd.params4] at hA hval
  obtain ⟨v0, v1, v2, d0, d1, d2, p0, p1, p2, rfl, rfl, rfl, h0, h1, h2⟩ := trodAll_three hA
  obtain ⟨rfl, rfl⟩ := trodVars_none hV
  obtain ⟨s0, rfl, x0⟩ := arg_str (enc := enc) Tryd.underlying9 (hval 0 9 v0 rfl rfl)
  obtain ⟨n1, f1, x1, hf1⟩ := arg_struct kids plain (by simp [tys]) Tryd.underlying48 (hval 1 48 v1 rfl rfl) h1
  obtain ⟨t1, l1, c1, rfl, hn1⟩ := tok_of n1 f1 hf1
  obtain ⟨b2, rfl⟩ := okWide_bool Tryd.underlying4 (hval 2 4 v2 rfl rfl)
  have x2 : RepF (Deepv.Start W) W (.bool b2) (.bool b2) := .bool _
  have hd := lexdoes_ok s0 t1 l1 c1 b2 hn1 []
  refine (D_law (P := Tryd.prog) envOk (g := 4) (w := W) (glob_of (met hL)) (args := #[.string s0, v1, .bool b2]) (fs := [.str s0, .agg (t1.enc l1 c1), .bool b2]) rfl (fun j y hy => ?_) hd).mono fun e W' ⟨he, bel⟩ => ?_
  · match j, hy with
    | 0, hy => simp at hy; subst hy; exact x0
    | 1, hy => simp at hy; subst hy; exact x1
    | 2, hy => simp at hy; subst hy; exact x2
    | j + 3, hy => simp at hy
  · subst he
    exact ⟨_, rfl, _, _, _, [], _, [], hW', trodAll_mk1 (shut_bool Tryd.underlying4 _), args_back kids full bel (by rw [Tryd.params4]; simp [tys]) hAA, rfl, bel.frame _, fun h => by cases h⟩
theorem over : Rows.lexDoesRow.holds Tryd.pinned (OpenSpec.ofChange Rows.lexDoesSpec) :=
  OpenClaim.holds_of_wide 4 Tryd.f4 rfl rfl rfl rfl rfl rfl rfl ⟨rfl, rfl, rfl, rfl, rfl⟩ rfl rfl rfl rfl rfl (by kernel_rfl) Tryd.func4 (by kernel_rfl)
    (of_decide_eq_true (by kernel_rfl)) (by unfold Func.isWrapper; first | (rw [if_pos (by decide +kernel)]; kernel_rfl) | (rw [if_neg (by decide +kernel)]; exact ⟨rfl, rfl⟩))
    (fun os started H enc _ => lifted os started H enc)
theorem proved : Rows.LexDoesSaid := over
end Go.Proofs.YtoadpaaghjomnaaDoor.lexDoes
