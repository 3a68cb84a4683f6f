/-
  InstBack, the given statement: the row.
  Conditions: none.
-/
import Derived.Test.YtckmpipiginhaaaDoorKF
import Derived.Test.YtckmpipiginhaaaDoorIJ
import Derived.Test.YtckmpipiginhaaaDoorIQ
import Derived.Lay
namespace Go.Proofs.YtckmpipiginhaaaDoor.instBack
open Go.ChangeShapes Go.WideShapes Go.ChangeAt Go.RowKit Go.Deepv
open Go.Proofs.YtckmpipiginhaaaDoor.Codes
set_option linter.unusedVariables false
theorem door_met (os : Os) (args : Array Value) : laidMetH Tryd.prog Rows.instBackRow.laid ((World.laidAll Tryd.prog os Rows.instBackRow.laid).forCall (fun _ _ => 0) ⟨#[], args, []⟩).memory :=
  laidMet_laidAll _ (by kernel_rfl) (by kernel_rfl)
set_option maxRecDepth 100000 in
theorem lifted (os : Os) (started : os.Started) (H : Type) (enc : TypeId × Value → H) :
    ReturnsInHanded {} Tryd.checked os 5 .any (fun w args => (Rows.instBackSpec.pre enc Tryd.prog Tryd.f5 [] false w args ∧ laidMetH Tryd.prog Rows.instBackRow.laid w) ∧ sizedMet enc Tryd.prog Tryd.f5 (OpenSpec.ofChange Rows.instBackSpec) false w args)
      (Rows.instBackSpec.post enc Tryd.prog Tryd.f5 false true false false) := by
  refine returns_all (C := Tryd.checked) (X := fun w _ => laidMetH Tryd.prog Rows.instBackRow.laid w) (fun _ _ _ hh h => h.of_heap hh) own started (by kernel_rfl) Tryd.func5
    (ChangeSpec.witness_shaped (enc := enc) (C := Tryd.checked) (os := os) (X := fun w _ => laidMetH Tryd.prog Rows.instBackRow.laid w) false (World.laidAll Tryd.prog os Rows.instBackRow.laid) #[.agg #[.int .i64 0, .int .i64 0, .int .i64 0, .int .i64 0], .agg #[.int .i64 0, .int .i64 0, .int .i64 0, .int .i64 0], .string ⟨#[]⟩] 8 (World.laidAll_os _ _ _) (World.shaped_of_ZipB (by kernel_rfl) (by kernel_rfl)) (by kernel_rfl) (by kernel_rfl) (by kernel_rfl) (door_met os _)) ?_
  intro W base args ds gs before hval0 hW _ hL hsh
  have hval : ∀ (j : Nat) t v, Tryd.f5.params[j]? = some t → args[j]? = some v → Value.okWide Tryd.prog W .any base t v := hval0
  have hW' := hW
  obtain ⟨p, q, hA0, hV, rfl, hfz, hnd⟩ := hW
  have hA : DataW.TrodAll enc Tryd.prog W 0 (fun _ => true) true Tryd.f5.params.toList args.toList ds p := hA0
  have hAA := hA
  rw [Tryd.params5] at hA hval
  obtain ⟨v0, v1, v2, d0, d1, d2, p0, p1, p2, rfl, rfl, rfl, h0, h1, h2⟩ := trodAll_three hA
  obtain ⟨rfl, rfl⟩ := trodVars_none hV
  obtain ⟨n0, f0, x0, hf0⟩ := arg_struct kids plain (by simp [tys]) Tryd.underlying23 (hval 0 23 v0 rfl rfl) h0
  obtain ⟨o0, a0, b0, c0, rfl, i0⟩ := inst_of n0 f0 hf0
  obtain ⟨n1, f1, x1, hf1⟩ := arg_struct kids plain (by simp [tys]) Tryd.underlying23 (hval 1 23 v1 rfl rfl) h1
  obtain ⟨o1, a1, b1, c1, rfl, i1⟩ := inst_of n1 f1 hf1
  obtain ⟨s2, rfl, x2⟩ := arg_str (enc := enc) Tryd.underlying9 (hval 2 9 v2 rfl rfl)
  have hd := back_law o0 a0 b0 c0 o1 a1 b1 c1 s2 []
  have hL : laidMet Tryd.prog laidL W := hL
  refine (D_law (P := Tryd.prog) (envOk (facts hL hsh)) (g := 5) (w := W) (gw_start W) (args := #[v0, v1, .string s2]) (fs := [.agg [.int .i64 o0, .int .i64 a0, .int .i64 b0, .int .i64 c0], .agg [.int .i64 o1, .int .i64 a1, .int .i64 b1, .int .i64 c1], .str s2]) rfl (fun j y hy => ?_) hd).mono fun e W' ⟨he, bel⟩ => ?_
  · match j, hy with
    | 0, hy => simp at hy; subst hy; exact x0
    | 1, hy => simp at hy; subst hy; exact x1
    | 2, hy => simp at hy; subst hy; exact x2
    | j + 3, hy => simp at hy
  · subst he
    exact ⟨_, rfl, _, _, _, [], _, [], hW', trodAll_mk1 (shut_bool Tryd.underlying4 _), args_back kids full bel (by rw [Tryd.params5]; simp [tys]) hAA, rfl, bel.frame _, fun h => by cases h⟩
theorem over : Rows.instBackRow.holds Tryd.pinned (OpenSpec.ofChange Rows.instBackSpec) :=
  OpenClaim.holds_of_wide 5 Tryd.f5 rfl rfl rfl rfl rfl rfl rfl ⟨rfl, rfl, rfl, rfl, rfl⟩ rfl rfl rfl rfl rfl (by kernel_rfl) Tryd.func5 (by kernel_rfl)
    (of_decide_eq_true (by kernel_rfl)) (by unfold Func.isWrapper; first | (rw [if_pos (by decide +kernel)]; kernel_rfl) | (rw [if_neg (by decide +kernel)]; exact ⟨rfl, rfl⟩))
    (fun os started H enc _ => lifted os started H enc)
theorem proved : Rows.InstBackSaid := over
end Go.Proofs.YtckmpipiginhaaaDoor.instBack
