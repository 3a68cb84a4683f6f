/-
  InstTells, the given statement: the row.
  Conditions: none.
-/
import Derived.Test.YtckmpipiginhaaaDoorKF
import Derived.Test.YtckmpipiginhaaaDoorIP
import Derived.Test.YtckmpipiginhaaaDoorIQ
import Derived.Lay
namespace Go.Proofs.YtckmpipiginhaaaDoor.instTells
open Go.ChangeShapes Go.WideShapes Go.ChangeAt Go.RowKit Go.Deepv
open Go.Proofs.YtckmpipiginhaaaDoor.Codes
set_option linter.unusedVariables false
theorem door_met (os : Os) (args : Array Value) : laidMetH Tryd.prog Rows.instTellsRow.laid ((World.laidAll Tryd.prog os Rows.instTellsRow.laid).forCall (fun _ _ => 0) ⟨#[], args, []⟩).memory :=
  laidMet_laidAll _ (by kernel_rfl) (by kernel_rfl)
set_option maxRecDepth 100000 in
theorem lifted (os : Os) (started : os.Started) (H : Type) (enc : TypeId × Value → H) :
    ReturnsInHanded {} Tryd.checked os 4 .any (fun w args => (Rows.instTellsSpec.pre enc Tryd.prog Tryd.f4 [] false w args ∧ laidMetH Tryd.prog Rows.instTellsRow.laid w) ∧ sizedMet enc Tryd.prog Tryd.f4 (OpenSpec.ofChange Rows.instTellsSpec) false w args)
      (Rows.instTellsSpec.post enc Tryd.prog Tryd.f4 false true false false) := by
  refine returns_all (C := Tryd.checked) (X := fun w _ => laidMetH Tryd.prog Rows.instTellsRow.laid w) (fun _ _ _ hh h => h.of_heap hh) own started (by kernel_rfl) Tryd.func4
    (ChangeSpec.witness_shaped (enc := enc) (C := Tryd.checked) (os := os) (X := fun w _ => laidMetH Tryd.prog Rows.instTellsRow.laid w) false (World.laidAll Tryd.prog os Rows.instTellsRow.laid) #[.agg #[.int .i64 0, .int .i64 0, .int .i64 0, .int .i64 0], .string ⟨#[]⟩] 8 (World.laidAll_os _ _ _) (World.shaped_of_ZipB (by kernel_rfl) (by kernel_rfl)) (by kernel_rfl) (by kernel_rfl) (by kernel_rfl) (door_met os _)) ?_
  intro W base args ds gs before hval0 hW _ hL hsh
  have hval : ∀ (j : Nat) t v, Tryd.f4.params[j]? = some t → args[j]? = some v → Value.okWide Tryd.prog W .any base t v := hval0
  have hW' := hW
  obtain ⟨p, q, hA0, hV, rfl, hfz, hnd⟩ := hW
  have hA : DataW.TrodAll enc Tryd.prog W 0 (fun _ => true) true Tryd.f4.params.toList args.toList ds p := hA0
  have hAA := hA
  rw [Tryd.params4] at hA hval
  obtain ⟨v0, v1, d0, d1, p0, p1, rfl, rfl, rfl, h0, h1⟩ := trodAll_two hA
  obtain ⟨rfl, rfl⟩ := trodVars_none hV
  obtain ⟨n0, f0, x0, hf0⟩ := arg_struct kids plain (by simp [tys]) Tryd.underlying23 (hval 0 23 v0 rfl rfl) h0
  obtain ⟨o0, a0, b0, c0, rfl, i0⟩ := inst_of n0 f0 hf0
  obtain ⟨s1, rfl, x1⟩ := arg_str (enc := enc) Tryd.underlying9 (hval 1 9 v1 rfl rfl)
  have hd := tells_law o0 a0 b0 c0 s1 []
  have hL : laidMet Tryd.prog laidL W := hL
  refine (D_law (P := Tryd.prog) (envOk (facts hL hsh)) (g := 4) (w := W) (gw_start W) (args := #[v0, .string s1]) (fs := [.agg [.int .i64 o0, .int .i64 a0, .int .i64 b0, .int .i64 c0], .str s1]) rfl (fun j y hy => ?_) hd).mono fun e W' ⟨he, bel⟩ => ?_
  · match j, hy with
    | 0, hy => simp at hy; subst hy; exact x0
    | 1, hy => simp at hy; subst hy; exact x1
    | j + 2, hy => simp at hy
  · subst he
    exact ⟨_, rfl, _, _, _, [], _, [], hW', trodAll_mk1 (shut_bool Tryd.underlying4 _), args_back kids full bel (by rw [Tryd.params4]; simp [tys]) hAA, rfl, bel.frame _, fun h => by cases h⟩
theorem over : Rows.instTellsRow.holds Tryd.pinned (OpenSpec.ofChange Rows.instTellsSpec) :=
  OpenClaim.holds_of_wide 4 Tryd.f4 rfl rfl rfl rfl rfl rfl rfl ⟨rfl, rfl, rfl, rfl, rfl⟩ rfl rfl rfl rfl rfl (by kernel_rfl) Tryd.func4 (by kernel_rfl)
    (of_decide_eq_true (by kernel_rfl)) (by unfold Func.isWrapper; first | (rw [if_pos (by decide +kernel)]; kernel_rfl) | (rw [if_neg (by decide +kernel)]; exact ⟨rfl, rfl⟩))
    (fun os started H enc _ => lifted os started H enc)
theorem proved : Rows.InstTellsSaid := over
end Go.Proofs.YtckmpipiginhaaaDoor.instTells
