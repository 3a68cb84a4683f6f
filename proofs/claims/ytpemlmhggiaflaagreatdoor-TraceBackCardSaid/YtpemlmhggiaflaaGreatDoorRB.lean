/-
  TraceBack, the given statement: the row.
  Conditions: none.
-/
import Derived.Test.YtpemlmhggiaflaaGreatDoorKF
import Derived.Test.YtpemlmhggiaflaaGreatDoorUP
import Derived.Test.YtpemlmhggiaflaaGreatDoorUQ
import Derived.Lay
namespace Go.Proofs.YtpemlmhggiaflaaGreatDoor.traceBack
open Go.ChangeShapes Go.WideShapes Go.ChangeAt Go.RowKit Go.Deepv
open Go.Proofs.YtpemlmhggiaflaaGreatDoor.Codes
set_option linter.unusedVariables false
theorem door_met (os : Os) (args : Array Value) : laidMetH Tryz.prog Rows.traceBackRow.laid ((World.laidAll Tryz.prog os Rows.traceBackRow.laid).forCall (fun _ _ => 0) ⟨#[], args, []⟩).memory :=
 laidMet_laidAll _ (by kernel_rfl) (by kernel_rfl)
set_option maxRecDepth 100000 in
theorem lifted (os : Os) (started : os.Started) (H : Type) (enc : TypeId × Value → H) :
  ReturnsInHanded {} Tryz.checked os 4 .any (fun w args => (Rows.traceBackSpec.pre enc Tryz.prog Tryz.f4 [] false w args ∧ laidMetH Tryz.prog Rows.traceBackRow.laid w) ∧ sizedMet enc Tryz.prog Tryz.f4 (OpenSpec.ofChange Rows.traceBackSpec) false w args)
   (Rows.traceBackSpec.post enc Tryz.prog Tryz.f4 false true false false) := by
 refine returns_all (C := Tryz.checked) (X := fun w _ => laidMetH Tryz.prog Rows.traceBackRow.laid w) (fun _ _ _ hh h => h.of_heap hh) own started (by kernel_rfl) Tryz.func4
  (ChangeSpec.witness_shaped (enc := enc) (C := Tryz.checked) (os := os) (X := fun w _ => laidMetH Tryz.prog Rows.traceBackRow.laid w) false (World.laidAll Tryz.prog os Rows.traceBackRow.laid) #[.agg #[.int .i64 0, .int .i64 0, .int .i64 0, .slice none 0 0], .string ⟨#[]⟩] 8 (World.laidAll_os _ _ _) (World.shaped_of_ZipB (by kernel_rfl) (by kernel_rfl)) (by kernel_rfl) (by kernel_rfl) (by kernel_rfl) (door_met os _)) ?_
 intro W base args ds gs before hval0 hW _ hz hL hsh
 have hval : ∀ (j : Nat) t v, Tryz.f4.params[j]? = some t → args[j]? = some v → Value.okWide Tryz.prog W .any base t v := hval0
 have hW' := hW
 obtain ⟨p, q, hA0, hV, rfl, hfz, hnd⟩ := hW
 have hA : DataW.TrodAll enc Tryz.prog W 0 (fun _ => true) true Tryz.f4.params.toList args.toList ds p := hA0
 have hAA := hA
 rw [Tryz.params4] at hA hval hz
 obtain ⟨v0, v1, d0, d1, p0, p1, rfl, rfl, rfl, h0, h1⟩ := trodAll_two hA
 obtain ⟨rfl, rfl⟩ := trodVars_none hV
 have z0 : (d0.weights Tryz.prog 24).all (· ≤ reachBytes) = true := List.all_eq_true.2 fun n hn => List.all_eq_true.1 hz n (DataW.weights_mem_each (j := 0) rfl rfl n hn)
 have z1 : (d1.weights Tryz.prog 9).all (· ≤ reachBytes) = true := List.all_eq_true.2 fun n hn => List.all_eq_true.1 hz n (DataW.weights_mem_each (j := 1) rfl rfl n hn)
 obtain ⟨n0, f0, x0, hf0, sf0⟩ := arg_struct2 kids plain (by simp [tys]) Tryz.underlying24 (hval 0 24 v0 rfl rfl) h0 z0
 obtain ⟨r0, rfl, i0⟩ := rs_of n0 f0 hf0
 obtain ⟨s1, rfl, x1⟩ := arg_str (enc := enc) Tryz.underlying9 (hval 1 9 v1 rfl rfl)
 have y1 : s1.size ≤ 9223372036854775807 := str_max Tryz.underlying9 h1
 have hd := traceback_ok r0 i0 s1 y1 []
 have hL : laidMet Tryz.prog laidL W := hL
 refine (D_law (P := Tryz.prog) (envOk (facts hL hsh)) (g := 4) (w := W) (gw_start W) (args := #[v0, .string s1]) (fs := [.agg r0.enc, .str s1]) rfl (fun j y hy => ?_) hd).mono fun e W' ⟨he, bel⟩ => ?_
 ·match j, hy with
  | 0, hy => simp at hy; subst hy; exact x0
  | 1, hy => simp at hy; subst hy; exact x1
  | j + 2, hy => simp at hy
 ·subst he
  exact ⟨_, rfl, _, _, _, [], _, [], hW', trodAll_mk1 (shut_bool Tryz.underlying4 _), args_back kids full bel (by rw [Tryz.params4]; simp [tys]) hAA, rfl, bel.frame _, fun h => by cases h⟩
theorem over : Rows.traceBackRow.holds Tryz.pinned (OpenSpec.ofChange Rows.traceBackSpec) :=
 OpenClaim.holds_of_wide 4 Tryz.f4 rfl rfl rfl rfl rfl rfl rfl ⟨rfl, rfl, rfl, rfl, rfl⟩ rfl rfl rfl rfl rfl (by kernel_rfl) Tryz.func4 (by kernel_rfl)
  (of_decide_eq_true (by kernel_rfl)) (by unfold Func.isWrapper; first | (rw [if_pos (by decide +kernel)]; kernel_rfl) | (rw [if_neg (by decide +kernel)]; exact ⟨rfl, rfl⟩))
  (fun os started H enc _ => lifted os started H enc)
theorem proved : Rows.TraceBackSaid := over
end Go.Proofs.YtpemlmhggiaflaaGreatDoor.traceBack
