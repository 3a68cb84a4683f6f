/-
  LexPads, the given statement: the row.
  Conditions: none.
-/
import Derived.Test.YtoadpaaghjomnaaDoorRows
import Derived.Test.YtoadpaaghjomnaaDoorLB
import Derived.Test.YtoadpaaghjomnaaDoorHG
import Derived.Lay
namespace Go.Proofs.YtoadpaaghjomnaaDoor.lexPads
open Go.ChangeShapes Go.WideShapes Go.ChangeAt Go.RowKit Go.Deepv
open Go.Proofs.YtoadpaaghjomnaaDoor.Codes
set_option linter.unusedVariables false
theorem met {W : World} (h : laidMetH Tryd.prog Rows.lexPadsRow.laid W) : Five W := h
theorem door_met (os : Os) (args : Array Value) : laidMetH Tryd.prog Rows.lexPadsRow.laid ((World.laidAll Tryd.prog os Rows.lexPadsRow.laid).forCall (fun _ _ => 0) ⟨#[], args, []⟩).memory :=
  laidMet_laidAll _ (by kernel_rfl) (by kernel_rfl)

theorem u8_arg {P : Program} {w : World} {base : Nat} {t : TypeId} {v : Value} (hu : P.underlying t = some (.int .u8)) (h : Value.okWide P w .any base t v) : ∃ z : Nat, z < 256 ∧ v = .int .u8 (z : Int) := by
  obtain ⟨n, rfl⟩ := okWide_int hu h
  simp only [Value.okWide, hu, Cell.okWide, Cell.ok] at h
  have hn : 0 ≤ n ∧ n ≤ 255 := by
    have h1 : (0 : Int) ≤ n := h.2.1
    have h2 : n ≤ 255 := h.2.2
    exact ⟨h1, h2⟩
  exact ⟨n.toNat, by omega, by rw [Int.toNat_of_nonneg hn.1]⟩
set_option maxRecDepth 100000 in
theorem lifted (os : Os) (started : os.Started) (H : Type) (enc : TypeId × Value → H) :
    ReturnsInHanded {} Tryd.checked os 6 .any (fun w args => (Rows.lexPadsSpec.pre enc Tryd.prog Tryd.f6 [] false w args ∧ laidMetH Tryd.prog Rows.lexPadsRow.laid w) ∧ sizedMet enc Tryd.prog Tryd.f6 (OpenSpec.ofChange Rows.lexPadsSpec) false w args)
      (Rows.lexPadsSpec.post enc Tryd.prog Tryd.f6 false true false false) := by
  refine returnsInHanded_of_change_and (C := Tryd.checked) (X := fun w _ => laidMetH Tryd.prog Rows.lexPadsRow.laid w) (fun _ _ _ hh h => h.of_heap hh) own started (by kernel_rfl) Tryd.func6
    (ChangeSpec.witness_shaped (enc := enc) (C := Tryd.checked) (os := os) (X := fun w _ => laidMetH Tryd.prog Rows.lexPadsRow.laid w) false (World.laidAll Tryd.prog os Rows.lexPadsRow.laid) #[.string ⟨#[]⟩, .string ⟨#[]⟩, .int .u8 0] 8 (World.laidAll_os _ _ _) (World.shaped_of_ZipB (by kernel_rfl) (by kernel_rfl)) (by kernel_rfl) (by kernel_rfl) (by kernel_rfl) (door_met os _)) ?_
  intro W base args ds gs before hval0 hW _ _ hL _
  have hval : ∀ (j : Nat) t v, Tryd.f6.params[j]? = some t → args[j]? = some v → Value.okWide Tryd.prog W .any base t v := hval0
  have hW' := hW
  obtain ⟨p, q, hA0, hV, rfl, hfz, hnd⟩ := hW
  have hA : DataW.TrodAll enc Tryd.prog W 0 (fun _ => true) true Tryd.f6.params.toList args.toList ds p := hA0
  have hAA := hA
  rw [Tryd.params6] at hA hval
  obtain ⟨v0, v1, v2, d0, d1, d2, p0, p1, p2, rfl, rfl, rfl, h0, h1, h2⟩ := trodAll_three hA
  obtain ⟨rfl, rfl⟩ := trodVars_none hV
  obtain ⟨s0, rfl, x0⟩ := arg_str (enc := enc) Tryd.underlying9 (hval 0 9 v0 rfl rfl)
  obtain ⟨s1, rfl, x1⟩ := arg_str (enc := enc) Tryd.underlying9 (hval 1 9 v1 rfl rfl)
  obtain ⟨z2, hz2, rfl⟩ := u8_arg Tryd.underlying5 (hval 2 5 v2 rfl rfl)
  have x2 : RepF (Deepv.Start W) W (.int .u8 (z2 : Int)) (.int .u8 z2) := .int _ _
  have hd := lexpads_ok s0 s1 z2 hz2 []
  refine (D_law (P := Tryd.prog) envOk (g := 6) (w := W) (glob_of (met hL)) (args := #[.string s0, .string s1, .int .u8 (z2 : Int)]) (fs := [.str s0, .str s1, .int .u8 z2]) rfl (fun j y hy => ?_) hd).mono fun e W' ⟨he, bel⟩ => ?_
  · match j, hy with
    | 0, hy => simp at hy; subst hy; exact x0
    | 1, hy => simp at hy; subst hy; exact x1
    | 2, hy => simp at hy; subst hy; exact x2
    | j + 3, hy => simp at hy
  · subst he
    exact ⟨_, rfl, _, _, _, [], _, [], hW', trodAll_mk1 (shut_bool Tryd.underlying4 _), args_back kids full bel (by rw [Tryd.params6]; simp [tys]) hAA, rfl, bel.frame _, fun h => by cases h⟩
theorem over : Rows.lexPadsRow.holds Tryd.pinned (OpenSpec.ofChange Rows.lexPadsSpec) :=
  OpenClaim.holds_of_wide 6 Tryd.f6 rfl rfl rfl rfl rfl rfl rfl ⟨rfl, rfl, rfl, rfl, rfl⟩ rfl rfl rfl rfl rfl (by kernel_rfl) Tryd.func6 (by kernel_rfl)
    (of_decide_eq_true (by kernel_rfl)) (by unfold Func.isWrapper; first | (rw [if_pos (by decide +kernel)]; kernel_rfl) | (rw [if_neg (by decide +kernel)]; exact ⟨rfl, rfl⟩))
    (fun os started H enc _ => lifted os started H enc)
theorem proved : Rows.LexPadsSaid := over
end Go.Proofs.YtoadpaaghjomnaaDoor.lexPads
