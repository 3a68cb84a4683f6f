/-
  The contracts of the library's functions that the statements reach, as the deep machine takes them.
  Conditions: what the world's variables hold.
-/
import Derived.Test.YtpemlmhggiaflaaGreatDoorKA
import Derived.Test.YtpemlmhggiaflaaGreatDoorCodes
import Derived.Test.YtpemlmhggiaflaaGreatDoorIS
import Derived.Lib.SmallJoins
import Derived.Lib.AppendIntMem
set_option linter.unusedVariables false
namespace Go.Proofs.YtpemlmhggiaflaaGreatDoor.Codes
open Go.Deepv Go.RowKit Go.Proofs

/-- What is asked of the library's own variables. -/
structure Facts (W : World) : Prop where
  pow : Lib.TabIs Tryz.prog W "internal/strconv.uint64pow10" .u64 Lib.pow10Tab
  maxlen : ∃ m, W.cell? ⟨Tryz.lays146_ren.g 1, 0, none⟩ = some (.int .i64 m)

theorem ext_ok {W : World} (X : Facts W) : ExtOk Tryz.prog (GW W) ext := by
  intro g F hF
  unfold ext at hF
  split at hF
  · cases hF
    refine ⟨⟨Tryz.f21, by kernel_rfl, by kernel_rfl, by kernel_rfl⟩, fun args dargs S ρ h w out hi hl hr hd => ?_⟩
    refine itoa_ext (fun n h0 h1 w hg => ?_) args dargs hi hl hr hd
    exact (Any.strconv_Itoa Tryz.laysM171 n h0 h1 w (gw_tab (by decide) hg X.pow)).mono fun e w' ⟨he, k, os, hw⟩ => ⟨he, by rw [hw]; exact Lib.below_grow _ w (Nat.le_refl _) k os⟩
  · cases hF
    refine ⟨⟨Tryz.f22, by kernel_rfl, by kernel_rfl, by kernel_rfl⟩, fun args dargs S ρ h w out hi hl hr hd => ?_⟩
    refine format_ext (fun n h0 h1 w hg => ?_) args dargs hi hl hr hd
    exact (Any.strconv_FormatInt_10 Tryz.laysM173 n h0 h1 w (gw_tab (by decide) hg X.pow)).mono fun e w' ⟨he, k, os, hw⟩ => ⟨he, by rw [hw]; exact Lib.below_grow _ w (Nat.le_refl _) k os⟩
  · cases hF
    refine ⟨⟨Tryz.f24, by kernel_rfl, by kernel_rfl, by kernel_rfl⟩, fun args dargs S ρ h w out hi hl hr hd => ?_⟩
    exact join_ext (fun a c sep w => Any.strings_Join_none Tryz.lays156 Tryz.Builder_Extra_156 a c sep w) (fun bk o c xs sep w h1 h2 h3 h4 h5 => Any.strings_Join Tryz.lays156 Tryz.Builder_Extra_156 bk o c xs sep w h1 h2 h3 h4 h5) args dargs hi hl hr hd
  · cases hF
    refine ⟨⟨Tryz.f33, by kernel_rfl, by kernel_rfl, by kernel_rfl⟩, fun args dargs S ρ h w out hi hl hr hd => ?_⟩
    refine split_ext (t := Tryz.lays146_ren.t 9) (fun s sep hs h1 w hg => ?_) args dargs hi hl hr hd
    obtain ⟨m, hm⟩ := X.maxlen
    exact Any.strings_Split Tryz.lays146 (by kernel_rfl) s sep m w hs (gw_cell hg hm) (by omega)
  · cases hF
theorem envOk {W : World} (X : Facts W) : EnvOk Tryz.prog (GW W) env := env_ok (ext_ok X)
end Go.Proofs.YtpemlmhggiaflaaGreatDoor.Codes
