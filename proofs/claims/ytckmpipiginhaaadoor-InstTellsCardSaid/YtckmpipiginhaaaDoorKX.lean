/-
  The contracts of the library's functions that the statements reach, as the deep machine takes them.
  Conditions: what the world's variables hold.
-/
import Derived.Test.YtckmpipiginhaaaDoorKA
import Derived.Test.YtckmpipiginhaaaDoorCodes
import Derived.Test.YtckmpipiginhaaaDoorIS
import Derived.Lib.SmallJoins
import Derived.Lib.AppendIntMem
import Derived.Lib.AtoiErrMem
set_option linter.unusedVariables false
namespace Go.Proofs.YtckmpipiginhaaaDoor.Codes
open Go.Deepv Go.RowKit Go.Proofs

/-- What is asked of the library's own variables. -/
structure Facts (W : World) : Prop where
  pow : Lib.TabIs Tryd.prog W "internal/strconv.uint64pow10" .u64 Lib.pow10Tab
  maxlen : ∃ m, W.cell? ⟨Tryd.lays146_ren.g 1, 0, none⟩ = some (.int .i64 m)
  syn : ∃ v, W.cell? ⟨Tryd.laysC172_ren.g 15, 0, none⟩ = some v ∧ (v = .nilIface ∨ ∃ te pe, v = .iface te pe)
  rng : ∃ v, W.cell? ⟨Tryd.laysC172_ren.g 16, 0, none⟩ = some v ∧ (v = .nilIface ∨ ∃ te pe, v = .iface te pe)

theorem ext_ok {W : World} (X : Facts W) : ExtOk Tryd.prog (GW W) ext := by
  intro g F hF
  unfold ext at hF
  split at hF
  · cases hF
    refine ⟨⟨Tryd.f23, by kernel_rfl, by kernel_rfl, by kernel_rfl⟩, fun args dargs S ρ h w out hi hl hr hd => ?_⟩
    refine split_ext (t := Tryd.lays146_ren.t 9) (fun s sep hs h1 w hg => ?_) args dargs hi hl hr hd
    obtain ⟨m, hm⟩ := X.maxlen
    exact Any.strings_Split Tryd.lays146 (by kernel_rfl) s sep m w hs (gw_cell hg hm) (by omega)
  · cases hF
    refine ⟨⟨Tryd.f28, by kernel_rfl, by kernel_rfl, by kernel_rfl⟩, fun args dargs S ρ h w out hi hl hr hd => ?_⟩
    refine atoi_ext (T := 92) (fun s hs w hg => ?_) args dargs hi hl hr hd
    obtain ⟨v, hv, hv2⟩ := X.syn
    obtain ⟨u, hu, hu2⟩ := X.rng
    cases hr : Lib.atoiAll s.data.toList with
    | ok n =>
      refine (Any.strconv_Atoi_ok Tryd.laysC172 s (by omega) n hr w).mono fun e w' ⟨he, hw⟩ => ⟨?_, he⟩
      rcases hw with rfl | ⟨t, rfl⟩
      · exact Below.refl _ _
      · exact Lib.bytesWorld_below _ _ _
    | range => exact (Any.strconv_Atoi_range Tryd.laysC172 s hs hr u w (gw_cell hg hu) hu2).mono fun e w' ⟨n, he, _, _, hb⟩ => ⟨hb, _, he⟩
    | _ => exact (Any.strconv_Atoi_syntax Tryd.laysC172 s hs hr v w (gw_cell hg hv) hv2).mono fun e w' ⟨n, he, _, _, hb⟩ => ⟨hb, _, he⟩
  · cases hF
    refine ⟨⟨Tryd.f33, by kernel_rfl, by kernel_rfl, by kernel_rfl⟩, fun args dargs S ρ h w out hi hl hr hd => ?_⟩
    refine itoa_ext (fun n h0 h1 w hg => ?_) args dargs hi hl hr hd
    exact (Any.strconv_Itoa Tryd.laysM171 n h0 h1 w (gw_tab (by decide) hg X.pow)).mono fun e w' ⟨he, k, os, hw⟩ => ⟨he, by rw [hw]; exact Lib.below_grow _ w (Nat.le_refl _) k os⟩
  · cases hF
    refine ⟨⟨Tryd.f34, by kernel_rfl, by kernel_rfl, by kernel_rfl⟩, fun args dargs S ρ h w out hi hl hr hd => ?_⟩
    exact join_ext (fun a c sep w => Any.strings_Join_none Tryd.lays156 Tryd.Builder_Extra_156 a c sep w) (fun bk o c xs sep w h1 h2 h3 h4 h5 => Any.strings_Join Tryd.lays156 Tryd.Builder_Extra_156 bk o c xs sep w h1 h2 h3 h4 h5) args dargs hi hl hr hd
  · cases hF
theorem envOk {W : World} (X : Facts W) : EnvOk Tryd.prog (GW W) env := env_ok (ext_ok X)
end Go.Proofs.YtckmpipiginhaaaDoor.Codes
