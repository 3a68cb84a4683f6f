/-
  The contracts of the library's functions that the statements reach, as the deep machine takes them.
  Conditions: what the world's variables hold.
-/
import Derived.Test.YtpemlmhggiaflaaGreatDoorMF
import Derived.Test.YtpemlmhggiaflaaGreatDoorCodes
import Derived.Test.YtpemlmhggiaflaaGreatDoorIS
import Derived.Lib.SmallJoins
import Derived.Lib.AppendIntMem
import Derived.Lib.Builder
import Derived.WalkKit
set_option linter.unusedVariables false
namespace Go.Proofs.YtpemlmhggiaflaaGreatDoor.Codes
open Go.Shelf Go.RowKit
theorem sizeB : (Tryz.prog.info? 86).map (·.size) = some 2 := by kernel_rfl
theorem liesB : liesAt Tryz.prog Tryz.prog.depth 86 (2 / Tryz.prog.cellsOf 86) 0 86 1 = true := by kernel_rfl
set_option maxHeartbeats 1000000 in
set_option maxRecDepth 100000 in
theorem copy_used (b : Nat) (w : World) (h0 : w.cell? ⟨b, 0, none⟩ = some (.pointer (some ⟨b, 0, none⟩))) :
  Calls Tryz.prog 61 #[.pointer (some ⟨b, 0, none⟩)] w fun e w' => e = .returned (.tuple #[]) ∧ w' = w := by
 obtain ⟨j, hj, _⟩ := Option.map_eq_some_iff.1 sizeB
 go_enter Tryz.func61, Tryz.ntmps61
 go_wp2
 rw [Lib.run_neq_ptr_same w _ Tryz.underlying84 hj]
 go_wp2
 go_end0
 exact ⟨rfl, rfl⟩
set_option maxHeartbeats 1000000 in
set_option maxRecDepth 100000 in
theorem copy_fresh (b : Nat) (w : World) (h0 : w.cell? ⟨b, 0, none⟩ = some (.pointer none)) (hsh : w.shape? b = some (86, 2)) (hfz : w.frozen? ⟨b, 0, none⟩ = false) :
  Calls Tryz.prog 61 #[.pointer (some ⟨b, 0, none⟩)] w fun e w' => e = .returned (.tuple #[]) ∧ w' = w.setCell ⟨b, 0, none⟩ (.pointer (some ⟨b, 0, none⟩)) := by
 obtain ⟨j, hj, hjs⟩ := Option.map_eq_some_iff.1 sizeB
 go_enter Tryz.func61, Tryz.ntmps61
 go_wp2
 rw [Lib.run_to_unsafe w ⟨b, 0, none⟩ Tryz.underlying84 Tryz.underlying142 hj (by rw [hjs]; decide) hsh (Nat.zero_lt_succ 1)]
 simp only [Result.andThen]
 rw [Oper.upon_value]
 go_wp2
 rw [run_callFunc_extern Tryz.func94 (by kernel_rfl) (by kernel_rfl) (by kernel_rfl) (e := Extern.AbiNoEscape.same) (by kernel_rfl)]
 rw [Lib.run_noEscape]
 simp only [Result.andThen]
 rw [Oper.upon_value]
 go_wp2
 rw [Lib.run_from_unsafe w ⟨b, 0, none⟩ Tryz.underlying142 Tryz.underlying84 hj hsh liesB]
 simp only [Result.andThen]
 rw [Oper.upon_value]
 go_wp2
 go_end0
 exact ⟨rfl, rfl⟩
open Go.Deepv Go.RowKit Go.Proofs
structure Facts (W : World) : Prop where
 pow : Lib.TabIs Tryz.prog W "internal/strconv.uint64pow10" .u64 Lib.pow10Tab
 maxlen : ∃ m, W.cell? ⟨Tryz.lays146_ren.g 1, 0, none⟩ = some (.int .i64 m)
 syn : ∃ v, W.cell? ⟨Tryz.laysC174_ren.g 15, 0, none⟩ = some v ∧ (v = .nilIface ∨ ∃ te pe, v = .iface te pe)
 rng : ∃ v, W.cell? ⟨Tryz.laysC174_ren.g 16, 0, none⟩ = some v ∧ (v = .nilIface ∨ ∃ te pe, v = .iface te pe)
theorem ext_ok {W : World} (X : Facts W) : ExtOk Tryz.prog (GW W) ext := by
 intro g F hF
 unfold ext at hF
 split at hF
 ·cases hF
  refine ⟨⟨Tryz.f21, by kernel_rfl, by kernel_rfl, by kernel_rfl⟩, fun args dargs S ρ h w out hi hl hr hd => ?_⟩
  refine itoa_ext (fun n h0 h1 w hg => ?_) args dargs hi hl hr hd
  exact (Any.strconv_Itoa Tryz.laysM171 n h0 h1 w (gw_tab (by decide) hg X.pow)).mono fun e w' ⟨he, k, os, hw⟩ => ⟨he, by rw [hw]; exact Lib.below_grow _ w (Nat.le_refl _) k os⟩
 ·cases hF
  refine ⟨⟨Tryz.f22, by kernel_rfl, by kernel_rfl, by kernel_rfl⟩, fun args dargs S ρ h w out hi hl hr hd => ?_⟩
  refine format_ext (fun n h0 h1 w hg => ?_) args dargs hi hl hr hd
  exact (Any.strconv_FormatInt_10 Tryz.laysM173 n h0 h1 w (gw_tab (by decide) hg X.pow)).mono fun e w' ⟨he, k, os, hw⟩ => ⟨he, by rw [hw]; exact Lib.below_grow _ w (Nat.le_refl _) k os⟩
 ·cases hF
  refine ⟨⟨Tryz.f24, by kernel_rfl, by kernel_rfl, by kernel_rfl⟩, fun args dargs S ρ h w out hi hl hr hd => ?_⟩
  exact join_ext (fun a c sep w => Any.strings_Join_none Tryz.lays156 Tryz.Builder_Extra_156 a c sep w) (fun bk o c xs sep w h1 h2 h3 h4 h5 => Any.strings_Join Tryz.lays156 Tryz.Builder_Extra_156 bk o c xs sep w h1 h2 h3 h4 h5) args dargs hi hl hr hd
 ·cases hF
  refine ⟨⟨Tryz.f33, by kernel_rfl, by kernel_rfl, by kernel_rfl⟩, fun args dargs S ρ h w out hi hl hr hd => ?_⟩
  refine split_ext (t := Tryz.lays146_ren.t 9) (fun s sep hs h1 w hg => ?_) args dargs hi hl hr hd
  obtain ⟨m, hm⟩ := X.maxlen
  exact Any.strings_Split Tryz.lays146 (by kernel_rfl) s sep m w hs (gw_cell hg hm) (by omega)
 ·cases hF
  refine ⟨⟨Tryz.f35, by kernel_rfl, by kernel_rfl, by kernel_rfl⟩, fun args dargs S ρ h w out hi hl hr hd => ?_⟩
  refine parse_ext (T := 130) (fun s hs w hg => ?_) args dargs hi hl hr hd
  obtain ⟨v, hv, hv2⟩ := X.syn
  obtain ⟨u, hu, hu2⟩ := X.rng
  cases hr : Lib.parseIntB 64 s.data.toList with
  | ok n =>
   refine (Any.strconv_ParseInt_10_at64_ok Tryz.laysC174 s (by omega) n hr w).mono fun e w' ⟨he, hw⟩ => ⟨?_, he⟩
   rcases hw with rfl | ⟨t, rfl⟩
   ·exact Below.refl _ _
   ·exact Lib.bytesWorld_below _ _ _
  | range => exact (Any.strconv_ParseInt_10_at64_range Tryz.laysC174 s hs hr u w (gw_cell hg hu) hu2).mono fun e w' ⟨n, he, _, _, hb⟩ => ⟨hb, _, he⟩
  | _ => exact (Any.strconv_ParseInt_10_at64_syntax Tryz.laysC174 s hs hr v w (gw_cell hg hv) hv2).mono fun e w' ⟨n, he, _, _, hb⟩ => ⟨hb, _, he⟩
 ·cases hF
  refine ⟨⟨Tryz.f61, by kernel_rfl, by kernel_rfl, by kernel_rfl⟩, fun args dargs S ρ h w out hi hl hr hd => ?_⟩
  exact copy_ext copy_used copy_fresh args dargs hi hl hr hd
 ·cases hF
theorem envOk {W : World} (X : Facts W) : EnvOk Tryz.prog (GW W) env := env_ok (ext_ok X)
end Go.Proofs.YtpemlmhggiaflaaGreatDoor.Codes
