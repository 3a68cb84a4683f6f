/-
  The contracts of the library's functions that the lexer reaches: copyCheck, FormatInt, ValidString.
  Conditions: none.
-/
import Derived.Test.YtoadpaaghjomnaaDoorLS
import Derived.Test.YtoadpaaghjomnaaDoorCodes
import Derived.Lib.Builder
import Derived.Lib.AppendIntMem
import Derived.WalkKit
import Derived.Lib.LaidU8T
set_option linter.unusedVariables false
set_option linter.unusedSimpArgs false
namespace Go.Proofs
open Go.Shelf Go.RowKit

theorem sizeB : (Tryd.prog.info? 76).map (·.size) = some 2 := by kernel_rfl
theorem liesB : liesAt Tryd.prog Tryd.prog.depth 76 (2 / Tryd.prog.cellsOf 76) 0 76 1 = true := by kernel_rfl

set_option maxHeartbeats 1000000 in
set_option maxRecDepth 100000 in
theorem copy_used (b : Nat) (w : World) (h0 : w.cell? ⟨b, 0, none⟩ = some (.pointer (some ⟨b, 0, none⟩))) :
    Calls Tryd.prog 53 #[.pointer (some ⟨b, 0, none⟩)] w fun e w' => e = .returned (.tuple #[]) ∧ w' = w := by
  obtain ⟨j, hj, _⟩ := Option.map_eq_some_iff.1 sizeB
  go_enter Tryd.func53, Tryd.ntmps53
  go_wp2
  rw [Lib.run_neq_ptr_same w _ Tryd.underlying74 hj]
  go_wp2
  go_end0
  exact ⟨rfl, rfl⟩

set_option maxHeartbeats 1000000 in
set_option maxRecDepth 100000 in
theorem copy_fresh (b : Nat) (w : World) (h0 : w.cell? ⟨b, 0, none⟩ = some (.pointer none)) (hsh : w.shape? b = some (76, 2)) (hfz : w.frozen? ⟨b, 0, none⟩ = false) :
    Calls Tryd.prog 53 #[.pointer (some ⟨b, 0, none⟩)] w fun e w' => e = .returned (.tuple #[]) ∧ w' = w.setCell ⟨b, 0, none⟩ (.pointer (some ⟨b, 0, none⟩)) := by
  obtain ⟨j, hj, hjs⟩ := Option.map_eq_some_iff.1 sizeB
  go_enter Tryd.func53, Tryd.ntmps53
  go_wp2
  rw [Lib.run_to_unsafe w ⟨b, 0, none⟩ Tryd.underlying74 Tryd.underlying159 hj (by rw [hjs]; decide) hsh (Nat.zero_lt_succ 1)]
  simp only [Result.andThen]
  rw [Oper.upon_value]
  go_wp2
  rw [run_callFunc_extern Tryd.func79 (by kernel_rfl) (by kernel_rfl) (by kernel_rfl) (e := Extern.AbiNoEscape.same) (by kernel_rfl)]
  rw [Lib.run_noEscape]
  simp only [Result.andThen]
  rw [Oper.upon_value]
  go_wp2
  rw [Lib.run_from_unsafe w ⟨b, 0, none⟩ Tryd.underlying159 Tryd.underlying74 hj hsh liesB]
  simp only [Result.andThen]
  rw [Oper.upon_value]
  go_wp2
  go_end0
  exact ⟨rfl, rfl⟩
end Go.Proofs

namespace Go.Proofs.YtoadpaaghjomnaaDoor.Codes
open Go.Deepv Go.RowKit

/-- What is known of the program's own variables: the table of the powers of ten, the two tables of unicode/utf8. -/
noncomputable def powB : Option Nat := Tryd.prog.globalNamed "internal/strconv.uint64pow10"
noncomputable def powV : List Value := Lib.pow10Tab.map fun z => Value.int .u64 z
def accV (o : Nat) : Value := .int .u8 (if o % 2 = 0 then (Lib.accLo (o / 2) : Int) else (Lib.accHi (o / 2) : Int))
noncomputable def G : Glob := fun b o v => (powB = some b ∧ v = powV[o]?) ∨ (b = 0 ∧ o < 256 ∧ v = some (.int .u8 (Lib.firstT o))) ∨ (b = 1 ∧ o < 32 ∧ v = some (accV o))

theorem tab_of {b : Nat} {w : World} (hb : powB = some b) (h : ∀ b o v, G b o v → w.cell? ⟨b, o, none⟩ = v) : Lib.TabIs Tryd.prog w "internal/strconv.uint64pow10" .u64 Lib.pow10Tab := by
  have key : ∀ o, w.cell? ⟨b, o, none⟩ = powV[o]? := fun o => h b o _ (.inl ⟨hb, rfl⟩)
  unfold powB at hb
  unfold Lib.TabIs World.var?
  rw [hb]
  simp only [Option.bind_some]
  have k0 := key 0
  have p0 : powV[0]? = some (.int .u64 1) := rfl
  rw [p0] at k0
  unfold World.cell? at key k0
  split at k0
  · rename_i c e f hc
    simp only [hc] at key ⊢
    congr 1
    refine Array.ext' (List.ext_getElem? fun o => ?_)
    have := key o
    simpa [powV] using this
  · cases k0

theorem powSome : ∃ b, powB = some b := Option.isSome_iff_exists.1 (by kernel_rfl)

theorem utf_of {w : World} (h : ∀ b o v, G b o v → w.cell? ⟨b, o, none⟩ = v) : Lib.Utf8Tabs 0 1 w := by
  refine ⟨fun c hc => h 0 c _ (.inr (.inl ⟨rfl, hc, rfl⟩)), fun i hi => ⟨?_, ?_⟩⟩
  · have := h 1 (2 * i) _ (.inr (.inr ⟨rfl, by omega, rfl⟩))
    rw [this]
    unfold accV
    rw [if_pos (by omega), show 2 * i / 2 = i by omega]
  · have := h 1 (2 * i + 1) _ (.inr (.inr ⟨rfl, by omega, rfl⟩))
    rw [this]
    unfold accV
    rw [if_neg (by omega), show (2 * i + 1) / 2 = i by omega]

theorem ext_ok : ExtOk Tryd.prog G ext := by
  intro g F hF
  unfold ext at hF
  split at hF
  · cases hF
    refine ⟨⟨Tryd.f41, by kernel_rfl, by kernel_rfl, by kernel_rfl⟩, fun args dargs S ρ h w out hi hl hr hd => ?_⟩
    refine format_ext (fun n h0 h1 w hg => ?_) args dargs hi hl hr hd
    obtain ⟨b, hb⟩ := powSome
    exact (Tryd.strconv_FormatInt_10 n h0 h1 w (tab_of hb hg)).mono fun e w' ⟨he, k, os, hw⟩ => ⟨he, by rw [hw]; exact Lib.below_grow _ w (Nat.le_refl _) k os⟩
  · cases hF
    refine ⟨⟨Tryd.f43, by kernel_rfl, by kernel_rfl, by kernel_rfl⟩, fun args dargs S ρ h w out hi hl hr hd => ?_⟩
    exact valid_ext (fun s hs w hg => Any.utf8_ValidString Tryd.laysValid s w hs (utf_of hg)) args dargs hi hl hr hd
  · cases hF
    refine ⟨⟨Tryd.f53, by kernel_rfl, by kernel_rfl, by kernel_rfl⟩, fun args dargs S ρ h w out hi hl hr hd => ?_⟩
    exact copy_ext copy_used copy_fresh args dargs hi hl hr hd
  · cases hF
theorem envOk : EnvOk Tryd.prog G env := env_ok ext_ok
end Go.Proofs.YtoadpaaghjomnaaDoor.Codes
