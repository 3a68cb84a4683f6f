/-
  ImageLines, the given statement: the row, and its card.
  Conditions: none.
-/
import Derived.Test.YtoadpaaghjomnaaDoorRows
import Derived.Test.YtoadpaaghjomnaaDoorEQ
import Derived.Test.YtoadpaaghjomnaaDoorEX
import Derived.WalkKit
import Derived.ProofKit
import Derived.OpenShut
import Derived.ShutString
import Derived.ChangeOld
import Derived.Below
import Derived.SizedLaws
import Derived.LaidMore
import Derived.Stop.Joined
import Derived.Lib.LaidTab
import Derived.Stop.LaidErr
namespace Go.Proofs.YtoadpaaghjomnaaDoor.imageLines
open Go.ChangeShapes Go.WideShapes Go.ChangeAt Go.RowKit Go.Deepv
open Go.Proofs.YtoadpaaghjomnaaDoor.Codes
set_option linter.unusedVariables false
theorem own : ownKnob Tryd.prog.godebug = none := by kernel_rfl

/-! ### The table -/
noncomputable def powId : Nat := (Tryd.prog.globalNamed "internal/strconv.uint64pow10").getD 0
theorem powName : Tryd.prog.globalNamed "internal/strconv.uint64pow10" = some powId := by
  unfold powId
  obtain ⟨b, hb⟩ := powSome
  have : Tryd.prog.globalNamed "internal/strconv.uint64pow10" = some b := hb
  rw [this]
  rfl
theorem glob_of {W : World} (h : Lib.TabIs Tryd.prog W "internal/strconv.uint64pow10" .u64 Lib.pow10Tab) : ∀ b o v, Codes.G b o v → b < W.heap.size ∧ W.cell? ⟨b, o, none⟩ = v := by
  intro b o v ⟨hb, hv⟩
  subst hv
  unfold Lib.TabIs World.var? at h
  have hb' : Tryd.prog.globalNamed "internal/strconv.uint64pow10" = some b := hb
  rw [hb'] at h
  simp only [Option.bind_some] at h
  split at h
  · rename_i cs e f hc
    simp only [Option.some.injEq] at h
    subst h
    refine ⟨(Array.getElem?_eq_some_iff.1 hc).1, ?_⟩
    unfold World.cell?
    rw [hc]
    simp [powV]
  · cases h
theorem powTy : (Tryd.prog.globals[powId]?).map (·.type) = some 178 := by kernel_rfl
theorem tab_of_laid {W : World} (h : laidMetH Tryd.prog Rows.imageLinesRow.laid W) : Lib.TabIs Tryd.prog W "internal/strconv.uint64pow10" .u64 Lib.pow10Tab := by
  have h1 : laidMet Tryd.prog [("math/bits.deBruijn32tab", Rows.laid_math_bits_deBruijn32tab), ("math/bits.deBruijn64tab", Rows.laid_math_bits_deBruijn64tab), ("internal/strconv.uint64pow10", Lib.tabData .u64 Lib.pow10Tab)] W := h
  exact Lib.tabIs_of_head (n := 20) (e := 169) powName powTy Tryd.underlying178 Tryd.underlying169 (by kernel_rfl) (by kernel_rfl) (laidMet.tail (laidMet.tail h1))

theorem door_met (os : Os) (args : Array Value) : laidMetH Tryd.prog Rows.imageLinesRow.laid ((World.doorLaid Tryd.prog 3000 os).forCall (fun _ _ => 0) ⟨#[], args, []⟩).memory :=
  laidMetH_of_parts3 (fuel := 8) (laidMet_of_run' 8 (by kernel_rfl) (by kernel_rfl)) (by kernel_rfl) (by kernel_rfl)

def img0V : Value := .agg #[.slice none 0 0, .int .i64 0, .string ⟨#[]⟩, .slice none 0 0, .int .i64 0, .int .i64 0, .int .i64 0, .slice none 0 0, .int .i64 0, .slice none 0 0, .slice none 0 0, .slice none 0 0, .int .i64 0, .int .i64 0, .int .i64 0, .int .i64 0, .int .i64 0, .int .i64 0, .int .i64 0, .int .i64 0, .int .i64 0, .slice none 0 0]

set_option maxRecDepth 100000 in
theorem lifted (os : Os) (started : os.Started) (H : Type) (enc : TypeId × Value → H) :
    ReturnsInHanded {} Tryd.checked os 3 .any (fun w args => (Rows.imageLinesSpec.pre enc Tryd.prog Tryd.f3 [] false w args ∧ laidMetH Tryd.prog Rows.imageLinesRow.laid w) ∧ sizedMet enc Tryd.prog Tryd.f3 (OpenSpec.ofChange Rows.imageLinesSpec) false w args)
      (Rows.imageLinesSpec.post enc Tryd.prog Tryd.f3 false true false false) := by
  refine returnsInHanded_of_change_and (C := Tryd.checked) (X := fun w _ => laidMetH Tryd.prog Rows.imageLinesRow.laid w) (fun _ _ _ hh h => h.of_heap hh) own started (by kernel_rfl) Tryd.func3
    (ChangeSpec.witness_shaped (enc := enc) (C := Tryd.checked) (os := os) (X := fun w _ => laidMetH Tryd.prog Rows.imageLinesRow.laid w) false (World.doorLaid Tryd.prog 3000 os) #[img0V, .string ⟨#[]⟩] 8 rfl (World.shaped_of_RefB (by kernel_rfl) (by kernel_rfl)) (by kernel_rfl) (by kernel_rfl) (by kernel_rfl) (door_met os _)) ?_
  intro W base args ds gs before hval0 hW _ _ hL _
  have hval : ∀ (j : Nat) t v, Tryd.f3.params[j]? = some t → args[j]? = some v → Value.okWide Tryd.prog W .any base t v := hval0
  have hW' := hW
  obtain ⟨p, q, hA0, hV, rfl, hfz, hnd⟩ := hW
  have hA : DataW.TrodAll enc Tryd.prog W 0 (fun _ => true) true Tryd.f3.params.toList args.toList ds p := hA0
  have hAA := hA
  rw [Tryd.params3] at hA hval
  obtain ⟨v0, v1, d0, d1, p0, p1, rfl, rfl, rfl, h0, h1⟩ := trodAll_two hA
  obtain ⟨rfl, rfl⟩ := trodVars_none hV
  obtain ⟨n, fs, x0, hf⟩ := arg_struct kids plain (by simp [tys]) Tryd.underlying36 (hval 0 36 v0 rfl rfl) h0
  obtain ⟨x, rfl, hx1, hx2⟩ := img_of n fs hf
  obtain ⟨s, rfl, x1⟩ := arg_str (enc := enc) Tryd.underlying9 (hval 1 9 v1 rfl rfl)
  obtain ⟨h', hd⟩ := imageLines_ok x hx1 hx2 s
  refine (D_law (P := Tryd.prog) envOk (g := 3) (w := W) (glob_of (tab_of_laid hL)) (args := #[v0, .string s]) (fs := [.agg x.enc, .str s]) rfl (fun j y hy => ?_) hd).mono fun e W' ⟨he, bel⟩ => ?_
  · match j, hy with
    | 0, hy => simp at hy; subst hy; exact x0
    | 1, hy => simp at hy; subst hy; exact x1
    | j + 2, hy => simp at hy
  · subst he
    exact ⟨_, rfl, _, _, _, [], _, [], hW', trodAll_mk1 (shut_bool Tryd.underlying4 _), args_back kids full bel (by rw [Tryd.params3]; simp [tys]) hAA, rfl, bel.frame _, fun h => by cases h⟩
theorem over : Rows.imageLinesRow.holds Tryd.pinned (OpenSpec.ofChange Rows.imageLinesSpec) :=
  OpenClaim.holds_of_wide 3 Tryd.f3 rfl rfl rfl rfl rfl rfl rfl ⟨rfl, rfl, rfl, rfl, rfl⟩ rfl rfl rfl rfl rfl (by kernel_rfl) Tryd.func3 (by kernel_rfl)
    (of_decide_eq_true (by kernel_rfl)) (by unfold Func.isWrapper; first | (rw [if_pos (by decide +kernel)]; kernel_rfl) | (rw [if_neg (by decide +kernel)]; exact ⟨rfl, rfl⟩))
    (fun os started H enc _ => lifted os started H enc)
theorem proved : Rows.ImageLinesSaid := over
end Go.Proofs.YtoadpaaghjomnaaDoor.imageLines
