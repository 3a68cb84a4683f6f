/-
  What a statement's frame tells of the world's variables.
  Conditions: none.
-/
import Derived.Test.YtckmpipiginhaaaDoorRows
import Derived.Test.YtckmpipiginhaaaDoorKX
import Derived.ProofKit
import Derived.OpenShut
import Derived.ShutString
import Derived.ChangeOld
import Derived.Below
import Derived.SizedLaws
import Derived.LaidMore
import Derived.Stop.Joined
import Derived.Lib.LaidTab
import Derived.Stop.LaidErr
import Derived.PinnedBridge
import Derived.Shelf.Vars
import Derived.Test.YtckmpipiginhaaaDoorDW
set_option linter.unusedVariables false
set_option maxRecDepth 100000
namespace Go.Proofs.YtckmpipiginhaaaDoor.Codes
open Go.ChangeShapes Go.WideShapes Go.ChangeAt Go.RowKit Go.Deepv
theorem own : ownKnob Tryd.prog.godebug = none := by kernel_rfl
def tys : List TypeId := [3, 9, 23]
theorem tysB : kidsB Tryd.prog tys = true := by kernel_rfl
theorem laidB : laidOutB Tryd.prog = true := by kernel_rfl
theorem rowedB : mapsRowed Tryd.prog = true := by kernel_rfl
theorem kids : Kids Tryd.prog (· ∈ tys) := kidsB_kids laidB rowedB tysB
theorem plain : Plain Tryd.prog (· ∈ tys) := kidsB_plain tysB
theorem full : ∀ t e, t ∈ tys → Tryd.prog.underlying t = some (.slice e) → 0 < Tryd.prog.cellsOf e := kidsB_full tysB
theorem c3 : Tryd.prog.cellsOf 3 = 1 := by kernel_rfl
theorem c9 : Tryd.prog.cellsOf 9 = 1 := by kernel_rfl
theorem c23 : Tryd.prog.cellsOf 23 = 4 := by kernel_rfl
def laidL : List (String × DataW Unit) := [("math/bits.deBruijn32tab", Rows.laid_math_bits_deBruijn32tab), ("math/bits.deBruijn64tab", Rows.laid_math_bits_deBruijn64tab), ("internal/strconv.uint64pow10", Rows.laid_internal_strconv_uint64pow10), ("unicode/utf8.acceptRanges", Rows.laid_unicode_utf8_acceptRanges), ("strconv.ErrRange", Rows.laid_strconv_ErrRange), ("strconv.ErrSyntax", Rows.laid_strconv_ErrSyntax), ("unicode/utf8.first", Rows.laid_unicode_utf8_first)]
theorem powName : ∃ g, Tryd.prog.globalNamed "internal/strconv.uint64pow10" = some g := Option.isSome_iff_exists.1 (by kernel_rfl)
theorem tab_laid {W : World} (h : laidMet Tryd.prog laidL W) : Lib.TabIs Tryd.prog W "internal/strconv.uint64pow10" .u64 Lib.pow10Tab := by
  obtain ⟨g, hg⟩ := powName
  have hty : (Tryd.prog.globals[g]?).map (·.type) = some 123 := by
    have e : ((Tryd.prog.globalNamed "internal/strconv.uint64pow10").bind fun g => (Tryd.prog.globals[g]?).map (·.type)) = some 123 := by kernel_rfl
    rw [hg] at e
    exact e
  have h := (laidMet.tail (laidMet.tail h))
  exact Lib.tabIs_of_head (n := 20) (e := 101) hg hty Tryd.underlying123 Tryd.underlying101 (by kernel_rfl) (by kernel_rfl) h
theorem nameRow : ∀ u, Tryd.prog.typeName? 3 u = some "*errors.errorString" → u = 119 := by
  have st : "*" ++ "errors.errorString" = "*errors.errorString" := by decide
  exact fun u h => typeName_ptr_named (nm := "errors.errorString") (by rw [st]; kernel_rfl) (by kernel_rfl) (by decide) u (by rw [st]; exact h)
theorem sent {W : World} {n : String} {text : List UInt8} {r : List (String × DataW Unit)} {g : Nat} (hl : laidMet Tryd.prog ((n, .iface "*errors.errorString" (.ptr (.agg [.lit (.string text)]))) :: r) W) (hg : Tryd.prog.globalNamed n = some g) (ht : (Tryd.prog.globals[g]?).map (·.type) = some 61) :
    ∃ v, W.cell? ⟨g, 0, none⟩ = some v ∧ (v = .nilIface ∨ ∃ te pe, v = .iface te pe) := by
  obtain ⟨a, s, hv, _⟩ := laid_sentinel hl hg ht Tryd.underlying61 nameRow Tryd.underlying119 Tryd.underlying121 rfl rfl Tryd.underlying9 (by kernel_rfl) (by kernel_rfl)
  exact ⟨.iface 119 (.pointer (some a)), by simpa using World.var?_cell hg hv 0, .inr ⟨_, _, rfl⟩⟩
theorem facts {W : World} (h : laidMet Tryd.prog laidL W) (hs : W.ShapedOpen Tryd.prog) : Facts W where
  pow := tab_laid h
  maxlen := Go.Proofs.cell_of_shapedOpen_int (t := 3) (zero := #[.int .i64 0]) hs (of_decide_eq_true (by kernel_rfl)) (by kernel_rfl) rfl (by kernel_rfl) (by kernel_rfl) Tryd.underlying3
  syn := sent (laidMet.tail (laidMet.tail (laidMet.tail (laidMet.tail (laidMet.tail h))))) (g := Tryd.laysC172_ren.g 15) (by kernel_rfl) (by kernel_rfl)
  rng := sent (laidMet.tail (laidMet.tail (laidMet.tail (laidMet.tail h)))) (g := Tryd.laysC172_ren.g 16) (by kernel_rfl) (by kernel_rfl)
end Go.Proofs.YtckmpipiginhaaaDoor.Codes
