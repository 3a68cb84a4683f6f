/-
  What a statement's frame tells of the world's variables.
  Conditions: none.
-/
import Derived.Test.YtpemlmhggiaflaaGreatDoorRows
import Derived.Test.YtpemlmhggiaflaaGreatDoorKX
import Derived.ProofKit
import Derived.OpenShut
import Derived.ShutString
import Derived.ChangeOld
import Derived.Below
import Derived.SizedLaws
import Derived.LaidMore
import Derived.Stop.Joined
import Derived.Lib.LaidTab
import Derived.Stop.LaidErr
import Derived.PinnedBridge
import Derived.Shelf.Vars
import Derived.Test.YtpemlmhggiaflaaGreatDoorMF
set_option linter.unusedVariables false
set_option maxRecDepth 100000
namespace Go.Proofs.YtpemlmhggiaflaaGreatDoor.Codes
open Go.ChangeShapes Go.WideShapes Go.ChangeAt Go.RowKit Go.Deepv
theorem own : ownKnob Tryz.prog.godebug = none := by kernel_rfl
def tys : List TypeId := [2, 3, 5, 9, 22, 24, 35, 38]
theorem tysB : kidsB Tryz.prog tys = true := by kernel_rfl
theorem laidB : laidOutB Tryz.prog = true := by kernel_rfl
theorem rowedB : mapsRowed Tryz.prog = true := by kernel_rfl
theorem kids : Kids Tryz.prog (· ∈ tys) := kidsB_kids laidB rowedB tysB
theorem plain : Plain Tryz.prog (· ∈ tys) := kidsB_plain tysB
theorem full : ∀ t e, t ∈ tys → Tryz.prog.underlying t = some (.slice e) → 0 < Tryz.prog.cellsOf e := kidsB_full tysB
theorem c2 : Tryz.prog.cellsOf 2 = 1 := by kernel_rfl
theorem c3 : Tryz.prog.cellsOf 3 = 1 := by kernel_rfl
theorem c5 : Tryz.prog.cellsOf 5 = 1 := by kernel_rfl
theorem c9 : Tryz.prog.cellsOf 9 = 1 := by kernel_rfl
theorem c22 : Tryz.prog.cellsOf 22 = 1 := by kernel_rfl
theorem c24 : Tryz.prog.cellsOf 24 = 4 := by kernel_rfl
theorem c38 : Tryz.prog.cellsOf 38 = 1 := by kernel_rfl
theorem b24 : Tryz.prog.bytesOf 24 = 48 := by kernel_rfl
theorem b38 : Tryz.prog.bytesOf 38 = 24 := by kernel_rfl
def laidL : List (String × DataW Unit) := [("math/bits.deBruijn32tab", Rows.laid_math_bits_deBruijn32tab), ("math/bits.deBruijn64tab", Rows.laid_math_bits_deBruijn64tab), ("internal/strconv.uint64pow10", Rows.laid_internal_strconv_uint64pow10), ("unicode/utf8.acceptRanges", Rows.laid_unicode_utf8_acceptRanges), ("strconv.ErrRange", Rows.laid_strconv_ErrRange), ("strconv.ErrSyntax", Rows.laid_strconv_ErrSyntax), ("unicode/utf8.first", Rows.laid_unicode_utf8_first)]
theorem powName : ∃ g, Tryz.prog.globalNamed "internal/strconv.uint64pow10" = some g := Option.isSome_iff_exists.1 (by kernel_rfl)
theorem tab_laid {W : World} (h : laidMet Tryz.prog laidL W) : Lib.TabIs Tryz.prog W "internal/strconv.uint64pow10" .u64 Lib.pow10Tab := by
 obtain ⟨g, hg⟩ := powName
 have hty : (Tryz.prog.globals[g]?).map (·.type) = some 137 := by
  have e : ((Tryz.prog.globalNamed "internal/strconv.uint64pow10").bind fun g => (Tryz.prog.globals[g]?).map (·.type)) = some 137 := by kernel_rfl
  rw [hg] at e
  exact e
 have h := (laidMet.tail (laidMet.tail h))
 exact Lib.tabIs_of_head (n := 20) (e := 105) hg hty Tryz.underlying137 Tryz.underlying105 (by kernel_rfl) (by kernel_rfl) h
theorem nameRow : ∀ u, Tryz.prog.typeName? 3 u = some "*errors.errorString" → u = 169 := by
 have st : "*" ++ "errors.errorString" = "*errors.errorString" := by decide
 exact fun u h => typeName_ptr_named (nm := "errors.errorString") (by rw [st]; kernel_rfl) (by kernel_rfl) (by decide) u (by rw [st]; exact h)
theorem sent {W : World} {n : String} {text : List UInt8} {r : List (String × DataW Unit)} {g : Nat} (hl : laidMet Tryz.prog ((n, .iface "*errors.errorString" (.ptr (.agg [.lit (.string text)]))) :: r) W) (hg : Tryz.prog.globalNamed n = some g) (ht : (Tryz.prog.globals[g]?).map (·.type) = some 74) :
  ∃ v, W.cell? ⟨g, 0, none⟩ = some v ∧ (v = .nilIface ∨ ∃ te pe, v = .iface te pe) := by
 obtain ⟨a, s, hv, _⟩ := laid_sentinel hl hg ht Tryz.underlying74 nameRow Tryz.underlying169 Tryz.underlying171 rfl rfl Tryz.underlying9 (by kernel_rfl) (by kernel_rfl)
 exact ⟨.iface 169 (.pointer (some a)), by simpa using World.var?_cell hg hv 0, .inr ⟨_, _, rfl⟩⟩
theorem facts {W : World} (h : laidMet Tryz.prog laidL W) (hs : W.ShapedOpen Tryz.prog) : Facts W where
 pow := tab_laid h
 maxlen := Go.Proofs.cell_of_shapedOpen_int (t := 3) (zero := #[.int .i64 0]) hs (of_decide_eq_true (by kernel_rfl)) (by kernel_rfl) rfl (by kernel_rfl) (by kernel_rfl) Tryz.underlying3
 syn := sent (laidMet.tail (laidMet.tail (laidMet.tail (laidMet.tail (laidMet.tail h))))) (g := Tryz.laysC174_ren.g 15) (by kernel_rfl) (by kernel_rfl)
 rng := sent (laidMet.tail (laidMet.tail (laidMet.tail (laidMet.tail h)))) (g := Tryz.laysC174_ren.g 16) (by kernel_rfl) (by kernel_rfl)
end Go.Proofs.YtpemlmhggiaflaaGreatDoor.Codes
