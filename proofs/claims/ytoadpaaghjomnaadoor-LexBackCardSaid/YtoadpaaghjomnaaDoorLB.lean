/-
  The tables that the lexer's statements list, as the deep machine knows them.
  Conditions: none.
-/
import Derived.Test.YtoadpaaghjomnaaDoorRows
import Derived.Test.YtoadpaaghjomnaaDoorLQ
import Derived.Test.YtoadpaaghjomnaaDoorLX
import Derived.WalkKit
import Derived.ProofKit
import Derived.OpenShut
import Derived.ShutString
import Derived.ChangeOld
import Derived.Below
import Derived.SizedLaws
import Derived.LaidMore
import Derived.Stop.Joined
import Derived.Lib.LaidTab
import Derived.Stop.LaidErr
import Derived.PinnedBridge
namespace Go.Proofs.YtoadpaaghjomnaaDoor.Codes
open Go.ChangeShapes Go.WideShapes Go.ChangeAt Go.RowKit Go.Deepv
set_option linter.unusedVariables false
theorem own : ownKnob Tryd.prog.godebug = none := by kernel_rfl

/-- The five tables, read. -/
def Five (W : World) : Prop := laidMet Tryd.prog [("math/bits.deBruijn32tab", Rows.laid_math_bits_deBruijn32tab), ("math/bits.deBruijn64tab", Rows.laid_math_bits_deBruijn64tab), ("internal/strconv.uint64pow10", Lib.tabData .u64 Lib.pow10Tab), ("unicode/utf8.acceptRanges", Rows.laid_unicode_utf8_acceptRanges), ("unicode/utf8.first", Rows.laid_unicode_utf8_first)] W

noncomputable def powId : Nat := (Tryd.prog.globalNamed "internal/strconv.uint64pow10").getD 0
theorem powName : Tryd.prog.globalNamed "internal/strconv.uint64pow10" = some powId := by
  unfold powId
  obtain ⟨b, hb⟩ := powSome
  have : Tryd.prog.globalNamed "internal/strconv.uint64pow10" = some b := hb
  rw [this]
  rfl
theorem powTy : (Tryd.prog.globals[powId]?).map (·.type) = some 178 := by kernel_rfl
theorem accept_eq : (Rows.laid_unicode_utf8_acceptRanges : DataW Unit) = Lib.acceptData := by kernel_rfl
theorem tab_laid {W : World} (h : Five W) : Lib.TabIs Tryd.prog W "internal/strconv.uint64pow10" .u64 Lib.pow10Tab :=
  Lib.tabIs_of_head (n := 20) (e := 169) powName powTy Tryd.underlying178 Tryd.underlying169 (by kernel_rfl) (by kernel_rfl) (laidMet.tail (laidMet.tail h))
theorem extra : U8Extra Tryd.prog Tryd.laysValid_ren where
  n3 := by kernel_rfl
  n4 := by kernel_rfl
  y3 := by kernel_rfl
  y4 := by kernel_rfl
  c5 := by kernel_rfl
  c119 := by kernel_rfl
  c138 := by kernel_rfl
theorem utf_laid {W : World} (h : Five W) : Lib.Utf8Tabs 0 1 W := by
  have h3 : Lib.VarReads Tryd.prog W "unicode/utf8.first" Lib.firstData := by
    have := Lib.laidMet.reads h (n := "unicode/utf8.first") (d := Rows.laid_unicode_utf8_first) (by simp)
    rwa [show Rows.laid_unicode_utf8_first = Lib.firstData from Pinned.utf8First_eq] at this
  have h4 : Lib.VarReads Tryd.prog W "unicode/utf8.acceptRanges" Lib.acceptData := by
    have := Lib.laidMet.reads h (n := "unicode/utf8.acceptRanges") (d := Rows.laid_unicode_utf8_acceptRanges) (by simp)
    rwa [accept_eq] at this
  exact utf8Tabs_of_readsT (U8Types.of196 Tryd.laysValid) extra h3 h4
theorem cell_in {W : World} {b o : Nat} {v : Value} (h : W.cell? ⟨b, o, none⟩ = some v) : b < W.heap.size := by
  unfold World.cell? at h
  cases hb : W.heap[b]? with
  | none =>
    simp only at h
    rw [hb] at h
    cases h
  | some x => exact (Array.getElem?_eq_some_iff.1 hb).1
theorem glob_of {W : World} (h5 : Five W) : ∀ b o v, Codes.G b o v → b < W.heap.size ∧ W.cell? ⟨b, o, none⟩ = v := by
  intro b o v hG
  rcases hG with ⟨hb, hv⟩ | ⟨rfl, ho, rfl⟩ | ⟨rfl, ho, rfl⟩
  · have h := tab_laid h5
    subst hv
    unfold Lib.TabIs World.var? at h
    have hb' : Tryd.prog.globalNamed "internal/strconv.uint64pow10" = some b := hb
    rw [hb'] at h
    simp only [Option.bind_some] at h
    split at h
    · rename_i cs e f hc
      simp only [Option.some.injEq] at h
      subst h
      refine ⟨(Array.getElem?_eq_some_iff.1 hc).1, ?_⟩
      unfold World.cell?
      rw [hc]
      simp [powV]
    · cases h
  · have := (utf_laid h5).1 o ho
    exact ⟨cell_in this, this⟩
  · have := (utf_laid h5).2 (o / 2) (by omega)
    unfold accV
    by_cases h2 : o % 2 = 0
    · have h1 := this.1
      rw [show 2 * (o / 2) = o by omega] at h1
      rw [if_pos h2]
      exact ⟨cell_in h1, h1⟩
    · have h1 := this.2
      rw [show 2 * (o / 2) + 1 = o by omega] at h1
      rw [if_neg h2]
      exact ⟨cell_in h1, h1⟩
end Go.Proofs.YtoadpaaghjomnaaDoor.Codes
