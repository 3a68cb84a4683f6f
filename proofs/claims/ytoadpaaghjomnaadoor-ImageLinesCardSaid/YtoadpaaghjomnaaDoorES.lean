/-
  ImageLines, the given statement: the card.
  Conditions: none.
-/
import Derived.Test.YtoadpaaghjomnaaDoorER
import Derived.Test.YtoadpaaghjomnaaDoorTie
import Derived.Test.YtoadpaaghjomnaaDoorCards
import Derived.SevenTiedAt
namespace Go.Proofs.YtoadpaaghjomnaaDoor
open Go

/-- The row's statement, under a short name. -/
theorem imageLines_row : Rows.ImageLinesSaid := imageLines.proved

theorem imageLines_holds : Rows.ImageLinesCardSaid :=
  Claim7.holds_tied_plain_at .later [] [.data, .data, .data] true (true, "8feb408b6542fcabc5c0532e0f0a3c0503fa5ff58720d9116a8a521564653b3d") true
    imageLines_row (fun _ h => by cases h) (by kernel_rfl) (fun _ h => by cases h) imageLines_row_tie rfl ⟨rfl, rfl⟩ (by kernel_rfl) rfl
    (fun f fn hf hfn => by
      obtain rfl : f = 3 := Option.some.inj ((show Tryd.prog.funcNamed "handloom/handloomlaw28.ImageLines" = some 3 by kernel_rfl).symm.trans hf) |>.symm
      obtain rfl : fn = Tryd.f3 := (Option.some.inj (Tryd.func3.symm.trans hfn)).symm
      exact ⟨by kernel_rfl, fun j t ht => by
        rw [Tryd.params3] at ht
        have h3 : t = 36 ∨ t = 9 := by
          rcases j with _ | _ | j
          · exact .inl (by simpa using ht.symm)
          · exact .inr (by simpa using ht.symm)
          · simp at ht
        rcases h3 with rfl | rfl
        · exact (show Tryd.prog.wantsStandIn 36 = false by kernel_rfl)
        · exact (show Tryd.prog.wantsStandIn 9 = false by kernel_rfl)⟩)
    (by kernel_rfl)
#print axioms imageLines_holds
end Go.Proofs.YtoadpaaghjomnaaDoor
