/-
  LexBack, the given statement: the card.
  Conditions: none.
-/
import Derived.Test.YtoadpaaghjomnaaDoorLR
import Derived.Test.YtoadpaaghjomnaaDoorTie
import Derived.Test.YtoadpaaghjomnaaDoorCards
import Derived.SevenTiedAt
namespace Go.Proofs.YtoadpaaghjomnaaDoor
open Go

/-- The row's statement, under a short name. -/
theorem lexBack_row : Rows.LexBackSaid := lexBack.proved

theorem lexBack_holds : Rows.LexBackCardSaid :=
  Claim7.holds_tied_plain_at .later [] [.data, .data, .data, .data, .pinned] true (true, "8feb408b6542fcabc5c0532e0f0a3c0503fa5ff58720d9116a8a521564653b3d") true
    lexBack_row (fun _ h => by cases h) (by kernel_rfl) (fun _ h => by cases h) lexBack_row_tie rfl ⟨rfl, rfl⟩ (by kernel_rfl) rfl
    (fun f fn hf hfn => by
      obtain rfl : f = 5 := Option.some.inj ((show Tryd.prog.funcNamed "handloom/handloomlaw03.LexBack" = some 5 by kernel_rfl).symm.trans hf) |>.symm
      obtain rfl : fn = Tryd.f5 := (Option.some.inj (Tryd.func5.symm.trans hfn)).symm
      exact ⟨by kernel_rfl, fun j t ht => by
        rw [Tryd.params5] at ht
        have h3 : t = 9 := by
          rcases j with _ | j
          · exact by simpa using ht.symm
          · simp at ht
        rcases h3 with rfl
        · exact (show Tryd.prog.wantsStandIn 9 = false by kernel_rfl)⟩)
    (by kernel_rfl)
#print axioms lexBack_holds
end Go.Proofs.YtoadpaaghjomnaaDoor
