/-
  LexNames, the given statement: the card.
  Conditions: none.
-/
import Derived.Test.YtoadpaaghjomnaaDoorLR
import Derived.Test.YtoadpaaghjomnaaDoorTie
import Derived.Test.YtoadpaaghjomnaaDoorCards
import Derived.SevenTiedAt
namespace Go.Proofs.YtoadpaaghjomnaaDoor
open Go

/-- The row's statement, under a short name. -/
theorem lexNames_row : Rows.LexNamesSaid := lexNames.proved

theorem lexNames_holds : Rows.LexNamesCardSaid :=
  Claim7.holds_tied_plain_at .later [] [.data, .data, .data, .data, .pinned] true (true, "8feb408b6542fcabc5c0532e0f0a3c0503fa5ff58720d9116a8a521564653b3d") true
    lexNames_row (fun _ h => by cases h) (by kernel_rfl) (fun _ h => by cases h) lexNames_row_tie rfl ⟨rfl, rfl⟩ (by kernel_rfl) rfl
    (fun f fn hf hfn => by
      obtain rfl : f = 7 := Option.some.inj ((show Tryd.prog.funcNamed "handloom/handloomlaw03.LexNames" = some 7 by kernel_rfl).symm.trans hf) |>.symm
      obtain rfl : fn = Tryd.f7 := (Option.some.inj (Tryd.func7.symm.trans hfn)).symm
      exact ⟨by kernel_rfl, fun j t ht => by
        rw [Tryd.params7] at ht
        have h3 : t = 9 ∨ t = 4 := by
          rcases j with _ | _ | j
          · exact .inl (by simpa using ht.symm)
          · exact .inr (by simpa using ht.symm)
          · simp at ht
        rcases h3 with rfl | rfl
        · exact (show Tryd.prog.wantsStandIn 9 = false by kernel_rfl)
        · exact (show Tryd.prog.wantsStandIn 4 = false by kernel_rfl)⟩)
    (by kernel_rfl)
#print axioms lexNames_holds
end Go.Proofs.YtoadpaaghjomnaaDoor
