/-
  LexDoes, the given statement: the card.
  Conditions: none.
-/
import Derived.Test.YtoadpaaghjomnaaDoorLR
import Derived.Test.YtoadpaaghjomnaaDoorTie
import Derived.Test.YtoadpaaghjomnaaDoorCards
import Derived.SevenTiedAt
namespace Go.Proofs.YtoadpaaghjomnaaDoor
open Go

/-- The row's statement, under a short name. -/
theorem lexDoes_row : Rows.LexDoesSaid := lexDoes.proved

theorem lexDoes_holds : Rows.LexDoesCardSaid :=
  Claim7.holds_tied_plain_at .later [] [.data, .data, .data, .data, .pinned] true (true, "8feb408b6542fcabc5c0532e0f0a3c0503fa5ff58720d9116a8a521564653b3d") true
    lexDoes_row (fun _ h => by cases h) (by kernel_rfl) (fun _ h => by cases h) lexDoes_row_tie rfl ⟨rfl, rfl⟩ (by kernel_rfl) rfl
    (fun f fn hf hfn => by
      obtain rfl : f = 4 := Option.some.inj ((show Tryd.prog.funcNamed "handloom/handloomlaw03.LexDoes" = some 4 by kernel_rfl).symm.trans hf) |>.symm
      obtain rfl : fn = Tryd.f4 := (Option.some.inj (Tryd.func4.symm.trans hfn)).symm
      exact ⟨by kernel_rfl, fun j t ht => by
        rw [Tryd.params4] at ht
        have h3 : t = 9 ∨ t = 48 ∨ t = 4 := by
          rcases j with _ | _ | _ | j
          · exact .inl (by simpa using ht.symm)
          · exact .inr (.inl (by simpa using ht.symm))
          · exact .inr (.inr (by simpa using ht.symm))
          · simp at ht
        rcases h3 with rfl | rfl | rfl
        · exact (show Tryd.prog.wantsStandIn 9 = false by kernel_rfl)
        · exact (show Tryd.prog.wantsStandIn 48 = false by kernel_rfl)
        · exact (show Tryd.prog.wantsStandIn 4 = false by kernel_rfl)⟩)
    (by kernel_rfl)
#print axioms lexDoes_holds
end Go.Proofs.YtoadpaaghjomnaaDoor
