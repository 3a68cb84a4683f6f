/-
  InstGoes, the given statement: the card.
  Conditions: none.
-/
import Derived.Test.YtckmpipiginhaaaDoorRG
import Derived.Test.YtckmpipiginhaaaDoorTie
import Derived.Test.YtckmpipiginhaaaDoorCards
import Derived.SevenTiedAt
namespace Go.Proofs.YtckmpipiginhaaaDoor
open Go

/-- The row's statement, under a short name. -/
theorem instGoes_row : Rows.InstGoesSaid := instGoes.proved

theorem instGoes_holds : Rows.InstGoesCardSaid :=
  Claim7.holds_tied_plain_at .later [] [.data, .data, .data, .data, .sentinel, .sentinel, .pinned] true (true, "e3ea47d03b9d5067153bae6f28da4eed01e6936ed1e9a36427b9044a41df5e80") true
    instGoes_row (fun _ h => by cases h) (by kernel_rfl) (fun _ h => by cases h) instGoes_row_tie rfl ⟨rfl, rfl⟩ (by kernel_rfl) rfl
    (fun f fn hf hfn => by
      obtain rfl : f = 3 := Option.some.inj ((show Tryd.prog.funcNamed "handloom/handloomlaw19.InstGoes" = some 3 by kernel_rfl).symm.trans hf) |>.symm
      obtain rfl : fn = Tryd.f3 := (Option.some.inj (Tryd.func3.symm.trans hfn)).symm
      exact ⟨by kernel_rfl, fun j t ht => by
        rw [Tryd.params3] at ht
        have h3 : t = 23 := by
          rcases j with _ | j
          · exact by simpa using ht.symm
          · simp at ht
        rcases h3 with rfl
        · exact (show Tryd.prog.wantsStandIn 23 = false by kernel_rfl)⟩)
    (by kernel_rfl)
#print axioms instGoes_holds
end Go.Proofs.YtckmpipiginhaaaDoor
