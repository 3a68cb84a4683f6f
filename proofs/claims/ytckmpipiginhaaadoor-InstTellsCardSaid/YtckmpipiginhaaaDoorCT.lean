/-
  InstTells, the given statement: the card.
  Conditions: none.
-/
import Derived.Test.YtckmpipiginhaaaDoorRT
import Derived.Test.YtckmpipiginhaaaDoorTie
import Derived.Test.YtckmpipiginhaaaDoorCards
import Derived.SevenTiedAt
namespace Go.Proofs.YtckmpipiginhaaaDoor
open Go

/-- The row's statement, under a short name. -/
theorem instTells_row : Rows.InstTellsSaid := instTells.proved

theorem instTells_holds : Rows.InstTellsCardSaid :=
  Claim7.holds_tied_plain_at .later [] [.data, .data, .data, .data, .sentinel, .sentinel, .pinned] true (true, "e3ea47d03b9d5067153bae6f28da4eed01e6936ed1e9a36427b9044a41df5e80") true
    instTells_row (fun _ h => by cases h) (by kernel_rfl) (fun _ h => by cases h) instTells_row_tie rfl ⟨rfl, rfl⟩ (by kernel_rfl) rfl
    (fun f fn hf hfn => by
      obtain rfl : f = 4 := Option.some.inj ((show Tryd.prog.funcNamed "handloom/handloomlaw19.InstTells" = some 4 by kernel_rfl).symm.trans hf) |>.symm
      obtain rfl : fn = Tryd.f4 := (Option.some.inj (Tryd.func4.symm.trans hfn)).symm
      exact ⟨by kernel_rfl, fun j t ht => by
        rw [Tryd.params4] at ht
        have h3 : t = 23 ∨ t = 9 := by
          rcases j with _ | _ | j
          · exact .inl (by simpa using ht.symm)
          · exact .inr (by simpa using ht.symm)
          · simp at ht
        rcases h3 with rfl | rfl
        · exact (show Tryd.prog.wantsStandIn 23 = false by kernel_rfl)
        · exact (show Tryd.prog.wantsStandIn 9 = false by kernel_rfl)⟩)
    (by kernel_rfl)
#print axioms instTells_holds
end Go.Proofs.YtckmpipiginhaaaDoor
