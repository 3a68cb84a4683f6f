/-
  TraceBack, the given statement: the card.
  Conditions: none.
-/
import Derived.Test.YtpemlmhggiaflaaGreatDoorRB
import Derived.Test.YtpemlmhggiaflaaGreatDoorTie
import Derived.Test.YtpemlmhggiaflaaGreatDoorCards
import Derived.SevenTiedAt
namespace Go.Proofs.YtpemlmhggiaflaaGreatDoor
open Go
theorem traceBack_row : Rows.TraceBackSaid := traceBack.proved
theorem traceBack_holds : Rows.TraceBackCardSaid :=
 Claim7.holds_tied_plain_at .later [] [.data, .data, .data, .data, .sentinel, .sentinel, .pinned] true (true, "ae5c650a799fce03aca989ef3ad35324ba309c3b5204cbfb6c7e946ae733de1a") true
  traceBack_row (fun _ h => by cases h) (by kernel_rfl) (fun _ h => by cases h) traceBack_row_tie rfl ⟨rfl, rfl⟩ (by kernel_rfl) rfl
  (fun f fn hf hfn => by
   obtain rfl : f = 4 := Option.some.inj ((show Tryz.prog.funcNamed "handloom/handloomlaw33.TraceBack" = some 4 by kernel_rfl).symm.trans hf) |>.symm
   obtain rfl : fn = Tryz.f4 := (Option.some.inj (Tryz.func4.symm.trans hfn)).symm
   exact ⟨by kernel_rfl, fun j t ht => by
    rw [Tryz.params4] at ht
    have h3 : t = 24 ∨ t = 9 := by
     rcases j with _ | _ | j
     ·exact .inl (by simpa using ht.symm)
     ·exact .inr (by simpa using ht.symm)
     ·simp at ht
    rcases h3 with rfl | rfl
    ·exact (show Tryz.prog.wantsStandIn 24 = false by kernel_rfl)
    ·exact (show Tryz.prog.wantsStandIn 9 = false by kernel_rfl)⟩)
  (by kernel_rfl)
#print axioms traceBack_holds
end Go.Proofs.YtpemlmhggiaflaaGreatDoor
