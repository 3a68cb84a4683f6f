/-
  EvalDoes, the given statement: the row; EvalDoes, the given statement: the card
  Conditions: none.
-/
import Derived.Test.YtnklhhmfmopdnaaGreatDoorPX
import Derived.Test.YtnklhhmfmopdnaaGreatDoorPC
import Derived.Lay
import Derived.LaidHandle
import Derived.Test.YtnklhhmfmopdnaaGreatDoorTie
import Derived.Test.YtnklhhmfmopdnaaGreatDoorCards
import Derived.SevenTiedAt
namespace Go.Proofs.YtnklhhmfmopdnaaGreatDoor.evalDoes
open Go.ChangeShapes Go.WideShapes Go.ChangeAt Go.RowKit Go.Deepv
open Go.Proofs.YtnklhhmfmopdnaaGreatDoor.Codes
set_option linter.unusedVariables false
noncomputable def wit0 (os : Os) : World :=
 let w0 := World.holding Tryz.prog os ⟨#[], #[], []⟩
 { w0 with heap := w0.heap.modify 0 fun
   | .cells _ t frozen => .cells #[.iface 282 (.agg #[typeHandle Tryz.prog 128])] t frozen
   | o => o }
def plainL : List (String × DataW Unit) := Rows.evalDoesRow.laid.filter fun x => x.2.handleName?.isNone
noncomputable def wit (os : Os) : World := (wit0 os).layVars Tryz.prog plainL
theorem wit_os (os : Os) : (wit os).os = os := by
 rw [wit, World.layVars_os]
 rfl
theorem wit_plain (os : Os) : laidMet Tryz.prog plainL (wit os) := by
 have e1 : (plainL.filter fun x => (plainL.map (·.1)).contains x.1) = plainL := by kernel_rfl
 have e2 : (plainL.filter fun x => !(plainL.map (·.1)).contains x.1) = [] := by kernel_rfl
 exact laidMet_layVars (w0 := wit0 os) (plainL.map (·.1)) [] (by rw [e1]; rfl) (by rw [e1]; kernel_rfl) (by rw [e1]; kernel_rfl) (by rw [e2]; exact LaidIn.none)
theorem door_met (os : Os) (args : Array Value) : laidMetH Tryz.prog Rows.evalDoesRow.laid ((wit os).forCall (fun _ _ => 0) ⟨#[], args, []⟩).memory :=
 laidMetH_of_parts ((wit_plain os).of_heap (by simp [World.memory, World.forCall, Input.heap])) (by kernel_rfl)
set_option maxRecDepth 100000 in
theorem lifted (os : Os) (started : os.Started) (H : Type) (enc : TypeId × Value → H) :
  ReturnsInHanded {} Tryz.checked os 3 .any (fun w args => (Rows.evalDoesSpec.pre enc Tryz.prog Tryz.f3 [] false w args ∧ laidMetH Tryz.prog Rows.evalDoesRow.laid w) ∧ sizedMet enc Tryz.prog Tryz.f3 (OpenSpec.ofChange Rows.evalDoesSpec) false w args)
   (Rows.evalDoesSpec.post enc Tryz.prog Tryz.f3 false true false false) := by
 refine returns_all (C := Tryz.checked) (X := fun w _ => laidMetH Tryz.prog Rows.evalDoesRow.laid w) (fun _ _ _ hh h => h.of_heap hh) own started (by kernel_rfl) Tryz.func3
  (ChangeSpec.witness_shaped (enc := enc) (C := Tryz.checked) (os := os) (X := fun w _ => laidMetH Tryz.prog Rows.evalDoesRow.laid w) false (wit os) #[.int .i64 0, .slice none 0 0] 8 (wit_os os) (World.shaped_of_ZipB (by kernel_rfl) (by kernel_rfl)) (by kernel_rfl) (by kernel_rfl) (by kernel_rfl) (door_met os _)) ?_
 intro W base args ds gs before hval0 hW _ hz hL hsh
 have hval : ∀ (j : Nat) t v, Tryz.f3.params[j]? = some t → args[j]? = some v → Value.okWide Tryz.prog W .any base t v := hval0
 have hW' := hW
 obtain ⟨p, q, hA0, hV, rfl, hfz, hnd⟩ := hW
 have hA : DataW.TrodAll enc Tryz.prog W 0 (fun _ => true) true Tryz.f3.params.toList args.toList ds p := hA0
 have hAA := hA
 rw [Tryz.params3] at hA hval hz
 obtain ⟨v0, v1, d0, d1, p0, p1, rfl, rfl, rfl, h0, h1⟩ := trodAll_two hA
 obtain ⟨rfl, rfl⟩ := trodVars_none hV
 have z0 : (d0.weights Tryz.prog 2).all (· ≤ reachBytes) = true := List.all_eq_true.2 fun n hn => List.all_eq_true.1 hz n (DataW.weights_mem_each (j := 0) rfl rfl n hn)
 have z1 : (d1.weights Tryz.prog 22).all (· ≤ reachBytes) = true := List.all_eq_true.2 fun n hn => List.all_eq_true.1 hz n (DataW.weights_mem_each (j := 1) rfl rfl n hn)
 obtain ⟨q0, rfl⟩ := okWide_int Tryz.underlying2 (hval 0 2 v0 rfl rfl)
 obtain ⟨l1, x1⟩ := vals_arg (hval 1 22 v1 rfl rfl) h1
 have hd := does_law q0 l1
 refine (D_law (P := Tryz.prog) (envOk ⟨trivial⟩) (g := 3) (w := W) (gw_start W) (args := #[.int .i64 q0, v1]) (fs := [.int .i64 q0, .slice 5 (V.encs l1)]) rfl (fun j y hy => ?_) hd).mono fun e W' ⟨he, bel⟩ => ?_
 ·match j, hy with
  | 0, hy => simp at hy; subst hy; exact .int _ _
  | 1, hy => simp at hy; subst hy; exact x1
  | j + 2, hy => simp at hy
 ·subst he
  exact ⟨_, rfl, _, _, _, [], _, [], hW', trodAll_mk1 (shut_bool Tryz.underlying4 _), args_back kids full bel (by rw [Tryz.params3]; simp [tys]) hAA, rfl, bel.frame _, fun h => by cases h⟩
theorem over : Rows.evalDoesRow.holds Tryz.pinned (OpenSpec.ofChange Rows.evalDoesSpec) :=
 OpenClaim.holds_of_wide 3 Tryz.f3 rfl rfl rfl rfl rfl rfl rfl ⟨rfl, rfl, rfl, rfl, rfl⟩ rfl rfl rfl rfl rfl (by kernel_rfl) Tryz.func3 (by kernel_rfl)
  (of_decide_eq_true (by kernel_rfl)) (by unfold Func.isWrapper; first | (rw [if_pos (by decide +kernel)]; kernel_rfl) | (rw [if_neg (by decide +kernel)]; exact ⟨rfl, rfl⟩))
  (fun os started H enc _ => lifted os started H enc)
theorem proved : Rows.EvalDoesSaid := over
end Go.Proofs.YtnklhhmfmopdnaaGreatDoor.evalDoes
namespace Go.Proofs.YtnklhhmfmopdnaaGreatDoor
open Go
theorem evalDoes_row : Rows.EvalDoesSaid := evalDoes.proved
theorem evalDoes_holds : Rows.EvalDoesCardSaid :=
 Claim7.holds_tied_plain_at .later [] [.data, .handle, .pinned] true (true, "1eaaeb34b1f6bd0a605fdffb78c867c7e2411769b481a37f1308a8bec6344d50") true
  evalDoes_row (fun _ h => by cases h) (by kernel_rfl) (fun _ h => by cases h) evalDoes_row_tie rfl ⟨rfl, rfl⟩ (by kernel_rfl) rfl
  (fun f fn hf hfn => by
   obtain rfl : f = 3 := Option.some.inj ((show Tryz.prog.funcNamed "handloom/handloomlaw12.EvalDoes" = some 3 by kernel_rfl).symm.trans hf) |>.symm
   obtain rfl : fn = Tryz.f3 := (Option.some.inj (Tryz.func3.symm.trans hfn)).symm
   exact ⟨by kernel_rfl, fun j t ht => by
    rw [Tryz.params3] at ht
    have h3 : t = 2 ∨ t = 22 := by
     rcases j with _ | _ | j
     ·exact .inl (by simpa using ht.symm)
     ·exact .inr (by simpa using ht.symm)
     ·simp at ht
    rcases h3 with rfl | rfl
    ·exact (show Tryz.prog.wantsStandIn 2 = false by kernel_rfl)
    ·exact (show Tryz.prog.wantsStandIn 22 = false by kernel_rfl)⟩)
  (by kernel_rfl)
#print axioms evalDoes_holds
end Go.Proofs.YtnklhhmfmopdnaaGreatDoor
