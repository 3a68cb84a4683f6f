/-
  Texts: the law, as the deep machine says it; EvalTexts, the given statement: the row; EvalTexts, the given statement: the card
  Conditions: none.
-/
import Derived.Test.YtnklhhmfmopdnaaGreatDoorPC
import Derived.Test.YtnklhhmfmopdnaaGreatDoorPX
import Derived.Lay
import Derived.LaidHandle
import Derived.Test.YtnklhhmfmopdnaaGreatDoorTie
import Derived.Test.YtnklhhmfmopdnaaGreatDoorCards
import Derived.SevenTiedAt
set_option linter.unusedVariables false
set_option linter.unusedSimpArgs false
set_option maxRecDepth 100000
namespace Go.Proofs.YtnklhhmfmopdnaaGreatDoor.Codes
open Go Go.Deepv
theorem nums_b (b : List Int) : numsOf (b.map fun x => [FV.int .u8 x]) = some b := by
 induction b with
 | nil => rfl
 | cons x l ih => simp only [numsOf, List.map_cons, List.mapM_cons] at ih ⊢; rw [ih]; rfl
theorem nums_bt (b : List Int) (i n : Nat) : numsOf (((b.map fun x => [FV.int .u8 x]).drop i).take n) = some ((b.drop i).take n) := by
 rw [← List.map_drop, ← List.map_take, nums_b]
theorem nums_bd (b : List Int) (i n : Nat) : numsOf (((b.map fun x => [FV.int .u8 x]).take n).drop i) = some ((b.take n).drop i) := by
 rw [← List.map_take, ← List.map_drop, nums_b]
theorem sb_size (b : List Int) : (strOfNums b).size = b.length := by simp [strOfNums, ByteArray.size]
theorem sb_app (b c : List Int) : strOfNums b ++ strOfNums c = strOfNums (b ++ c) := by
 apply ByteArray.ext
 simp [strOfNums, ByteArray.data_append]
theorem sb_take (b : List Int) (n : Nat) : (strOfNums b).extract 0 n = strOfNums (b.take n) := by
 apply ByteArray.ext
 simp [strOfNums, ByteArray.data_extract, List.map_take]
theorem text10_ok (b : List Int) (h : List Res) : D env 10 [.d (.slice 1 (bF b))] h = some (.val (.d (.agg (textV b).enc)) h) := by
 rw [D_dat (F := A10) rfl rfl rfl rfl]
 simp (maxSteps := 9999999) -implicitDefEqProofs only [A10, B10, textV, V.enc, V.encs, sT, reduceCtorEq, seval, ↓joinK_t, ↓joinK_f, ↓reduceIte]
theorem w63_two (n : Int) : w63 (w63 n) = w63 n := w63_self (w63_range n).1 (w63_range n).2
theorem sh63 (n : Int) : (IntKind.i64.wrap (n * 2 ^ min 1 IntKind.i64.bits)).fdiv (2 ^ min 1 IntKind.i64.bits) = w63 n := by
 have e : min 1 IntKind.i64.bits = 1 := by decide
 rw [e, Int.fdiv_eq_ediv_of_nonneg _ (by decide)]
 simp only [IntKind.wrap_i64, w63]
 omega
set_option maxHeartbeats 4000000 in
theorem texts_law (b c : List Int) (i n : Int) : D env 4 [.d (.slice 1 (bF b)), .d (.slice 1 (bF c)), .d (.int .i64 i), .d (.int .i64 n)] [] = some (.val (.d (.bool true)) []) := by
 have e6 := fun h => awake_any h
 by_cases hb : b.length ≤ 64
 ·by_cases hc : c.length ≤ 64
  ·have b1 : ¬ (b.length : Int) > 64 := by omega
   have c1 : ¬ (c.length : Int) > 64 := by omega
   have ec := fun h => do_cat 0 0 0 b c [] ⟨#[]⟩ ⟨#[]⟩ ⟨#[]⟩ [] [] [] hb hc h
   have ek := fun h => do_cut 0 i n b [] [] ⟨#[]⟩ ⟨#[]⟩ ⟨#[]⟩ [] [] [] hb h
   have el := fun h => do_len 0 0 0 b [] [] ⟨#[]⟩ ⟨#[]⟩ ⟨#[]⟩ [] [] [] hb h
   have ea := fun h => do_at 0 (w63 i) 0 b [] [] ⟨#[]⟩ ⟨#[]⟩ ⟨#[]⟩ [] [] [] hb h
   have t1 := fun h => text10_ok b h
   have t2 := fun h => text10_ok c h
   simp only [resV, textV, numV, V.enc, V.encs, bF, List.map_nil, w63_two] at ec ek el ea t1 t2
   have s1 : b.length + c.length ≤ 9223372036854775807 := by omega
   obtain ⟨m, hm, hm2, hm3⟩ : ∃ m : Nat, (if (64 : Int) < ((b.length + c.length : Nat) : Int) then (64 : Int) else ((b.length + c.length : Nat) : Int)) = (m : Int) ∧ (b ++ c).take m = (b ++ c).take 64 ∧ ((0 : Int) ≤ (m : Int) ∧ (m : Int) ≤ ((b.length + c.length : Nat) : Int)) := by
    by_cases h : (64 : Int) < ((b.length + c.length : Nat) : Int)
    ·exact ⟨64, by rw [if_pos h]; rfl, rfl, by omega⟩
    ·exact ⟨b.length + c.length, by rw [if_neg h], by rw [List.take_of_length_le (by simp), List.take_of_length_le (by simp; omega)], by omega⟩
   obtain ⟨a1, a2⟩ := clampV_range i b.length (by omega)
   obtain ⟨a, ha⟩ : ∃ a : Nat, clampV i b.length = a := ⟨(clampV i b.length).toNat, by omega⟩
   rw [ha] at a1 a2
   have hf : (if (b.length : Int) < (if w63 i < 0 then 0 else w63 i) then (b.length : Int) else (if w63 i < 0 then 0 else w63 i)) = (a : Int) := by
    rw [← ha]; unfold clampV; split <;> split <;> omega
   obtain ⟨z1, z2⟩ := clampV_range n ((b.drop a).length : Nat) (by omega)
   obtain ⟨z, hz⟩ : ∃ z : Nat, clampV n ((b.drop a).length : Nat) = z := ⟨(clampV n ((b.drop a).length : Nat)).toNat, by omega⟩
   rw [hz] at z1 z2
   have hg : (if ((b.drop a).length : Int) < (if w63 n < 0 then 0 else w63 n) then ((b.drop a).length : Int) else (if w63 n < 0 then 0 else w63 n)) = (z : Int) := by
    rw [← hz]; unfold clampV; split <;> split <;> omega
   have hcp : cutP b i n = (b.drop a).take z := by unfold cutP; rw [ha, Int.toNat_natCast, hz, Int.toNat_natCast]
   rw [hcp] at ek
   have tk : (List.map (fun x => [FV.int .u8 x]) b).take b.length = List.map (fun x => [FV.int .u8 x]) b := by rw [List.take_of_length_le (by simp)]
   have nd : numsOf ((List.map (fun x => [FV.int .u8 x]) b).drop a) = some (b.drop a) := by rw [← List.map_drop, nums_b]
   have q1 : (0 : Int) ≤ (a : Int) ∧ (a : Int) ≤ (b.length : Int) := ⟨a1, a2⟩
   have q2 : (0 : Int) ≤ (z : Int) ∧ (z : Int) ≤ ((b.drop a).length : Int) := ⟨z1, z2⟩
   unfold atV at ea
   by_cases h1 : w63 i < 0
   ·have h2 : ¬ w63 i ≥ 0 := by omega
    rw [if_pos (.inl h1)] at ea
    rw [D_dat (F := A4) rfl rfl rfl rfl]
    simp -implicitDefEqProofs only [A4, B4, sS, reduceCtorEq, seval, bF, List.length_map, b1, c1, ec, ek, el, ea, t1, t2, putCells, nums_b, sb_size, sb_app, sb_take, s1, hm, hm2, hm3, sh63, hf, hg, tk, nd, q1, q2, Int.toNat_natCast, beq_self_eq_true, e6, h2]
   have h2 : w63 i ≥ 0 := by omega
   by_cases h3 : w63 i < b.length
   ·rw [if_neg (by omega)] at ea
    obtain ⟨x, hx⟩ : ∃ x, b[(w63 i).toNat]? = some x := ⟨_, List.getElem?_eq_getElem (by omega)⟩
    have hx2 : (List.map (fun x => [FV.int .u8 x]) b)[(w63 i).toNat]? = some [.int .u8 x] := by simp [hx]
    have hx3 : b.getD (w63 i).toNat 0 = x := by simp [List.getD_eq_getElem?_getD, hx]
    have h4 : 0 ≤ w63 i := h2
    rw [hx3] at ea
    rw [D_dat (F := A4) rfl rfl rfl rfl]
    simp -implicitDefEqProofs only [A4, B4, sS, reduceCtorEq, seval, bF, List.length_map, b1, c1, ec, ek, el, ea, t1, t2, putCells, nums_b, sb_size, sb_app, sb_take, s1, hm, hm2, hm3, sh63, hf, hg, tk, nd, q1, q2, Int.toNat_natCast, beq_self_eq_true, e6, h2, h3, h4, hx2]
   ·rw [if_pos (.inr (by omega))] at ea
    rw [D_dat (F := A4) rfl rfl rfl rfl]
    simp -implicitDefEqProofs only [A4, B4, sS, reduceCtorEq, seval, bF, List.length_map, b1, c1, ec, ek, el, ea, t1, t2, putCells, nums_b, sb_size, sb_app, sb_take, s1, hm, hm2, hm3, sh63, hf, hg, tk, nd, q1, q2, Int.toNat_natCast, beq_self_eq_true, e6, h2, h3]
  ·have b1 : ¬ (b.length : Int) > 64 := by omega
   have c1 : (c.length : Int) > 64 := by omega
   rw [D_dat (F := A4) rfl rfl rfl rfl]
   simp -implicitDefEqProofs only [A4, B4, sS, reduceCtorEq, seval, bF, List.length_map, b1, c1, e6]
 ·have b1 : (b.length : Int) > 64 := by omega
  rw [D_dat (F := A4) rfl rfl rfl rfl]
  simp -implicitDefEqProofs only [A4, B4, sS, reduceCtorEq, seval, bF, List.length_map, b1, e6]
end Go.Proofs.YtnklhhmfmopdnaaGreatDoor.Codes
namespace Go.Proofs.YtnklhhmfmopdnaaGreatDoor.evalTexts
open Go.ChangeShapes Go.WideShapes Go.ChangeAt Go.RowKit Go.Deepv
open Go.Proofs.YtnklhhmfmopdnaaGreatDoor.Codes
noncomputable def wit0 (os : Os) : World :=
 let w0 := World.holding Tryz.prog os ⟨#[], #[], []⟩
 { w0 with heap := w0.heap.modify 0 fun
   | .cells _ t frozen => .cells #[.iface 282 (.agg #[typeHandle Tryz.prog 128])] t frozen
   | o => o }
def plainL : List (String × DataW Unit) := Rows.evalTextsRow.laid.filter fun x => x.2.handleName?.isNone
noncomputable def wit (os : Os) : World := (wit0 os).layVars Tryz.prog plainL
theorem wit_os (os : Os) : (wit os).os = os := by
 rw [wit, World.layVars_os]
 rfl
theorem wit_plain (os : Os) : laidMet Tryz.prog plainL (wit os) := by
 have e1 : (plainL.filter fun x => (plainL.map (·.1)).contains x.1) = plainL := by kernel_rfl
 have e2 : (plainL.filter fun x => !(plainL.map (·.1)).contains x.1) = [] := by kernel_rfl
 exact laidMet_layVars (w0 := wit0 os) (plainL.map (·.1)) [] (by rw [e1]; rfl) (by rw [e1]; kernel_rfl) (by rw [e1]; kernel_rfl) (by rw [e2]; exact LaidIn.none)
theorem door_met (os : Os) (args : Array Value) : laidMetH Tryz.prog Rows.evalTextsRow.laid ((wit os).forCall (fun _ _ => 0) ⟨#[], args, []⟩).memory :=
 laidMetH_of_parts ((wit_plain os).of_heap (by simp [World.memory, World.forCall, Input.heap])) (by kernel_rfl)
set_option maxRecDepth 100000 in
theorem lifted (os : Os) (started : os.Started) (H : Type) (enc : TypeId × Value → H) :
  ReturnsInHanded {} Tryz.checked os 4 .any (fun w args => (Rows.evalTextsSpec.pre enc Tryz.prog Tryz.f4 [] false w args ∧ laidMetH Tryz.prog Rows.evalTextsRow.laid w) ∧ sizedMet enc Tryz.prog Tryz.f4 (OpenSpec.ofChange Rows.evalTextsSpec) false w args)
   (Rows.evalTextsSpec.post enc Tryz.prog Tryz.f4 false true false false) := by
 refine returns_all (C := Tryz.checked) (X := fun w _ => laidMetH Tryz.prog Rows.evalTextsRow.laid w) (fun _ _ _ hh h => h.of_heap hh) own started (by kernel_rfl) Tryz.func4
  (ChangeSpec.witness_shaped (enc := enc) (C := Tryz.checked) (os := os) (X := fun w _ => laidMetH Tryz.prog Rows.evalTextsRow.laid w) false (wit os) #[.slice none 0 0, .slice none 0 0, .int .i64 0, .int .i64 0] 8 (wit_os os) (World.shaped_of_ZipB (by kernel_rfl) (by kernel_rfl)) (by kernel_rfl) (by kernel_rfl) (by kernel_rfl) (door_met os _)) ?_
 intro W base args ds gs before hval0 hW _ hz hL hsh
 have hval : ∀ (j : Nat) t v, Tryz.f4.params[j]? = some t → args[j]? = some v → Value.okWide Tryz.prog W .any base t v := hval0
 have hW' := hW
 obtain ⟨p, q, hA0, hV, rfl, hfz, hnd⟩ := hW
 have hA : DataW.TrodAll enc Tryz.prog W 0 (fun _ => true) true Tryz.f4.params.toList args.toList ds p := hA0
 have hAA := hA
 rw [Tryz.params4] at hA hval hz
 obtain ⟨v0, v1, v2, v3, d0, d1, d2, d3, p0, p1, p2, p3, rfl, rfl, rfl, h0, h1, h2, h3⟩ := trodAll_four hA
 obtain ⟨rfl, rfl⟩ := trodVars_none hV
 have z0 : (d0.weights Tryz.prog 25).all (· ≤ reachBytes) = true := List.all_eq_true.2 fun n hn => List.all_eq_true.1 hz n (DataW.weights_mem_each (j := 0) rfl rfl n hn)
 have z1 : (d1.weights Tryz.prog 25).all (· ≤ reachBytes) = true := List.all_eq_true.2 fun n hn => List.all_eq_true.1 hz n (DataW.weights_mem_each (j := 1) rfl rfl n hn)
 have z2 : (d2.weights Tryz.prog 2).all (· ≤ reachBytes) = true := List.all_eq_true.2 fun n hn => List.all_eq_true.1 hz n (DataW.weights_mem_each (j := 2) rfl rfl n hn)
 have z3 : (d3.weights Tryz.prog 2).all (· ≤ reachBytes) = true := List.all_eq_true.2 fun n hn => List.all_eq_true.1 hz n (DataW.weights_mem_each (j := 3) rfl rfl n hn)
 obtain ⟨b0, x0⟩ := bytes_arg (hval 0 25 v0 rfl rfl) h0
 obtain ⟨b1, x1⟩ := bytes_arg (hval 1 25 v1 rfl rfl) h1
 obtain ⟨q2, rfl⟩ := okWide_int Tryz.underlying2 (hval 2 2 v2 rfl rfl)
 obtain ⟨q3, rfl⟩ := okWide_int Tryz.underlying2 (hval 3 2 v3 rfl rfl)
 have hd := texts_law b0 b1 q2 q3
 refine (D_law (P := Tryz.prog) (envOk ⟨trivial⟩) (g := 4) (w := W) (gw_start W) (args := #[v0, v1, .int .i64 q2, .int .i64 q3]) (fs := [.slice 1 (b0.map fun x => [.int .u8 x]), .slice 1 (b1.map fun x => [.int .u8 x]), .int .i64 q2, .int .i64 q3]) rfl (fun j y hy => ?_) hd).mono fun e W' ⟨he, bel⟩ => ?_
 ·match j, hy with
  | 0, hy => simp at hy; subst hy; exact x0
  | 1, hy => simp at hy; subst hy; exact x1
  | 2, hy => simp at hy; subst hy; exact .int _ _
  | 3, hy => simp at hy; subst hy; exact .int _ _
  | j + 4, hy => simp at hy
 ·subst he
  exact ⟨_, rfl, _, _, _, [], _, [], hW', trodAll_mk1 (shut_bool Tryz.underlying4 _), args_back kids full bel (by rw [Tryz.params4]; simp [tys]) hAA, rfl, bel.frame _, fun h => by cases h⟩
theorem over : Rows.evalTextsRow.holds Tryz.pinned (OpenSpec.ofChange Rows.evalTextsSpec) :=
 OpenClaim.holds_of_wide 4 Tryz.f4 rfl rfl rfl rfl rfl rfl rfl ⟨rfl, rfl, rfl, rfl, rfl⟩ rfl rfl rfl rfl rfl (by kernel_rfl) Tryz.func4 (by kernel_rfl)
  (of_decide_eq_true (by kernel_rfl)) (by unfold Func.isWrapper; first | (rw [if_pos (by decide +kernel)]; kernel_rfl) | (rw [if_neg (by decide +kernel)]; exact ⟨rfl, rfl⟩))
  (fun os started H enc _ => lifted os started H enc)
theorem proved : Rows.EvalTextsSaid := over
end Go.Proofs.YtnklhhmfmopdnaaGreatDoor.evalTexts
namespace Go.Proofs.YtnklhhmfmopdnaaGreatDoor
open Go
theorem evalTexts_row : Rows.EvalTextsSaid := evalTexts.proved
theorem evalTexts_holds : Rows.EvalTextsCardSaid :=
 Claim7.holds_tied_plain_at .later [] [.data, .handle, .pinned] true (true, "1eaaeb34b1f6bd0a605fdffb78c867c7e2411769b481a37f1308a8bec6344d50") true
  evalTexts_row (fun _ h => by cases h) (by kernel_rfl) (fun _ h => by cases h) evalTexts_row_tie rfl ⟨rfl, rfl⟩ (by kernel_rfl) rfl
  (fun f fn hf hfn => by
   obtain rfl : f = 4 := Option.some.inj ((show Tryz.prog.funcNamed "handloom/handloomlaw12.EvalTexts" = some 4 by kernel_rfl).symm.trans hf) |>.symm
   obtain rfl : fn = Tryz.f4 := (Option.some.inj (Tryz.func4.symm.trans hfn)).symm
   exact ⟨by kernel_rfl, fun j t ht => by
    rw [Tryz.params4] at ht
    have h3 : t = 25 ∨ t = 2 := by
     rcases j with _ | _ | _ | _ | j
     ·exact .inl (by simpa using ht.symm)
     ·exact .inl (by simpa using ht.symm)
     ·exact .inr (by simpa using ht.symm)
     ·exact .inr (by simpa using ht.symm)
     ·simp at ht
    rcases h3 with rfl | rfl
    ·exact (show Tryz.prog.wantsStandIn 25 = false by kernel_rfl)
    ·exact (show Tryz.prog.wantsStandIn 2 = false by kernel_rfl)⟩)
  (by kernel_rfl)
#print axioms evalTexts_holds
end Go.Proofs.YtnklhhmfmopdnaaGreatDoor
