/-
  What the trace's laws take, as deep values.
  Conditions: none.
-/
import Derived.Test.YtpemlmhggiaflaaGreatDoorKF
import Derived.Test.YtpemlmhggiaflaaGreatDoorMF
import Derived.Test.YtpemlmhggiaflaaGreatDoorUO
set_option linter.unusedVariables false
set_option linter.unusedSimpArgs false
set_option maxRecDepth 100000
namespace Go.Proofs.YtpemlmhggiaflaaGreatDoor.Codes
open Go Go.Deepv Go.WideShapes
theorem len4 {c : List FV} (h : c.length = 4) : ∃ a b d e, c = [a, b, d, e] := by match c, h with | [a, b, d, e], _ => exact ⟨a, b, d, e, rfl⟩
theorem ofInts_cells {l : List Int} (h : ∀ n ∈ l, inU8 n) : ∃ b : ByteArray, strCells b = (l.map fun n => [FV.int .u8 n]) ∧ b.size = l.length := by
 refine ⟨⟨(l.map fun n => UInt8.ofNat n.toNat).toArray⟩, ?_, by simp [ByteArray.size]⟩
 unfold strCells
 simp only [List.map_map]
 refine List.map_congr_left fun n hn => ?_
 have := h n hn
 unfold inU8 at this
 simp only [Function.comp, UInt8.toNat_ofNat']
 congr 2
 omega
theorem rs_of (n : Nat) (c : List FV) (h : Fits Tryz.prog n 24 c) : ∃ r : Rs, c = r.enc ∧ r.b.size ≤ 9223372036854775807 := by
 obtain ⟨m, rfl, hl, hf⟩ := struct_fits Tryz.underlying24 h
 rw [c24] at hl
 obtain ⟨a1, a2, a3, a4, rfl⟩ := len4 hl
 simp only [List.mem_cons, List.not_mem_nil, or_false, forall_eq_or_imp, forall_eq, c3, c2, c22, List.drop_succ_cons, List.drop_zero, List.take_succ_cons, List.take_zero] at hf
 obtain ⟨f1, f2, f3, f4⟩ := hf
 obtain ⟨k1, e1, _⟩ := int_fits Tryz.underlying3 f1
 obtain ⟨k2, e2, _⟩ := int_fits Tryz.underlying3 f2
 obtain ⟨k3, e3, _⟩ := int_fits Tryz.underlying2 f3
 obtain ⟨l, e4, hl4, hp⟩ := slice_fits Tryz.underlying22 (fun n : Int => [FV.int .u8 n]) inU8 (fun m c _ _ h => by
  obtain ⟨x, hx, hi⟩ := u8_fits Tryz.underlying5 h
  exact ⟨x, hx, hi⟩) f4
 rw [c5] at e4
 obtain ⟨b, hb, hs⟩ := ofInts_cells hp
 simp only [List.cons.injEq, and_true] at e1 e2 e3 e4
 subst e1 e2 e3 e4
 exact ⟨⟨k1, k2, k3, b⟩, by rw [← hb]; rfl, show b.size ≤ _ by omega⟩
theorem str_max {H : Type} {enc : TypeId × Value → H} {P : Program} {w : World} {t : TypeId} {s : ByteArray} {d : DataW H} {ps : List MemPlace} (hu : P.underlying t = some .string) (h : DataW.Trod enc P w 0 (fun _ => true) true t (.string s) d ps) : s.size ≤ 9223372036854775807 := by
 obtain ⟨n, hn⟩ := h
 cases n with
 | zero => simp [DataW.trod] at hn
 | succ n =>
  simp only [DataW.trod, hu, Value.cells] at hn
  by_cases hs : s.size ≤ maxLen
  ·exact hs
  ·simp [hs] at hn
end Go.Proofs.YtpemlmhggiaflaaGreatDoor.Codes
