/-
  What the lexer's laws take, as deep values.
  Conditions: none.
-/
import Derived.Test.YtoadpaaghjomnaaDoorMP
import Derived.Test.YtoadpaaghjomnaaDoorDW
set_option linter.unusedVariables false
set_option linter.unusedSimpArgs false
set_option maxRecDepth 100000
namespace Go.Proofs.YtoadpaaghjomnaaDoor.Codes
open Go.Deepv Go.WideShapes

def tys : List TypeId := [2, 3, 4, 5, 9, 44, 46, 48]
theorem tysB : kidsB Tryd.prog tys = true := by kernel_rfl
theorem laidB : laidOutB Tryd.prog = true := by kernel_rfl
theorem rowedB : mapsRowed Tryd.prog = true := by kernel_rfl
theorem kids : Kids Tryd.prog (· ∈ tys) := kidsB_kids laidB rowedB tysB
theorem plain : Plain Tryd.prog (· ∈ tys) := kidsB_plain tysB
theorem full : ∀ t e, t ∈ tys → Tryd.prog.underlying t = some (.slice e) → 0 < Tryd.prog.cellsOf e := kidsB_full tysB

theorem c2 : Tryd.prog.cellsOf 2 = 1 := by kernel_rfl
theorem c3 : Tryd.prog.cellsOf 3 = 1 := by kernel_rfl
theorem c5 : Tryd.prog.cellsOf 5 = 1 := by kernel_rfl
theorem c9 : Tryd.prog.cellsOf 9 = 1 := by kernel_rfl
theorem c44 : Tryd.prog.cellsOf 44 = 1 := by kernel_rfl
theorem c46 : Tryd.prog.cellsOf 46 = 2 := by kernel_rfl
theorem c48 : Tryd.prog.cellsOf 48 = 6 := by kernel_rfl

theorem len1 {c : List FV} (h : c.length = 1) : ∃ a, c = [a] := by match c, h with | [a], _ => exact ⟨a, rfl⟩
theorem len6 {c : List FV} (h : c.length = 6) : ∃ a b d e f g, c = [a, b, d, e, f, g] := by match c, h with | [a, b, d, e, f, g], _ => exact ⟨a, b, d, e, f, g, rfl⟩

def ofInts (l : List Int) : ByteArray := ⟨(l.map fun n => UInt8.ofNat n.toNat).toArray⟩
theorem ofInts_cells {l : List Int} (h : ∀ n ∈ l, inU8 n) : strCells (ofInts l) = l.map fun n => [FV.int .u8 n] := by
  unfold ofInts strCells
  rw [List.map_map]
  refine List.map_congr_left fun n hn => ?_
  have := h n hn
  unfold inU8 at this
  simp only [Function.comp_apply, List.cons.injEq, FV.int.injEq, and_true, true_and]
  rw [ofNat_toNat (by omega)]
  omega
theorem byte_of (n : Nat) (c : List FV) (hl : c.length = Tryd.prog.cellsOf 5) (h : Fits Tryd.prog n 5 c) : ∃ m : Int, c = [.int .u8 m] ∧ inU8 m := u8_fits Tryd.underlying5 h
theorem tok_of (n : Nat) (c : List FV) (h : Fits Tryd.prog n 48 c) : ∃ (t : Tk) (l k : Int), c = t.enc l k ∧ t.num ≤ 9223372036854775807 := by
  obtain ⟨m, rfl, hl, hf⟩ := struct_fits Tryd.underlying48 h
  rw [c48] at hl
  obtain ⟨a1, a2, a3, a4, a5, a6, rfl⟩ := len6 hl
  simp only [List.mem_cons, List.not_mem_nil, or_false, forall_eq_or_imp, forall_eq, c2, c3, c9, c44, c46, List.drop_succ_cons, List.drop_zero, List.take_succ_cons, List.take_zero] at hf
  obtain ⟨f1, f2, f3, f4, f5⟩ := hf
  obtain ⟨k1, e1, _⟩ := int_fits Tryd.underlying3 f1
  obtain ⟨s, e2, _⟩ := str_fits Tryd.underlying9 f2
  obtain ⟨k2, e3, h3⟩ := int_fits Tryd.underlying2 f3
  obtain ⟨bs, e4, _, hb⟩ := slice_fits Tryd.underlying44 (fun b : Int => [FV.int .u8 b]) inU8 (fun m' c' hm hl hc => byte_of m' c' hl hc) f4
  obtain ⟨m1, rfl, _, hg⟩ := struct_fits Tryd.underlying46 f5
  simp only [List.mem_cons, List.not_mem_nil, or_false, forall_eq_or_imp, forall_eq, c3, List.drop_succ_cons, List.drop_zero, List.take_succ_cons, List.take_zero] at hg
  obtain ⟨g1, g2⟩ := hg
  obtain ⟨k3, e5, _⟩ := int_fits Tryd.underlying3 g1
  obtain ⟨k4, e6, _⟩ := int_fits Tryd.underlying3 g2
  rw [c5] at e4
  simp only [List.cons.injEq, and_true] at e1 e2 e3 e4 e5 e6
  subst e1 e2 e3 e4 e5 e6
  unfold in64 at h3
  exact ⟨⟨k1, s, k2, ofInts bs⟩, k3, k4, by simp only [Tk.enc, ofInts_cells hb], h3.2⟩
end Go.Proofs.YtoadpaaghjomnaaDoor.Codes
