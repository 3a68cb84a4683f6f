/-
  From what a type's deep values are to a Lean structure, type by type; a struct as an argument.
  Conditions: none.
-/
import Derived.Test.YtpemlmhggiaflaaGreatDoorDT
import Derived.WideShapes
import Derived.WalkKit
set_option linter.unusedVariables false
set_option linter.unusedSimpArgs false
namespace Go.Deepv
open Go.RowKit Go.WideShapes

section
variable {P : Program}
/-- The cells that a type's deep values are: at any depth. -/
def Sort0 (P : Program) (t : TypeId) (c : List FV) : Prop := ∃ n, Fits P n t c

def in64 (n : Int) : Prop := -9223372036854775808 ≤ n ∧ n ≤ 9223372036854775807
def inU8 (n : Int) : Prop := 0 ≤ n ∧ n ≤ 255
theorem int_fits {n : Nat} {t : TypeId} {c : List FV} (hu : P.underlying t = some (.int .i64)) (h : Fits P n t c) : ∃ m, c = [.int .i64 m] ∧ in64 m := by
  cases n with
  | zero => exact h.elim
  | succ n =>
    simp only [Fits, hu] at h
    obtain ⟨m, rfl, hw⟩ := h
    exact ⟨m, rfl, by simpa [in64, Lit.wf, IntKind.min, IntKind.max, IntKind.signed, IntKind.bits] using hw⟩
theorem u8_fits {n : Nat} {t : TypeId} {c : List FV} (hu : P.underlying t = some (.int .u8)) (h : Fits P n t c) : ∃ m, c = [.int .u8 m] ∧ inU8 m := by
  cases n with
  | zero => exact h.elim
  | succ n =>
    simp only [Fits, hu] at h
    obtain ⟨m, rfl, hw⟩ := h
    exact ⟨m, rfl, by simpa [inU8, Lit.wf, IntKind.min, IntKind.max, IntKind.signed, IntKind.bits] using hw⟩
theorem str_fits {n : Nat} {t : TypeId} {c : List FV} (hu : P.underlying t = some .string) (h : Fits P n t c) : ∃ s, c = [.str s] ∧ s.size ≤ 9223372036854775807 := by
  cases n with
  | zero => exact h.elim
  | succ n =>
    simp only [Fits, hu] at h
    obtain ⟨m, rfl, hw⟩ := h
    exact ⟨m, rfl, hw⟩
theorem bool_fits {n : Nat} {t : TypeId} {c : List FV} (hu : P.underlying t = some .bool) (h : Fits P n t c) : ∃ b, c = [.bool b] := by
  cases n with
  | zero => exact h.elim
  | succ n =>
    simp only [Fits, hu] at h
    exact h
theorem all_of {α : Type} {f : α → List FV} {p : α → Prop} : ∀ {l : List (List FV)}, (∀ c ∈ l, ∃ a, c = f a ∧ p a) → ∃ as : List α, l = as.map f ∧ ∀ a ∈ as, p a
  | [], _ => ⟨[], rfl, fun a ha => by simp at ha⟩
  | c :: l, h => by
    obtain ⟨as, e, hp⟩ := all_of (l := l) fun c hc => h c (by simp [hc])
    obtain ⟨a, e1, hp1⟩ := h c (by simp)
    exact ⟨a :: as, by simp [e, e1], fun b hb => by rcases List.mem_cons.1 hb with rfl | hb; exact hp1; exact hp b hb⟩
theorem slice_fits {α : Type} {n : Nat} {t e : TypeId} {c : List FV} (hu : P.underlying t = some (.slice e)) (f : α → List FV) (p : α → Prop) (mk : ∀ m c, m < n → c.length = P.cellsOf e → Fits P m e c → ∃ a, c = f a ∧ p a) (h : Fits P n t c) :
    ∃ l : List α, c = [.slice (P.cellsOf e) (l.map f)] ∧ l.length ≤ 9223372036854775807 ∧ ∀ a ∈ l, p a := by
  cases n with
  | zero => exact h.elim
  | succ n =>
    simp only [Fits, hu] at h
    obtain ⟨l, rfl, hm, hl⟩ := h
    obtain ⟨as, rfl, hp⟩ := all_of fun c hc => mk n c (Nat.lt_succ_self n) (hl c hc).1 (hl c hc).2
    exact ⟨as, rfl, by have h2 : maxLen = 9223372036854775807 := rfl; simp only [List.length_map] at hm; omega, hp⟩
theorem struct_fits {n : Nat} {t : TypeId} {fl : Array Field} {c : List FV} (hu : P.underlying t = some (.struct fl)) (h : Fits P n t c) : ∃ m, n = m + 1 ∧ c.length = P.cellsOf t ∧ ∀ f ∈ fl.toList, Fits P m f.type ((c.drop f.offset).take (P.cellsOf f.type)) := by
  cases n with
  | zero => exact h.elim
  | succ n =>
    simp only [Fits, hu] at h
    exact ⟨n, rfl, h.1, h.2⟩

theorem arg_struct {H : Type} {enc : TypeId × Value → H} {w : World} {T : TypeId → Prop} (K : Kids P T) (hp : Plain P T) {t : TypeId} {v : Value} {d : DataW H} {ps : List MemPlace} {r : Reach} {base : Nat} {fl : Array Field} (ht : T t) (hu : P.underlying t = some (.struct fl)) (hv : Value.okWide P w r base t v)
    (h : DataW.Trod enc P w 0 (fun _ => true) true t v d ps) : ∃ n fs, RepF (Start w) w v (.agg fs) ∧ Fits P n t fs := by
  obtain ⟨cs, rfl, _⟩ := okWide_struct hu hv
  obtain ⟨n, hn⟩ := h
  obtain ⟨fs, h1, h2⟩ := rep_of_trod K hp n t _ _ ht hn
  refine ⟨n, fs, .agg cs fs ?_ fun j x hx => ?_, h2⟩
  · simpa [Value.cells] using h1.1
  · have := (h1.2 j x hx).1
    simpa [Value.cells, List.getD, Array.getD_eq_getD_getElem?] using this
theorem arg_str {H : Type} {enc : TypeId × Value → H} {w : World} {v : Value} {t : TypeId} {r : Reach} {base : Nat} (hu : P.underlying t = some .string) (hv : Value.okWide P w r base t v) : ∃ s, v = .string s ∧ RepF (Start w) w v (.str s) := by
  obtain ⟨s, rfl⟩ := okWide_string hu hv
  exact ⟨s, rfl, .str s⟩
end
end Go.Deepv
