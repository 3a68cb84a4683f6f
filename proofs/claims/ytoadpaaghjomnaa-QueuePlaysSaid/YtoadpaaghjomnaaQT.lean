/-
  What the queue's laws take, as deep values.
  Conditions: none.
-/
import Derived.Test.YtoadpaaghjomnaaQB
import Derived.Test.YtoadpaaghjomnaaQE
import Derived.Test.YtoadpaaghjomnaaDT
import Derived.WalkKit
import Derived.ProofKit
set_option linter.unusedVariables false
set_option linter.unusedSimpArgs false
set_option maxRecDepth 100000
namespace Go.Proofs.Ytoadpaaghjomnaa.Codes
open Go.Deepv Go.WideShapes

def tys : List TypeId := [2, 3, 4, 5, 9, 27, 28, 34, 35, 37, 39]
theorem tysB : kidsB Try.prog tys = true := by kernel_rfl
theorem laid : laidOutB Try.prog = true := by kernel_rfl
theorem rowed : mapsRowed Try.prog = true := by kernel_rfl
theorem kids : Kids Try.prog (· ∈ tys) := kidsB_kids laid rowed tysB
theorem plain : Plain Try.prog (· ∈ tys) := kidsB_plain tysB
theorem full : ∀ t e, t ∈ tys → Try.prog.underlying t = some (.slice e) → 0 < Try.prog.cellsOf e := kidsB_full tysB

theorem bytes_of (n : Nat) (c : List FV) (h : Fits Try.prog n 34 c) : ∃ b : List Int, c = [.slice 1 (b.map fun x => [.int .u8 x])] := by
  cases n with
  | zero => exact h.elim
  | succ n =>
    simp only [Fits, Try.underlying34] at h
    obtain ⟨l, rfl, _, hl⟩ := h
    have c1 : Try.prog.cellsOf 5 = 1 := by kernel_rfl
    rw [c1] at hl ⊢
    have : ∀ l : List (List FV), (∀ c ∈ l, c.length = 1 ∧ Fits Try.prog n 5 c) → ∃ b : List Int, l = b.map fun x => [.int .u8 x] := by
      intro l
      induction l with
      | nil => exact fun _ => ⟨[], rfl⟩
      | cons c l ih =>
        intro h
        obtain ⟨b, rfl⟩ := ih fun c hc => h c (by simp [hc])
        have hc := (h c (by simp)).2
        cases n with
        | zero => exact hc.elim
        | succ n =>
          simp only [Fits, Try.underlying5] at hc
          obtain ⟨m, rfl, _⟩ := hc
          exact ⟨m :: b, rfl⟩
    obtain ⟨b, rfl⟩ := this l hl
    exact ⟨b, rfl⟩

theorem int_of {n : Nat} {t : TypeId} {k : IntKind} {c : List FV} (hu : Try.prog.underlying t = some (.int k)) (h : Fits Try.prog n t c) : ∃ m, c = [.int k m] := by
  cases n with
  | zero => exact h.elim
  | succ n =>
    simp only [Fits, hu] at h
    obtain ⟨m, rfl, _⟩ := h
    exact ⟨m, rfl⟩
theorem str_of {n : Nat} {c : List FV} (h : Fits Try.prog n 9 c) : ∃ s, c = [.str s] := by
  cases n with
  | zero => exact h.elim
  | succ n =>
    simp only [Fits, Try.underlying9] at h
    obtain ⟨m, rfl, _⟩ := h
    exact ⟨m, rfl⟩

theorem five {c : List FV} (h : c.length = 5) : ∃ a b d e f, c = [a, b, d, e, f] := by
  match c, h with
  | [a, b, d, e, f], _ => exact ⟨a, b, d, e, f, rfl⟩
theorem seven {c : List FV} (h : c.length = 7) : ∃ a b d e f g i, c = [a, b, d, e, f, g, i] := by
  match c, h with
  | [a, b, d, e, f, g, i], _ => exact ⟨a, b, d, e, f, g, i, rfl⟩

theorem value_of : ∀ (n : Nat) (c : List FV), Fits Try.prog n 37 c → ∃ v : V, c = v.enc := by
  intro n
  induction n using Nat.strongRecOn with
  | ind n ih =>
    intro c h
    cases n with
    | zero => exact h.elim
    | succ n =>
      simp only [Fits, Try.underlying37] at h
      obtain ⟨hlen, hf⟩ := h
      have c1 : Try.prog.cellsOf 37 = 5 := by kernel_rfl
      have s3 : Try.prog.cellsOf 3 = 1 := by kernel_rfl
      have s2 : Try.prog.cellsOf 2 = 1 := by kernel_rfl
      have s34 : Try.prog.cellsOf 34 = 1 := by kernel_rfl
      have s9 : Try.prog.cellsOf 9 = 1 := by kernel_rfl
      have s35 : Try.prog.cellsOf 35 = 1 := by kernel_rfl
      rw [c1] at hlen
      obtain ⟨a, b, d, e, f, rfl⟩ := five hlen
      simp only [List.mem_cons, List.not_mem_nil, or_false, forall_eq_or_imp, forall_eq, s3, s2, s34, s9, s35, List.drop_succ_cons, List.drop_zero, List.take_succ_cons, List.take_zero] at hf
      obtain ⟨f1, f2, f3, f4, f5⟩ := hf
      obtain ⟨m1, e1⟩ := int_of Try.underlying3 f1
      obtain ⟨m2, e2⟩ := int_of Try.underlying2 f2
      obtain ⟨b3, e3⟩ := bytes_of n _ f3
      obtain ⟨s4, e4⟩ := str_of f4
      have : ∃ l : List V, f = .slice 5 (V.encs l) := by
        cases n with
        | zero => exact f5.elim
        | succ n =>
          simp only [Fits, Try.underlying35] at f5
          obtain ⟨l, e5, _, hl⟩ := f5
          rw [c1] at e5
          have mk : ∀ l : List (List FV), (∀ c ∈ l, Fits Try.prog n 37 c) → ∃ vs : List V, l = V.encs vs := by
            intro l
            induction l with
            | nil => exact fun _ => ⟨[], rfl⟩
            | cons c l ihl =>
              intro h
              obtain ⟨vs, rfl⟩ := ihl fun c hc => h c (by simp [hc])
              obtain ⟨v, rfl⟩ := ih n (by omega) c (h c (by simp))
              exact ⟨v :: vs, rfl⟩
          obtain ⟨vs, rfl⟩ := mk l fun c hc => (hl c hc).2
          exact ⟨vs, by simpa using e5⟩
      obtain ⟨l, rfl⟩ := this
      simp only [List.cons.injEq, and_true] at e1 e2 e3 e4
      subst e1 e2 e3 e4
      exact ⟨.mk m1 m2 b3 s4 l, rfl⟩

theorem event_of (n : Nat) (c : List FV) (h : Fits Try.prog n 39 c) : ∃ e : Ev, c = e.enc := by
  cases n with
  | zero => exact h.elim
  | succ n =>
    simp only [Fits, Try.underlying39] at h
    obtain ⟨hlen, hf⟩ := h
    have c1 : Try.prog.cellsOf 39 = 7 := by kernel_rfl
    have s3 : Try.prog.cellsOf 3 = 1 := by kernel_rfl
    have s37 : Try.prog.cellsOf 37 = 5 := by kernel_rfl
    rw [c1] at hlen
    obtain ⟨a, b, d, e, f, g, i, rfl⟩ := seven hlen
    simp only [List.mem_cons, List.not_mem_nil, or_false, forall_eq_or_imp, forall_eq, s3, s37, List.drop_succ_cons, List.drop_zero, List.take_succ_cons, List.take_zero] at hf
    obtain ⟨f1, f2, f3⟩ := hf
    obtain ⟨m1, e1⟩ := int_of Try.underlying3 f1
    obtain ⟨v, e2⟩ := value_of n _ f2
    obtain ⟨m3, e3⟩ := int_of Try.underlying3 f3
    simp only [List.cons.injEq, and_true] at e1 e3
    subst e1 e3
    exact ⟨⟨m1, v, m3⟩, by simp [Ev.enc, ← e2]⟩

theorem events_of (n : Nat) (x : FV) (h : Fits Try.prog n 27 [x]) : ∃ l : List Ev, x = .slice 7 (evs l) := by
  cases n with
  | zero => exact h.elim
  | succ n =>
    simp only [Fits, Try.underlying27] at h
    obtain ⟨l, e, _, hl⟩ := h
    have c1 : Try.prog.cellsOf 39 = 7 := by kernel_rfl
    rw [c1] at e
    simp only [List.cons.injEq, and_true] at e
    subst e
    have mk : ∀ l : List (List FV), (∀ c ∈ l, Fits Try.prog n 39 c) → ∃ vs : List Ev, l = evs vs := by
      intro l
      induction l with
      | nil => exact fun _ => ⟨[], rfl⟩
      | cons c l ihl =>
        intro h
        obtain ⟨vs, rfl⟩ := ihl fun c hc => h c (by simp [hc])
        obtain ⟨v, rfl⟩ := event_of n c (h c (by simp))
        exact ⟨v :: vs, rfl⟩
    obtain ⟨vs, rfl⟩ := mk l fun c hc => (hl c hc).2
    exact ⟨vs, rfl⟩

theorem flags_of (n : Nat) (x : FV) (h : Fits Try.prog n 28 [x]) : ∃ l : List Bool, x = .slice 1 (flags l) := by
  cases n with
  | zero => exact h.elim
  | succ n =>
    simp only [Fits, Try.underlying28] at h
    obtain ⟨l, e, _, hl⟩ := h
    have c1 : Try.prog.cellsOf 4 = 1 := by kernel_rfl
    rw [c1] at e
    simp only [List.cons.injEq, and_true] at e
    subst e
    have mk : ∀ l : List (List FV), (∀ c ∈ l, Fits Try.prog n 4 c) → ∃ vs : List Bool, l = flags vs := by
      intro l
      induction l with
      | nil => exact fun _ => ⟨[], rfl⟩
      | cons c l ihl =>
        intro h
        obtain ⟨vs, rfl⟩ := ihl fun c hc => h c (by simp [hc])
        have hc := h c (by simp)
        cases n with
        | zero => exact hc.elim
        | succ n =>
          simp only [Fits, Try.underlying4] at hc
          obtain ⟨m, rfl⟩ := hc
          exact ⟨m :: vs, rfl⟩
    obtain ⟨vs, rfl⟩ := mk l fun c hc => (hl c hc).2
    exact ⟨vs, rfl⟩

theorem events_arg {H : Type} {enc : TypeId × Value → H} {W : World} {r : Reach} {base : Nat} {v : Value} {d : DataW H} {ps : List MemPlace} (hv : Value.okWide Try.prog W r base 27 v) (h : DataW.Trod enc Try.prog W 0 (fun _ => true) true 27 v d ps) : ∃ l : List Ev, RepF (Go.Deepv.Start W) W v (.slice 7 (evs l)) := by
  obtain ⟨a, n, c, rfl⟩ := okWide_slice Try.underlying27 hv
  obtain ⟨k, x, h1, h2⟩ := arg_one kids plain (by simp [tys]) h rfl
  obtain ⟨l, rfl⟩ := events_of k x h2
  exact ⟨l, h1⟩
theorem flags_arg {H : Type} {enc : TypeId × Value → H} {W : World} {r : Reach} {base : Nat} {v : Value} {d : DataW H} {ps : List MemPlace} (hv : Value.okWide Try.prog W r base 28 v) (h : DataW.Trod enc Try.prog W 0 (fun _ => true) true 28 v d ps) : ∃ l : List Bool, RepF (Go.Deepv.Start W) W v (.slice 1 (flags l)) := by
  obtain ⟨a, n, c, rfl⟩ := okWide_slice Try.underlying28 hv
  obtain ⟨k, x, h1, h2⟩ := arg_one kids plain (by simp [tys]) h rfl
  obtain ⟨l, rfl⟩ := flags_of k x h2
  exact ⟨l, h1⟩
end Go.Proofs.Ytoadpaaghjomnaa.Codes
