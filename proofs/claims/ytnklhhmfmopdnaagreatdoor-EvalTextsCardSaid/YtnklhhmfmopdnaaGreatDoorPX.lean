/-
  What is asked of the library's variables: nothing; the codes keep the machine's word; What a statement's frame tells of the world's variables; What the evaluator's laws take, as deep values
  Conditions: none.
-/
import Derived.Test.YtnklhhmfmopdnaaGreatDoorMF
import Derived.Test.YtnklhhmfmopdnaaGreatDoorPA
import Derived.Test.YtnklhhmfmopdnaaGreatDoorRows
import Derived.ProofKit
import Derived.OpenShut
import Derived.ShutString
import Derived.ChangeOld
import Derived.Below
import Derived.SizedLaws
import Derived.LaidMore
import Derived.Stop.Joined
import Derived.Lib.LaidTab
import Derived.Stop.LaidErr
import Derived.PinnedBridge
import Derived.Shelf.Vars
set_option linter.unusedVariables false
namespace Go.Proofs.YtnklhhmfmopdnaaGreatDoor.Codes
open Go.Deepv Go.RowKit Go.Proofs
structure Facts (W : World) : Prop where
 none : True
theorem envOk {W : World} (X : Facts W) : EnvOk Tryz.prog (GW W) env := env_ok ext_ok
end Go.Proofs.YtnklhhmfmopdnaaGreatDoor.Codes
set_option maxRecDepth 100000
namespace Go.Proofs.YtnklhhmfmopdnaaGreatDoor.Codes
open Go.ChangeShapes Go.WideShapes Go.ChangeAt Go.RowKit Go.Deepv
theorem own : ownKnob Tryz.prog.godebug = none := by kernel_rfl
def tys : List TypeId := [2, 3, 4, 5, 9, 22, 25, 26, 27]
theorem tysB : kidsB Tryz.prog tys = true := by kernel_rfl
theorem laidB : laidOutB Tryz.prog = true := by kernel_rfl
theorem rowedB : mapsRowed Tryz.prog = true := by kernel_rfl
theorem kids : Kids Tryz.prog (· ∈ tys) := kidsB_kids laidB rowedB tysB
theorem plain : Plain Tryz.prog (· ∈ tys) := kidsB_plain tysB
theorem full : ∀ t e, t ∈ tys → Tryz.prog.underlying t = some (.slice e) → 0 < Tryz.prog.cellsOf e := kidsB_full tysB
theorem c2 : Tryz.prog.cellsOf 2 = 1 := by kernel_rfl
theorem c3 : Tryz.prog.cellsOf 3 = 1 := by kernel_rfl
theorem c5 : Tryz.prog.cellsOf 5 = 1 := by kernel_rfl
theorem c9 : Tryz.prog.cellsOf 9 = 1 := by kernel_rfl
theorem c22 : Tryz.prog.cellsOf 22 = 1 := by kernel_rfl
theorem c25 : Tryz.prog.cellsOf 25 = 1 := by kernel_rfl
theorem c27 : Tryz.prog.cellsOf 27 = 5 := by kernel_rfl
def laidL : List (String × DataW Unit) := [("unicode/utf8.acceptRanges", Rows.laid_unicode_utf8_acceptRanges), ("errors.errorType", Rows.laid_errors_errorType), ("unicode/utf8.first", Rows.laid_unicode_utf8_first)]
theorem facts {W : World} (h : laidMet Tryz.prog laidL W) (hs : W.ShapedOpen Tryz.prog) : Facts W where
 none := trivial
end Go.Proofs.YtnklhhmfmopdnaaGreatDoor.Codes
set_option linter.unusedSimpArgs false
namespace Go.Proofs.YtnklhhmfmopdnaaGreatDoor.Codes
open Go Go.Deepv Go.WideShapes
theorem bytes_of (n : Nat) (c : List FV) (h : Fits Tryz.prog n 25 c) : ∃ b : List Int, c = [.slice 1 (b.map fun x => [.int .u8 x])] := by
 cases n with
 | zero => exact h.elim
 | succ n =>
  simp only [Fits, Tryz.underlying25] at h
  obtain ⟨l, rfl, _, hl⟩ := h
  have c1 : Tryz.prog.cellsOf 5 = 1 := by kernel_rfl
  rw [c1] at hl ⊢
  have : ∀ l : List (List FV), (∀ c ∈ l, c.length = 1 ∧ Fits Tryz.prog n 5 c) → ∃ b : List Int, l = b.map fun x => [.int .u8 x] := by
   intro l
   induction l with
   | nil => exact fun _ => ⟨[], rfl⟩
   | cons c l ih =>
    intro h
    obtain ⟨b, rfl⟩ := ih fun c hc => h c (by simp [hc])
    have hc := (h c (by simp)).2
    cases n with
    | zero => exact hc.elim
    | succ n =>
     simp only [Fits, Tryz.underlying5] at hc
     obtain ⟨m, rfl, _⟩ := hc
     exact ⟨m :: b, rfl⟩
  obtain ⟨b, rfl⟩ := this l hl
  exact ⟨b, rfl⟩
theorem int_of {n : Nat} {t : TypeId} {k : IntKind} {c : List FV} (hu : Tryz.prog.underlying t = some (.int k)) (h : Fits Tryz.prog n t c) : ∃ m, c = [.int k m] := by
 cases n with
 | zero => exact h.elim
 | succ n =>
  simp only [Fits, hu] at h
  obtain ⟨m, rfl, _⟩ := h
  exact ⟨m, rfl⟩
theorem str_of {n : Nat} {c : List FV} (h : Fits Tryz.prog n 9 c) : ∃ s, c = [.str s] := by
 cases n with
 | zero => exact h.elim
 | succ n =>
  simp only [Fits, Tryz.underlying9] at h
  obtain ⟨m, rfl, _⟩ := h
  exact ⟨m, rfl⟩
theorem five {c : List FV} (h : c.length = 5) : ∃ a b d e f, c = [a, b, d, e, f] := by
 match c, h with
 | [a, b, d, e, f], _ => exact ⟨a, b, d, e, f, rfl⟩
theorem value_of : ∀ (n : Nat) (c : List FV), Fits Tryz.prog n 27 c → ∃ v : V, c = v.enc := by
 intro n
 induction n using Nat.strongRecOn with
 | ind n ih =>
  intro c h
  cases n with
  | zero => exact h.elim
  | succ n =>
   simp only [Fits, Tryz.underlying27] at h
   obtain ⟨hlen, hf⟩ := h
   have c1 : Tryz.prog.cellsOf 27 = 5 := by kernel_rfl
   have s3 : Tryz.prog.cellsOf 3 = 1 := by kernel_rfl
   have s2 : Tryz.prog.cellsOf 2 = 1 := by kernel_rfl
   have s25 : Tryz.prog.cellsOf 25 = 1 := by kernel_rfl
   have s9 : Tryz.prog.cellsOf 9 = 1 := by kernel_rfl
   have s22 : Tryz.prog.cellsOf 22 = 1 := by kernel_rfl
   rw [c1] at hlen
   obtain ⟨a, b, d, e, f, rfl⟩ := five hlen
   simp only [List.mem_cons, List.not_mem_nil, or_false, forall_eq_or_imp, forall_eq, s3, s2, s25, s9, s22, List.drop_succ_cons, List.drop_zero, List.take_succ_cons, List.take_zero] at hf
   obtain ⟨f1, f2, f3, f4, f5⟩ := hf
   obtain ⟨m1, e1⟩ := int_of Tryz.underlying3 f1
   obtain ⟨m2, e2⟩ := int_of Tryz.underlying2 f2
   obtain ⟨b3, e3⟩ := bytes_of n _ f3
   obtain ⟨s4, e4⟩ := str_of f4
   have : ∃ l : List V, f = .slice 5 (V.encs l) := by
    cases n with
    | zero => exact f5.elim
    | succ n =>
     simp only [Fits, Tryz.underlying22] at f5
     obtain ⟨l, e5, _, hl⟩ := f5
     rw [c1] at e5
     have mk : ∀ l : List (List FV), (∀ c ∈ l, Fits Tryz.prog n 27 c) → ∃ vs : List V, l = V.encs vs := by
      intro l
      induction l with
      | nil => exact fun _ => ⟨[], rfl⟩
      | cons c l ihl =>
       intro h
       obtain ⟨vs, rfl⟩ := ihl fun c hc => h c (by simp [hc])
       obtain ⟨v, rfl⟩ := ih n (by omega) c (h c (by simp))
       exact ⟨v :: vs, rfl⟩
     obtain ⟨vs, rfl⟩ := mk l fun c hc => (hl c hc).2
     exact ⟨vs, by simpa using e5⟩
   obtain ⟨l, rfl⟩ := this
   simp only [List.cons.injEq, and_true] at e1 e2 e3 e4
   subst e1 e2 e3 e4
   exact ⟨.mk m1 m2 b3 s4 l, rfl⟩
theorem values_of (n : Nat) (x : FV) (h : Fits Tryz.prog n 22 [x]) : ∃ l : List V, x = .slice 5 (V.encs l) := by
 cases n with
 | zero => exact h.elim
 | succ n =>
  simp only [Fits, Tryz.underlying22] at h
  obtain ⟨l, e, _, hl⟩ := h
  rw [c27] at e
  simp only [List.cons.injEq, and_true] at e
  subst e
  have mk : ∀ l : List (List FV), (∀ c ∈ l, Fits Tryz.prog n 27 c) → ∃ vs : List V, l = V.encs vs := by
   intro l
   induction l with
   | nil => exact fun _ => ⟨[], rfl⟩
   | cons c l ihl =>
    intro h
    obtain ⟨vs, rfl⟩ := ihl fun c hc => h c (by simp [hc])
    obtain ⟨v, rfl⟩ := value_of n c (h c (by simp))
    exact ⟨v :: vs, rfl⟩
  obtain ⟨vs, rfl⟩ := mk l fun c hc => (hl c hc).2
  exact ⟨vs, rfl⟩
theorem vals_arg {H : Type} {enc : TypeId × Value → H} {W : World} {r : Reach} {base : Nat} {v : Value} {d : DataW H} {ps : List MemPlace} (hv : Value.okWide Tryz.prog W r base 22 v) (h : DataW.Trod enc Tryz.prog W 0 (fun _ => true) true 22 v d ps) : ∃ l : List V, RepF (Go.Deepv.Start W) W v (.slice 5 (V.encs l)) := by
 obtain ⟨a, n, c, rfl⟩ := okWide_slice Tryz.underlying22 hv
 obtain ⟨k, x, h1, h2⟩ := arg_one kids plain (by simp [tys]) h rfl
 obtain ⟨l, rfl⟩ := values_of k x h2
 exact ⟨l, h1⟩
theorem bytes_arg {H : Type} {enc : TypeId × Value → H} {W : World} {r : Reach} {base : Nat} {v : Value} {d : DataW H} {ps : List MemPlace} (hv : Value.okWide Tryz.prog W r base 25 v) (h : DataW.Trod enc Tryz.prog W 0 (fun _ => true) true 25 v d ps) : ∃ b : List Int, RepF (Go.Deepv.Start W) W v (.slice 1 (b.map fun x => [.int .u8 x])) := by
 obtain ⟨a, n, c, rfl⟩ := okWide_slice Tryz.underlying25 hv
 obtain ⟨k, x, h1, h2⟩ := arg_one kids plain (by simp [tys]) h rfl
 obtain ⟨b, e⟩ := bytes_of k [x] h2
 simp only [List.cons.injEq, and_true] at e
 subst e
 exact ⟨b, h1⟩
end Go.Proofs.YtnklhhmfmopdnaaGreatDoor.Codes
