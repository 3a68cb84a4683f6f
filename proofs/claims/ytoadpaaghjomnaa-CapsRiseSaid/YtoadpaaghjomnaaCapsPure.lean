/-
  CapsRise: the words of a half and the work for a record never go down when the slots and what is reached go up, and a half has more words than are reached.
  Conditions: none (any four numbers of 32 bits).
-/
import Derived.Test.YtoadpaaghjomnaaCapsWalk
namespace Go.Proofs.Ytoadpaaghjomnaa.Pure
open Go.RowKit Go.Proofs.Ytoadpaaghjomnaa.PCapsRise Go.Proofs.YtoadpaaghjomnaaW.PrintWords Go.Proofs.YtoadpaaghjomnaaW.PrintLast

theorem wrap_in {x : Int} (h0 : -9223372036854775808 ≤ x) (h1 : x ≤ 9223372036854775807) : wrap64 x = x := by
  unfold wrap64
  omega

theorem u32_range {a : Int} (h : (Lit.int .u32 a).wf = true) : 0 ≤ a ∧ a ≤ 4294967295 := by
  simpa [Lit.wf, IntKind.min, IntKind.max, IntKind.signed, IntKind.bits] using h

theorem right_two {a b : Int} (ha : 0 ≤ a) (ha' : a ≤ 4294967295) (hb : 0 ≤ b) (hb' : b ≤ 4294967295) : caps_right.f 3 [a, b] = some true := by
  have e1 : wrap64 (0 + 1) = 1 := wrap_in (by omega) (by omega)
  have e2 : wrap64 (1 + 1) = 2 := wrap_in (by omega) (by omega)
  have r0 : rd [a, b] 0 = a := rfl
  have r1 : rd [a, b] 1 = b := rfl
  have l : (([a, b] : List Int).length : Int) = 2 := rfl
  unfold caps_right.f
  rw [l]
  unfold caps_right.l0
  rw [r0, e1, l, if_pos (by omega), if_pos (by omega), if_pos (by omega), if_neg (by omega), if_neg (by omega)]
  unfold caps_right.l0
  rw [r1, e2, l, if_pos (by omega), if_pos (by omega), if_pos (by omega), if_neg (by omega), if_neg (by omega)]
  unfold caps_right.l0
  rw [if_neg (by omega)]

theorem right_one {a : Int} (ha : 0 ≤ a) (ha' : a ≤ 4294967295) : caps_right.f 3 [a] = some true := by
  have e1 : wrap64 (0 + 1) = 1 := wrap_in (by omega) (by omega)
  have r0 : rd [a] 0 = a := rfl
  have l : (([a] : List Int).length : Int) = 1 := rfl
  unfold caps_right.f
  rw [l]
  unfold caps_right.l0
  rw [r0, e1, l, if_pos (by omega), if_pos (by omega), if_pos (by omega), if_neg (by omega), if_neg (by omega)]
  unfold caps_right.l0
  rw [if_neg (by omega)]

theorem half_is {a b : Int} (ha : 0 ≤ a) (ha' : a ≤ 4294967295) (hb : 0 ≤ b) (hb' : b ≤ 4294967295) : caps_Half.f 3 a b = some (a + (2 * a + b + 3) / 3 + 20) := by
  unfold caps_Half.f
  rw [right_two ha ha' hb hb']
  simp only [Option.bind_some, if_true]
  rw [wrap_in (x := 2 * a) (by omega) (by omega), wrap_in (x := 2 * a + b) (by omega) (by omega), wrap_in (x := 2 * a + b + 1) (by omega) (by omega), wrap_in (x := 2 * a + b + 1 + 2) (by omega) (by omega)]
  have e : Int.tdiv (2 * a + b + 1 + 2) 3 = (2 * a + b + 3) / 3 := by
    rw [Int.tdiv_eq_ediv_of_nonneg (by omega)]
    congr 1
    omega
  rw [e, wrap_in (x := (2 * a + b + 3) / 3) (by omega) (by omega), wrap_in (x := a + (2 * a + b + 3) / 3) (by omega) (by omega), wrap_in (by omega) (by omega)]

theorem once_is {a : Int} (ha : 0 ≤ a) (ha' : a ≤ 4294967295) : caps_Once.f 3 a = some (12 * a + 92) := by
  unfold caps_Once.f
  rw [right_one ha ha']
  simp only [Option.bind_some, if_true]
  rw [wrap_in (x := 12 * a) (by omega) (by omega), wrap_in (by omega) (by omega)]

theorem awake_is : handloomlaw15_awake.f 3 = some true := by
  unfold handloomlaw15_awake.f
  rw [half_is (by omega) (by omega) (by omega) (by omega), once_is (by omega) (by omega)]
  rfl

theorem CapsRise : handloomlaw15_CapsRise.Pure := by
  intro a b c d ha hb hc hd
  obtain ⟨a0, a1⟩ := u32_range ha
  obtain ⟨b0, b1⟩ := u32_range hb
  obtain ⟨c0, c1⟩ := u32_range hc
  obtain ⟨d0, d1⟩ := u32_range hd
  have m1 : 0 ≤ mn a b ∧ mn a b ≤ 4294967295 := by unfold mn; omega
  have m2 : 0 ≤ mx a b ∧ mx a b ≤ 4294967295 := by unfold mx; omega
  have m3 : 0 ≤ mn c d ∧ mn c d ≤ 4294967295 := by unfold mn; omega
  have m4 : 0 ≤ mx c d ∧ mx c d ≤ 4294967295 := by unfold mx; omega
  have l1 : mn a b ≤ mx a b := by unfold mn mx; omega
  have l2 : mn c d ≤ mx c d := by unfold mn mx; omega
  refine ⟨3, ?_⟩
  unfold handloomlaw15_CapsRise.f
  generalize mn a b = x at *
  generalize mx a b = y at *
  generalize mn c d = z at *
  generalize mx c d = u at *
  rw [wrap_in (x := x) (by omega) (by omega), wrap_in (x := y) (by omega) (by omega), wrap_in (x := z) (by omega) (by omega), wrap_in (x := u) (by omega) (by omega)]
  rw [half_is m1.1 m1.2 m3.1 m3.2, half_is m2.1 m2.2 m4.1 m4.2, once_is m3.1 m3.2, once_is m4.1 m4.2, awake_is]
  simp only [Option.bind_some]
  rw [if_pos (by omega), if_pos (by omega), if_pos (by omega)]

end Go.Proofs.Ytoadpaaghjomnaa.Pure
