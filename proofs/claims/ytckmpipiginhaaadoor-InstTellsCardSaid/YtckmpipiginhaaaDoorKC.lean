/-
  Plain laws of numbers as texts, and of texts cut at a byte.
  Conditions: none.
-/
import Derived.Test.YtckmpipiginhaaaDoorDY
import Derived.Lib.ItoaMem
set_option linter.unusedVariables false
set_option linter.unusedSimpArgs false
namespace Go.Deepv
open Go.Lib

theorem parse_app : ∀ (l r : List UInt8) (a : Nat), parseUint10 a (l ++ r) = match parseUint10 a l with | .ok v => parseUint10 v r | e => e
  | [], r, a => rfl
  | c :: l, r, a => by
    simp only [List.cons_append, parseUint10]
    split
    · split
      · rfl
      · split
        · rfl
        · exact parse_app l r _
    · rfl
theorem dig_toNat {d : Nat} (h : d < 10) : (UInt8.ofNat (48 + d)).toNat = 48 + d := by
  rw [UInt8.toNat_ofNat']; omega
theorem dec_parse : ∀ (k u : Nat), u ≤ k → u ≤ 9223372036854775808 → parseUint10 0 (decDigits u) = .ok u
  | 0, u, hk, hu => by
    have : u = 0 := by omega
    subst this
    rw [decDigits_one (by omega)]
    rfl
  | k + 1, u, hk, hu => by
    by_cases h : u < 10
    · rw [decDigits_one h]
      simp only [parseUint10, dig_toNat h]
      rw [if_pos (by omega), if_neg (by omega), if_neg (by omega)]
      congr 1
      omega
    · rw [decDigits, dif_neg h, parse_app, dec_parse k (u / 10) (by omega) (by omega)]
      have hd : u % 10 < 10 := Nat.mod_lt _ (by omega)
      simp only [parseUint10, dig_toNat hd]
      rw [if_pos (by omega), if_neg (by omega), if_neg (by omega)]
      congr 1
      omega
theorem dec_digits : ∀ (k u : Nat), u ≤ k → decDigits u ≠ [] ∧ ∀ b ∈ decDigits u, 48 ≤ b.toNat ∧ b.toNat ≤ 57
  | 0, u, hk => by
    have : u = 0 := by omega
    subst this
    rw [decDigits_one (by omega)]
    exact ⟨by simp, fun b hb => by rw [List.mem_singleton] at hb; subst hb; decide⟩
  | k + 1, u, hk => by
    by_cases h : u < 10
    · rw [decDigits_one h]
      exact ⟨by simp, fun b hb => by rw [List.mem_singleton] at hb; subst hb; rw [dig_toNat h]; omega⟩
    · rw [decDigits, dif_neg h]
      refine ⟨by simp, fun b hb => ?_⟩
      rcases List.mem_append.1 hb with hb | hb
      · exact (dec_digits k (u / 10) (by omega)).2 b hb
      · rw [List.mem_singleton] at hb
        subst hb
        rw [dig_toNat (Nat.mod_lt _ (by omega))]
        omega
theorem atoi_itoa (n : Int) (h1 : -9223372036854775808 ≤ n) (h2 : n < 9223372036854775808) : atoiAll (itoa n) = .ok n := by
  by_cases hn : n < 0
  · obtain ⟨u, rfl⟩ : ∃ u : Nat, n = -(u : Int) := ⟨n.natAbs, by omega⟩
    rw [itoa_neg u (by omega)]
    have hd := (dec_digits u u (Nat.le_refl _)).1
    have hp := dec_parse u u (Nat.le_refl _) (by omega)
    unfold atoiAll
    simp only [show (45 : UInt8).toNat = 45 from rfl, or_true, if_true, parseMag, hd, if_false, hp, not_true_eq_false, false_and, true_and]
    rw [if_neg (by omega)]
  · obtain ⟨u, rfl⟩ : ∃ u : Nat, n = u := ⟨n.toNat, by omega⟩
    rw [itoa_nonneg]
    obtain ⟨hd, hb⟩ := dec_digits u u (Nat.le_refl _)
    have hp := dec_parse u u (Nat.le_refl _) (by omega)
    unfold atoiAll
    cases hc : decDigits u with
    | nil => exact absurd hc hd
    | cons c r =>
      have hcb := hb c (by rw [hc]; simp)
      have e1 : ¬ c.toNat = 43 := by omega
      have e2 : ¬ c.toNat = 45 := by omega
      rw [hc] at hp
      simp only [e1, e2, or_self, if_false, parseMag, reduceCtorEq, hp, not_false_eq_true, true_and, false_and]
      rw [if_neg (by omega)]
theorem itoa_bytes (n : Int) : itoa n ≠ [] ∧ ∀ b ∈ itoa n, b.toNat = 45 ∨ (48 ≤ b.toNat ∧ b.toNat ≤ 57) := by
  by_cases hn : n < 0
  · obtain ⟨u, rfl⟩ : ∃ u : Nat, n = -(u : Int) := ⟨n.natAbs, by omega⟩
    rw [itoa_neg u (by omega)]
    refine ⟨by simp, fun b hb => ?_⟩
    rcases List.mem_cons.1 hb with rfl | hb
    · exact .inl rfl
    · exact .inr ((dec_digits u u (Nat.le_refl _)).2 b hb)
  · obtain ⟨u, rfl⟩ : ∃ u : Nat, n = u := ⟨n.toNat, by omega⟩
    rw [itoa_nonneg]
    exact ⟨(dec_digits u u (Nat.le_refl _)).1, fun b hb => .inr ((dec_digits u u (Nat.le_refl _)).2 b hb)⟩

/-- Cut at a byte. -/
def cutL (c : UInt8) : List UInt8 → List (List UInt8)
  | [] => [[]]
  | b :: l => if b = c then [] :: cutL c l else match cutL c l with
    | p :: r => (b :: p) :: r
    | [] => [[b]]
theorem cutL_cons (c : UInt8) : ∀ l, ∃ p r, cutL c l = p :: r
  | [] => ⟨[], [], rfl⟩
  | b :: l => by
    obtain ⟨p, r, h⟩ := cutL_cons c l
    simp only [cutL, h]
    split
    · exact ⟨_, _, rfl⟩
    · exact ⟨_, _, rfl⟩
theorem cutL_one {c : UInt8} : ∀ {l : List UInt8}, (∀ b ∈ l, b ≠ c) → cutL c l = [l]
  | [], _ => rfl
  | b :: l, h => by
    rw [cutL, if_neg (h b (by simp)), cutL_one fun x hx => h x (by simp [hx])]
theorem cutL_app {c : UInt8} : ∀ {x l : List UInt8}, (∀ b ∈ x, b ≠ c) → cutL c (x ++ c :: l) = x :: cutL c l
  | [], l, _ => by simp [cutL]
  | b :: x, l, h => by
    rw [List.cons_append, cutL, if_neg (h b (by simp)), cutL_app fun y hy => h y (by simp [hy])]
theorem join_cons2 (x y : List UInt8) (l : List (List UInt8)) (c : UInt8) : join (x :: y :: l) [c] = x ++ c :: join (y :: l) [c] := by
  simp [join, List.intercalate]
theorem cut_join {c : UInt8} : ∀ {l : List (List UInt8)}, l ≠ [] → (∀ x ∈ l, ∀ b ∈ x, b ≠ c) → cutL c (join l [c]) = l
  | [], h, _ => absurd rfl h
  | [x], _, h => by
    rw [join_one]
    exact cutL_one (h x (by simp))
  | x :: y :: l, _, h => by
    rw [join_cons2, cutL_app (h x (by simp)), cut_join (by simp) fun z hz => h z (by simp [hz])]
theorem splitK_cut (c : UInt8) : ∀ s : List UInt8, splitK [c] 0 (count s [c]) s = cutL c s
  | [] => by rw [count_one]; rfl
  | b :: l => by
    have ih := splitK_cut c l
    by_cases h : b = c
    · subst h
      have hix : index (b :: l) [b] = ((0 : Nat) : Int) := by rw [index]; simp [List.isPrefixOf]
      rw [count_cons_eq, Nat.add_comm, splitK, hix, cutL, if_pos rfl]
      simp [ih]
    · rw [count_cons_ne b c l h]
      have hp : ([c] : List UInt8).isPrefixOf (b :: l) = false := by simp [List.isPrefixOf, Ne.symm h]
      have hix : index (b :: l) [c] = if index l [c] == -1 then -1 else index l [c] + 1 := by rw [index, hp]; simp
      rw [cutL, if_neg h, ← ih]
      cases hk : count l [c] with
      | zero => rfl
      | succ k =>
        have hm : index l [c] ≠ -1 := fun e => by rw [count_miss e] at hk; omega
        have hge := index_ge l [c]
        obtain ⟨j, hj⟩ : ∃ j : Nat, index l [c] = j := ⟨(index l [c]).toNat, by omega⟩
        have hm2 : (index l [c] == -1) = false := by simpa using hm
        have hm3 : (((j + 1 : Nat) : Int) == -1) = false := beq_eq_false_iff_ne.2 (by omega)
        have hm4 : ((j : Int) == -1) = false := beq_eq_false_iff_ne.2 (by omega)
        have hix' : index (b :: l) [c] = ((j + 1 : Nat) : Int) := by rw [hix, hm2, hj]; simp
        simp only [splitK, hix', hj, hm3, hm4, Bool.false_eq_true, if_false, Int.toNat_natCast, List.length_singleton]
        simp [List.take_succ_cons, List.drop_succ_cons]
theorem split_cut (s : ByteArray) (c : UInt8) : splitB ⟨#[c]⟩ 0 (countB s ⟨#[c]⟩) s = (cutL c s.data.toList).map fun l => ⟨l.toArray⟩ := by
  have h := splitB_data ⟨#[c]⟩ 0 (countB s ⟨#[c]⟩) s
  have h2 : countB s ⟨#[c]⟩ = count s.data.toList [c] := rfl
  rw [h2] at h ⊢
  rw [show (⟨#[c]⟩ : ByteArray).data.toList = [c] from rfl, splitK_cut] at h
  rw [← h, List.map_map]
  have : ((fun l : List UInt8 => (⟨l.toArray⟩ : ByteArray)) ∘ fun x : ByteArray => x.data.toList) = id := by
    funext x
    simp
  rw [this, List.map_id]
end Go.Deepv
