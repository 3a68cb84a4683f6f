/-
  There and back: the text of an instruction is read as it.
  Conditions: none.
-/
import Derived.Test.YtckmpipiginhaaaDoorIG
import Derived.Test.YtckmpipiginhaaaDoorKC
set_option linter.unusedVariables false
set_option linter.unusedSimpArgs false
set_option maxRecDepth 100000
namespace Go.Proofs.YtckmpipiginhaaaDoor.Codes
open Go Go.Deepv

def blanks (l : List UInt8) : Prop := ∀ b ∈ l, b ≠ (32 : UInt8)
theorem rows_words : ∀ r ∈ rowsT, r.nm.data.toList ≠ [] ∧ (∀ b ∈ r.nm.data.toList, b ≠ (32 : UInt8)) := by decide
theorem rows_op : ∀ k : Nat, k < 16 → ∀ r, rowsT[k]? = some r → opL r.nm rowsT 0 = k := by
  intro k hk r hr
  match k, hk with
  | 0, _ | 1, _ | 2, _ | 3, _ | 4, _ | 5, _ | 6, _ | 7, _ | 8, _ | 9, _ | 10, _ | 11, _ | 12, _ | 13, _ | 14, _ | 15, _ =>
    simp only [rowsT, List.getElem?_cons_zero, List.getElem?_cons_succ, Option.some.injEq] at hr
    subst hr
    decide +kernel
  | k + 16, hk => omega
theorem itoa_blanks (n : Int) : ∀ b ∈ (itoaB n).data.toList, b ≠ (32 : UInt8) := by
  intro b hb e
  subst e
  have := (itoa_bytes n).2 32 hb
  simp at this
theorem atoB_itoa {n : Int} (h1 : numL ≤ n) (h2 : n ≤ numM) : atoB (itoaB n) = some n := by
  unfold atoB itoaB
  simp only
  rw [atoi_itoa n (by unfold numL at h1; omega) (by unfold numM at h2; omega)]
theorem fields_eta {ws : List ByteArray} : (ws.map (·.data.toList)).map (fun l => (⟨l.toArray⟩ : ByteArray)) = ws := by
  rw [List.map_map]
  have : ((fun l : List UInt8 => (⟨l.toArray⟩ : ByteArray)) ∘ fun x : ByteArray => x.data.toList) = id := by
    funext x
    simp
  rw [this, List.map_id]
theorem split_words {ws : List ByteArray} (h0 : ws ≠ []) (hb : ∀ w ∈ ws, ∀ b ∈ w.data.toList, b ≠ (32 : UInt8)) : splitV (joined ws sp1) = ws := by
  unfold splitV sp1 joined
  rw [split_cut, show (⟨#[32]⟩ : ByteArray).data.toList = [32] from rfl]
  simp only
  rw [cut_join (by simpa using h0) (fun x hx => by
    obtain ⟨w, hw, rfl⟩ := List.mem_map.1 hx
    exact hb w hw)]
  exact fields_eta
theorem joined_ne {ws : List ByteArray} (h : ∃ w l, ws = w :: l ∧ w.data.toList ≠ []) : (joined ws sp1).data.toList ≠ [] := by
  obtain ⟨w, l, rfl, hw⟩ := h
  unfold joined
  simp only [List.map_cons]
  cases l with
  | nil => simpa [Lib.join_one] using hw
  | cons x l =>
    rw [List.map_cons, show sp1.data.toList = [32] from rfl, join_cons2]
    simp
theorem fit_zero : ∀ r ∈ rowsT, (numsV r = 0 → r.l0 = 0 ∧ r.m0 = 0 ∧ r.l1 = 0 ∧ r.m1 = 0 ∧ r.l2 = 0 ∧ r.m2 = 0) ∧ (numsV r = 1 → r.l1 = 0 ∧ r.m1 = 0 ∧ r.l2 = 0 ∧ r.m2 = 0) ∧ (numsV r = 2 → r.l2 = 0 ∧ r.m2 = 0) := by decide
theorem show_fit {o a b c : Int} (h : fitV o a b c = true) : (showV o a b c).data.toList ≠ [] ∧ readV (showV o a b c) = some (o, a, b, c) := by
  obtain ⟨r, hro, hm, hfr, he⟩ := ofV_true h
  obtain ⟨hw, hwb⟩ := rows_words r hm
  obtain ⟨ha, hb, hc, _⟩ := fit_bounds h
  have hs : showV o a b c = joined (wordsV o a b c) sp1 := by unfold showV; rw [if_pos h]
  have hws : wordsV o a b c = r.nm :: ([a, b, c].take (numsV r).toNat).map itoaB := by unfold wordsV; rw [he]
  have hall : ∀ w ∈ wordsV o a b c, ∀ x ∈ w.data.toList, x ≠ (32 : UInt8) := by
    rw [hws]
    intro w hwm
    rcases List.mem_cons.1 hwm with rfl | hwm
    · exact hwb
    · obtain ⟨n, _, rfl⟩ := List.mem_map.1 hwm
      exact itoa_blanks n
  refine ⟨by rw [hs]; exact joined_ne ⟨_, _, hws, hw⟩, ?_⟩
  have hop : opV r.nm = o := by
    unfold rowOf at hro
    split at hro
    · rename_i ho
      have := rows_op o.toNat (by omega) r hro
      unfold opV
      rw [this]
      omega
    · cases hro
  have hsp : splitV (showV o a b c) = r.nm :: ([a, b, c].take (numsV r).toNat).map itoaB := by
    rw [hs, split_words (by rw [hws]; simp) hall, hws]
  have z := fit_zero r hm
  have ea := atoB_itoa ha.1 ha.2
  have eb := atoB_itoa hb.1 hb.2
  have ec := atoB_itoa hc.1 hc.2
  have hn : numsRead (numsV r) (([a, b, c].take (numsV r).toNat).map itoaB) = some (a, b, c) := by
    simp only [fitR, spanB, Bool.and_eq_true, decide_eq_true_eq] at hfr
    rcases numsV_cases r with h0 | h0 | h0 | h0
    · have := z.1 h0
      rw [h0]
      simp only [Int.toNat_zero, List.take_zero, List.map_nil, numsRead, if_true]
      congr 2
      · omega
      · congr 1 <;> omega
    · have := z.2.1 h0
      rw [h0]
      simp only [show (1 : Int).toNat = 1 from rfl, List.take_succ_cons, List.take_zero, List.map_cons, List.map_nil, numsRead, if_true, ea]
      congr 3 <;> omega
    · have := z.2.2 h0
      rw [h0]
      simp only [show (2 : Int).toNat = 2 from rfl, List.take_succ_cons, List.take_zero, List.map_cons, List.map_nil, numsRead, if_true, ea, eb]
      congr 3
      omega
    · rw [h0]
      simp only [show (3 : Int).toNat = 3 from rfl, List.take_succ_cons, List.take_zero, List.map_cons, List.map_nil, numsRead, if_true, ea, eb, ec]
  unfold readV
  rw [hsp]
  simp only [hop, hro, hn, if_true]
theorem show_not {o a b c : Int} (h : fitV o a b c = false) : showV o a b c = ⟨#[]⟩ := by
  unfold showV
  rw [if_neg (by simp [h])]
theorem read_none : readV ⟨#[]⟩ = none := by decide +kernel
theorem read_back {s : ByteArray} {o a b c : Int} (h : readV s = some (o, a, b, c)) : fitV o a b c = true ∧ showV o a b c = s := by
  have hs : showV o a b c = s := by
    unfold readV at h
    split at h
    · cases h
    · split at h
      · cases h
      · split at h
        · cases h
        · rename_i a' b' c' hn
          split at h
          · rename_i he
            simp only [Option.some.injEq, Prod.mk.injEq] at h
            obtain ⟨rfl, rfl, rfl, rfl⟩ := h
            exact WideShapes.bytes_inj (by rw [← ByteArray.toList_eq, ← ByteArray.toList_eq]; exact he)
          · cases h
  refine ⟨?_, hs⟩
  cases hf : fitV o a b c with
  | true => rfl
  | false =>
    rw [show_not hf] at hs
    subst hs
    rw [read_none] at h
    cases h
theorem show_inj {o a b c o' a' b' c' : Int} (h : fitV o a b c = true) (h' : fitV o' a' b' c' = true) (he : showV o a b c = showV o' a' b' c') : (o, a, b, c) = (o', a', b', c') := by
  have h1 := (show_fit h).2
  rw [he, (show_fit h').2] at h1
  exact (Option.some.inj h1).symm
theorem join_size : ∀ (ws : List ByteArray) (k : Nat), (∀ w ∈ ws, w.size ≤ k) → (joined ws sp1).size ≤ ws.length * (k + 1) := by
  intro ws k h
  have hj : ∀ (l : List (List UInt8)), (∀ w ∈ l, w.length ≤ k) → (Lib.join l [32]).length ≤ l.length * (k + 1) := by
    intro l
    induction l with
    | nil => intro _; simp [Lib.join_nil]
    | cons x l ih =>
      intro hl
      have hx := hl x (by simp)
      cases l with
      | nil => rw [Lib.join_one]; simp; omega
      | cons y l =>
        have := ih fun w hw => hl w (by simp [hw])
        rw [join_cons2]
        simp only [List.length_append, List.length_cons] at this ⊢
        rw [Nat.add_mul (l.length + 1) 1 (k + 1)]
        omega
  have := hj (ws.map (·.data.toList)) (fun w hw => by
    obtain ⟨x, hx, rfl⟩ := List.mem_map.1 hw
    exact h x hx)
  rw [List.length_map] at this
  exact this
theorem show_size (o a b c : Int) : (showV o a b c).size ≤ 100 := by
  cases hf : fitV o a b c with
  | false => rw [show_not hf]; decide
  | true =>
    obtain ⟨ha, hb, hc, hnm⟩ := fit_bounds hf
    have hs : showV o a b c = joined (wordsV o a b c) sp1 := by unfold showV; rw [if_pos hf]
    have hl : (wordsV o a b c).length ≤ 4 := by unfold wordsV; simp; omega
    have := join_size (wordsV o a b c) 21 (fun w hw => by
      unfold wordsV at hw
      rcases List.mem_cons.1 hw with rfl | hw
      · omega
      · obtain ⟨n, hn, rfl⟩ := List.mem_map.1 hw
        have hn := List.mem_of_mem_take hn
        simp only [List.mem_cons, List.not_mem_nil, or_false] at hn
        rcases hn with rfl | rfl | rfl
        · exact itoa_size _ ha.1 ha.2
        · exact itoa_size _ hb.1 hb.2
        · exact itoa_size _ hc.1 hc.2)
    rw [hs]
    have : (wordsV o a b c).length * 22 ≤ 4 * 22 := Nat.mul_le_mul_right _ hl
    omega
end Go.Proofs.YtckmpipiginhaaaDoor.Codes
