/-
  Tokens, shown, are read back.
  Conditions: none.
-/
import Derived.Test.YtoadpaaghjomnaaDoorHA
set_option linter.unusedVariables false
set_option linter.unusedSimpArgs false
set_option maxRecDepth 100000
namespace Go.Proofs.YtoadpaaghjomnaaDoor.Codes
open Go Go.Deepv

theorem pk_cons0 (x : Int) (l : List Int) : pk (x :: l) 0 = x := rfl
theorem pk_cons (x : Int) (l : List Int) (i : Nat) : pk (x :: l) (i + 1) = pk l i := rfl
theorem cntI_le (p : Int → Bool) (l : List Int) : cntI p l ≤ l.length := by
  induction l with
  | nil => simp [cntI]
  | cons x t ih => simp only [cntI, List.length_cons]; split <;> omega
theorem cntI_take (p : Int → Bool) : ∀ (l : List Int), ∀ x ∈ l.take (cntI p l), p x = true := by
  intro l
  induction l with
  | nil => intro x hx; simp at hx
  | cons y t ih =>
    intro x hx
    simp only [cntI] at hx
    split at hx
    · rename_i hp
      rw [List.take_succ_cons] at hx
      rcases List.mem_cons.1 hx with h | h
      · exact h ▸ hp
      · exact ih x h
    · simp at hx
theorem cntI_all {p : Int → Bool} {c : Int} (hc : p c = false) (r : List Int) : ∀ (w : List Int), (∀ x ∈ w, p x = true) → cntI p (w ++ c :: r) = w.length := by
  intro w
  induction w with
  | nil => intro _; simp [cntI, hc]
  | cons x w ih =>
    intro h
    have hx := h x List.mem_cons_self
    simp only [List.cons_append, cntI, hx, if_true, List.length_cons]
    rw [ih fun y hy => h y (List.mem_cons_of_mem _ hy)]
theorem encLs_app (a b : List Int) : encLs (a ++ b) = encLs a ++ encLs b := by
  induction a with
  | nil => rfl
  | cons x a ih => simp only [List.cons_append, encLs, ih, List.append_assoc]
theorem textI_snoc (l : List Int) (x : Int) : textI (l ++ [x]) = textI l ++ encB x := by simp [textI]
theorem textI_enc (l : List Int) : (textI l).data.toList = encLs l := by
  suffices h : ∀ (l : List Int) (a : ByteArray), (l.foldl (fun a w => a ++ encB w) a).data.toList = a.data.toList ++ encLs l by
    have := h l ⟨#[]⟩
    simpa [textI] using this
  intro l
  induction l with
  | nil => intro a; simp [encLs]
  | cons x l ih =>
    intro a
    rw [List.foldl_cons, ih, app_toList]
    simp only [encLs, List.append_assoc]
    rfl

/-- Bytes as runes. -/
def wB (bs : List UInt8) : List Int := bs.map fun b => (b.toNat : Int)
theorem encI_byte {b : UInt8} (h : b.toNat < 128) : encI (b.toNat : Int) = [b] := by
  unfold encI encL
  rw [Int.toNat_natCast, if_pos h]
  simp
theorem wB_enc : ∀ (bs : List UInt8), (∀ b ∈ bs, b.toNat < 128) → encLs (wB bs) = bs ∧ Sc (wB bs) := by
  intro bs
  induction bs with
  | nil => intro _; exact ⟨rfl, fun x hx => by simp [wB] at hx⟩
  | cons b bs ih =>
    intro h
    obtain ⟨h1, h2⟩ := ih fun x hx => h x (List.mem_cons_of_mem _ hx)
    have hb := h b List.mem_cons_self
    refine ⟨?_, fun x hx => ?_⟩
    · rw [show wB (b :: bs) = (b.toNat : Int) :: wB bs from rfl]
      simp only [encLs]
      rw [encI_byte hb, h1]
      rfl
    · rw [show wB (b :: bs) = (b.toNat : Int) :: wB bs from rfl] at hx
      rcases List.mem_cons.1 hx with h | h
      · subst h
        rw [rScal_iff, valid_iff]
        omega
      · exact h2 x h
theorem wB_app (a b : List UInt8) : wB (a ++ b) = wB a ++ wB b := by simp [wB]
theorem wB_len (a : List UInt8) : (wB a).length = a.length := by simp [wB]

/-! ### Numbers -/
theorem numI_snoc (l : List Int) (x : Int) : numI (l ++ [x]) = numStep (numI l) x := by simp [numI]
theorem dd_ne (u : Nat) : Lib.decDigits u ≠ [] := by
  rw [Lib.decDigits]
  split <;> simp
theorem dd_dig : ∀ (u : Nat), ∀ b ∈ Lib.decDigits u, 48 ≤ b.toNat ∧ b.toNat ≤ 57 := by
  intro u
  induction u using Nat.strongRecOn with
  | _ u ih =>
    intro b hb
    rw [Lib.decDigits] at hb
    split at hb
    · rename_i h
      simp only [List.mem_cons, List.not_mem_nil, or_false] at hb
      subst hb
      rw [ofNat_toNat (by omega)]
      omega
    · rename_i h
      rcases List.mem_append.1 hb with h1 | h1
      · exact ih (u / 10) (by omega) b h1
      · simp only [List.mem_cons, List.not_mem_nil, or_false] at h1
        subst h1
        rw [ofNat_toNat (by omega)]
        omega
theorem dd_num : ∀ (u : Nat), (u : Int) ≤ mostN → numI (wB (Lib.decDigits u)) = (false, (u : Int)) := by
  intro u
  induction u using Nat.strongRecOn with
  | _ u ih =>
    intro hu
    unfold mostN at hu
    rw [Lib.decDigits]
    split
    · rename_i h
      have e : wB [UInt8.ofNat (48 + u)] = [((48 + u : Nat) : Int)] := by
        simp only [wB, List.map_cons, List.map_nil]
        rw [ofNat_toNat (by omega)]
      rw [e]
      unfold numI numStep mostN
      simp only [List.foldl_cons, List.foldl_nil]
      rw [if_neg (by simp), if_neg (by omega)]
      simp only [Prod.mk.injEq, true_and]
      omega
    · rename_i h
      have e : wB (Lib.decDigits (u / 10) ++ [UInt8.ofNat (48 + u % 10)]) = wB (Lib.decDigits (u / 10)) ++ [((48 + u % 10 : Nat) : Int)] := by
        rw [wB_app]
        congr 1
        simp only [wB, List.map_cons, List.map_nil]
        rw [ofNat_toNat (by omega)]
      rw [e, numI_snoc, ih (u / 10) (by omega) (by unfold mostN; omega)]
      unfold numStep mostN
      rw [if_neg (by simp), if_neg (by simp only; omega)]
      simp only [Prod.mk.injEq, true_and]
      omega
theorem numI_in (l : List Int) (hd : ∀ x ∈ l, rDig x = true) : 0 ≤ (numI l).2 ∧ (numI l).2 ≤ mostN := by
  suffices h : ∀ (l : List Int) (s : Bool × Int), (∀ x ∈ l, rDig x = true) → 0 ≤ s.2 → s.2 ≤ mostN → 0 ≤ (l.foldl numStep s).2 ∧ (l.foldl numStep s).2 ≤ mostN by
    exact h l (false, 0) hd (by simp) (by simp [mostN])
  intro l
  induction l with
  | nil => intro s _ h0 h1; exact ⟨h0, h1⟩
  | cons x l ih =>
    intro s hd h0 h1
    have hx := hd x List.mem_cons_self
    simp only [rDig, Bool.and_eq_true, decide_eq_true_eq] at hx
    have := numStep_in (r := x) h0 h1 hx.1
    exact ih _ (fun y hy => hd y (List.mem_cons_of_mem _ hy)) this.1 this.2

/-! ### Quoted texts -/
theorem hexOf_D : ∀ n : Fin 16, hexOf ((hexD n.val).toNat : Int) = ((n.val : Nat) : Int) ∧ (hexD n.val).toNat < 128 := by decide
theorem escShow_ascii (c : UInt8) : ∀ b ∈ escShow c, b.toNat < 128 := by
  have hc := c.toNat_lt
  intro b hb
  unfold escShow at hb
  split at hb
  · rename_i h
    simp only [List.mem_cons, List.not_mem_nil, or_false] at hb
    rcases hb with rfl | rfl
    · decide
    · omega
  · split at hb
    · simp only [List.mem_cons, List.not_mem_nil, or_false] at hb
      subst hb
      omega
    · simp only [List.mem_cons, List.not_mem_nil, or_false] at hb
      rcases hb with rfl | rfl | rfl | rfl
      · decide
      · decide
      · exact (hexOf_D ⟨c.toNat / 16, by omega⟩).2
      · exact (hexOf_D ⟨c.toNat % 16, by omega⟩).2
theorem byteB_of (b : UInt8) : byteB (b.toNat : Int) = ⟨#[b]⟩ := by
  unfold byteB
  rw [Int.toNat_natCast]
  simp
theorem app_bytes (acc : ByteArray) (b : UInt8) (bs : List UInt8) : acc ++ ⟨#[b]⟩ ++ ⟨bs.toArray⟩ = acc ++ ⟨(b :: bs).toArray⟩ := by
  apply ba_ext
  rw [app_toList, app_toList, app_toList]
  simp
theorem qt_shown : ∀ (bs : List UInt8) (f : Nat) (acc : ByteArray) (rest : List Int), (bs.flatMap escShow).length < f →
    qtI f (wB (bs.flatMap escShow) ++ 34 :: rest) acc = some (acc ++ ⟨bs.toArray⟩, (bs.flatMap escShow).length + 1) := by
  intro bs
  induction bs with
  | nil =>
    intro f acc rest h
    match f, h with
    | f + 1, _ =>
    have : acc ++ (⟨([] : List UInt8).toArray⟩ : ByteArray) = acc := by
      apply ba_ext
      rw [app_toList]
      simp
    rw [this]
    simp [qtI, pk_cons0, wB]
  | cons b bs ih =>
    intro f acc rest h
    have hb := b.toNat_lt
    rw [List.flatMap_cons, List.length_append] at h
    rw [List.flatMap_cons, wB_app, List.append_assoc, ← app_bytes]
    match f, h with
    | f + 1, h =>
    by_cases c1 : b.toNat = 34 ∨ b.toNat = 92
    · have e : escShow b = [92, b] := by unfold escShow; rw [if_pos c1]
      rw [e] at h ⊢
      have e2 : wB [92, b] = [92, (b.toNat : Int)] := rfl
      rw [e2]
      have hesc : escI ((b.toNat : Int) :: (wB (bs.flatMap escShow) ++ 34 :: rest)) = ((b.toNat : Int), true, 1) := by
        unfold escI
        rw [pk_cons0, if_neg (by omega), if_neg (by omega)]
        rcases c1 with c1 | c1
        · rw [if_pos (by omega), c1]; rfl
        · rw [if_neg (by omega), if_pos (by omega), c1]; rfl
      simp only [List.cons_append, List.nil_append, qtI, pk_cons0, List.drop_succ_cons, List.drop_zero, hesc]
      rw [if_neg (by omega), if_neg (by omega), if_pos trivial, if_pos trivial]
      rw [ih f _ rest (by simp only [List.length_cons, List.length_nil] at h; omega), byteB_of]
      simp only [Option.map_some, List.length_append, List.length_cons, List.length_nil]
      congr 2
      omega
    · by_cases c2 : 32 ≤ b.toNat ∧ b.toNat ≤ 126
      · have e : escShow b = [b] := by unfold escShow; rw [if_neg c1, if_pos c2]
        rw [e] at h ⊢
        have e2 : wB [b] = [(b.toNat : Int)] := rfl
        rw [e2]
        simp only [List.cons_append, List.nil_append, qtI, pk_cons0, List.drop_succ_cons, List.drop_zero]
        rw [if_neg (by omega), if_neg (by omega), if_neg (by omega), ih f _ rest (by simp only [List.length_cons, List.length_nil] at h; omega), encB_byteB (by omega) (by omega), byteB_of]
        simp only [Option.map_some, List.length_append, List.length_cons, List.length_nil]
        congr 2
        omega
      · have e : escShow b = [92, 120, hexD (b.toNat / 16), hexD (b.toNat % 16)] := by unfold escShow; rw [if_neg c1, if_neg c2]
        rw [e] at h ⊢
        obtain ⟨g1, _⟩ := hexOf_D ⟨b.toNat / 16, by omega⟩
        obtain ⟨g2, _⟩ := hexOf_D ⟨b.toNat % 16, by omega⟩
        simp only at g1 g2
        have e2 : wB [92, 120, hexD (b.toNat / 16), hexD (b.toNat % 16)] = [92, 120, ((hexD (b.toNat / 16)).toNat : Int), ((hexD (b.toNat % 16)).toNat : Int)] := rfl
        rw [e2]
        generalize ((hexD (b.toNat / 16)).toNat : Int) = h1 at *
        generalize ((hexD (b.toNat % 16)).toNat : Int) = h2 at *
        have hesc : escI (120 :: h1 :: h2 :: (wB (bs.flatMap escShow) ++ 34 :: rest)) = ((b.toNat : Int), true, 3) := by
          have p0 : pk (120 :: h1 :: h2 :: (wB (bs.flatMap escShow) ++ 34 :: rest)) 0 = 120 := rfl
          have p1 : pk (120 :: h1 :: h2 :: (wB (bs.flatMap escShow) ++ 34 :: rest)) 1 = h1 := rfl
          have p2 : pk (120 :: h1 :: h2 :: (wB (bs.flatMap escShow) ++ 34 :: rest)) 2 = h2 := rfl
          unfold escI
          rw [p0, p1, p2]
          rw [if_neg (by decide), if_neg (by decide), if_neg (by decide), if_neg (by decide), if_pos rfl]
          have e1 := escB_eq (a := h1) (b := h2) (by omega) (by omega)
          have d1 : decide (0 ≤ hexOf h1) = true := decide_eq_true (by omega)
          have d2 : decide (0 ≤ hexOf h2) = true := decide_eq_true (by omega)
          rw [e1, d1, d2]
          simp only [Bool.and_self, Prod.mk.injEq, and_true]
          omega
        simp only [List.cons_append, List.nil_append, qtI, pk_cons0, List.drop_succ_cons, List.drop_zero, hesc]
        rw [if_neg (by omega), if_neg (by omega), if_pos trivial, if_pos trivial]
        rw [ih f _ rest (by simp only [List.length_cons, List.length_nil] at h; omega), byteB_of]
        simp only [Option.map_some, List.length_append, List.length_cons, List.length_nil]
        congr 2
        omega
end Go.Proofs.YtoadpaaghjomnaaDoor.Codes
