/-
  The runes of a list of bytes.
  A text's runes with their places, over lists of runes.
  The document's One over lists of bytes.
  The document's Split: the same runes as the program's.
  The place of a text's end, in both.
  Conditions: none.
-/
import Derived.Test.YtoadpaaghjomnaaDoorMC
set_option linter.unusedVariables false
set_option linter.unusedSimpArgs false
set_option maxRecDepth 100000
namespace Go.Proofs.YtoadpaaghjomnaaDoor.Codes
open Go Go.Deepv

def b4 (l : List UInt8) (k : Nat) : Nat := (l.getD k 0).toNat
def cont (l : List UInt8) (k : Nat) : Bool := decide (k < l.length) && b4 l k / 64 == 2
/-- The first rune of a list of bytes. -/
def decL (l : List UInt8) : Nat × Nat :=
  if b4 l 0 < 0x80 then (b4 l 0, 1)
  else if b4 l 0 / 32 == 6 && cont l 1 then
    if (b4 l 0 % 32) * 64 + b4 l 1 % 64 ≥ 0x80 then ((b4 l 0 % 32) * 64 + b4 l 1 % 64, 2) else (65533, 1)
  else if b4 l 0 / 16 == 14 && cont l 1 && cont l 2 then
    if (b4 l 0 % 16) * 4096 + (b4 l 1 % 64) * 64 + b4 l 2 % 64 ≥ 0x800 && Utf8.valid ((b4 l 0 % 16) * 4096 + (b4 l 1 % 64) * 64 + b4 l 2 % 64 : Nat) then ((b4 l 0 % 16) * 4096 + (b4 l 1 % 64) * 64 + b4 l 2 % 64, 3) else (65533, 1)
  else if b4 l 0 / 8 == 30 && cont l 1 && cont l 2 && cont l 3 then
    if (b4 l 0 % 8) * 262144 + (b4 l 1 % 64) * 4096 + (b4 l 2 % 64) * 64 + b4 l 3 % 64 ≥ 0x10000 && Utf8.valid ((b4 l 0 % 8) * 262144 + (b4 l 1 % 64) * 4096 + (b4 l 2 % 64) * 64 + b4 l 3 % 64 : Nat) then ((b4 l 0 % 8) * 262144 + (b4 l 1 % 64) * 4096 + (b4 l 2 % 64) * 64 + b4 l 3 % 64, 4) else (65533, 1)
  else (65533, 1)

theorem get_b4 (s : ByteArray) (i k : Nat) : (s.get! (i + k)).toNat = b4 (s.data.toList.drop i) k := by
  unfold b4 ByteArray.get!
  simp [List.getD_eq_getElem?_getD, List.getElem?_drop, Array.getElem!_eq_getD, Array.getD_eq_getD_getElem?]
  rfl
theorem decode_decL (s : ByteArray) (i : Nat) : Utf8.decode s i = decL (s.data.toList.drop i) := by
  have hc : ∀ k, (decide (i + k < s.size) && b4 (s.data.toList.drop i) k / 64 == 2) = cont (s.data.toList.drop i) k := fun k => by
    unfold cont
    have e : s.data.toList.length = s.size := Array.length_toList
    have : decide (i + k < s.size) = decide (k < (s.data.toList.drop i).length) := decide_eq_decide.2 (by rw [List.length_drop, e]; omega)
    rw [this]
  unfold Utf8.decode decL
  simp only [get_b4]
  simp only [hc]
  rfl

def encL (c : Nat) : List UInt8 :=
  if c < 0x80 then [UInt8.ofNat c]
  else if c < 0x800 then [UInt8.ofNat (0xC0 + c / 64), UInt8.ofNat (0x80 + c % 64)]
  else if c < 0x10000 then [UInt8.ofNat (0xE0 + c / 4096), UInt8.ofNat (0x80 + c / 64 % 64), UInt8.ofNat (0x80 + c % 64)]
  else [UInt8.ofNat (0xF0 + c / 262144), UInt8.ofNat (0x80 + c / 4096 % 64), UInt8.ofNat (0x80 + c / 64 % 64), UInt8.ofNat (0x80 + c % 64)]

theorem encode_encL {c : Nat} (h : Utf8.valid c = true) : (Utf8.encode c).data.toList = encL c := by
  unfold Utf8.encode encL
  simp only [h, if_true, Int.toNat_natCast]
  split
  · rfl
  · split
    · rfl
    · split <;> rfl

theorem valid_iff (c : Nat) : Utf8.valid c = true ↔ c < 0xD800 ∨ (0xE000 ≤ c ∧ c ≤ 0x10FFFF) := by
  unfold Utf8.valid
  simp only [Bool.or_eq_true, Bool.and_eq_true, decide_eq_true_eq]
  omega
theorem b4_0 (x : UInt8) (t : List UInt8) : b4 (x :: t) 0 = x.toNat := rfl
theorem b4_s (x : UInt8) (t : List UInt8) (k : Nat) : b4 (x :: t) (k + 1) = b4 t k := rfl
theorem ofNat_toNat {n : Nat} (h : n < 256) : (UInt8.ofNat n).toNat = n := by simp; omega

theorem decL_encL {c : Nat} (h : Utf8.valid c = true) (t : List UInt8) : decL (encL c ++ t) = (c, (encL c).length) := by
  have hv := (valid_iff c).1 h
  unfold encL
  split
  · rename_i h0
    unfold decL
    have : b4 ([UInt8.ofNat c] ++ t) 0 = c := by rw [List.singleton_append, b4_0, ofNat_toNat (by omega)]
    rw [this, if_pos h0]
    rfl
  · rename_i h0
    split
    · rename_i h1
      have e0 : b4 ([UInt8.ofNat (0xC0 + c / 64), UInt8.ofNat (0x80 + c % 64)] ++ t) 0 = 0xC0 + c / 64 := by simp only [List.cons_append, b4_0]; exact ofNat_toNat (by omega)
      have e1 : b4 ([UInt8.ofNat (0xC0 + c / 64), UInt8.ofNat (0x80 + c % 64)] ++ t) 1 = 0x80 + c % 64 := by simp only [List.cons_append, b4_s, b4_0]; exact ofNat_toNat (by omega)
      have c1 : cont ([UInt8.ofNat (0xC0 + c / 64), UInt8.ofNat (0x80 + c % 64)] ++ t) 1 = true := by
        unfold cont; rw [e1]; simp; omega
      unfold decL
      rw [e0, e1, c1]
      have a1 : ¬ (0xC0 + c / 64 < 0x80) := by omega
      have a2 : (0xC0 + c / 64) / 32 = 6 := by omega
      have a3 : (0xC0 + c / 64) % 32 * 64 + (0x80 + c % 64) % 64 = c := by omega
      simp only [a1, a2, a3, if_false, beq_self_eq_true, Bool.and_self, if_true, List.length_cons, List.length_nil]
      rw [if_pos (by omega)]
    · rename_i h1
      split
      · rename_i h2
        have e0 : b4 ([UInt8.ofNat (0xE0 + c / 4096), UInt8.ofNat (0x80 + c / 64 % 64), UInt8.ofNat (0x80 + c % 64)] ++ t) 0 = 0xE0 + c / 4096 := by simp only [List.cons_append, b4_0]; exact ofNat_toNat (by omega)
        have e1 : b4 ([UInt8.ofNat (0xE0 + c / 4096), UInt8.ofNat (0x80 + c / 64 % 64), UInt8.ofNat (0x80 + c % 64)] ++ t) 1 = 0x80 + c / 64 % 64 := by simp only [List.cons_append, b4_s, b4_0]; exact ofNat_toNat (by omega)
        have e2 : b4 ([UInt8.ofNat (0xE0 + c / 4096), UInt8.ofNat (0x80 + c / 64 % 64), UInt8.ofNat (0x80 + c % 64)] ++ t) 2 = 0x80 + c % 64 := by simp only [List.cons_append, b4_s, b4_0]; exact ofNat_toNat (by omega)
        have c1 : cont ([UInt8.ofNat (0xE0 + c / 4096), UInt8.ofNat (0x80 + c / 64 % 64), UInt8.ofNat (0x80 + c % 64)] ++ t) 1 = true := by
          unfold cont; rw [e1]; simp; omega
        have c2 : cont ([UInt8.ofNat (0xE0 + c / 4096), UInt8.ofNat (0x80 + c / 64 % 64), UInt8.ofNat (0x80 + c % 64)] ++ t) 2 = true := by
          unfold cont; rw [e2]; simp; omega
        unfold decL
        rw [e0, e1, e2, c1, c2]
        have a1 : ¬ (0xE0 + c / 4096 < 0x80) := by omega
        have a2 : ((0xE0 + c / 4096) / 32 == 6) = false := by simp; omega
        have a3 : (0xE0 + c / 4096) / 16 = 14 := by omega
        have a4 : (0xE0 + c / 4096) % 16 * 4096 + (0x80 + c / 64 % 64) % 64 * 64 + (0x80 + c % 64) % 64 = c := by omega
        simp only [a1, a2, a3, a4, h, if_false, beq_self_eq_true, Bool.and_self, Bool.and_true, Bool.false_and, Bool.false_eq_true, if_true, List.length_cons, List.length_nil, decide_eq_true_eq]
        rw [if_pos (by omega)]
      · rename_i h2
        have e0 : b4 ([UInt8.ofNat (0xF0 + c / 262144), UInt8.ofNat (0x80 + c / 4096 % 64), UInt8.ofNat (0x80 + c / 64 % 64), UInt8.ofNat (0x80 + c % 64)] ++ t) 0 = 0xF0 + c / 262144 := by simp only [List.cons_append, b4_0]; exact ofNat_toNat (by omega)
        have e1 : b4 ([UInt8.ofNat (0xF0 + c / 262144), UInt8.ofNat (0x80 + c / 4096 % 64), UInt8.ofNat (0x80 + c / 64 % 64), UInt8.ofNat (0x80 + c % 64)] ++ t) 1 = 0x80 + c / 4096 % 64 := by simp only [List.cons_append, b4_s, b4_0]; exact ofNat_toNat (by omega)
        have e2 : b4 ([UInt8.ofNat (0xF0 + c / 262144), UInt8.ofNat (0x80 + c / 4096 % 64), UInt8.ofNat (0x80 + c / 64 % 64), UInt8.ofNat (0x80 + c % 64)] ++ t) 2 = 0x80 + c / 64 % 64 := by simp only [List.cons_append, b4_s, b4_0]; exact ofNat_toNat (by omega)
        have e3 : b4 ([UInt8.ofNat (0xF0 + c / 262144), UInt8.ofNat (0x80 + c / 4096 % 64), UInt8.ofNat (0x80 + c / 64 % 64), UInt8.ofNat (0x80 + c % 64)] ++ t) 3 = 0x80 + c % 64 := by simp only [List.cons_append, b4_s, b4_0]; exact ofNat_toNat (by omega)
        have c1 : cont ([UInt8.ofNat (0xF0 + c / 262144), UInt8.ofNat (0x80 + c / 4096 % 64), UInt8.ofNat (0x80 + c / 64 % 64), UInt8.ofNat (0x80 + c % 64)] ++ t) 1 = true := by
          unfold cont; rw [e1]; simp; omega
        have c2 : cont ([UInt8.ofNat (0xF0 + c / 262144), UInt8.ofNat (0x80 + c / 4096 % 64), UInt8.ofNat (0x80 + c / 64 % 64), UInt8.ofNat (0x80 + c % 64)] ++ t) 2 = true := by
          unfold cont; rw [e2]; simp; omega
        have c3 : cont ([UInt8.ofNat (0xF0 + c / 262144), UInt8.ofNat (0x80 + c / 4096 % 64), UInt8.ofNat (0x80 + c / 64 % 64), UInt8.ofNat (0x80 + c % 64)] ++ t) 3 = true := by
          unfold cont; rw [e3]; simp; omega
        unfold decL
        rw [e0, e1, e2, e3, c1, c2, c3]
        have a1 : ¬ (0xF0 + c / 262144 < 0x80) := by omega
        have a2 : ((0xF0 + c / 262144) / 32 == 6) = false := by simp; omega
        have a3 : ((0xF0 + c / 262144) / 16 == 14) = false := by simp; omega
        have a4 : (0xF0 + c / 262144) / 8 = 30 := by omega
        have a5 : (0xF0 + c / 262144) % 8 * 262144 + (0x80 + c / 4096 % 64) % 64 * 4096 + (0x80 + c / 64 % 64) % 64 * 64 + (0x80 + c % 64) % 64 = c := by omega
        simp only [a1, a2, a3, a4, a5, h, if_false, beq_self_eq_true, Bool.and_self, Bool.and_true, Bool.false_and, Bool.false_eq_true, if_true, List.length_cons, List.length_nil, decide_eq_true_eq]
        rw [if_pos (by omega)]

theorem u8_eq {n : Nat} {x : UInt8} (h : n = x.toNat) : UInt8.ofNat n = x := by subst h; simp
theorem decL_cases (l : List UInt8) (hl : l ≠ []) : decL l = (65533, 1) ∨ ∃ c t, Utf8.valid (c : Nat) = true ∧ l = encL c ++ t := by
  match l, hl with
  | x :: l1, _ =>
  unfold decL
  rw [b4_0 x l1]
  have hx := x.toNat_lt
  split
  · rename_i h0
    refine .inr ⟨x.toNat, l1, (valid_iff _).2 (by omega), ?_⟩
    unfold encL
    rw [if_pos h0]
    simp
  · split
    · rename_i h0 h1
      split
      · rename_i h2
        simp only [Bool.and_eq_true, beq_iff_eq, cont, decide_eq_true_eq] at h1
        match l1, h1, h2 with
        | y :: l2, h1, h2 =>
          have hy := y.toNat_lt
          simp only [b4_s, b4_0] at h1 h2 ⊢
          obtain ⟨h1, -, h3⟩ := h1
          refine .inr ⟨x.toNat % 32 * 64 + y.toNat % 64, l2, (valid_iff _).2 (by omega), ?_⟩
          unfold encL
          rw [if_neg (by omega), if_pos (by omega), u8_eq (x := x) (by omega), u8_eq (x := y) (by omega)]
          rfl
      · exact .inl rfl
    · rename_i h0 h1
      split
      · rename_i h2
        split
        · rename_i h3
          simp only [Bool.and_eq_true, beq_iff_eq, cont, decide_eq_true_eq] at h2 h3
          have hlen := h2.2.1
          rcases l1 with _ | ⟨y, _ | ⟨z, l2⟩⟩
          · exact absurd hlen (by simp)
          · exact absurd hlen (by simp)
          · 
            have hy := y.toNat_lt
            have hz := z.toNat_lt
            have f1 : b4 (x :: y :: z :: l2) 1 = y.toNat := rfl
            have f2 : b4 (x :: y :: z :: l2) 2 = z.toNat := rfl
            rw [f1, f2] at h2 h3
            obtain ⟨⟨h2, -, h4⟩, -, h5⟩ := h2
            obtain ⟨h3, h6⟩ := h3
            refine .inr ⟨x.toNat % 16 * 4096 + y.toNat % 64 * 64 + z.toNat % 64, l2, h6, ?_⟩
            unfold encL
            rw [if_neg (by omega), if_neg (by omega), if_pos (by omega), u8_eq (x := x) (by omega), u8_eq (x := y) (by omega), u8_eq (x := z) (by omega)]
            rfl
        · exact .inl rfl
      · rename_i h2
        split
        · rename_i h3
          split
          · rename_i h4
            simp only [Bool.and_eq_true, beq_iff_eq, cont, decide_eq_true_eq] at h3 h4
            have hlen := h3.2.1
            rcases l1 with _ | ⟨y, _ | ⟨z, _ | ⟨w, l2⟩⟩⟩
            · exact absurd hlen (by simp)
            · exact absurd hlen (by simp)
            · exact absurd hlen (by simp)
            · 
              have hy := y.toNat_lt
              have hz := z.toNat_lt
              have hw := w.toNat_lt
              have f1 : b4 (x :: y :: z :: w :: l2) 1 = y.toNat := rfl
              have f2 : b4 (x :: y :: z :: w :: l2) 2 = z.toNat := rfl
              have f3 : b4 (x :: y :: z :: w :: l2) 3 = w.toNat := rfl
              rw [f1, f2, f3] at h3 h4
              obtain ⟨⟨⟨h3, -, h5⟩, -, h6⟩, -, h7⟩ := h3
              obtain ⟨h4, h8⟩ := h4
              refine .inr ⟨x.toNat % 8 * 262144 + y.toNat % 64 * 4096 + z.toNat % 64 * 64 + w.toNat % 64, l2, h8, ?_⟩
              have h9 := (valid_iff _).1 h8
              unfold encL
              rw [if_neg (by omega), if_neg (by omega), if_neg (by omega), u8_eq (x := x) (by omega), u8_eq (x := y) (by omega), u8_eq (x := z) (by omega), u8_eq (x := w) (by omega)]
              rfl
          · exact .inl rfl
        · exact .inl rfl
theorem not_good (t : List UInt8) : decL (239 :: 191 :: 189 :: t) = (65533, 3) := decL_encL (c := 65533) (by decide) t
end Go.Proofs.YtoadpaaghjomnaaDoor.Codes

set_option linter.unusedVariables false
set_option linter.unusedSimpArgs false
set_option maxRecDepth 100000
namespace Go.Proofs.YtoadpaaghjomnaaDoor.Codes
open Go Go.Deepv

def encI (w : Int) : List UInt8 := encL w.toNat
def encLs : List Int → List UInt8
  | [] => []
  | w :: ws => encI w ++ encLs ws
def Sc (ws : List Int) : Prop := ∀ w ∈ ws, rScal w = true
def advL (l : Int) (ws : List Int) : Int := ws.foldl nxtL l
def advC (c : Int) (ws : List Int) : Int := ws.foldl nxtC c
def place : List Int → Nat → Int → Int → List Rn
  | [], _, _, _ => []
  | w :: ws, p, l, c => ⟨w, p, l, c⟩ :: place ws (p + (encI w).length) (nxtL l w) (nxtC c w)
def bad (t : List UInt8) : Prop := t ≠ [] ∧ ¬ ∃ w u, rScal w = true ∧ t = encI w ++ u

theorem rScal_iff (w : Int) : rScal w = true ↔ 0 ≤ w ∧ Utf8.valid ((w.toNat : Nat) : Int) = true := by
  rw [valid_iff]
  unfold rScal
  simp only [Bool.and_eq_true, Bool.or_eq_true, decide_eq_true_eq]
  omega
theorem encL_pos (c : Nat) : 1 ≤ (encL c).length := by
  unfold encL
  repeat' split
  all_goals simp
theorem encL_le (c : Nat) : (encL c).length ≤ 4 := by
  unfold encL
  repeat' split
  all_goals simp
theorem encI_pos (w : Int) : 1 ≤ (encI w).length := encL_pos _
theorem place_len : ∀ (ws : List Int) (p : Nat) (l c : Int), (place ws p l c).length = ws.length := by
  intro ws
  induction ws with
  | nil => intros; rfl
  | cons w ws ih => intro p l c; simp only [place, List.length_cons, ih]
theorem place_r : ∀ (ws : List Int) (p : Nat) (l c : Int), (place ws p l c).map Rn.r = ws := by
  intro ws
  induction ws with
  | nil => intros; rfl
  | cons w ws ih => intro p l c; simp only [place, List.map_cons, ih]

theorem text_cases : ∀ (n : Nat) (B : List UInt8), B.length ≤ n → ∃ ws, Sc ws ∧ (B = encLs ws ∨ ∃ t, bad t ∧ B = encLs ws ++ t) := by
  intro n
  induction n with
  | zero =>
    intro B h
    have : B = [] := List.length_eq_zero_iff.1 (by omega)
    exact ⟨[], fun w h => by simp at h, .inl this⟩
  | succ n ih =>
    intro B h
    by_cases h0 : B = []
    · exact ⟨[], fun w h => by simp at h, .inl h0⟩
    · by_cases h1 : ∃ w u, rScal w = true ∧ B = encI w ++ u
      · obtain ⟨w, u, hw, hB⟩ := h1
        have hl : u.length ≤ n := by
          have := congrArg List.length hB
          have := encI_pos w
          rw [List.length_append] at *
          omega
        obtain ⟨ws, hs, hc⟩ := ih u hl
        refine ⟨w :: ws, fun x hx => ?_, ?_⟩
        · rcases List.mem_cons.1 hx with h | h
          · exact h ▸ hw
          · exact hs x h
        · rcases hc with hc | ⟨t, ht, hc⟩
          · exact .inl (by rw [hB, hc]; rfl)
          · exact .inr ⟨t, ht, by rw [hB, hc]; simp only [encLs, List.append_assoc]⟩
      · exact ⟨[], fun w h => by simp at h, .inr ⟨B, ⟨h0, h1⟩, rfl⟩⟩

theorem dec_good {s : ByteArray} {pos : Nat} {w : Int} {u : List UInt8} (hw : rScal w = true) (h : s.data.toList.drop pos = encI w ++ u) : Utf8.decode s pos = (w.toNat, (encI w).length) := by
  rw [decode_decL, h]
  exact decL_encL ((rScal_iff w).1 hw).2 u
theorem bad_dec {t : List UInt8} (h : bad t) : decL t = (65533, 1) := by
  rcases decL_cases t h.1 with h1 | ⟨c, u, hc, hu⟩
  · exact h1
  · refine absurd ⟨(c : Int), u, (rScal_iff _).2 ⟨by omega, by rw [Int.toNat_natCast]; exact hc⟩, ?_⟩ h.2
    unfold encI
    rw [Int.toNat_natCast]
    exact hu
theorem drop_lt {s : ByteArray} {pos : Nat} {t : List UInt8} (h : s.data.toList.drop pos = t) (h0 : t ≠ []) : pos < s.size := by
  have h1 : s.data.toList.length = s.size := Array.length_toList
  have h2 := congrArg List.length h
  rw [List.length_drop, h1] at h2
  have : 0 < t.length := List.length_pos_iff.2 h0
  omega
theorem drop_ge {s : ByteArray} {pos : Nat} (h : s.data.toList.drop pos = []) : ¬ pos < s.size := by
  have h1 : s.data.toList.length = s.size := Array.length_toList
  have h2 := congrArg List.length h
  rw [List.length_drop, h1, List.length_nil] at h2
  omega
theorem hasPre_bad {s : ByteArray} {pos : Nat} {t : List UInt8} (h : s.data.toList.drop pos = t) : hasPre (s.extract pos s.size) ⟨#[239, 191, 189]⟩ = decide (t.take 3 = [239, 191, 189]) := by
  have h1 : s.data.toList.length = s.size := Array.length_toList
  have e1 : (s.extract pos s.size).data.toList = t := by
    rw [ByteArray.data_extract, Array.toList_extract, ← h, ← h1]
    simp only [List.extract_eq_take_drop]
    exact List.take_of_length_le (by rw [List.length_drop]; omega)
  have e3 : (⟨#[239, 191, 189]⟩ : ByteArray).size = 3 := rfl
  have e4 : (⟨#[239, 191, 189]⟩ : ByteArray).toList = [239, 191, 189] := by rw [ByteArray.toList_eq]
  unfold hasPre
  rw [e3, e4]
  generalize s.extract pos s.size = x at *
  have e2 : x.size = t.length := by rw [← e1]; exact Array.length_toList.symm
  have e5 : (x.extract 0 3).toList = t.take 3 := by
    rw [ByteArray.toList_eq, ByteArray.data_extract, Array.toList_extract, e1]
    simp
  rw [e5, e2]
  by_cases hp : t.take 3 = [239, 191, 189]
  · have : 3 ≤ t.length := by
      have := congrArg List.length hp
      simp only [List.length_take, List.length_cons, List.length_nil] at this
      omega
    rw [hp, decide_eq_true this]
    rfl
  · have : (t.take 3 == [239, 191, 189]) = false := by simpa using hp
    rw [this]
    simp [hp]

theorem badR_good {s : ByteArray} {pos : Nat} {w : Int} {u : List UInt8} (hw : rScal w = true) (h : s.data.toList.drop pos = encI w ++ u) : badR s pos = false := by
  unfold badR
  rw [dec_good hw h, hasPre_bad h]
  by_cases h0 : w.toNat = 65533
  · have : encI w = [239, 191, 189] := by unfold encI; rw [h0]; decide
    rw [this]
    simp
  · simp [h0]
theorem badR_bad {s : ByteArray} {pos : Nat} {t : List UInt8} (ht : bad t) (h : s.data.toList.drop pos = t) : badR s pos = true := by
  unfold badR
  rw [decode_decL, h, bad_dec ht, hasPre_bad h]
  have : ¬ t.take 3 = [239, 191, 189] := fun hp => ht.2 ⟨65533, t.drop 3, by decide, by
    have e : encI 65533 = [239, 191, 189] := by decide
    rw [e, ← hp, List.take_append_drop]⟩
  simp [this]

theorem drop_next {s : ByteArray} {pos : Nat} {a u : List UInt8} (h : s.data.toList.drop pos = a ++ u) : s.data.toList.drop (pos + a.length) = u := by
  rw [← List.drop_drop, h, List.drop_left]
theorem encLs_cons (w : Int) (ws : List Int) (t : List UInt8) : encLs (w :: ws) ++ t = encI w ++ (encLs ws ++ t) := by simp only [encLs, List.append_assoc]
theorem encI_ne (w : Int) (u : List UInt8) : encI w ++ u ≠ [] := by
  have := encI_pos w
  intro h
  have := congrArg List.length h
  simp only [List.length_append, List.length_nil] at this
  omega

/-- Split over a text that begins with runes. -/
theorem spl_runes (s : ByteArray) : ∀ (ws : List Int) (f pos : Nat) (l c : Int) (t : List UInt8), Sc ws → s.size ≤ pos + f → s.data.toList.drop pos = encLs ws ++ t →
    ∃ f', s.size ≤ pos + (encLs ws).length + f' ∧ spl s f pos l c = (place ws pos l c ++ (spl s f' (pos + (encLs ws).length) (advL l ws) (advC c ws)).1, (spl s f' (pos + (encLs ws).length) (advL l ws) (advC c ws)).2) := by
  intro ws
  induction ws with
  | nil => intro f pos l c t hs hf hd; exact ⟨f, by simpa [encLs] using hf, by simp [encLs, place, advL, advC]⟩
  | cons w ws ih =>
    intro f pos l c t hs hf hd
    have hw := hs w List.mem_cons_self
    have hs' : Sc ws := fun x hx => hs x (List.mem_cons_of_mem _ hx)
    rw [encLs_cons] at hd
    have hp := drop_lt hd (encI_ne _ _)
    match f, hf with
    | 0, hf => omega
    | f + 1, hf =>
      have hl := encI_pos w
      obtain ⟨f', h1, h2⟩ := ih f (pos + (encI w).length) (nxtL l w) (nxtC c w) t hs' (by omega) (drop_next hd)
      have hdec := dec_good hw hd
      have hr := ((rScal_iff w).1 hw).1
      have hcast : ((w.toNat : Nat) : Int) = w := Int.toNat_of_nonneg hr
      have e : (encLs (w :: ws)).length = (encI w).length + (encLs ws).length := by simp only [encLs, List.length_append]
      refine ⟨f', by omega, ?_⟩
      simp only [spl, hp, if_true, badR_good hw hd, Bool.false_eq_true, if_false, hdec, hcast, place, e, ← Nat.add_assoc, h2, List.cons_append]
      rfl

theorem spl_end (s : ByteArray) {f pos : Nat} {l c : Int} (h : s.data.toList.drop pos = []) : spl s f pos l c = ([], none) := by
  cases f with
  | zero => rfl
  | succ f => simp only [spl, drop_ge h, if_false]
theorem spl_bad (s : ByteArray) {f pos : Nat} {l c : Int} {t : List UInt8} (ht : bad t) (h : s.data.toList.drop pos = t) (hf : s.size ≤ pos + f) : spl s f pos l c = ([], some (l, c)) := by
  have hp := drop_lt h ht.1
  match f, hf with
  | 0, hf => omega
  | f + 1, hf => simp only [spl, hp, if_true, badR_bad ht h]

theorem spl_all {s : ByteArray} {ws : List Int} (hs : Sc ws) (h : s.data.toList = encLs ws) : spl s s.size 0 1 1 = (place ws 0 1 1, none) := by
  obtain ⟨f', h1, h2⟩ := spl_runes s ws s.size 0 1 1 [] hs (by omega) (by simpa using h)
  rw [h2, spl_end]
  · simp
  · have := drop_next (s := s) (pos := 0) (a := encLs ws) (u := []) (by simpa using h)
    simpa using this
theorem spl_all_bad {s : ByteArray} {ws : List Int} {t : List UInt8} (hs : Sc ws) (ht : bad t) (h : s.data.toList = encLs ws ++ t) : (spl s s.size 0 1 1).2 = some (advL 1 ws, advC 1 ws) := by
  obtain ⟨f', h1, h2⟩ := spl_runes s ws s.size 0 1 1 t hs (by omega) (by simpa using h)
  have hd := drop_next (s := s) (pos := 0) (a := encLs ws) (u := t) (by simpa using h)
  rw [h2, spl_bad s ht hd (by omega)]
end Go.Proofs.YtoadpaaghjomnaaDoor.Codes

set_option linter.unusedVariables false
set_option linter.unusedSimpArgs false
set_option maxRecDepth 100000
namespace Go.Proofs.YtoadpaaghjomnaaDoor.Codes
open Go Go.Deepv

theorem ba_get (s : ByteArray) (i k : Nat) : s[i + k]? = (s.data.toList.drop i)[k]? := by
  have h1 : s.data.toList.length = s.size := Array.length_toList
  rw [List.getElem?_drop]
  by_cases h : i + k < s.size
  · rw [ba_some h, List.getElem?_eq_getElem (by omega)]
    rfl
  · rw [ba_none (by omega), List.getElem?_eq_none (by omega)]

theorem tailV_s {s : ByteArray} {n k : Nat} {r : Int} {b : UInt8} (h : s[k]? = some b) (h1 : 128 ≤ b.toNat) (h2 : b.toNat ≤ 191) : tailV s (n + 1) k r = tailV s n (k + 1) (r * 64 + (b.toNat - 128)) := by
  have a1 : ¬ (b.toNat : Int) < 128 := by omega
  have a2 : ¬ (191 : Int) < b.toNat := by omega
  simp only [tailV, h, a1, a2, if_false]
theorem tailV_n {s : ByteArray} {n k : Nat} {r : Int} (h : ∀ b, s[k]? = some b → b.toNat < 128 ∨ 191 < b.toNat) : tailV s (n + 1) k r = (0, false) := by
  simp only [tailV]
  cases hb : s[k]? with
  | none => rfl
  | some b =>
    rcases h b hb with h | h
    · have : (b.toNat : Int) < 128 := by omega
      simp only [this, if_true]
    · have a1 : ¬ (b.toNat : Int) < 128 := by omega
      have a2 : (191 : Int) < b.toNat := by omega
      simp only [a1, a2, if_false, if_true]

theorem oneV_good {s : ByteArray} {i : Nat} {w : Int} {u : List UInt8} (hw : rScal w = true) (h : s.data.toList.drop i = encI w ++ u) : oneV s i = (w, (encI w).length) := by
  have hw' := hw
  rw [rScal_iff, valid_iff] at hw'
  obtain ⟨h0, h1⟩ := hw'
  have hg := fun k => ba_get s i k
  rw [h] at hg
  have hc : ((w.toNat : Nat) : Int) = w := Int.toNat_of_nonneg h0
  unfold encI encL at *
  generalize w.toNat = c at *
  have g0 := hg 0
  have g1 := hg 1
  have g2 : s[i + 1 + 1]? = _ := hg 2
  have g3 : s[i + 1 + 1 + 1]? = _ := hg 3
  rw [Nat.add_zero] at g0
  by_cases c1 : c < 128
  · rw [if_pos c1] at g0 ⊢
    rw [List.singleton_append, List.getElem?_cons_zero] at g0
    unfold oneV
    rw [g0]
    simp only [ofNat_toNat (show c < 256 by omega)]
    rw [if_pos (by omega), hc]
    rfl
  rw [if_neg c1] at g0 g1 g2 g3 ⊢
  by_cases c2 : c < 2048
  · rw [if_pos c2] at g0 g1 ⊢
    simp only [List.cons_append, List.getElem?_cons_zero, List.getElem?_cons_succ] at g0 g1
    unfold oneV
    rw [g0]
    simp only [ofNat_toNat (show 192 + c / 64 < 256 by omega)]
    rw [if_neg (by omega), if_pos (by omega)]
    unfold oneN
    rw [tailV_s g1 (by rw [ofNat_toNat (by omega)]; omega) (by rw [ofNat_toNat (by omega)]; omega), ofNat_toNat (by omega)]
    have e : (((192 + c / 64 : Nat) : Int) - 192) * 64 ^ 1 + (0 * 64 + (((128 + c % 64 : Nat) : Int) - 128)) = w := by omega
    simp only [tailV, e, if_true, hw]
    rw [if_neg (by omega)]
    rfl
  rw [if_neg c2] at g0 g1 g2 g3 ⊢
  by_cases c3 : c < 65536
  · rw [if_pos c3] at g0 g1 g2 ⊢
    simp only [List.cons_append, List.getElem?_cons_zero, List.getElem?_cons_succ] at g0 g1 g2
    unfold oneV
    rw [g0]
    simp only [ofNat_toNat (show 224 + c / 4096 < 256 by omega)]
    rw [if_neg (by omega), if_neg (by omega), if_pos (by omega)]
    unfold oneN
    rw [tailV_s g1 (by rw [ofNat_toNat (by omega)]; omega) (by rw [ofNat_toNat (by omega)]; omega), ofNat_toNat (by omega),
      tailV_s g2 (by rw [ofNat_toNat (by omega)]; omega) (by rw [ofNat_toNat (by omega)]; omega), ofNat_toNat (by omega)]
    have e : (((224 + c / 4096 : Nat) : Int) - 224) * 64 ^ 2 + ((0 * 64 + (((128 + c / 64 % 64 : Nat) : Int) - 128)) * 64 + (((128 + c % 64 : Nat) : Int) - 128)) = w := by omega
    simp only [tailV, e, if_true, hw]
    rw [if_neg (by omega)]
    rfl
  · rw [if_neg c3] at g0 g1 g2 g3 ⊢
    simp only [List.cons_append, List.getElem?_cons_zero, List.getElem?_cons_succ] at g0 g1 g2 g3
    unfold oneV
    rw [g0]
    simp only [ofNat_toNat (show 240 + c / 262144 < 256 by omega)]
    rw [if_neg (by omega), if_neg (by omega), if_neg (by omega), if_pos (by omega)]
    unfold oneN
    rw [tailV_s g1 (by rw [ofNat_toNat (by omega)]; omega) (by rw [ofNat_toNat (by omega)]; omega), ofNat_toNat (by omega),
      tailV_s g2 (by rw [ofNat_toNat (by omega)]; omega) (by rw [ofNat_toNat (by omega)]; omega), ofNat_toNat (by omega),
      tailV_s g3 (by rw [ofNat_toNat (by omega)]; omega) (by rw [ofNat_toNat (by omega)]; omega), ofNat_toNat (by omega)]
    have e : (((240 + c / 262144 : Nat) : Int) - 240) * 64 ^ 3 + (((0 * 64 + (((128 + c / 4096 % 64 : Nat) : Int) - 128)) * 64 + (((128 + c / 64 % 64 : Nat) : Int) - 128)) * 64 + (((128 + c % 64 : Nat) : Int) - 128)) = w := by omega
    simp only [tailV, e, if_true, hw]
    rw [if_neg (by omega)]
    rfl

/-- n bytes that may stand behind a first one: what they tell. -/
def tl : Nat → List UInt8 → Int → Int
  | 0, _, r => r
  | _ + 1, [], r => r
  | n + 1, b :: t, r => tl n t (r * 64 + (b.toNat - 128))
theorem tailV_true (s : ByteArray) : ∀ (n k : Nat) (r : Int), (tailV s n k r).2 = true → ∃ a u, a.length = n ∧ s.data.toList.drop k = a ++ u ∧ (∀ b ∈ a, 128 ≤ b.toNat ∧ b.toNat ≤ 191) ∧ (tailV s n k r).1 = tl n a r := by
  intro n
  induction n with
  | zero => intro k r h; exact ⟨[], _, rfl, rfl, fun b hb => by simp at hb, rfl⟩
  | succ n ih =>
    intro k r h
    cases hb : s[k]? with
    | none =>
      rw [tailV_n (fun b h => by rw [hb] at h; exact absurd h (by simp))] at h
      exact absurd h (by simp)
    | some b =>
      by_cases h1 : 128 ≤ b.toNat ∧ b.toNat ≤ 191
      · rw [tailV_s hb h1.1 h1.2] at h ⊢
        obtain ⟨a, u, e1, e2, e3, e4⟩ := ih _ _ h
        refine ⟨b :: a, u, by simp [e1], ?_, ?_, e4⟩
        · have hg := ba_get s k 0
          rw [Nat.add_zero, hb] at hg
          have : s.data.toList.drop k = b :: s.data.toList.drop (k + 1) := by
            cases hd : s.data.toList.drop k with
            | nil => rw [hd] at hg; simp at hg
            | cons x y =>
              rw [hd] at hg
              rw [← List.drop_drop, hd]
              simp at hg
              rw [hg]
              rfl
          rw [this, e2]
          rfl
        · intro x hx
          rcases List.mem_cons.1 hx with h | h
          · exact h ▸ h1
          · exact e3 x h
      · rw [tailV_n (fun b' h => by
          rw [hb] at h
          have := Option.some.inj h
          subst this
          omega)] at h
        exact absurd h (by simp)

theorem oneV_bad {s : ByteArray} {i : Nat} {t : List UInt8} (ht : bad t) (h : s.data.toList.drop i = t) : oneV s i = (0, 0) := by
  match t, ht, h with
  | [], ht, _ => exact absurd rfl ht.1
  | x :: t1, ht, h =>
  have hx := x.toNat_lt
  have g0 := ba_get s i 0
  rw [Nat.add_zero, h, List.getElem?_cons_zero] at g0
  have hd1 : s.data.toList.drop (i + 1) = t1 := by rw [← List.drop_drop, h]; rfl
  have key : ∀ (n : Nat) (r least : Int), oneN s i n r least = (0, 0) ∨ ∃ a u, a.length = n ∧ t1 = a ++ u ∧ (∀ b ∈ a, 128 ≤ b.toNat ∧ b.toNat ≤ 191) ∧ least ≤ r * 64 ^ n + tl n a 0 ∧ rScal (r * 64 ^ n + tl n a 0) = true := fun n r least => by
    unfold oneN
    split
    · rename_i h1
      obtain ⟨a, u, e1, e2, e3, e4⟩ := tailV_true s n (i + 1) 0 h1
      rw [e4]
      split
      · exact .inl rfl
      · split
        · rename_i h2 h3
          exact .inr ⟨a, u, e1, by rw [← hd1, e2], e3, by omega, h3⟩
        · exact .inl rfl
    · exact .inl rfl
  unfold oneV
  rw [g0]
  simp only
  split
  · rename_i h0
    exact absurd ⟨(x.toNat : Int), t1, (rScal_iff _).2 ⟨by omega, (valid_iff _).2 (by omega)⟩, by
      unfold encI encL
      rw [Int.toNat_natCast, if_pos (by omega)]
      simp⟩ ht.2
  · split
    · rename_i h1
      rcases key 1 (x.toNat - 192) 128 with hk | ⟨a, u, e1, e2, e3, e4, e5⟩
      · exact hk
      · match a, e1 with
        | [y], _ =>
        have hy := e3 y (by simp)
        simp only [tl] at e4 e5
        refine absurd ⟨_, u, e5, ?_⟩ ht.2
        rw [rScal_iff] at e5
        unfold encI encL
        have e6 : ((((x.toNat : Int) - 192) * 64 ^ 1 + (0 * 64 + ((y.toNat : Int) - 128))).toNat : Int) = ((x.toNat : Int) - 192) * 64 ^ 1 + (0 * 64 + ((y.toNat : Int) - 128)) := Int.toNat_of_nonneg e5.1
        generalize (((x.toNat : Int) - 192) * 64 ^ 1 + (0 * 64 + ((y.toNat : Int) - 128))).toNat = c at *
        rw [if_neg (by omega), if_pos (by omega), u8_eq (x := x) (by omega), u8_eq (x := y) (by omega), e2]
        rfl
    · split
      · rename_i h1
        rcases key 2 (x.toNat - 224) 2048 with hk | ⟨a, u, e1, e2, e3, e4, e5⟩
        · exact hk
        · match a, e1 with
          | [y, z], _ =>
          have hy := e3 y (by simp)
          have hz := e3 z (by simp)
          simp only [tl] at e4 e5
          refine absurd ⟨_, u, e5, ?_⟩ ht.2
          rw [rScal_iff] at e5
          unfold encI encL
          have e6 := Int.toNat_of_nonneg e5.1
          generalize (((x.toNat : Int) - 224) * 64 ^ 2 + ((0 * 64 + ((y.toNat : Int) - 128)) * 64 + ((z.toNat : Int) - 128))).toNat = c at *
          rw [if_neg (by omega), if_neg (by omega), if_pos (by omega), u8_eq (x := x) (by omega), u8_eq (x := y) (by omega), u8_eq (x := z) (by omega), e2]
          rfl
      · split
        · rename_i h1
          rcases key 3 (x.toNat - 240) 65536 with hk | ⟨a, u, e1, e2, e3, e4, e5⟩
          · exact hk
          · match a, e1 with
            | [y, z, v], _ =>
            have hy := e3 y (by simp)
            have hz := e3 z (by simp)
            have hv := e3 v (by simp)
            simp only [tl] at e4 e5
            refine absurd ⟨_, u, e5, ?_⟩ ht.2
            rw [rScal_iff] at e5
            unfold encI encL
            have e6 := Int.toNat_of_nonneg e5.1
            generalize (((x.toNat : Int) - 240) * 64 ^ 3 + (((0 * 64 + ((y.toNat : Int) - 128)) * 64 + ((z.toNat : Int) - 128)) * 64 + ((v.toNat : Int) - 128))).toNat = c at *
            rw [if_neg (by omega), if_neg (by omega), if_neg (by omega), u8_eq (x := x) (by omega), u8_eq (x := y) (by omega), u8_eq (x := z) (by omega), u8_eq (x := v) (by omega), e2]
            rfl
        · rfl
end Go.Proofs.YtoadpaaghjomnaaDoor.Codes

set_option linter.unusedVariables false
set_option linter.unusedSimpArgs false
set_option maxRecDepth 100000
namespace Go.Proofs.YtoadpaaghjomnaaDoor.Codes
open Go Go.Deepv

def st37 (s : ByteArray) (acc : List Rn) (pos : Nat) : List DV := [.d (.str s), .d .undef, .d .undef, .ptr 0 0, .ptr 1 0, .row 4 (acc.map Rn.enc) 2, .d (.int .i64 pos)] ++ List.replicate 37 (.d .undef)
def ex37 (v : FV) (acc : List Rn) : List DV := [.d .undef, .d .undef, .d v, .ptr 0 0, .d .undef, .row 4 (acc.map Rn.enc) 2] ++ List.replicate 38 (.d .undef)
theorem enc_len {s : ByteArray} {pos : Nat} {t : List UInt8} (h : s.data.toList.drop pos = t) (h0 : t ≠ []) : pos + t.length = s.size := by
  have h1 : s.data.toList.length = s.size := Array.length_toList
  have h2 := drop_lt h h0
  have h3 := congrArg List.length h
  rw [List.length_drop, h1] at h3
  omega
theorem loop37 (s : ByteArray) (hs : s.size ≤ 16384) (t : List UInt8) (ht : t = [] ∨ bad t) :
    ∀ (ws : List Int) (pos : Nat) (l c : Int) (acc : List Rn), Sc ws → s.data.toList.drop pos = encLs ws ++ t → 0 ≤ l → l ≤ pos + 1 → 0 ≤ c → c ≤ pos + 1 → acc.length ≤ pos →
      ∃ W, L env 3 true H37L6 X37L6 B37L6 (st37 s acc pos) [faultB 0 0 0, walkB l c, rr 4 acc.length] =
        if t = [] then some (.exit 0, ex37 .undef (acc ++ place ws pos l c), [faultB 0 0 0, W, rr 4 (acc ++ place ws pos l c).length])
        else some (.ret, ex37 (.slice 4 []) (acc ++ place ws pos l c), [faultB 1 (advL l ws) (advC c ws), W, rr 4 (acc ++ place ws pos l c).length]) := by
  obtain ⟨K, hK⟩ : ∃ K, L env 3 true H37L6 X37L6 B37L6 = K := ⟨_, rfl⟩
  rw [hK]
  intro ws
  induction ws with
  | nil =>
    intro pos l c acc h1 h2 h3 h4 h5 h6 h7
    refine ⟨walkB l c, ?_⟩
    rw [show encLs [] ++ t = t from rfl] at h2
    rcases ht with ht | ht
    · subst ht
      have hp : ¬ (pos : Int) < s.size := by have := drop_ge h2; omega
      rw [L_round hK]
      simp -implicitDefEqProofs only [B37L6, st37, ex37, faultB, walkB, place, dbody, dexec, ostep, dop, ev, put, wants, dbin, dun, List.replicate, Nat.reduceAdd, Nat.reduceSub, Nat.reduceLT, Nat.reduceLeDiff, Nat.reduceMul, DV.cells, DV.flat, dload, DV.elems, reduceCtorEq, mask, DV.lows, DV.low, DV.coe, DV.isD, dresults, dresult, withHeap, lowCells, LSt.isReady, srcElems, DV.int, DV.mkAgg, same, mnmx2, nilness, bound, fill, flatCells, Int.reduceLE, Int.reduceLT, Int.reduceAdd, Int.reduceSub, Int.reduceNeg, Int.reduceEq, Int.reduceBEq, Int.reduceBNe, Nat.reduceBEq, Nat.reduceEqDiff, Int.reduceToNat, allocCells, stp, hp]
    · have hp0 := drop_lt h2 ht.1
      have hp : (pos : Int) < s.size := by omega
      have e1 := fun h => one2_ok s pos hp0 (by omega) h
      rw [oneV_bad ht h2] at e1
      have z0 : ((0 : Nat) : Int) = 0 := rfl
      simp only [z0] at e1
      rw [if_neg ht.1, L_round hK]
      simp -implicitDefEqProofs only [B37L6, st37, ex37, faultB, walkB, place, advL, advC, List.foldl_nil, dbody, dexec, ostep, dop, ev, put, wants, dbin, dun, List.replicate, Nat.reduceAdd, Nat.reduceSub, Nat.reduceLT, Nat.reduceLeDiff, Nat.reduceMul, DV.cells, DV.flat, dload, DV.elems, reduceCtorEq, mask, DV.lows, DV.low, DV.coe, DV.isD, dresults, dresult, withHeap, lowCells, LSt.isReady, srcElems, DV.int, DV.mkAgg, same, mnmx2, nilness, bound, fill, flatCells, Int.reduceLE, Int.reduceLT, Int.reduceAdd, Int.reduceSub, Int.reduceNeg, Int.reduceEq, Int.reduceBEq, Int.reduceBNe, Nat.reduceBEq, Nat.reduceEqDiff, Int.reduceToNat, allocCells, stp, hp, e1, putCells]
  | cons w ws ih =>
    intro pos l c acc h1 h2 h3 h4 h5 h6 h7
    have hw := h1 w List.mem_cons_self
    rw [encLs_cons] at h2
    have hp0 := drop_lt h2 (encI_ne _ _)
    have hp : (pos : Int) < s.size := by omega
    have e1 := fun h => one2_ok s pos hp0 (by omega) h
    rw [oneV_good hw h2] at e1
    have hn := encI_pos w
    have hnx := drop_next h2
    have hle := enc_len h2 (encI_ne _ _)
    rw [List.length_append] at hle
    rw [show place (w :: ws) pos l c = ⟨w, pos, l, c⟩ :: place ws (pos + (encI w).length) (nxtL l w) (nxtC c w) from rfl,
      show advL l (w :: ws) = advL (nxtL l w) ws from rfl, show advC c (w :: ws) = advC (nxtC c w) ws from rfl]
    generalize (encI w).length = n at *
    obtain ⟨W, ih⟩ := ih (pos + n) (nxtL l w) (nxtC c w) (acc ++ [⟨w, pos, l, c⟩]) (fun x hx => h1 x (List.mem_cons_of_mem _ hx)) hnx (by unfold nxtL; split <;> omega) (by unfold nxtL; split <;> omega) (by unfold nxtC; split <;> omega) (by unfold nxtC; split <;> omega) (by simp; omega)
    refine ⟨W, ?_⟩
    have e4 := fun h => next_ok l c w ⟨by omega, by omega⟩ ⟨by omega, by omega⟩ h
    have e5 : appRow 4 32 (.row 4 (acc.map Rn.enc) 2) (some (4, [Rn.enc ⟨w, pos, l, c⟩])) [faultB 0 0 0, walkB l c, rr 4 acc.length] = some (.val (.row 4 (acc.map Rn.enc ++ [Rn.enc ⟨w, pos, l, c⟩]) 2) ([faultB 0 0 0, walkB l c, rr 4 acc.length].set 2 (rr 4 ((acc.map Rn.enc).length + 1)))) :=
      appRow_one (by simp) (by simp; omega) (by decide) (by decide) 4 rfl
    simp only [List.length_map, List.set_cons_succ, List.set_cons_zero] at e5
    have w1 : IntKind.i64.wrap ((pos : Int) + (n : Nat)) = ((pos + n : Nat) : Int) := by rw [wrap_i64 (by omega) (by omega)]; simp
    have n0 : ((n : Int) == 0) = false := by simp; omega
    have len1 : (acc ++ [(⟨w, pos, l, c⟩ : Rn)]).length = acc.length + 1 := by simp
    have map1 : (acc ++ [(⟨w, pos, l, c⟩ : Rn)]).map Rn.enc = acc.map Rn.enc ++ [Rn.enc ⟨w, pos, l, c⟩] := by simp
    have app1 : acc ++ (⟨w, pos, l, c⟩ : Rn) :: place ws (pos + n) (nxtL l w) (nxtC c w) = acc ++ [(⟨w, pos, l, c⟩ : Rn)] ++ place ws (pos + n) (nxtL l w) (nxtC c w) := by simp
    rw [app1]
    generalize (if t = [] then some (DExit.exit 0, ex37 .undef (acc ++ [(⟨w, pos, l, c⟩ : Rn)] ++ place ws (pos + n) (nxtL l w) (nxtC c w)), [faultB 0 0 0, W, rr 4 (acc ++ [(⟨w, pos, l, c⟩ : Rn)] ++ place ws (pos + n) (nxtL l w) (nxtC c w)).length])
        else some (DExit.ret, ex37 (.slice 4 []) (acc ++ [(⟨w, pos, l, c⟩ : Rn)] ++ place ws (pos + n) (nxtL l w) (nxtC c w)), [faultB 1 (advL (nxtL l w) ws) (advC (nxtC c w) ws), W, rr 4 (acc ++ [(⟨w, pos, l, c⟩ : Rn)] ++ place ws (pos + n) (nxtL l w) (nxtC c w)).length])) = RHS at *
    simp only [st37, len1, map1, Rn.enc, List.replicate, List.cons_append, List.nil_append, walkB, faultB] at ih
    simp only [Rn.enc, walkB, faultB] at e5
    rw [L_round hK]
    simp -implicitDefEqProofs only [B37L6, st37, faultB, walkB, dbody, dexec, ostep, dop, ev, put, wants, dbin, dun, List.replicate, Nat.reduceAdd, Nat.reduceSub, Nat.reduceLT, Nat.reduceLeDiff, Nat.reduceMul, DV.cells, DV.flat, dload, DV.elems, reduceCtorEq, mask, DV.lows, DV.low, DV.coe, DV.isD, dresults, dresult, withHeap, lowCells, LSt.isReady, srcElems, DV.int, DV.mkAgg, same, mnmx2, nilness, bound, fill, flatCells, Int.reduceLE, Int.reduceLT, Int.reduceAdd, Int.reduceSub, Int.reduceNeg, Int.reduceEq, Int.reduceBEq, Int.reduceBNe, Nat.reduceBEq, Nat.reduceEqDiff, Int.reduceToNat, allocCells, stp, hp, e1, n0, w1, e4, e5, ih, putCells]

theorem rsplit_ok (s : ByteArray) (h : List Res) : D env 37 [.d (.str s)] h = some (.val (.d (splitV s)) h) := by
  rw [D_dat (F := A37) rfl rfl rfl rfl]
  unfold splitV
  by_cases hs : s.size ≤ 16384
  · have h1 : ¬ (16384 : Int) < s.size := by omega
    rw [if_pos hs]
    have r0 : rr 4 ([] : List Rn).length = .nilrow := rfl
    have z0 : ((0 : Nat) : Int) = 0 := rfl
    obtain ⟨ws, hsc, hB | ⟨t, ht, hB⟩⟩ := text_cases _ s.data.toList (Nat.le_refl _)
    · obtain ⟨W, hl⟩ := loop37 s hs [] (.inl rfl) ws 0 1 1 [] hsc (by simpa using hB) (by omega) (by omega) (by omega) (by omega) (by simp)
      rw [spl_all hsc hB]
      rw [r0] at hl
      simp only [st37, ex37, walkB, faultB, List.map_nil, List.replicate, List.cons_append, List.nil_append, if_true, z0] at hl
      simp -implicitDefEqProofs only [A37, B37, dbody, dexec, ostep, dop, ev, put, wants, dbin, dun, List.replicate, Nat.reduceAdd, Nat.reduceSub, Nat.reduceLT, Nat.reduceLeDiff, Nat.reduceMul, DV.cells, DV.flat, dload, DV.elems, reduceCtorEq, mask, DV.lows, DV.low, DV.coe, DV.isD, dresults, dresult, withHeap, lowCells, LSt.isReady, srcElems, DV.int, DV.mkAgg, same, mnmx2, nilness, bound, fill, flatCells, Int.reduceLE, Int.reduceLT, Int.reduceAdd, Int.reduceSub, Int.reduceNeg, Int.reduceEq, Int.reduceBEq, Int.reduceBNe, Nat.reduceBEq, Nat.reduceEqDiff, Int.reduceToNat, allocCells, stp, h1, hl, putCells]
    · obtain ⟨W, hl⟩ := loop37 s hs t (.inr ht) ws 0 1 1 [] hsc (by simpa using hB) (by omega) (by omega) (by omega) (by omega) (by simp)
      have e := spl_all_bad hsc ht hB
      rw [if_neg ht.1, r0] at hl
      generalize spl s s.size 0 1 1 = x at *
      rcases x with ⟨x1, x2⟩
      simp only at e
      subst e
      simp only [st37, ex37, walkB, faultB, List.map_nil, List.replicate, List.cons_append, List.nil_append, z0] at hl
      simp -implicitDefEqProofs only [A37, B37, dbody, dexec, ostep, dop, ev, put, wants, dbin, dun, List.replicate, Nat.reduceAdd, Nat.reduceSub, Nat.reduceLT, Nat.reduceLeDiff, Nat.reduceMul, DV.cells, DV.flat, dload, DV.elems, reduceCtorEq, mask, DV.lows, DV.low, DV.coe, DV.isD, dresults, dresult, withHeap, lowCells, LSt.isReady, srcElems, DV.int, DV.mkAgg, same, mnmx2, nilness, bound, fill, flatCells, Int.reduceLE, Int.reduceLT, Int.reduceAdd, Int.reduceSub, Int.reduceNeg, Int.reduceEq, Int.reduceBEq, Int.reduceBNe, Nat.reduceBEq, Nat.reduceEqDiff, Int.reduceToNat, allocCells, stp, h1, hl, putCells]
  · have h1 : (16384 : Int) < s.size := by omega
    rw [if_neg hs]
    simp -implicitDefEqProofs only [A37, B37, dbody, dexec, ostep, dop, ev, put, wants, dbin, dun, List.replicate, Nat.reduceAdd, Nat.reduceSub, Nat.reduceLT, Nat.reduceLeDiff, Nat.reduceMul, DV.cells, DV.flat, dload, DV.elems, reduceCtorEq, mask, DV.lows, DV.low, DV.coe, DV.isD, dresults, dresult, withHeap, lowCells, LSt.isReady, srcElems, DV.int, DV.mkAgg, same, mnmx2, nilness, bound, fill, flatCells, Int.reduceLE, Int.reduceLT, Int.reduceAdd, Int.reduceSub, Int.reduceNeg, Int.reduceEq, Int.reduceBEq, Int.reduceBNe, Nat.reduceBEq, Nat.reduceEqDiff, Int.reduceToNat, allocCells, stp, h1, putCells]
end Go.Proofs.YtoadpaaghjomnaaDoor.Codes

set_option linter.unusedVariables false
set_option linter.unusedSimpArgs false
set_option maxRecDepth 100000
namespace Go.Proofs.YtoadpaaghjomnaaDoor.Codes
open Go Go.Deepv

def st40 (s : ByteArray) (pos : Nat) : List DV := [.d (.str s), .d (.int .i64 s.size), .d .undef, .d .undef, .ptr 0 0, .ptr 1 0, .d (.int .i64 pos)] ++ List.replicate 32 (.d .undef)
def ex40 : List DV := [.d .undef, .d .undef, .d .undef, .d .undef, .ptr 0 0, .ptr 1 0] ++ List.replicate 33 (.d .undef)
theorem loop40 (s : ByteArray) (hs : s.size ≤ 16384) :
    ∀ (ws : List Int) (pos : Nat) (l c : Int), Sc ws → s.data.toList.drop pos = encLs ws → 0 ≤ l → l ≤ pos + 1 → 0 ≤ c → c ≤ pos + 1 →
      L env 2 true H40L5 X40L5 B40L5 (st40 s pos) [walkB 0 0, walkB l c] = some (.exit 0, ex40, [walkB 0 0, walkB (advL l ws) (advC c ws)]) := by
  obtain ⟨K, hK⟩ : ∃ K, L env 2 true H40L5 X40L5 B40L5 = K := ⟨_, rfl⟩
  rw [hK]
  intro ws
  induction ws with
  | nil =>
    intro pos l c h1 h2 h3 h4 h5 h6
    have hp : ¬ (pos : Int) < s.size := by have := drop_ge h2; omega
    rw [L_round hK]
    simp -implicitDefEqProofs only [B40L5, st40, ex40, walkB, advL, advC, List.foldl_nil, dbody, dexec, ostep, dop, ev, put, wants, dbin, dun, List.replicate, Nat.reduceAdd, Nat.reduceSub, Nat.reduceLT, Nat.reduceLeDiff, Nat.reduceMul, DV.cells, DV.flat, dload, DV.elems, reduceCtorEq, mask, DV.lows, DV.low, DV.coe, DV.isD, dresults, dresult, withHeap, lowCells, LSt.isReady, srcElems, DV.int, DV.mkAgg, same, mnmx2, nilness, bound, fill, flatCells, Int.reduceLE, Int.reduceLT, Int.reduceAdd, Int.reduceSub, Int.reduceNeg, Int.reduceEq, Int.reduceBEq, Int.reduceBNe, Nat.reduceBEq, Nat.reduceEqDiff, Int.reduceToNat, allocCells, stp, hp]
  | cons w ws ih =>
    intro pos l c h1 h2 h3 h4 h5 h6
    have hw := h1 w List.mem_cons_self
    rw [show encLs (w :: ws) = encI w ++ encLs ws from rfl] at h2
    have hp0 := drop_lt h2 (encI_ne _ _)
    have hp : (pos : Int) < s.size := by omega
    have e1 := fun h => one2_ok s pos hp0 (by omega) h
    rw [oneV_good hw h2] at e1
    have hn := encI_pos w
    have hnx := drop_next h2
    have hle := enc_len h2 (encI_ne _ _)
    rw [List.length_append] at hle
    rw [show advL l (w :: ws) = advL (nxtL l w) ws from rfl, show advC c (w :: ws) = advC (nxtC c w) ws from rfl]
    generalize (encI w).length = n at *
    have ih := ih (pos + n) (nxtL l w) (nxtC c w) (fun x hx => h1 x (List.mem_cons_of_mem _ hx)) hnx (by unfold nxtL; split <;> omega) (by unfold nxtL; split <;> omega) (by unfold nxtC; split <;> omega) (by unfold nxtC; split <;> omega)
    have e4 := fun h => next_ok l c w ⟨by omega, by omega⟩ ⟨by omega, by omega⟩ h
    have w1 : IntKind.i64.wrap ((pos : Int) + (n : Nat)) = ((pos + n : Nat) : Int) := by rw [wrap_i64 (by omega) (by omega)]; simp
    have n0 : ((n : Int) == 0) = false := by simp; omega
    have off : ¬ (s.size : Int) < ((pos + n : Nat) : Int) := by omega
    simp only [st40, List.replicate, List.cons_append, List.nil_append, walkB] at ih
    simp only [walkB]
    rw [L_round hK]
    simp -implicitDefEqProofs only [B40L5, st40, walkB, dbody, dexec, ostep, dop, ev, put, wants, dbin, dun, List.replicate, Nat.reduceAdd, Nat.reduceSub, Nat.reduceLT, Nat.reduceLeDiff, Nat.reduceMul, DV.cells, DV.flat, dload, DV.elems, reduceCtorEq, mask, DV.lows, DV.low, DV.coe, DV.isD, dresults, dresult, withHeap, lowCells, LSt.isReady, srcElems, DV.int, DV.mkAgg, same, mnmx2, nilness, bound, fill, flatCells, Int.reduceLE, Int.reduceLT, Int.reduceAdd, Int.reduceSub, Int.reduceNeg, Int.reduceEq, Int.reduceBEq, Int.reduceBNe, Nat.reduceBEq, Nat.reduceEqDiff, Int.reduceToNat, allocCells, stp, hp, e1, n0, w1, off, e4, ih, putCells]

theorem rplace_ok (s : ByteArray) (ws : List Int) (hs : s.size ≤ 16384) (hsc : Sc ws) (hB : s.data.toList = encLs ws) (h : List Res) :
    D env 40 [.d (.str s), .d (.int .i64 s.size)] h = some (.val (.d (.agg [.int .i64 (advL 1 ws), .int .i64 (advC 1 ws)])) h) := by
  rw [D_dat (F := A40) rfl rfl rfl rfl]
  have h1 : ¬ (16384 : Int) < s.size := by omega
  have z0 : ((0 : Nat) : Int) = 0 := rfl
  have hl := loop40 s hs ws 0 1 1 hsc (by simpa using hB) (by omega) (by omega) (by omega) (by omega)
  simp only [st40, ex40, walkB, List.replicate, List.cons_append, List.nil_append, z0] at hl
  simp -implicitDefEqProofs only [A40, B40, dbody, dexec, ostep, dop, ev, put, wants, dbin, dun, List.replicate, Nat.reduceAdd, Nat.reduceSub, Nat.reduceLT, Nat.reduceLeDiff, Nat.reduceMul, DV.cells, DV.flat, dload, DV.elems, reduceCtorEq, mask, DV.lows, DV.low, DV.coe, DV.isD, dresults, dresult, withHeap, lowCells, LSt.isReady, srcElems, DV.int, DV.mkAgg, same, mnmx2, nilness, bound, fill, flatCells, Int.reduceLE, Int.reduceLT, Int.reduceAdd, Int.reduceSub, Int.reduceNeg, Int.reduceEq, Int.reduceBEq, Int.reduceBNe, Nat.reduceBEq, Nat.reduceEqDiff, Int.reduceToNat, allocCells, stp, h1, hl, putCells]

def st36 (s : ByteArray) (last : Int) : List DV := [.d (.str s), .d (.int .i64 s.size), .d .undef, .d .undef, .ptr 0 0, .ptr 1 0, .d (.int .i32 last), .d .undef, .d .undef, .d .undef, .d .undef, .d .undef, .d .undef, .d .undef, .d .undef, .ptr 2 0] ++ List.replicate 32 (.d .undef)
def ex36 (s : ByteArray) (last : Int) : List DV := [.d (.str s), .d (.int .i64 s.size), .d .undef, .d .undef, .ptr 0 0, .ptr 1 0, .d (.int .i32 last)] ++ List.replicate 41 (.d .undef)
theorem loop36 (s : ByteArray) (hs : s.size ≤ 16384) :
    ∀ (ws : List Int) (pos : Nat) (l c l' c' last : Int), Sc ws → s.data.toList.drop pos = encLs ws → (pos = 0 → l' = l ∧ c' = c) → (pos ≠ 0 → nxtL l' last = l ∧ nxtC c' last = c) → 0 ≤ l' → l' ≤ pos + 1 → 0 ≤ c' → c' ≤ pos + 1 → pos ≤ s.size →
      ∃ l2 c2 last2 I, small l2 ∧ small c2 ∧ (pos + (encLs ws).length = 0 → l2 = advL l ws ∧ c2 = advC c ws) ∧ (pos + (encLs ws).length ≠ 0 → nxtL l2 last2 = advL l ws ∧ nxtC c2 last2 = advC c ws) ∧
      L env 3 true H36L6 X36L6 B36L6 (st36 s last) [walkB 0 0, walkB l' c', .iter s pos] = some (.exit 0, ex36 s last2, [walkB 0 0, walkB l2 c2, I]) := by
  obtain ⟨K, hK⟩ : ∃ K, L env 3 true H36L6 X36L6 B36L6 = K := ⟨_, rfl⟩
  rw [hK]
  intro ws
  induction ws with
  | nil =>
    intro pos l c l' c' last h1 h2 h3 h4 h5 h6 h7 h8 h9
    have hp := drop_ge h2
    · refine ⟨l', c', last, .iter s pos, ⟨h5, by omega⟩, ⟨h7, by omega⟩, fun h => h3 (by simpa [encLs] using h), fun h => h4 (by simpa [encLs] using h), ?_⟩
      rw [L_round hK]
      simp -implicitDefEqProofs only [B36L6, st36, ex36, walkB, dbody, dexec, ostep, dop, ev, put, wants, dbin, dun, List.replicate, Nat.reduceAdd, Nat.reduceSub, Nat.reduceLT, Nat.reduceLeDiff, Nat.reduceMul, DV.cells, DV.flat, dload, DV.elems, reduceCtorEq, mask, DV.lows, DV.low, DV.coe, DV.isD, dresults, dresult, withHeap, lowCells, LSt.isReady, srcElems, DV.int, DV.mkAgg, same, mnmx2, nilness, bound, fill, flatCells, Int.reduceLE, Int.reduceLT, Int.reduceAdd, Int.reduceSub, Int.reduceNeg, Int.reduceEq, Int.reduceBEq, Int.reduceBNe, Nat.reduceBEq, Nat.reduceEqDiff, Int.reduceToNat, allocCells, stp, hp]
  | cons w ws ih =>
    intro pos l c l' c' last h1 h2 h3 h4 h5 h6 h7 h8 h9
    have hw := h1 w List.mem_cons_self
    rw [show encLs (w :: ws) = encI w ++ encLs ws from rfl] at h2 ⊢
    have hle := enc_len h2 (encI_ne _ _)
    rw [List.length_append] at hle
    have hp := drop_lt h2 (encI_ne _ _)
    have hd := dec_good hw h2
    have hd1 : (Utf8.decode s pos).1 = w.toNat := by rw [hd]
    have hd2 : (Utf8.decode s pos).2 = (encI w).length := by rw [hd]
    have hcast : ((w.toNat : Nat) : Int) = w := Int.toNat_of_nonneg ((rScal_iff w).1 hw).1
    have hn := encI_pos w
    have hnx := drop_next h2
    rw [show advL l (w :: ws) = advL (nxtL l w) ws from rfl, show advC c (w :: ws) = advC (nxtC c w) ws from rfl]
    rw [List.length_append]
    generalize (encI w).length = n at *
    have hs' : Sc ws := fun x hx => h1 x (List.mem_cons_of_mem _ hx)
    by_cases hp0 : pos = 0
    · obtain ⟨l2, c2, last2, I, g1, g2, g3, g4, ih⟩ := ih (pos + n) (nxtL l w) (nxtC c w) l' c' w hs' hnx (fun h => by omega) (fun _ => by rw [(h3 hp0).1, (h3 hp0).2]; exact ⟨rfl, rfl⟩) h5 (by omega) h7 (by omega) (by omega)
      refine ⟨l2, c2, last2, I, g1, g2, fun h => by omega, fun h => g4 (by omega), ?_⟩
      have hp1 : ¬ (0 : Int) < (pos : Int) := by omega
      simp only [st36, List.replicate, List.cons_append, List.nil_append, walkB] at ih
      simp only [walkB]
      rw [L_round hK]
      simp -implicitDefEqProofs only [B36L6, st36, walkB, dbody, dexec, ostep, dop, ev, put, wants, dbin, dun, List.replicate, Nat.reduceAdd, Nat.reduceSub, Nat.reduceLT, Nat.reduceLeDiff, Nat.reduceMul, DV.cells, DV.flat, dload, DV.elems, reduceCtorEq, mask, DV.lows, DV.low, DV.coe, DV.isD, dresults, dresult, withHeap, lowCells, LSt.isReady, srcElems, DV.int, DV.mkAgg, same, mnmx2, nilness, bound, fill, flatCells, Int.reduceLE, Int.reduceLT, Int.reduceAdd, Int.reduceSub, Int.reduceNeg, Int.reduceEq, Int.reduceBEq, Int.reduceBNe, Nat.reduceBEq, Nat.reduceEqDiff, Int.reduceToNat, allocCells, stp, hp, hd1, hd2, hcast, hp1, ih, putCells]
    · obtain ⟨e1, e2⟩ := h4 hp0
      have hsm : small l' ∧ small c' := ⟨⟨h5, by omega⟩, ⟨h7, by omega⟩⟩
      obtain ⟨l2, c2, last2, I, g1, g2, g3, g4, ih⟩ := ih (pos + n) (nxtL l w) (nxtC c w) (nxtL l' last) (nxtC c' last) w hs' hnx (fun h => by omega) (fun _ => by rw [e1, e2]; exact ⟨rfl, rfl⟩) (by unfold nxtL; split <;> omega) (by unfold nxtL; split <;> omega) (by unfold nxtC; split <;> omega) (by unfold nxtC; split <;> omega) (by omega)
      refine ⟨l2, c2, last2, I, g1, g2, fun h => by omega, fun h => g4 (by omega), ?_⟩
      have hp1 : (0 : Int) < (pos : Int) := by omega
      have hp2 : ¬ (s.size : Int) < (pos : Int) := by omega
      have e4 := past_ok (h := [walkB 0 0, walkB l' c', .iter s (pos + n)]) (id := 1) (l := l') (c := c') rfl hsm.1 hsm.2 last
      simp only [st36, List.replicate, List.cons_append, List.nil_append, walkB] at ih
      simp only [walkB, List.set_cons_succ, List.set_cons_zero] at e4 ⊢
      rw [L_round hK]
      simp -implicitDefEqProofs only [B36L6, st36, walkB, dbody, dexec, ostep, dop, ev, put, wants, dbin, dun, List.replicate, Nat.reduceAdd, Nat.reduceSub, Nat.reduceLT, Nat.reduceLeDiff, Nat.reduceMul, DV.cells, DV.flat, dload, DV.elems, reduceCtorEq, mask, DV.lows, DV.low, DV.coe, DV.isD, dresults, dresult, withHeap, lowCells, LSt.isReady, srcElems, DV.int, DV.mkAgg, same, mnmx2, nilness, bound, fill, flatCells, Int.reduceLE, Int.reduceLT, Int.reduceAdd, Int.reduceSub, Int.reduceNeg, Int.reduceEq, Int.reduceBEq, Int.reduceBNe, Nat.reduceBEq, Nat.reduceEqDiff, Int.reduceToNat, allocCells, stp, hp, hd1, hd2, hcast, hp1, hp2, e4, ih, putCells]

theorem place_ok (s : ByteArray) (ws : List Int) (hs : s.size ≤ 16384) (hsc : Sc ws) (hB : s.data.toList = encLs ws) (h : List Res) :
    D env 36 [.d (.str s), .d (.int .i64 s.size)] h = some (.val (.d (.agg [.int .i64 (advL 1 ws), .int .i64 (advC 1 ws)])) h) := by
  rw [D_dat (F := A36) rfl rfl rfl rfl]
  have h1 : ¬ (16384 : Int) < s.size := by omega
  have z0 : ((0 : Nat) : Int) = 0 := rfl
  have eb := fun h => begun_ok h
  obtain ⟨l2, c2, last2, I, g1, g2, g3, g4, hl⟩ := loop36 s hs ws 0 1 1 1 1 0 hsc (by simpa using hB) (fun _ => ⟨rfl, rfl⟩) (fun h => absurd rfl h) (by omega) (by omega) (by omega) (by omega) (by omega)
  have hlen : s.data.toList.length = s.size := Array.length_toList
  rw [hB] at hlen
  simp only [st36, ex36, walkB, List.replicate, List.cons_append, List.nil_append, z0] at hl
  have hem : (⟨#[]⟩ : ByteArray).toList = [] := by rw [ByteArray.toList_eq]
  have hsl : s.toList = encLs ws := by rw [ByteArray.toList_eq, hB]
  by_cases h0 : (encLs ws).length = 0
  · obtain ⟨q1, q2⟩ := g3 (by omega)
    have hnil : encLs ws = [] := List.length_eq_zero_iff.1 h0
    rw [← q1, ← q2]
    have ee : (s.toList == (⟨#[]⟩ : ByteArray).toList) = true := by rw [hem, hsl, hnil]; rfl
    simp -implicitDefEqProofs only [A36, B36, dbody, dexec, ostep, dop, ev, put, wants, dbin, dun, List.replicate, Nat.reduceAdd, Nat.reduceSub, Nat.reduceLT, Nat.reduceLeDiff, Nat.reduceMul, DV.cells, DV.flat, dload, DV.elems, reduceCtorEq, mask, DV.lows, DV.low, DV.coe, DV.isD, dresults, dresult, withHeap, lowCells, LSt.isReady, srcElems, DV.int, DV.mkAgg, same, mnmx2, nilness, bound, fill, flatCells, Int.reduceLE, Int.reduceLT, Int.reduceAdd, Int.reduceSub, Int.reduceNeg, Int.reduceEq, Int.reduceBEq, Int.reduceBNe, Nat.reduceBEq, Nat.reduceEqDiff, Int.reduceToNat, allocCells, stp, eb, h1, hl, ee, putCells]
  · obtain ⟨q1, q2⟩ := g4 (by omega)
    rw [← q1, ← q2]
    have ee : (s.toList == (⟨#[]⟩ : ByteArray).toList) = false := by
      rw [hem, hsl]
      cases hx : encLs ws with
      | nil => rw [hx] at h0; exact absurd rfl h0
      | cons x y => rfl
    have e4 := past_ok (h := [walkB 0 0, walkB l2 c2, I]) (id := 1) (l := l2) (c := c2) rfl g1 g2 last2
    simp only [walkB, List.set_cons_succ, List.set_cons_zero] at e4
    have hge : (s.size : Int) ≤ s.size := Int.le_refl _
    simp -implicitDefEqProofs only [A36, B36, dbody, dexec, ostep, dop, ev, put, wants, dbin, dun, List.replicate, Nat.reduceAdd, Nat.reduceSub, Nat.reduceLT, Nat.reduceLeDiff, Nat.reduceMul, DV.cells, DV.flat, dload, DV.elems, reduceCtorEq, mask, DV.lows, DV.low, DV.coe, DV.isD, dresults, dresult, withHeap, lowCells, LSt.isReady, srcElems, DV.int, DV.mkAgg, same, mnmx2, nilness, bound, fill, flatCells, Int.reduceLE, Int.reduceLT, Int.reduceAdd, Int.reduceSub, Int.reduceNeg, Int.reduceEq, Int.reduceBEq, Int.reduceBNe, Nat.reduceBEq, Nat.reduceEqDiff, Int.reduceToNat, allocCells, stp, eb, h1, hl, ee, e4, hge, putCells]
end Go.Proofs.YtoadpaaghjomnaaDoor.Codes
