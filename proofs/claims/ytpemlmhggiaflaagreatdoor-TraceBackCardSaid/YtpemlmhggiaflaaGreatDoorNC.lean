/-
  The runes of a list of bytes; A text's runes with their places, over lists of runes; The document's One over lists of bytes; The document's Split: the same runes as the program's; The place of a text's end, in both; The iterator that takes runes of a class; Ranges over the iterator; blanks and remarks are passed over; Blanks and remarks are passed over; A rune's bytes are appended
  Conditions: none.
-/
import Derived.Test.YtpemlmhggiaflaaGreatDoorNB
set_option linter.unusedVariables false
set_option linter.unusedSimpArgs false
set_option maxRecDepth 100000
namespace Go.Proofs.YtpemlmhggiaflaaGreatDoor.Codes
open Go Go.Deepv
def b4 (l : List UInt8) (k : Nat) : Nat := (l.getD k 0).toNat
def cont (l : List UInt8) (k : Nat) : Bool := decide (k < l.length) && b4 l k / 64 == 2
def decL (l : List UInt8) : Nat × Nat :=
 if b4 l 0 < 0x80 then (b4 l 0, 1)
 else if b4 l 0 / 32 == 6 && cont l 1 then
  if (b4 l 0 % 32) * 64 + b4 l 1 % 64 ≥ 0x80 then ((b4 l 0 % 32) * 64 + b4 l 1 % 64, 2) else (65533, 1)
 else if b4 l 0 / 16 == 14 && cont l 1 && cont l 2 then
  if (b4 l 0 % 16) * 4096 + (b4 l 1 % 64) * 64 + b4 l 2 % 64 ≥ 0x800 && Utf8.valid ((b4 l 0 % 16) * 4096 + (b4 l 1 % 64) * 64 + b4 l 2 % 64 : Nat) then ((b4 l 0 % 16) * 4096 + (b4 l 1 % 64) * 64 + b4 l 2 % 64, 3) else (65533, 1)
 else if b4 l 0 / 8 == 30 && cont l 1 && cont l 2 && cont l 3 then
  if (b4 l 0 % 8) * 262144 + (b4 l 1 % 64) * 4096 + (b4 l 2 % 64) * 64 + b4 l 3 % 64 ≥ 0x10000 && Utf8.valid ((b4 l 0 % 8) * 262144 + (b4 l 1 % 64) * 4096 + (b4 l 2 % 64) * 64 + b4 l 3 % 64 : Nat) then ((b4 l 0 % 8) * 262144 + (b4 l 1 % 64) * 4096 + (b4 l 2 % 64) * 64 + b4 l 3 % 64, 4) else (65533, 1)
 else (65533, 1)
theorem get_b4 (s : ByteArray) (i k : Nat) : (s.get! (i + k)).toNat = b4 (s.data.toList.drop i) k := by
 unfold b4 ByteArray.get!
 simp [List.getD_eq_getElem?_getD, List.getElem?_drop, Array.getElem!_eq_getD, Array.getD_eq_getD_getElem?]
 rfl
theorem decode_decL (s : ByteArray) (i : Nat) : Utf8.decode s i = decL (s.data.toList.drop i) := by
 have hc : ∀ k, (decide (i + k < s.size) && b4 (s.data.toList.drop i) k / 64 == 2) = cont (s.data.toList.drop i) k := fun k => by
  unfold cont
  have e : s.data.toList.length = s.size := Array.length_toList
  have : decide (i + k < s.size) = decide (k < (s.data.toList.drop i).length) := decide_eq_decide.2 (by rw [List.length_drop, e]; omega)
  rw [this]
 unfold Utf8.decode decL
 simp only [get_b4]
 simp only [hc]
 rfl
def encL (c : Nat) : List UInt8 :=
 if c < 0x80 then [UInt8.ofNat c]
 else if c < 0x800 then [UInt8.ofNat (0xC0 + c / 64), UInt8.ofNat (0x80 + c % 64)]
 else if c < 0x10000 then [UInt8.ofNat (0xE0 + c / 4096), UInt8.ofNat (0x80 + c / 64 % 64), UInt8.ofNat (0x80 + c % 64)]
 else [UInt8.ofNat (0xF0 + c / 262144), UInt8.ofNat (0x80 + c / 4096 % 64), UInt8.ofNat (0x80 + c / 64 % 64), UInt8.ofNat (0x80 + c % 64)]
theorem encode_encL {c : Nat} (h : Utf8.valid c = true) : (Utf8.encode c).data.toList = encL c := by
 unfold Utf8.encode encL
 simp only [h, if_true, Int.toNat_natCast]
 split
 ·rfl
 ·split
  ·rfl
  ·split <;> rfl
theorem valid_iff (c : Nat) : Utf8.valid c = true ↔ c < 0xD800 ∨ (0xE000 ≤ c ∧ c ≤ 0x10FFFF) := by
 unfold Utf8.valid
 simp only [Bool.or_eq_true, Bool.and_eq_true, decide_eq_true_eq]
 omega
theorem b4_0 (x : UInt8) (t : List UInt8) : b4 (x :: t) 0 = x.toNat := rfl
theorem b4_s (x : UInt8) (t : List UInt8) (k : Nat) : b4 (x :: t) (k + 1) = b4 t k := rfl
theorem ofNat_toNat {n : Nat} (h : n < 256) : (UInt8.ofNat n).toNat = n := by simp; omega
theorem decL_encL {c : Nat} (h : Utf8.valid c = true) (t : List UInt8) : decL (encL c ++ t) = (c, (encL c).length) := by
 have hv := (valid_iff c).1 h
 unfold encL
 split
 ·rename_i h0
  unfold decL
  have : b4 ([UInt8.ofNat c] ++ t) 0 = c := by rw [List.singleton_append, b4_0, ofNat_toNat (by omega)]
  rw [this, if_pos h0]
  rfl
 ·rename_i h0
  split
  ·rename_i h1
   have e0 : b4 ([UInt8.ofNat (0xC0 + c / 64), UInt8.ofNat (0x80 + c % 64)] ++ t) 0 = 0xC0 + c / 64 := by simp only [List.cons_append, b4_0]; exact ofNat_toNat (by omega)
   have e1 : b4 ([UInt8.ofNat (0xC0 + c / 64), UInt8.ofNat (0x80 + c % 64)] ++ t) 1 = 0x80 + c % 64 := by simp only [List.cons_append, b4_s, b4_0]; exact ofNat_toNat (by omega)
   have c1 : cont ([UInt8.ofNat (0xC0 + c / 64), UInt8.ofNat (0x80 + c % 64)] ++ t) 1 = true := by
    unfold cont; rw [e1]; simp; omega
   unfold decL
   rw [e0, e1, c1]
   have a1 : ¬ (0xC0 + c / 64 < 0x80) := by omega
   have a2 : (0xC0 + c / 64) / 32 = 6 := by omega
   have a3 : (0xC0 + c / 64) % 32 * 64 + (0x80 + c % 64) % 64 = c := by omega
   simp only [a1, a2, a3, if_false, beq_self_eq_true, Bool.and_self, if_true, List.length_cons, List.length_nil]
   rw [if_pos (by omega)]
  ·rename_i h1
   split
   ·rename_i h2
    have e0 : b4 ([UInt8.ofNat (0xE0 + c / 4096), UInt8.ofNat (0x80 + c / 64 % 64), UInt8.ofNat (0x80 + c % 64)] ++ t) 0 = 0xE0 + c / 4096 := by simp only [List.cons_append, b4_0]; exact ofNat_toNat (by omega)
    have e1 : b4 ([UInt8.ofNat (0xE0 + c / 4096), UInt8.ofNat (0x80 + c / 64 % 64), UInt8.ofNat (0x80 + c % 64)] ++ t) 1 = 0x80 + c / 64 % 64 := by simp only [List.cons_append, b4_s, b4_0]; exact ofNat_toNat (by omega)
    have e2 : b4 ([UInt8.ofNat (0xE0 + c / 4096), UInt8.ofNat (0x80 + c / 64 % 64), UInt8.ofNat (0x80 + c % 64)] ++ t) 2 = 0x80 + c % 64 := by simp only [List.cons_append, b4_s, b4_0]; exact ofNat_toNat (by omega)
    have c1 : cont ([UInt8.ofNat (0xE0 + c / 4096), UInt8.ofNat (0x80 + c / 64 % 64), UInt8.ofNat (0x80 + c % 64)] ++ t) 1 = true := by
     unfold cont; rw [e1]; simp; omega
    have c2 : cont ([UInt8.ofNat (0xE0 + c / 4096), UInt8.ofNat (0x80 + c / 64 % 64), UInt8.ofNat (0x80 + c % 64)] ++ t) 2 = true := by
     unfold cont; rw [e2]; simp; omega
    unfold decL
    rw [e0, e1, e2, c1, c2]
    have a1 : ¬ (0xE0 + c / 4096 < 0x80) := by omega
    have a2 : ((0xE0 + c / 4096) / 32 == 6) = false := by simp; omega
    have a3 : (0xE0 + c / 4096) / 16 = 14 := by omega
    have a4 : (0xE0 + c / 4096) % 16 * 4096 + (0x80 + c / 64 % 64) % 64 * 64 + (0x80 + c % 64) % 64 = c := by omega
    simp only [a1, a2, a3, a4, h, if_false, beq_self_eq_true, Bool.and_self, Bool.and_true, Bool.false_and, Bool.false_eq_true, if_true, List.length_cons, List.length_nil, decide_eq_true_eq]
    rw [if_pos (by omega)]
   ·rename_i h2
    have e0 : b4 ([UInt8.ofNat (0xF0 + c / 262144), UInt8.ofNat (0x80 + c / 4096 % 64), UInt8.ofNat (0x80 + c / 64 % 64), UInt8.ofNat (0x80 + c % 64)] ++ t) 0 = 0xF0 + c / 262144 := by simp only [List.cons_append, b4_0]; exact ofNat_toNat (by omega)
    have e1 : b4 ([UInt8.ofNat (0xF0 + c / 262144), UInt8.ofNat (0x80 + c / 4096 % 64), UInt8.ofNat (0x80 + c / 64 % 64), UInt8.ofNat (0x80 + c % 64)] ++ t) 1 = 0x80 + c / 4096 % 64 := by simp only [List.cons_append, b4_s, b4_0]; exact ofNat_toNat (by omega)
    have e2 : b4 ([UInt8.ofNat (0xF0 + c / 262144), UInt8.ofNat (0x80 + c / 4096 % 64), UInt8.ofNat (0x80 + c / 64 % 64), UInt8.ofNat (0x80 + c % 64)] ++ t) 2 = 0x80 + c / 64 % 64 := by simp only [List.cons_append, b4_s, b4_0]; exact ofNat_toNat (by omega)
    have e3 : b4 ([UInt8.ofNat (0xF0 + c / 262144), UInt8.ofNat (0x80 + c / 4096 % 64), UInt8.ofNat (0x80 + c / 64 % 64), UInt8.ofNat (0x80 + c % 64)] ++ t) 3 = 0x80 + c % 64 := by simp only [List.cons_append, b4_s, b4_0]; exact ofNat_toNat (by omega)
    have c1 : cont ([UInt8.ofNat (0xF0 + c / 262144), UInt8.ofNat (0x80 + c / 4096 % 64), UInt8.ofNat (0x80 + c / 64 % 64), UInt8.ofNat (0x80 + c % 64)] ++ t) 1 = true := by
     unfold cont; rw [e1]; simp; omega
    have c2 : cont ([UInt8.ofNat (0xF0 + c / 262144), UInt8.ofNat (0x80 + c / 4096 % 64), UInt8.ofNat (0x80 + c / 64 % 64), UInt8.ofNat (0x80 + c % 64)] ++ t) 2 = true := by
     unfold cont; rw [e2]; simp; omega
    have c3 : cont ([UInt8.ofNat (0xF0 + c / 262144), UInt8.ofNat (0x80 + c / 4096 % 64), UInt8.ofNat (0x80 + c / 64 % 64), UInt8.ofNat (0x80 + c % 64)] ++ t) 3 = true := by
     unfold cont; rw [e3]; simp; omega
    unfold decL
    rw [e0, e1, e2, e3, c1, c2, c3]
    have a1 : ¬ (0xF0 + c / 262144 < 0x80) := by omega
    have a2 : ((0xF0 + c / 262144) / 32 == 6) = false := by simp; omega
    have a3 : ((0xF0 + c / 262144) / 16 == 14) = false := by simp; omega
    have a4 : (0xF0 + c / 262144) / 8 = 30 := by omega
    have a5 : (0xF0 + c / 262144) % 8 * 262144 + (0x80 + c / 4096 % 64) % 64 * 4096 + (0x80 + c / 64 % 64) % 64 * 64 + (0x80 + c % 64) % 64 = c := by omega
    simp only [a1, a2, a3, a4, a5, h, if_false, beq_self_eq_true, Bool.and_self, Bool.and_true, Bool.false_and, Bool.false_eq_true, if_true, List.length_cons, List.length_nil, decide_eq_true_eq]
    rw [if_pos (by omega)]
theorem u8_eq {n : Nat} {x : UInt8} (h : n = x.toNat) : UInt8.ofNat n = x := by subst h; simp
theorem decL_cases (l : List UInt8) (hl : l ≠ []) : decL l = (65533, 1) ∨ ∃ c t, Utf8.valid (c : Nat) = true ∧ l = encL c ++ t := by
 match l, hl with
 | x :: l1, _ =>
 unfold decL
 rw [b4_0 x l1]
 have hx := x.toNat_lt
 split
 ·rename_i h0
  refine .inr ⟨x.toNat, l1, (valid_iff _).2 (by omega), ?_⟩
  unfold encL
  rw [if_pos h0]
  simp
 ·split
  ·rename_i h0 h1
   split
   ·rename_i h2
    simp only [Bool.and_eq_true, beq_iff_eq, cont, decide_eq_true_eq] at h1
    match l1, h1, h2 with
    | y :: l2, h1, h2 =>
     have hy := y.toNat_lt
     simp only [b4_s, b4_0] at h1 h2 ⊢
     obtain ⟨h1, -, h3⟩ := h1
     refine .inr ⟨x.toNat % 32 * 64 + y.toNat % 64, l2, (valid_iff _).2 (by omega), ?_⟩
     unfold encL
     rw [if_neg (by omega), if_pos (by omega), u8_eq (x := x) (by omega), u8_eq (x := y) (by omega)]
     rfl
   ·exact .inl rfl
  ·rename_i h0 h1
   split
   ·rename_i h2
    split
    ·rename_i h3
     simp only [Bool.and_eq_true, beq_iff_eq, cont, decide_eq_true_eq] at h2 h3
     have hlen := h2.2.1
     rcases l1 with _ | ⟨y, _ | ⟨z, l2⟩⟩
     ·exact absurd hlen (by simp)
     ·exact absurd hlen (by simp)
     ·
      have hy := y.toNat_lt
      have hz := z.toNat_lt
      have f1 : b4 (x :: y :: z :: l2) 1 = y.toNat := rfl
      have f2 : b4 (x :: y :: z :: l2) 2 = z.toNat := rfl
      rw [f1, f2] at h2 h3
      obtain ⟨⟨h2, -, h4⟩, -, h5⟩ := h2
      obtain ⟨h3, h6⟩ := h3
      refine .inr ⟨x.toNat % 16 * 4096 + y.toNat % 64 * 64 + z.toNat % 64, l2, h6, ?_⟩
      unfold encL
      rw [if_neg (by omega), if_neg (by omega), if_pos (by omega), u8_eq (x := x) (by omega), u8_eq (x := y) (by omega), u8_eq (x := z) (by omega)]
      rfl
    ·exact .inl rfl
   ·rename_i h2
    split
    ·rename_i h3
     split
     ·rename_i h4
      simp only [Bool.and_eq_true, beq_iff_eq, cont, decide_eq_true_eq] at h3 h4
      have hlen := h3.2.1
      rcases l1 with _ | ⟨y, _ | ⟨z, _ | ⟨w, l2⟩⟩⟩
      ·exact absurd hlen (by simp)
      ·exact absurd hlen (by simp)
      ·exact absurd hlen (by simp)
      ·
       have hy := y.toNat_lt
       have hz := z.toNat_lt
       have hw := w.toNat_lt
       have f1 : b4 (x :: y :: z :: w :: l2) 1 = y.toNat := rfl
       have f2 : b4 (x :: y :: z :: w :: l2) 2 = z.toNat := rfl
       have f3 : b4 (x :: y :: z :: w :: l2) 3 = w.toNat := rfl
       rw [f1, f2, f3] at h3 h4
       obtain ⟨⟨⟨h3, -, h5⟩, -, h6⟩, -, h7⟩ := h3
       obtain ⟨h4, h8⟩ := h4
       refine .inr ⟨x.toNat % 8 * 262144 + y.toNat % 64 * 4096 + z.toNat % 64 * 64 + w.toNat % 64, l2, h8, ?_⟩
       have h9 := (valid_iff _).1 h8
       unfold encL
       rw [if_neg (by omega), if_neg (by omega), if_neg (by omega), u8_eq (x := x) (by omega), u8_eq (x := y) (by omega), u8_eq (x := z) (by omega), u8_eq (x := w) (by omega)]
       rfl
     ·exact .inl rfl
    ·exact .inl rfl
theorem not_good (t : List UInt8) : decL (239 :: 191 :: 189 :: t) = (65533, 3) := decL_encL (c := 65533) (by decide) t
end Go.Proofs.YtpemlmhggiaflaaGreatDoor.Codes
namespace Go.Proofs.YtpemlmhggiaflaaGreatDoor.Codes
open Go Go.Deepv
def encI (w : Int) : List UInt8 := encL w.toNat
def encLs : List Int → List UInt8
 | [] => []
 | w :: ws => encI w ++ encLs ws
def Sc (ws : List Int) : Prop := ∀ w ∈ ws, rScal w = true
def advL (l : Int) (ws : List Int) : Int := ws.foldl nxtL l
def advC (c : Int) (ws : List Int) : Int := ws.foldl nxtC c
def place : List Int → Nat → Int → Int → List Rn
 | [], _, _, _ => []
 | w :: ws, p, l, c => ⟨w, p, l, c⟩ :: place ws (p + (encI w).length) (nxtL l w) (nxtC c w)
def bad (t : List UInt8) : Prop := t ≠ [] ∧ ¬ ∃ w u, rScal w = true ∧ t = encI w ++ u
theorem rScal_iff (w : Int) : rScal w = true ↔ 0 ≤ w ∧ Utf8.valid ((w.toNat : Nat) : Int) = true := by
 rw [valid_iff]
 unfold rScal
 simp only [Bool.and_eq_true, Bool.or_eq_true, decide_eq_true_eq]
 omega
theorem encL_pos (c : Nat) : 1 ≤ (encL c).length := by
 unfold encL
 repeat' split
 all_goals simp
theorem encL_le (c : Nat) : (encL c).length ≤ 4 := by
 unfold encL
 repeat' split
 all_goals simp
theorem encI_pos (w : Int) : 1 ≤ (encI w).length := encL_pos _
theorem place_len : ∀ (ws : List Int) (p : Nat) (l c : Int), (place ws p l c).length = ws.length := by
 intro ws
 induction ws with
 | nil => intros; rfl
 | cons w ws ih => intro p l c; simp only [place, List.length_cons, ih]
theorem place_r : ∀ (ws : List Int) (p : Nat) (l c : Int), (place ws p l c).map Rn.r = ws := by
 intro ws
 induction ws with
 | nil => intros; rfl
 | cons w ws ih => intro p l c; simp only [place, List.map_cons, ih]
theorem text_cases : ∀ (n : Nat) (B : List UInt8), B.length ≤ n → ∃ ws, Sc ws ∧ (B = encLs ws ∨ ∃ t, bad t ∧ B = encLs ws ++ t) := by
 intro n
 induction n with
 | zero =>
  intro B h
  have : B = [] := List.length_eq_zero_iff.1 (by omega)
  exact ⟨[], fun w h => by simp at h, .inl this⟩
 | succ n ih =>
  intro B h
  by_cases h0 : B = []
  ·exact ⟨[], fun w h => by simp at h, .inl h0⟩
  ·by_cases h1 : ∃ w u, rScal w = true ∧ B = encI w ++ u
   ·obtain ⟨w, u, hw, hB⟩ := h1
    have hl : u.length ≤ n := by
     have := congrArg List.length hB
     have := encI_pos w
     rw [List.length_append] at *
     omega
    obtain ⟨ws, hs, hc⟩ := ih u hl
    refine ⟨w :: ws, fun x hx => ?_, ?_⟩
    ·rcases List.mem_cons.1 hx with h | h
     ·exact h ▸ hw
     ·exact hs x h
    ·rcases hc with hc | ⟨t, ht, hc⟩
     ·exact .inl (by rw [hB, hc]; rfl)
     ·exact .inr ⟨t, ht, by rw [hB, hc]; simp only [encLs, List.append_assoc]⟩
   ·exact ⟨[], fun w h => by simp at h, .inr ⟨B, ⟨h0, h1⟩, rfl⟩⟩
theorem dec_good {s : ByteArray} {pos : Nat} {w : Int} {u : List UInt8} (hw : rScal w = true) (h : s.data.toList.drop pos = encI w ++ u) : Utf8.decode s pos = (w.toNat, (encI w).length) := by
 rw [decode_decL, h]
 exact decL_encL ((rScal_iff w).1 hw).2 u
theorem bad_dec {t : List UInt8} (h : bad t) : decL t = (65533, 1) := by
 rcases decL_cases t h.1 with h1 | ⟨c, u, hc, hu⟩
 ·exact h1
 ·refine absurd ⟨(c : Int), u, (rScal_iff _).2 ⟨by omega, by rw [Int.toNat_natCast]; exact hc⟩, ?_⟩ h.2
  unfold encI
  rw [Int.toNat_natCast]
  exact hu
theorem drop_lt {s : ByteArray} {pos : Nat} {t : List UInt8} (h : s.data.toList.drop pos = t) (h0 : t ≠ []) : pos < s.size := by
 have h1 : s.data.toList.length = s.size := Array.length_toList
 have h2 := congrArg List.length h
 rw [List.length_drop, h1] at h2
 have : 0 < t.length := List.length_pos_iff.2 h0
 omega
theorem drop_ge {s : ByteArray} {pos : Nat} (h : s.data.toList.drop pos = []) : ¬ pos < s.size := by
 have h1 : s.data.toList.length = s.size := Array.length_toList
 have h2 := congrArg List.length h
 rw [List.length_drop, h1, List.length_nil] at h2
 omega
theorem hasPre_bad {s : ByteArray} {pos : Nat} {t : List UInt8} (h : s.data.toList.drop pos = t) : hasPre (s.extract pos s.size) ⟨#[239, 191, 189]⟩ = decide (t.take 3 = [239, 191, 189]) := by
 have h1 : s.data.toList.length = s.size := Array.length_toList
 have e1 : (s.extract pos s.size).data.toList = t := by
  rw [ByteArray.data_extract, Array.toList_extract, ← h, ← h1]
  simp only [List.extract_eq_take_drop]
  exact List.take_of_length_le (by rw [List.length_drop]; omega)
 have e3 : (⟨#[239, 191, 189]⟩ : ByteArray).size = 3 := rfl
 have e4 : (⟨#[239, 191, 189]⟩ : ByteArray).toList = [239, 191, 189] := by rw [ByteArray.toList_eq]
 unfold hasPre
 rw [e3, e4]
 generalize s.extract pos s.size = x at *
 have e2 : x.size = t.length := by rw [← e1]; exact Array.length_toList.symm
 have e5 : (x.extract 0 3).toList = t.take 3 := by
  rw [ByteArray.toList_eq, ByteArray.data_extract, Array.toList_extract, e1]
  simp
 rw [e5, e2]
 by_cases hp : t.take 3 = [239, 191, 189]
 ·have : 3 ≤ t.length := by
   have := congrArg List.length hp
   simp only [List.length_take, List.length_cons, List.length_nil] at this
   omega
  rw [hp, decide_eq_true this]
  rfl
 ·have : (t.take 3 == [239, 191, 189]) = false := by simpa using hp
  rw [this]
  simp [hp]
theorem badR_good {s : ByteArray} {pos : Nat} {w : Int} {u : List UInt8} (hw : rScal w = true) (h : s.data.toList.drop pos = encI w ++ u) : badR s pos = false := by
 unfold badR
 rw [dec_good hw h, hasPre_bad h]
 by_cases h0 : w.toNat = 65533
 ·have : encI w = [239, 191, 189] := by unfold encI; rw [h0]; decide
  rw [this]
  simp
 ·simp [h0]
theorem badR_bad {s : ByteArray} {pos : Nat} {t : List UInt8} (ht : bad t) (h : s.data.toList.drop pos = t) : badR s pos = true := by
 unfold badR
 rw [decode_decL, h, bad_dec ht, hasPre_bad h]
 have : ¬ t.take 3 = [239, 191, 189] := fun hp => ht.2 ⟨65533, t.drop 3, by decide, by
  have e : encI 65533 = [239, 191, 189] := by decide
  rw [e, ← hp, List.take_append_drop]⟩
 simp [this]
theorem drop_next {s : ByteArray} {pos : Nat} {a u : List UInt8} (h : s.data.toList.drop pos = a ++ u) : s.data.toList.drop (pos + a.length) = u := by
 rw [← List.drop_drop, h, List.drop_left]
theorem encLs_cons (w : Int) (ws : List Int) (t : List UInt8) : encLs (w :: ws) ++ t = encI w ++ (encLs ws ++ t) := by simp only [encLs, List.append_assoc]
theorem encI_ne (w : Int) (u : List UInt8) : encI w ++ u ≠ [] := by
 have := encI_pos w
 intro h
 have := congrArg List.length h
 simp only [List.length_append, List.length_nil] at this
 omega
theorem spl_runes (s : ByteArray) : ∀ (ws : List Int) (f pos : Nat) (l c : Int) (t : List UInt8), Sc ws → s.size ≤ pos + f → s.data.toList.drop pos = encLs ws ++ t →
  ∃ f', s.size ≤ pos + (encLs ws).length + f' ∧ spl s f pos l c = (place ws pos l c ++ (spl s f' (pos + (encLs ws).length) (advL l ws) (advC c ws)).1, (spl s f' (pos + (encLs ws).length) (advL l ws) (advC c ws)).2) := by
 intro ws
 induction ws with
 | nil => intro f pos l c t hs hf hd; exact ⟨f, by simpa [encLs] using hf, by simp [encLs, place, advL, advC]⟩
 | cons w ws ih =>
  intro f pos l c t hs hf hd
  have hw := hs w List.mem_cons_self
  have hs' : Sc ws := fun x hx => hs x (List.mem_cons_of_mem _ hx)
  rw [encLs_cons] at hd
  have hp := drop_lt hd (encI_ne _ _)
  match f, hf with
  | 0, hf => omega
  | f + 1, hf =>
   have hl := encI_pos w
   obtain ⟨f', h1, h2⟩ := ih f (pos + (encI w).length) (nxtL l w) (nxtC c w) t hs' (by omega) (drop_next hd)
   have hdec := dec_good hw hd
   have hr := ((rScal_iff w).1 hw).1
   have hcast : ((w.toNat : Nat) : Int) = w := Int.toNat_of_nonneg hr
   have e : (encLs (w :: ws)).length = (encI w).length + (encLs ws).length := by simp only [encLs, List.length_append]
   refine ⟨f', by omega, ?_⟩
   simp only [spl, hp, if_true, badR_good hw hd, Bool.false_eq_true, if_false, hdec, hcast, place, e, ← Nat.add_assoc, h2, List.cons_append]
   rfl
theorem spl_end (s : ByteArray) {f pos : Nat} {l c : Int} (h : s.data.toList.drop pos = []) : spl s f pos l c = ([], none) := by
 cases f with
 | zero => rfl
 | succ f => simp only [spl, drop_ge h, if_false]
theorem spl_bad (s : ByteArray) {f pos : Nat} {l c : Int} {t : List UInt8} (ht : bad t) (h : s.data.toList.drop pos = t) (hf : s.size ≤ pos + f) : spl s f pos l c = ([], some (l, c)) := by
 have hp := drop_lt h ht.1
 match f, hf with
 | 0, hf => omega
 | f + 1, hf => simp only [spl, hp, if_true, badR_bad ht h]
theorem spl_all {s : ByteArray} {ws : List Int} (hs : Sc ws) (h : s.data.toList = encLs ws) : spl s s.size 0 1 1 = (place ws 0 1 1, none) := by
 obtain ⟨f', h1, h2⟩ := spl_runes s ws s.size 0 1 1 [] hs (by omega) (by simpa using h)
 rw [h2, spl_end]
 ·simp
 ·have := drop_next (s := s) (pos := 0) (a := encLs ws) (u := []) (by simpa using h)
  simpa using this
theorem spl_all_bad {s : ByteArray} {ws : List Int} {t : List UInt8} (hs : Sc ws) (ht : bad t) (h : s.data.toList = encLs ws ++ t) : (spl s s.size 0 1 1).2 = some (advL 1 ws, advC 1 ws) := by
 obtain ⟨f', h1, h2⟩ := spl_runes s ws s.size 0 1 1 t hs (by omega) (by simpa using h)
 have hd := drop_next (s := s) (pos := 0) (a := encLs ws) (u := t) (by simpa using h)
 rw [h2, spl_bad s ht hd (by omega)]
end Go.Proofs.YtpemlmhggiaflaaGreatDoor.Codes
namespace Go.Proofs.YtpemlmhggiaflaaGreatDoor.Codes
open Go Go.Deepv
theorem ba_get (s : ByteArray) (i k : Nat) : s[i + k]? = (s.data.toList.drop i)[k]? := by
 have h1 : s.data.toList.length = s.size := Array.length_toList
 rw [List.getElem?_drop]
 by_cases h : i + k < s.size
 ·rw [ba_some h, List.getElem?_eq_getElem (by omega)]
  rfl
 ·rw [ba_none (by omega), List.getElem?_eq_none (by omega)]
theorem tailV_s {s : ByteArray} {n k : Nat} {r : Int} {b : UInt8} (h : s[k]? = some b) (h1 : 128 ≤ b.toNat) (h2 : b.toNat ≤ 191) : tailV s (n + 1) k r = tailV s n (k + 1) (r * 64 + (b.toNat - 128)) := by
 have a1 : ¬ (b.toNat : Int) < 128 := by omega
 have a2 : ¬ (191 : Int) < b.toNat := by omega
 simp only [tailV, h, a1, a2, if_false]
theorem tailV_n {s : ByteArray} {n k : Nat} {r : Int} (h : ∀ b, s[k]? = some b → b.toNat < 128 ∨ 191 < b.toNat) : tailV s (n + 1) k r = (0, false) := by
 simp only [tailV]
 cases hb : s[k]? with
 | none => rfl
 | some b =>
  rcases h b hb with h | h
  ·have : (b.toNat : Int) < 128 := by omega
   simp only [this, if_true]
  ·have a1 : ¬ (b.toNat : Int) < 128 := by omega
   have a2 : (191 : Int) < b.toNat := by omega
   simp only [a1, a2, if_false, if_true]
theorem oneV_good {s : ByteArray} {i : Nat} {w : Int} {u : List UInt8} (hw : rScal w = true) (h : s.data.toList.drop i = encI w ++ u) : oneV s i = (w, (encI w).length) := by
 have hw' := hw
 rw [rScal_iff, valid_iff] at hw'
 obtain ⟨h0, h1⟩ := hw'
 have hg := fun k => ba_get s i k
 rw [h] at hg
 have hc : ((w.toNat : Nat) : Int) = w := Int.toNat_of_nonneg h0
 unfold encI encL at *
 generalize w.toNat = c at *
 have g0 := hg 0
 have g1 := hg 1
 have g2 : s[i + 1 + 1]? = _ := hg 2
 have g3 : s[i + 1 + 1 + 1]? = _ := hg 3
 rw [Nat.add_zero] at g0
 by_cases c1 : c < 128
 ·rw [if_pos c1] at g0 ⊢
  rw [List.singleton_append, List.getElem?_cons_zero] at g0
  unfold oneV
  rw [g0]
  simp only [ofNat_toNat (show c < 256 by omega)]
  rw [if_pos (by omega), hc]
  rfl
 rw [if_neg c1] at g0 g1 g2 g3 ⊢
 by_cases c2 : c < 2048
 ·rw [if_pos c2] at g0 g1 ⊢
  simp only [List.cons_append, List.getElem?_cons_zero, List.getElem?_cons_succ] at g0 g1
  unfold oneV
  rw [g0]
  simp only [ofNat_toNat (show 192 + c / 64 < 256 by omega)]
  rw [if_neg (by omega), if_pos (by omega)]
  unfold oneN
  rw [tailV_s g1 (by rw [ofNat_toNat (by omega)]; omega) (by rw [ofNat_toNat (by omega)]; omega), ofNat_toNat (by omega)]
  have e : (((192 + c / 64 : Nat) : Int) - 192) * 64 ^ 1 + (0 * 64 + (((128 + c % 64 : Nat) : Int) - 128)) = w := by omega
  simp only [tailV, e, if_true, hw]
  rw [if_neg (by omega)]
  rfl
 rw [if_neg c2] at g0 g1 g2 g3 ⊢
 by_cases c3 : c < 65536
 ·rw [if_pos c3] at g0 g1 g2 ⊢
  simp only [List.cons_append, List.getElem?_cons_zero, List.getElem?_cons_succ] at g0 g1 g2
  unfold oneV
  rw [g0]
  simp only [ofNat_toNat (show 224 + c / 4096 < 256 by omega)]
  rw [if_neg (by omega), if_neg (by omega), if_pos (by omega)]
  unfold oneN
  rw [tailV_s g1 (by rw [ofNat_toNat (by omega)]; omega) (by rw [ofNat_toNat (by omega)]; omega), ofNat_toNat (by omega),
   tailV_s g2 (by rw [ofNat_toNat (by omega)]; omega) (by rw [ofNat_toNat (by omega)]; omega), ofNat_toNat (by omega)]
  have e : (((224 + c / 4096 : Nat) : Int) - 224) * 64 ^ 2 + ((0 * 64 + (((128 + c / 64 % 64 : Nat) : Int) - 128)) * 64 + (((128 + c % 64 : Nat) : Int) - 128)) = w := by omega
  simp only [tailV, e, if_true, hw]
  rw [if_neg (by omega)]
  rfl
 ·rw [if_neg c3] at g0 g1 g2 g3 ⊢
  simp only [List.cons_append, List.getElem?_cons_zero, List.getElem?_cons_succ] at g0 g1 g2 g3
  unfold oneV
  rw [g0]
  simp only [ofNat_toNat (show 240 + c / 262144 < 256 by omega)]
  rw [if_neg (by omega), if_neg (by omega), if_neg (by omega), if_pos (by omega)]
  unfold oneN
  rw [tailV_s g1 (by rw [ofNat_toNat (by omega)]; omega) (by rw [ofNat_toNat (by omega)]; omega), ofNat_toNat (by omega),
   tailV_s g2 (by rw [ofNat_toNat (by omega)]; omega) (by rw [ofNat_toNat (by omega)]; omega), ofNat_toNat (by omega),
   tailV_s g3 (by rw [ofNat_toNat (by omega)]; omega) (by rw [ofNat_toNat (by omega)]; omega), ofNat_toNat (by omega)]
  have e : (((240 + c / 262144 : Nat) : Int) - 240) * 64 ^ 3 + (((0 * 64 + (((128 + c / 4096 % 64 : Nat) : Int) - 128)) * 64 + (((128 + c / 64 % 64 : Nat) : Int) - 128)) * 64 + (((128 + c % 64 : Nat) : Int) - 128)) = w := by omega
  simp only [tailV, e, if_true, hw]
  rw [if_neg (by omega)]
  rfl
def tl : Nat → List UInt8 → Int → Int
 | 0, _, r => r
 | _ + 1, [], r => r
 | n + 1, b :: t, r => tl n t (r * 64 + (b.toNat - 128))
theorem tailV_true (s : ByteArray) : ∀ (n k : Nat) (r : Int), (tailV s n k r).2 = true → ∃ a u, a.length = n ∧ s.data.toList.drop k = a ++ u ∧ (∀ b ∈ a, 128 ≤ b.toNat ∧ b.toNat ≤ 191) ∧ (tailV s n k r).1 = tl n a r := by
 intro n
 induction n with
 | zero => intro k r h; exact ⟨[], _, rfl, rfl, fun b hb => by simp at hb, rfl⟩
 | succ n ih =>
  intro k r h
  cases hb : s[k]? with
  | none =>
   rw [tailV_n (fun b h => by rw [hb] at h; exact absurd h (by simp))] at h
   exact absurd h (by simp)
  | some b =>
   by_cases h1 : 128 ≤ b.toNat ∧ b.toNat ≤ 191
   ·rw [tailV_s hb h1.1 h1.2] at h ⊢
    obtain ⟨a, u, e1, e2, e3, e4⟩ := ih _ _ h
    refine ⟨b :: a, u, by simp [e1], ?_, ?_, e4⟩
    ·have hg := ba_get s k 0
     rw [Nat.add_zero, hb] at hg
     have : s.data.toList.drop k = b :: s.data.toList.drop (k + 1) := by
      cases hd : s.data.toList.drop k with
      | nil => rw [hd] at hg; simp at hg
      | cons x y =>
       rw [hd] at hg
       rw [← List.drop_drop, hd]
       simp at hg
       rw [hg]
       rfl
     rw [this, e2]
     rfl
    ·intro x hx
     rcases List.mem_cons.1 hx with h | h
     ·exact h ▸ h1
     ·exact e3 x h
   ·rw [tailV_n (fun b' h => by
     rw [hb] at h
     have := Option.some.inj h
     subst this
     omega)] at h
    exact absurd h (by simp)
theorem oneV_bad {s : ByteArray} {i : Nat} {t : List UInt8} (ht : bad t) (h : s.data.toList.drop i = t) : oneV s i = (0, 0) := by
 match t, ht, h with
 | [], ht, _ => exact absurd rfl ht.1
 | x :: t1, ht, h =>
 have hx := x.toNat_lt
 have g0 := ba_get s i 0
 rw [Nat.add_zero, h, List.getElem?_cons_zero] at g0
 have hd1 : s.data.toList.drop (i + 1) = t1 := by rw [← List.drop_drop, h]; rfl
 have key : ∀ (n : Nat) (r least : Int), oneN s i n r least = (0, 0) ∨ ∃ a u, a.length = n ∧ t1 = a ++ u ∧ (∀ b ∈ a, 128 ≤ b.toNat ∧ b.toNat ≤ 191) ∧ least ≤ r * 64 ^ n + tl n a 0 ∧ rScal (r * 64 ^ n + tl n a 0) = true := fun n r least => by
  unfold oneN
  split
  ·rename_i h1
   obtain ⟨a, u, e1, e2, e3, e4⟩ := tailV_true s n (i + 1) 0 h1
   rw [e4]
   split
   ·exact .inl rfl
   ·split
    ·rename_i h2 h3
     exact .inr ⟨a, u, e1, by rw [← hd1, e2], e3, by omega, h3⟩
    ·exact .inl rfl
  ·exact .inl rfl
 unfold oneV
 rw [g0]
 simp only
 split
 ·rename_i h0
  exact absurd ⟨(x.toNat : Int), t1, (rScal_iff _).2 ⟨by omega, (valid_iff _).2 (by omega)⟩, by
   unfold encI encL
   rw [Int.toNat_natCast, if_pos (by omega)]
   simp⟩ ht.2
 ·split
  ·rename_i h1
   rcases key 1 (x.toNat - 192) 128 with hk | ⟨a, u, e1, e2, e3, e4, e5⟩
   ·exact hk
   ·match a, e1 with
    | [y], _ =>
    have hy := e3 y (by simp)
    simp only [tl] at e4 e5
    refine absurd ⟨_, u, e5, ?_⟩ ht.2
    rw [rScal_iff] at e5
    unfold encI encL
    have e6 : ((((x.toNat : Int) - 192) * 64 ^ 1 + (0 * 64 + ((y.toNat : Int) - 128))).toNat : Int) = ((x.toNat : Int) - 192) * 64 ^ 1 + (0 * 64 + ((y.toNat : Int) - 128)) := Int.toNat_of_nonneg e5.1
    generalize (((x.toNat : Int) - 192) * 64 ^ 1 + (0 * 64 + ((y.toNat : Int) - 128))).toNat = c at *
    rw [if_neg (by omega), if_pos (by omega), u8_eq (x := x) (by omega), u8_eq (x := y) (by omega), e2]
    rfl
  ·split
   ·rename_i h1
    rcases key 2 (x.toNat - 224) 2048 with hk | ⟨a, u, e1, e2, e3, e4, e5⟩
    ·exact hk
    ·match a, e1 with
     | [y, z], _ =>
     have hy := e3 y (by simp)
     have hz := e3 z (by simp)
     simp only [tl] at e4 e5
     refine absurd ⟨_, u, e5, ?_⟩ ht.2
     rw [rScal_iff] at e5
     unfold encI encL
     have e6 := Int.toNat_of_nonneg e5.1
     generalize (((x.toNat : Int) - 224) * 64 ^ 2 + ((0 * 64 + ((y.toNat : Int) - 128)) * 64 + ((z.toNat : Int) - 128))).toNat = c at *
     rw [if_neg (by omega), if_neg (by omega), if_pos (by omega), u8_eq (x := x) (by omega), u8_eq (x := y) (by omega), u8_eq (x := z) (by omega), e2]
     rfl
   ·split
    ·rename_i h1
     rcases key 3 (x.toNat - 240) 65536 with hk | ⟨a, u, e1, e2, e3, e4, e5⟩
     ·exact hk
     ·match a, e1 with
      | [y, z, v], _ =>
      have hy := e3 y (by simp)
      have hz := e3 z (by simp)
      have hv := e3 v (by simp)
      simp only [tl] at e4 e5
      refine absurd ⟨_, u, e5, ?_⟩ ht.2
      rw [rScal_iff] at e5
      unfold encI encL
      have e6 := Int.toNat_of_nonneg e5.1
      generalize (((x.toNat : Int) - 240) * 64 ^ 3 + (((0 * 64 + ((y.toNat : Int) - 128)) * 64 + ((z.toNat : Int) - 128)) * 64 + ((v.toNat : Int) - 128))).toNat = c at *
      rw [if_neg (by omega), if_neg (by omega), if_neg (by omega), u8_eq (x := x) (by omega), u8_eq (x := y) (by omega), u8_eq (x := z) (by omega), u8_eq (x := v) (by omega), e2]
      rfl
    ·rfl
end Go.Proofs.YtpemlmhggiaflaaGreatDoor.Codes
namespace Go.Proofs.YtpemlmhggiaflaaGreatDoor.Codes
open Go Go.Deepv
def st37 (s : ByteArray) (acc : List Rn) (pos : Nat) : List DV := [.d (.str s), .d .undef, .d .undef, .ptr 0 0, .ptr 1 0, .row 4 (acc.map Rn.enc) 2, .d (.int .i64 pos)] ++ List.replicate 37 (.d .undef)
def ex37 (v : FV) (acc : List Rn) : List DV := [.d .undef, .d .undef, .d v, .ptr 0 0, .d .undef, .row 4 (acc.map Rn.enc) 2] ++ List.replicate 38 (.d .undef)
theorem enc_len {s : ByteArray} {pos : Nat} {t : List UInt8} (h : s.data.toList.drop pos = t) (h0 : t ≠ []) : pos + t.length = s.size := by
 have h1 : s.data.toList.length = s.size := Array.length_toList
 have h2 := drop_lt h h0
 have h3 := congrArg List.length h
 rw [List.length_drop, h1] at h3
 omega
theorem loop37 (s : ByteArray) (hs : s.size ≤ 16384) (t : List UInt8) (ht : t = [] ∨ bad t) :
  ∀ (ws : List Int) (pos : Nat) (l c : Int) (acc : List Rn), Sc ws → s.data.toList.drop pos = encLs ws ++ t → 0 ≤ l → l ≤ pos + 1 → 0 ≤ c → c ≤ pos + 1 → acc.length ≤ pos →
   ∃ W, L env 3 true H85L6 X85L6 B85L6 (st37 s acc pos) [faultB 0 0 0, walkB l c, rr 4 acc.length] =
    if t = [] then some (.exit 0, ex37 .undef (acc ++ place ws pos l c), [faultB 0 0 0, W, rr 4 (acc ++ place ws pos l c).length])
    else some (.ret, ex37 (.slice 4 []) (acc ++ place ws pos l c), [faultB 1 (advL l ws) (advC c ws), W, rr 4 (acc ++ place ws pos l c).length]) := by
 obtain ⟨K, hK⟩ : ∃ K, L env 3 true H85L6 X85L6 B85L6 = K := ⟨_, rfl⟩
 rw [hK]
 intro ws
 induction ws with
 | nil =>
  intro pos l c acc h1 h2 h3 h4 h5 h6 h7
  refine ⟨walkB l c, ?_⟩
  rw [show encLs [] ++ t = t from rfl] at h2
  rcases ht with ht | ht
  ·subst ht
   have hp : ¬ (pos : Int) < s.size := by have := drop_ge h2; omega
   rw [L_round hK]
   simp -implicitDefEqProofs only [B85L6, st37, ex37, faultB, walkB, place, sS, reduceCtorEq, seval, hp]
  ·have hp0 := drop_lt h2 ht.1
   have hp : (pos : Int) < s.size := by omega
   have e1 := fun h => one2_ok s pos hp0 (by omega) h
   rw [oneV_bad ht h2] at e1
   have z0 : ((0 : Nat) : Int) = 0 := rfl
   simp only [z0] at e1
   rw [if_neg ht.1, L_round hK]
   simp -implicitDefEqProofs only [B85L6, st37, ex37, faultB, walkB, place, advL, advC, List.foldl_nil, sS, reduceCtorEq, seval, hp, e1, putCells]
 | cons w ws ih =>
  intro pos l c acc h1 h2 h3 h4 h5 h6 h7
  have hw := h1 w List.mem_cons_self
  rw [encLs_cons] at h2
  have hp0 := drop_lt h2 (encI_ne _ _)
  have hp : (pos : Int) < s.size := by omega
  have e1 := fun h => one2_ok s pos hp0 (by omega) h
  rw [oneV_good hw h2] at e1
  have hn := encI_pos w
  have hnx := drop_next h2
  have hle := enc_len h2 (encI_ne _ _)
  rw [List.length_append] at hle
  rw [show place (w :: ws) pos l c = ⟨w, pos, l, c⟩ :: place ws (pos + (encI w).length) (nxtL l w) (nxtC c w) from rfl,
   show advL l (w :: ws) = advL (nxtL l w) ws from rfl, show advC c (w :: ws) = advC (nxtC c w) ws from rfl]
  generalize (encI w).length = n at *
  obtain ⟨W, ih⟩ := ih (pos + n) (nxtL l w) (nxtC c w) (acc ++ [⟨w, pos, l, c⟩]) (fun x hx => h1 x (List.mem_cons_of_mem _ hx)) hnx (by unfold nxtL; split <;> omega) (by unfold nxtL; split <;> omega) (by unfold nxtC; split <;> omega) (by unfold nxtC; split <;> omega) (by simp; omega)
  refine ⟨W, ?_⟩
  have e4 := fun h => next_ok l c w ⟨by omega, by omega⟩ ⟨by omega, by omega⟩ h
  have e5 : appRow 4 32 (.row 4 (acc.map Rn.enc) 2) (some (4, [Rn.enc ⟨w, pos, l, c⟩])) [faultB 0 0 0, walkB l c, rr 4 acc.length] = some (.val (.row 4 (acc.map Rn.enc ++ [Rn.enc ⟨w, pos, l, c⟩]) 2) ([faultB 0 0 0, walkB l c, rr 4 acc.length].set 2 (rr 4 ((acc.map Rn.enc).length + 1)))) :=
   appRow_one (by simp) (by simp; omega) (by decide) (by decide) 4 rfl
  simp only [List.length_map, List.set_cons_succ, List.set_cons_zero] at e5
  have w1 : IntKind.i64.wrap ((pos : Int) + (n : Nat)) = ((pos + n : Nat) : Int) := by rw [wrap_i64 (by omega) (by omega)]; simp
  have n0 : ((n : Int) == 0) = false := by simp; omega
  have len1 : (acc ++ [(⟨w, pos, l, c⟩ : Rn)]).length = acc.length + 1 := by simp
  have map1 : (acc ++ [(⟨w, pos, l, c⟩ : Rn)]).map Rn.enc = acc.map Rn.enc ++ [Rn.enc ⟨w, pos, l, c⟩] := by simp
  have app1 : acc ++ (⟨w, pos, l, c⟩ : Rn) :: place ws (pos + n) (nxtL l w) (nxtC c w) = acc ++ [(⟨w, pos, l, c⟩ : Rn)] ++ place ws (pos + n) (nxtL l w) (nxtC c w) := by simp
  rw [app1]
  generalize (if t = [] then some (DExit.exit 0, ex37 .undef (acc ++ [(⟨w, pos, l, c⟩ : Rn)] ++ place ws (pos + n) (nxtL l w) (nxtC c w)), [faultB 0 0 0, W, rr 4 (acc ++ [(⟨w, pos, l, c⟩ : Rn)] ++ place ws (pos + n) (nxtL l w) (nxtC c w)).length])
    else some (DExit.ret, ex37 (.slice 4 []) (acc ++ [(⟨w, pos, l, c⟩ : Rn)] ++ place ws (pos + n) (nxtL l w) (nxtC c w)), [faultB 1 (advL (nxtL l w) ws) (advC (nxtC c w) ws), W, rr 4 (acc ++ [(⟨w, pos, l, c⟩ : Rn)] ++ place ws (pos + n) (nxtL l w) (nxtC c w)).length])) = RHS at *
  simp only [st37, len1, map1, Rn.enc, List.replicate, List.cons_append, List.nil_append, walkB, faultB] at ih
  simp only [Rn.enc, walkB, faultB] at e5
  rw [L_round hK]
  simp -implicitDefEqProofs only [B85L6, st37, faultB, walkB, sS, reduceCtorEq, seval, hp, e1, n0, w1, e4, e5, ih, putCells]
theorem rsplit_ok (s : ByteArray) (h : List Res) : D env 85 [.d (.str s)] h = some (.val (.d (splitV s)) h) := by
 rw [D_dat (F := A85) rfl rfl rfl rfl]
 unfold splitV
 by_cases hs : s.size ≤ 16384
 ·have h1 : ¬ (16384 : Int) < s.size := by omega
  rw [if_pos hs]
  have r0 : rr 4 ([] : List Rn).length = .nilrow := rfl
  have z0 : ((0 : Nat) : Int) = 0 := rfl
  obtain ⟨ws, hsc, hB | ⟨t, ht, hB⟩⟩ := text_cases _ s.data.toList (Nat.le_refl _)
  ·obtain ⟨W, hl⟩ := loop37 s hs [] (.inl rfl) ws 0 1 1 [] hsc (by simpa using hB) (by omega) (by omega) (by omega) (by omega) (by simp)
   rw [spl_all hsc hB]
   rw [r0] at hl
   simp only [st37, ex37, walkB, faultB, List.map_nil, List.replicate, List.cons_append, List.nil_append, if_true, z0] at hl
   simp -implicitDefEqProofs only [A85, B85, sS, reduceCtorEq, seval, h1, hl, putCells]
  ·obtain ⟨W, hl⟩ := loop37 s hs t (.inr ht) ws 0 1 1 [] hsc (by simpa using hB) (by omega) (by omega) (by omega) (by omega) (by simp)
   have e := spl_all_bad hsc ht hB
   rw [if_neg ht.1, r0] at hl
   generalize spl s s.size 0 1 1 = x at *
   rcases x with ⟨x1, x2⟩
   simp only at e
   subst e
   simp only [st37, ex37, walkB, faultB, List.map_nil, List.replicate, List.cons_append, List.nil_append, z0] at hl
   simp -implicitDefEqProofs only [A85, B85, sS, reduceCtorEq, seval, h1, hl, putCells]
 ·have h1 : (16384 : Int) < s.size := by omega
  rw [if_neg hs]
  simp -implicitDefEqProofs only [A85, B85, sS, reduceCtorEq, seval, h1, putCells]
end Go.Proofs.YtpemlmhggiaflaaGreatDoor.Codes
namespace Go.Proofs.YtpemlmhggiaflaaGreatDoor.Codes
open Go Go.Deepv
def st40 (s : ByteArray) (pos : Nat) : List DV := [.d (.str s), .d (.int .i64 s.size), .d .undef, .d .undef, .ptr 0 0, .ptr 1 0, .d (.int .i64 pos)] ++ List.replicate 32 (.d .undef)
def ex40 : List DV := [.d .undef, .d .undef, .d .undef, .d .undef, .ptr 0 0, .ptr 1 0] ++ List.replicate 33 (.d .undef)
theorem loop40 (s : ByteArray) (hs : s.size ≤ 16384) :
  ∀ (ws : List Int) (pos : Nat) (l c : Int), Sc ws → s.data.toList.drop pos = encLs ws → 0 ≤ l → l ≤ pos + 1 → 0 ≤ c → c ≤ pos + 1 →
   L env 2 true H88L5 X88L5 B88L5 (st40 s pos) [walkB 0 0, walkB l c] = some (.exit 0, ex40, [walkB 0 0, walkB (advL l ws) (advC c ws)]) := by
 obtain ⟨K, hK⟩ : ∃ K, L env 2 true H88L5 X88L5 B88L5 = K := ⟨_, rfl⟩
 rw [hK]
 intro ws
 induction ws with
 | nil =>
  intro pos l c h1 h2 h3 h4 h5 h6
  have hp : ¬ (pos : Int) < s.size := by have := drop_ge h2; omega
  rw [L_round hK]
  simp -implicitDefEqProofs only [B88L5, st40, ex40, walkB, advL, advC, List.foldl_nil, sS, reduceCtorEq, seval, hp]
 | cons w ws ih =>
  intro pos l c h1 h2 h3 h4 h5 h6
  have hw := h1 w List.mem_cons_self
  rw [show encLs (w :: ws) = encI w ++ encLs ws from rfl] at h2
  have hp0 := drop_lt h2 (encI_ne _ _)
  have hp : (pos : Int) < s.size := by omega
  have e1 := fun h => one2_ok s pos hp0 (by omega) h
  rw [oneV_good hw h2] at e1
  have hn := encI_pos w
  have hnx := drop_next h2
  have hle := enc_len h2 (encI_ne _ _)
  rw [List.length_append] at hle
  rw [show advL l (w :: ws) = advL (nxtL l w) ws from rfl, show advC c (w :: ws) = advC (nxtC c w) ws from rfl]
  generalize (encI w).length = n at *
  have ih := ih (pos + n) (nxtL l w) (nxtC c w) (fun x hx => h1 x (List.mem_cons_of_mem _ hx)) hnx (by unfold nxtL; split <;> omega) (by unfold nxtL; split <;> omega) (by unfold nxtC; split <;> omega) (by unfold nxtC; split <;> omega)
  have e4 := fun h => next_ok l c w ⟨by omega, by omega⟩ ⟨by omega, by omega⟩ h
  have w1 : IntKind.i64.wrap ((pos : Int) + (n : Nat)) = ((pos + n : Nat) : Int) := by rw [wrap_i64 (by omega) (by omega)]; simp
  have n0 : ((n : Int) == 0) = false := by simp; omega
  have off : ¬ (s.size : Int) < ((pos + n : Nat) : Int) := by omega
  simp only [st40, List.replicate, List.cons_append, List.nil_append, walkB] at ih
  simp only [walkB]
  rw [L_round hK]
  simp -implicitDefEqProofs only [B88L5, st40, walkB, sS, reduceCtorEq, seval, hp, e1, n0, w1, off, e4, ih, putCells]
theorem rplace_ok (s : ByteArray) (ws : List Int) (hs : s.size ≤ 16384) (hsc : Sc ws) (hB : s.data.toList = encLs ws) (h : List Res) :
  D env 88 [.d (.str s), .d (.int .i64 s.size)] h = some (.val (.d (.agg [.int .i64 (advL 1 ws), .int .i64 (advC 1 ws)])) h) := by
 rw [D_dat (F := A88) rfl rfl rfl rfl]
 have h1 : ¬ (16384 : Int) < s.size := by omega
 have z0 : ((0 : Nat) : Int) = 0 := rfl
 have hl := loop40 s hs ws 0 1 1 hsc (by simpa using hB) (by omega) (by omega) (by omega) (by omega)
 simp only [st40, ex40, walkB, List.replicate, List.cons_append, List.nil_append, z0] at hl
 simp -implicitDefEqProofs only [A88, B88, sS, reduceCtorEq, seval, h1, hl, putCells]
def st36 (s : ByteArray) (last : Int) : List DV := [.d (.str s), .d (.int .i64 s.size), .d .undef, .d .undef, .ptr 0 0, .ptr 1 0, .d (.int .i32 last), .d .undef, .d .undef, .d .undef, .d .undef, .d .undef, .d .undef, .d .undef, .d .undef, .ptr 2 0] ++ List.replicate 32 (.d .undef)
def ex36 (s : ByteArray) (last : Int) : List DV := [.d (.str s), .d (.int .i64 s.size), .d .undef, .d .undef, .ptr 0 0, .ptr 1 0, .d (.int .i32 last)] ++ List.replicate 41 (.d .undef)
theorem loop36 (s : ByteArray) (hs : s.size ≤ 16384) :
  ∀ (ws : List Int) (pos : Nat) (l c l' c' last : Int), Sc ws → s.data.toList.drop pos = encLs ws → (pos = 0 → l' = l ∧ c' = c) → (pos ≠ 0 → nxtL l' last = l ∧ nxtC c' last = c) → 0 ≤ l' → l' ≤ pos + 1 → 0 ≤ c' → c' ≤ pos + 1 → pos ≤ s.size →
   ∃ l2 c2 last2 I, small l2 ∧ small c2 ∧ (pos + (encLs ws).length = 0 → l2 = advL l ws ∧ c2 = advC c ws) ∧ (pos + (encLs ws).length ≠ 0 → nxtL l2 last2 = advL l ws ∧ nxtC c2 last2 = advC c ws) ∧
   L env 3 true H52L6 X52L6 B52L6 (st36 s last) [walkB 0 0, walkB l' c', .iter s pos] = some (.exit 0, ex36 s last2, [walkB 0 0, walkB l2 c2, I]) := by
 obtain ⟨K, hK⟩ : ∃ K, L env 3 true H52L6 X52L6 B52L6 = K := ⟨_, rfl⟩
 rw [hK]
 intro ws
 induction ws with
 | nil =>
  intro pos l c l' c' last h1 h2 h3 h4 h5 h6 h7 h8 h9
  have hp := drop_ge h2
  ·refine ⟨l', c', last, .iter s pos, ⟨h5, by omega⟩, ⟨h7, by omega⟩, fun h => h3 (by simpa [encLs] using h), fun h => h4 (by simpa [encLs] using h), ?_⟩
   rw [L_round hK]
   simp -implicitDefEqProofs only [B52L6, st36, ex36, walkB, sS, reduceCtorEq, seval, hp]
 | cons w ws ih =>
  intro pos l c l' c' last h1 h2 h3 h4 h5 h6 h7 h8 h9
  have hw := h1 w List.mem_cons_self
  rw [show encLs (w :: ws) = encI w ++ encLs ws from rfl] at h2 ⊢
  have hle := enc_len h2 (encI_ne _ _)
  rw [List.length_append] at hle
  have hp := drop_lt h2 (encI_ne _ _)
  have hd := dec_good hw h2
  have hd1 : (Utf8.decode s pos).1 = w.toNat := by rw [hd]
  have hd2 : (Utf8.decode s pos).2 = (encI w).length := by rw [hd]
  have hcast : ((w.toNat : Nat) : Int) = w := Int.toNat_of_nonneg ((rScal_iff w).1 hw).1
  have hn := encI_pos w
  have hnx := drop_next h2
  rw [show advL l (w :: ws) = advL (nxtL l w) ws from rfl, show advC c (w :: ws) = advC (nxtC c w) ws from rfl]
  rw [List.length_append]
  generalize (encI w).length = n at *
  have hs' : Sc ws := fun x hx => h1 x (List.mem_cons_of_mem _ hx)
  by_cases hp0 : pos = 0
  ·obtain ⟨l2, c2, last2, I, g1, g2, g3, g4, ih⟩ := ih (pos + n) (nxtL l w) (nxtC c w) l' c' w hs' hnx (fun h => by omega) (fun _ => by rw [(h3 hp0).1, (h3 hp0).2]; exact ⟨rfl, rfl⟩) h5 (by omega) h7 (by omega) (by omega)
   refine ⟨l2, c2, last2, I, g1, g2, fun h => by omega, fun h => g4 (by omega), ?_⟩
   have hp1 : ¬ (0 : Int) < (pos : Int) := by omega
   simp only [st36, List.replicate, List.cons_append, List.nil_append, walkB] at ih
   simp only [walkB]
   rw [L_round hK]
   simp -implicitDefEqProofs only [B52L6, st36, walkB, sS, reduceCtorEq, seval, hp, hd1, hd2, hcast, hp1, ih, putCells]
  ·obtain ⟨e1, e2⟩ := h4 hp0
   have hsm : small l' ∧ small c' := ⟨⟨h5, by omega⟩, ⟨h7, by omega⟩⟩
   obtain ⟨l2, c2, last2, I, g1, g2, g3, g4, ih⟩ := ih (pos + n) (nxtL l w) (nxtC c w) (nxtL l' last) (nxtC c' last) w hs' hnx (fun h => by omega) (fun _ => by rw [e1, e2]; exact ⟨rfl, rfl⟩) (by unfold nxtL; split <;> omega) (by unfold nxtL; split <;> omega) (by unfold nxtC; split <;> omega) (by unfold nxtC; split <;> omega) (by omega)
   refine ⟨l2, c2, last2, I, g1, g2, fun h => by omega, fun h => g4 (by omega), ?_⟩
   have hp1 : (0 : Int) < (pos : Int) := by omega
   have hp2 : ¬ (s.size : Int) < (pos : Int) := by omega
   have e4 := past_ok (h := [walkB 0 0, walkB l' c', .iter s (pos + n)]) (id := 1) (l := l') (c := c') rfl hsm.1 hsm.2 last
   simp only [st36, List.replicate, List.cons_append, List.nil_append, walkB] at ih
   simp only [walkB, List.set_cons_succ, List.set_cons_zero] at e4 ⊢
   rw [L_round hK]
   simp -implicitDefEqProofs only [B52L6, st36, walkB, sS, reduceCtorEq, seval, hp, hd1, hd2, hcast, hp1, hp2, e4, ih, putCells]
theorem place_ok (s : ByteArray) (ws : List Int) (hs : s.size ≤ 16384) (hsc : Sc ws) (hB : s.data.toList = encLs ws) (h : List Res) :
  D env 52 [.d (.str s), .d (.int .i64 s.size)] h = some (.val (.d (.agg [.int .i64 (advL 1 ws), .int .i64 (advC 1 ws)])) h) := by
 rw [D_dat (F := A52) rfl rfl rfl rfl]
 have h1 : ¬ (16384 : Int) < s.size := by omega
 have z0 : ((0 : Nat) : Int) = 0 := rfl
 have eb := fun h => begun_ok h
 obtain ⟨l2, c2, last2, I, g1, g2, g3, g4, hl⟩ := loop36 s hs ws 0 1 1 1 1 0 hsc (by simpa using hB) (fun _ => ⟨rfl, rfl⟩) (fun h => absurd rfl h) (by omega) (by omega) (by omega) (by omega) (by omega)
 have hlen : s.data.toList.length = s.size := Array.length_toList
 rw [hB] at hlen
 simp only [st36, ex36, walkB, List.replicate, List.cons_append, List.nil_append, z0] at hl
 have hem : (⟨#[]⟩ : ByteArray).toList = [] := by rw [ByteArray.toList_eq]
 have hsl : s.toList = encLs ws := by rw [ByteArray.toList_eq, hB]
 by_cases h0 : (encLs ws).length = 0
 ·obtain ⟨q1, q2⟩ := g3 (by omega)
  have hnil : encLs ws = [] := List.length_eq_zero_iff.1 h0
  rw [← q1, ← q2]
  have ee : (s.toList == (⟨#[]⟩ : ByteArray).toList) = true := by rw [hem, hsl, hnil]; rfl
  simp -implicitDefEqProofs only [A52, B52, sS, reduceCtorEq, seval, eb, h1, hl, ee, putCells]
 ·obtain ⟨q1, q2⟩ := g4 (by omega)
  rw [← q1, ← q2]
  have ee : (s.toList == (⟨#[]⟩ : ByteArray).toList) = false := by
   rw [hem, hsl]
   cases hx : encLs ws with
   | nil => rw [hx] at h0; exact absurd rfl h0
   | cons x y => rfl
  have e4 := past_ok (h := [walkB 0 0, walkB l2 c2, I]) (id := 1) (l := l2) (c := c2) rfl g1 g2 last2
  simp only [walkB, List.set_cons_succ, List.set_cons_zero] at e4
  have hge : (s.size : Int) ≤ s.size := Int.le_refl _
  simp -implicitDefEqProofs only [A52, B52, sS, reduceCtorEq, seval, eb, h1, hl, ee, e4, hge, putCells]
end Go.Proofs.YtpemlmhggiaflaaGreatDoor.Codes
namespace Go.Proofs.YtpemlmhggiaflaaGreatDoor.Codes
open Go Go.Deepv
theorem take_app1' (h : List Res) (x : Res) : (h ++ [x]).take (h.length + 1) = h ++ [x] := by rw [List.take_of_length_le (by simp)]
theorem take_app2' (h : List Res) (x y : Res) : (h ++ [x, y]).take (h.length + 2) = h ++ [x, y] := by rw [List.take_of_length_le (by simp)]
theorem take_ok {id : Nat} {h : List Res} (hid : id < h.length) (cf : Nat) : D env 66 [.ptr id 0, .d (.func (.func cf) [] [])] h = some (.val (.clo (.func 96) [] [.ptr h.length 0, .ptr (h.length + 1) 0]) (h ++ [.box [.ptr id 0], .box [.d (.func (.func cf) [] [])]])) := by
 rw [D_own (F := A66) rfl rfl rfl rfl]
 have hl2 : h.length < h.length + 2 := by omega
 simp -implicitDefEqProofs only [A66, B66, sS, reduceCtorEq, seval, hid, take_app1', take_app2', Nat.lt_add_one, hl2]
def st83 (kk b1 b2 : Nat) : List DV := [.yld kk, .ptr b1 0, .ptr b2 0] ++ List.replicate 24 (.d .undef)
theorem loop83 {cf b1 b2 id kk N m k : Nat} {Hs : Nat → List Res} {rs : List Rn} {e l c : Int} {p : Int → Bool} (hsz : k + m + 1 ≤ 1000000000)
  (hcl : ∀ (r : Int) (t : List Res), D env cf [.d (.int .i32 r)] t = some (.val (.d (.bool (p r))) t))
  (hb1 : ∀ i, (Hs i)[b1]? = some (.box [.ptr id 0])) (hb2 : ∀ i, (Hs i)[b2]? = some (.box [.d (.func (.func cf) [] [])]))
  (hq : ∀ i, (Hs i)[id]? = some (rd rs (k + i) e l c)) (hN : ∀ i, (Hs i).length = N) (hk : kk < N) (hbN : b1 < N) (hbN2 : b2 < N)
  {x : Nat → Rn} (hx : ∀ i, i < m → rs[k + i]? = some (x i) ∧ p (x i).r = true) (hend : rs.length ≤ k + m ∨ ∃ y, rs[k + m]? = some y ∧ p y.r = false)
  (hy : ∀ i, i < m → Y env kk [.d (.int .i32 (x i).r)] ((Hs i).set id (rd rs (k + i + 1) e l c)) = some (.val (.d (.bool true)) (Hs (i + 1)))) :
  ∀ (j i : Nat), i + j = m → L env N true H96L0 X96L0 B96L0 (st83 kk b1 b2) (Hs i) = some (.exit 0, List.replicate 27 (.d .undef), Hs m) := by
 obtain ⟨K, hK⟩ : ∃ K, L env N true H96L0 X96L0 B96L0 = K := ⟨_, rfl⟩
 rw [hK]
 intro j
 induction j with
 | zero =>
  intro i hi
  have : i = m := by omega
  subst this
  have ht : (Hs i).take N = Hs i := by rw [List.take_of_length_le (by rw [hN]; omega)]
  have eo := over_ok (hq i)
  have ep := peek_ok (hq i) 0 (by omega)
  have hqi := hq i
  have b1i := hb1 i
  have b2i := hb2 i
  generalize Hs i = t at *
  rw [L_round hK]
  rcases hend with h1 | ⟨y, h1, h2⟩
  ·rw [decide_eq_true h1] at eo
   simp -implicitDefEqProofs only [B96L0, st83, sS, reduceCtorEq, seval, ht, eo, ep, b1i, b2i, hcl]
  ·have h3 : ¬ rs.length ≤ k + i := by have := (List.getElem?_eq_some_iff.1 h1).1; omega
   rw [decide_eq_false h3] at eo
   have h4 : peekR rs (k + i + 0) = y.r := by simp [peekR, h1]
   rw [h4] at ep
   have hcy := hcl y.r
   rw [h2] at hcy
   have z0 : ((0 : Nat) : Int) = 0 := rfl
   rw [z0] at ep
   simp -implicitDefEqProofs only [B96L0, st83, sS, reduceCtorEq, seval, ht, eo, ep, b1i, b2i, hcy]
 | succ j ih =>
  intro i hi
  have hi' : i < m := by omega
  obtain ⟨h1, h2⟩ := hx i hi'
  have eo := over_ok (hq i)
  have ep := peek_ok (hq i) 0 (by omega)
  have h3 : ¬ rs.length ≤ k + i := by have := (List.getElem?_eq_some_iff.1 h1).1; omega
  rw [decide_eq_false h3] at eo
  have h4 : peekR rs (k + i + 0) = (x i).r := by simp [peekR, h1]
  rw [h4] at ep
  have z0 : ((0 : Nat) : Int) = 0 := rfl
  rw [z0] at ep
  have hcy := hcl (x i).r
  rw [h2] at hcy
  have hqi := hq i
  have b1i := hb1 i
  have b2i := hb2 i
  have hyi := hy i hi'
  have ht : (Hs (i + 1)).take N = Hs (i + 1) := by rw [List.take_of_length_le (by rw [hN]; omega)]
  have w1 : IntKind.i64.wrap (((k + i : Nat) : Int) + 1) = ((k + i + 1 : Nat) : Int) := by rw [wrap_i64 (by omega) (by omega)]; omega
  have h5 := ih (i + 1) (by omega)
  simp only [st83, List.replicate, List.cons_append, List.nil_append] at h5
  generalize (x i).r = r at *
  generalize Hs i = t at *
  simp only [rd] at hqi hyi
  rw [L_round hK]
  simp -implicitDefEqProofs only [B96L0, st83, sS, reduceCtorEq, seval, ht, eo, ep, b1i, b2i, hcy, hqi, w1, putCells, hyi, hk, hbN, hbN2, h5]
theorem iter83_ok {cf b1 b2 id kk N m k : Nat} {Hs : Nat → List Res} {rs : List Rn} {e l c : Int} {p : Int → Bool} (hsz : k + m + 1 ≤ 1000000000)
  (hcl : ∀ (r : Int) (t : List Res), D env cf [.d (.int .i32 r)] t = some (.val (.d (.bool (p r))) t))
  (hb1 : ∀ i, (Hs i)[b1]? = some (.box [.ptr id 0])) (hb2 : ∀ i, (Hs i)[b2]? = some (.box [.d (.func (.func cf) [] [])]))
  (hq : ∀ i, (Hs i)[id]? = some (rd rs (k + i) e l c)) (hN : ∀ i, (Hs i).length = N) (hk : kk < N) (hbN : b1 < N) (hbN2 : b2 < N)
  {x : Nat → Rn} (hx : ∀ i, i < m → rs[k + i]? = some (x i) ∧ p (x i).r = true) (hend : rs.length ≤ k + m ∨ ∃ y, rs[k + m]? = some y ∧ p y.r = false)
  (hy : ∀ i, i < m → Y env kk [.d (.int .i32 (x i).r)] ((Hs i).set id (rd rs (k + i + 1) e l c)) = some (.val (.d (.bool true)) (Hs (i + 1)))) :
  D env 96 [.yld kk, .ptr b1 0, .ptr b2 0] (Hs 0) = some (.val (.d (.tup [])) (Hs m)) := by
 have key := loop83 hsz hcl hb1 hb2 hq hN hk hbN hbN2 hx hend hy m 0 (by omega)
 have ht : (Hs m).take (Hs 0).length = Hs m := by rw [List.take_of_length_le (by rw [hN, hN]; omega)]
 rw [← hN 0] at key
 rw [D_own (F := A96) rfl rfl rfl rfl]
 simp only [st83, List.replicate, List.cons_append, List.nil_append] at key
 simp -implicitDefEqProofs only [A96, B96, sS, reduceCtorEq, seval, key, ht]
end Go.Proofs.YtpemlmhggiaflaaGreatDoor.Codes
namespace Go.Proofs.YtpemlmhggiaflaaGreatDoor.Codes
open Go Go.Deepv
theorem app_lt {h l : List Res} {id : Nat} (hlt : id < h.length) : (h ++ l)[id]? = h[id]? := List.getElem?_append_left hlt
theorem app_at (h l : List Res) (i : Nat) : (h ++ l)[h.length + i]? = l[i]? := by rw [List.getElem?_append_right (by omega)]; congr 1; omega
theorem app_at0 (h l : List Res) : (h ++ l)[h.length]? = l[0]? := app_at h l 0
theorem app_set_lt {h l : List Res} {id : Nat} (hlt : id < h.length) (x : Res) : (h ++ l).set id x = h.set id x ++ l := List.set_append_left id x hlt
theorem app_set (h l : List Res) (i : Nat) (x : Res) : (h ++ l).set (h.length + i) x = h ++ l.set i x := by rw [List.set_append_right _ _ (by omega)]; congr 2; omega
theorem app_set0 (h l : List Res) (x : Res) : (h ++ l).set h.length x = h ++ l.set 0 x := app_set h l 0 x
theorem take_appk (h l : List Res) (k : Nat) : (h ++ l).take (h.length + k) = h ++ l.take k := by rw [List.take_append, List.take_of_length_le (by omega)]; congr 2; omega
theorem take_app0 (h l : List Res) : (h ++ l).take h.length = h := by simp
theorem get_set {h : List Res} {id : Nat} (hlt : id < h.length) (x : Res) : (h.set id x)[id]? = some x := by simp [hlt]
theorem take_set (h : List Res) (id : Nat) (x : Res) : (h.set id x).take h.length = h.set id x := by rw [List.take_of_length_le (by simp)]
theorem set_self {h : List Res} {id : Nat} {x : Res} (hq : h[id]? = some x) : h.set id x = h := by
 apply List.ext_getElem?
 intro i
 rw [List.getElem?_set]
 split
 ·rename_i he
  subst he
  have := (List.getElem?_eq_some_iff.1 hq).1
  rw [if_pos this, hq]
 ·rfl
theorem rtake {cf id n0 k m : Nat} {Ts : Nat → List Res} {rs : List Rn} {e l c : Int} {p : Int → Bool} {LP : Res} (hsz : k + m + 1 ≤ 1000000000)
  (hcl : ∀ (r : Int) (t : List Res), D env cf [.d (.int .i32 r)] t = some (.val (.d (.bool (p r))) t))
  (hq : ∀ i, (Ts i)[id]? = some (rd rs (k + i) e l c)) (hN : ∀ i, (Ts i).length = n0)
  {x : Nat → Rn} (hx : ∀ i, i < m → rs[k + i]? = some (x i) ∧ p (x i).r = true) (hend : rs.length ≤ k + m ∨ ∃ y, rs[k + m]? = some y ∧ p y.r = false)
  (hy : ∀ i, i < m → Y env (n0 + 2) [.d (.int .i32 (x i).r)] ((Ts i).set id (rd rs (k + i + 1) e l c) ++ [.box [.ptr id 0], .box [.d (.func (.func cf) [] [])], LP]) = some (.val (.d (.bool true)) (Ts (i + 1) ++ [.box [.ptr id 0], .box [.d (.func (.func cf) [] [])], LP]))) :
  D env 96 [.yld (n0 + 2), .ptr n0 0, .ptr (n0 + 1) 0] (Ts 0 ++ [.box [.ptr id 0], .box [.d (.func (.func cf) [] [])], LP]) = some (.val (.d (.tup [])) (Ts m ++ [.box [.ptr id 0], .box [.d (.func (.func cf) [] [])], LP])) := by
 have hid : ∀ i, id < (Ts i).length := fun i => (List.getElem?_eq_some_iff.1 (hq i)).1
 refine iter83_ok (id := id) (e := e) (l := l) (c := c) (rs := rs) (k := k) (N := n0 + 3) (Hs := fun i => Ts i ++ [.box [.ptr id 0], .box [.d (.func (.func cf) [] [])], LP]) hsz hcl (fun i => ?_) (fun i => ?_) (fun i => ?_) (fun i => ?_) (by omega) (by omega) (by omega) hx hend (fun i hi => ?_)
 ·have := app_at0 (Ts i) [.box [.ptr id 0], .box [.d (.func (.func cf) [] [])], LP]
  rw [hN i] at this
  exact this
 ·have := app_at (Ts i) [.box [.ptr id 0], .box [.d (.func (.func cf) [] [])], LP] 1
  rw [hN i] at this
  exact this
 ·rw [app_lt (hid i)]
  exact hq i
 ·simp [hN i]
 ·rw [app_set_lt (hid i)]
  exact hy i hi
def cnt (p : Int → Bool) : List Rn → Nat
 | [] => 0
 | x :: t => if p x.r then cnt p t + 1 else 0
theorem cnt_le (p : Int → Bool) (l : List Rn) : cnt p l ≤ l.length := by
 induction l with
 | nil => simp [cnt]
 | cons x t ih => simp only [cnt, List.length_cons]; split <;> omega
theorem cnt_at (p : Int → Bool) : ∀ (l : List Rn) (i : Nat), i < cnt p l → ∃ x, l[i]? = some x ∧ p x.r = true := by
 intro l
 induction l with
 | nil => intro i h; simp [cnt] at h
 | cons x t ih =>
  intro i h
  simp only [cnt] at h
  split at h
  ·rename_i hp
   match i, h with
   | 0, _ => exact ⟨x, rfl, hp⟩
   | i + 1, h => exact ih i (by omega)
  ·omega
theorem cnt_end (p : Int → Bool) : ∀ (l : List Rn), l.length ≤ cnt p l ∨ ∃ y, l[cnt p l]? = some y ∧ p y.r = false := by
 intro l
 induction l with
 | nil => left; simp
 | cons x t ih =>
  simp only [cnt]
  cases hp : p x.r with
  | true =>
   simp only [if_true, List.length_cons, List.getElem?_cons_succ]
   rcases ih with h | h
   ·left; omega
   ·exact .inr h
  | false =>
   right
   simp [hp]
theorem cnt_drop (p : Int → Bool) (rs : List Rn) (k : Nat) : (∀ i, i < cnt p (rs.drop k) → rs[k + i]? = some (rs.getD (k + i) ⟨0, 0, 0, 0⟩) ∧ p (rs.getD (k + i) ⟨0, 0, 0, 0⟩).r = true) ∧
  (rs.length ≤ k + cnt p (rs.drop k) ∨ ∃ y, rs[k + cnt p (rs.drop k)]? = some y ∧ p y.r = false) := by
 refine ⟨fun i hi => ?_, ?_⟩
 ·obtain ⟨x, h1, h2⟩ := cnt_at p _ i hi
  rw [List.getElem?_drop] at h1
  rw [List.getD_eq_getElem?_getD, h1]
  exact ⟨rfl, h2⟩
 ·rcases cnt_end p (rs.drop k) with h | ⟨y, h1, h2⟩
  ·left
   rw [List.length_drop] at h
   omega
  ·right
   rw [List.getElem?_drop] at h1
   exact ⟨y, h1, h2⟩
def notNl (r : Int) : Bool := !decide (r = 10)
theorem notnl_ok (r : Int) (h : List Res) : D env 69 [.d (.int .i32 r)] h = some (.val (.d (.bool (notNl r))) h) := by
 rw [D_dat (F := A69) rfl rfl rfl rfl]
 unfold notNl
 by_cases h1 : r = 10
 ·subst h1
  simp -implicitDefEqProofs only [A69, B69, sS, reduceCtorEq, seval]
 ·have h2 : (r == 10) = false := by simpa using h1
  have h3 : (r != 10) = true := by simpa using h1
  simp -implicitDefEqProofs only [A69, B69, sS, reduceCtorEq, seval, h1, h2, h3]
def sk : Bool → List Rn → List Rn
 | _, [] => []
 | false, x :: t => if rBlank x.r then sk false t else if x.r = 35 then sk true t else x :: t
 | true, x :: t => if x.r = 10 then sk false t else sk true t
theorem sk_blank : ∀ l : List Rn, sk false l = sk false (l.drop (cnt rBlank l)) := by
 intro l
 induction l with
 | nil => rfl
 | cons x t ih =>
  simp only [cnt]
  cases hp : rBlank x.r with
  | true => simp only [sk, hp, if_true, List.drop_succ_cons]; exact ih
  | false => simp
theorem sk_line : ∀ l : List Rn, sk true l = sk false (l.drop (cnt notNl l)) := by
 intro l
 induction l with
 | nil => rfl
 | cons x t ih =>
  simp only [cnt, notNl]
  by_cases hp : x.r = 10
  ·simp only [sk, hp, if_true, decide_true, Bool.not_true, Bool.false_eq_true, if_false, List.drop_zero]
   rw [if_pos (by decide)]
  ·simp only [sk, hp, if_false, decide_false, Bool.not_false, if_true, List.drop_succ_cons]
   exact ih
end Go.Proofs.YtpemlmhggiaflaaGreatDoor.Codes
namespace Go.Proofs.YtpemlmhggiaflaaGreatDoor.Codes
open Go Go.Deepv
theorem skip_round1 {t : List Res} {id : Nat} (hid : id < t.length) (cf : Nat) (r : Int) :
  Y env (t.length + 2) [.d (.int .i32 r)] (t ++ [.box [.ptr id 0], .box [.d (.func (.func cf) [] [])], .loop [4] N48R0 B48R0 (List.replicate 11 (.d .undef)) .ready]) =
   some (.val (.d (.bool true)) (t ++ [.box [.ptr id 0], .box [.d (.func (.func cf) [] [])], .loop [4] N48R0 B48R0 (List.replicate 11 (.d .undef)) .ready])) := by
 rw [Y_eq]
 simp -implicitDefEqProofs only [dyield, setAll, markLoop, endLoop, List.zip_cons_cons, List.zip_nil_right, List.foldl_cons, List.foldl_nil, N48R0, B48R0, sS, reduceCtorEq, seval, app_at, app_set, take_appk, Nat.add_assoc]
theorem skip_round2 {t : List Res} {id : Nat} (hid : id < t.length) (cf : Nat) (r : Int) :
  Y env (t.length + 2) [.d (.int .i32 r)] (t ++ [.box [.ptr id 0], .box [.d (.func (.func cf) [] [])], .loop [10] N48R1 B48R1 (List.replicate 11 (.d .undef)) .ready]) =
   some (.val (.d (.bool true)) (t ++ [.box [.ptr id 0], .box [.d (.func (.func cf) [] [])], .loop [10] N48R1 B48R1 (List.replicate 11 (.d .undef)) .ready])) := by
 rw [Y_eq]
 simp -implicitDefEqProofs only [dyield, setAll, markLoop, endLoop, List.zip_cons_cons, List.zip_nil_right, List.foldl_cons, List.foldl_nil, N48R1, B48R1, sS, reduceCtorEq, seval, app_at, app_set, take_appk, Nat.add_assoc]
theorem skip_take1 {t : List Res} {id : Nat} {rs : List Rn} {k : Nat} {e l c : Int} (hq : t[id]? = some (rd rs k e l c)) (hsz : rs.length ≤ 100000) (hk : k ≤ rs.length) :
  D env 96 [.yld (t.length + 2), .ptr t.length 0, .ptr (t.length + 1) 0] (t ++ [.box [.ptr id 0], .box [.d (.func (.func 67) [] [])], .loop [4] N48R0 B48R0 (List.replicate 11 (.d .undef)) .ready]) =
   some (.val (.d (.tup [])) (t.set id (rd rs (k + cnt rBlank (rs.drop k)) e l c) ++ [.box [.ptr id 0], .box [.d (.func (.func 67) [] [])], .loop [4] N48R0 B48R0 (List.replicate 11 (.d .undef)) .ready])) := by
 have hid : id < t.length := (List.getElem?_eq_some_iff.1 hq).1
 have hc := cnt_drop rBlank rs k
 have hm := cnt_le rBlank (rs.drop k)
 rw [List.length_drop] at hm
 have h0 := rtake (cf := 67) (id := id) (n0 := t.length) (k := k) (m := cnt rBlank (rs.drop k)) (Ts := fun i => t.set id (rd rs (k + i) e l c)) (LP := .loop [4] N48R0 B48R0 (List.replicate 11 (.d .undef)) .ready) (by omega) (fun r t => blank_ok r t) (fun i => get_set hid _) (fun i => List.length_set) hc.1 hc.2 (fun i hi => by
  simp only [List.set_set]
  have := skip_round1 (t := t.set id (rd rs (k + i + 1) e l c)) (id := id) (by simpa using hid) 67 (rs.getD (k + i) ⟨0, 0, 0, 0⟩).r
  rw [List.length_set] at this
  exact this)
 simp only [Nat.add_zero] at h0
 rw [set_self hq] at h0
 exact h0
theorem skip_take2 {t : List Res} {id : Nat} {rs : List Rn} {k : Nat} {e l c : Int} (hq : t[id]? = some (rd rs k e l c)) (hsz : rs.length ≤ 100000) (hk : k ≤ rs.length) :
  D env 96 [.yld (t.length + 2), .ptr t.length 0, .ptr (t.length + 1) 0] (t ++ [.box [.ptr id 0], .box [.d (.func (.func 69) [] [])], .loop [10] N48R1 B48R1 (List.replicate 11 (.d .undef)) .ready]) =
   some (.val (.d (.tup [])) (t.set id (rd rs (k + cnt notNl (rs.drop k)) e l c) ++ [.box [.ptr id 0], .box [.d (.func (.func 69) [] [])], .loop [10] N48R1 B48R1 (List.replicate 11 (.d .undef)) .ready])) := by
 have hid : id < t.length := (List.getElem?_eq_some_iff.1 hq).1
 have hc := cnt_drop notNl rs k
 have hm := cnt_le notNl (rs.drop k)
 rw [List.length_drop] at hm
 have h0 := rtake (cf := 69) (id := id) (n0 := t.length) (k := k) (m := cnt notNl (rs.drop k)) (Ts := fun i => t.set id (rd rs (k + i) e l c)) (LP := .loop [10] N48R1 B48R1 (List.replicate 11 (.d .undef)) .ready) (by omega) (fun r t => notnl_ok r t) (fun i => get_set hid _) (fun i => List.length_set) hc.1 hc.2 (fun i hi => by
  simp only [List.set_set]
  have := skip_round2 (t := t.set id (rd rs (k + i + 1) e l c)) (id := id) (by simpa using hid) 69 (rs.getD (k + i) ⟨0, 0, 0, 0⟩).r
  rw [List.length_set] at this
  exact this)
 simp only [Nat.add_zero] at h0
 rw [set_self hq] at h0
 exact h0
def st32 (id : Nat) : List DV := [.ptr id 0] ++ List.replicate 10 (.d .undef)
theorem loop32 {id N : Nat} {rs : List Rn} {e l c : Int} (hsz : rs.length ≤ 100000) :
  ∀ (n : Nat) (t : List Res) (k : Nat), t.length = N → rs.length - k < n → k ≤ rs.length → t[id]? = some (rd rs k e l c) →
   ∃ k', k ≤ k' ∧ k' ≤ rs.length ∧ rs.drop k' = sk false (rs.drop k) ∧
   L env N true H48L0 X48L0 B48L0 (st32 id) t = some (.ret, List.replicate 11 (.d .undef), t.set id (rd rs k' e l c)) := by
 obtain ⟨K, hK⟩ : ∃ K, L env N true H48L0 X48L0 B48L0 = K := ⟨_, rfl⟩
 rw [hK]
 intro n
 induction n with
 | zero => intro t k h1 h2; omega
 | succ n ih =>
  intro t k h1 h2 h3 hq
  subst h1
  have hid : id < t.length := (List.getElem?_eq_some_iff.1 hq).1
  have q1 := skip_take1 hq hsz h3
  have e1 := take_ok hid 67
  have hm := cnt_le rBlank (rs.drop k)
  rw [List.length_drop] at hm
  have hend := (cnt_drop rBlank rs k).2
  have hsk := sk_blank (rs.drop k)
  rw [List.drop_drop] at hsk
  generalize hk1 : k + cnt rBlank (rs.drop k) = k1 at *
  have hk1l : k1 ≤ rs.length := by omega
  have hq1 : ∀ L, (t.set id (rd rs k1 e l c) ++ L)[id]? = some (rd rs k1 e l c) := fun L => by rw [app_lt (by simpa using hid), get_set hid]
  have e2 := fun L => peek_ok (hq1 L) 0 (by omega)
  have z0 : ((0 : Nat) : Int) = 0 := rfl
  rw [Nat.add_zero, z0] at e2
  have ln : (t.set id (rd rs k1 e l c)).length = t.length := List.length_set
  have tk : ∀ L : List Res, (t.set id (rd rs k1 e l c) ++ L).take t.length = t.set id (rd rs k1 e l c) := fun L => by rw [← ln, take_app0]
  have tk2 : ∀ (L : List Res) (j : Nat), (t.set id (rd rs k1 e l c) ++ L).take (t.length + j) = t.set id (rd rs k1 e l c) ++ L.take j := fun L j => by rw [← ln, take_appk]
  have at2 : ∀ (L : List Res) (j : Nat), (t.set id (rd rs k1 e l c) ++ L)[t.length + j]? = L[j]? := fun L j => by rw [← ln, app_at]
  simp only [List.replicate] at q1
  by_cases h35 : peekR rs k1 = 35
  ·have hlt : k1 < rs.length := by
    rcases Nat.lt_or_ge k1 rs.length with h | h
    ·exact h
    ·have : rs[k1]? = none := by simp [h]
     simp [peekR, this] at h35
   have hx : rs[k1]? = some rs[k1] := by simp [hlt]
   have hx35 : (rs[k1]).r = 35 := by simpa [peekR, hx] using h35
   have hdr : rs.drop k1 = rs[k1] :: rs.drop (k1 + 1) := by simp
   have hsk2 : sk false (rs.drop k1) = sk true (rs.drop k1) := by
    rw [hdr]
    have b1 : rBlank 35 = false := by decide
    simp only [sk, hx35, b1]
    simp
   have hcn : 1 ≤ cnt notNl (rs.drop k1) := by
    rw [hdr]
    have : notNl 35 = true := by decide
    simp only [cnt, hx35, this, if_true]
    omega
   have q2 := skip_take2 (hq1 [.box [.ptr id 0], .box [.d (.func (.func 67) [] [])]]) hsz hk1l
   have e3 := take_ok (id := id) (h := t.set id (rd rs k1 e l c) ++ [.box [.ptr id 0], .box [.d (.func (.func 67) [] [])]]) (by simp; omega) 69
   have hm2 := cnt_le notNl (rs.drop k1)
   rw [List.length_drop] at hm2
   have hsk3 := sk_line (rs.drop k1)
   rw [List.drop_drop] at hsk3
   generalize hk2 : k1 + cnt notNl (rs.drop k1) = k2 at *
   obtain ⟨k', g1, g2, g3, g4⟩ := ih (t.set id (rd rs k2 e l c)) k2 (by simp) (by omega) (by omega) (get_set hid _)
   refine ⟨k', by omega, g2, by rw [hsk, hsk2, hsk3, g3], ?_⟩
   rw [List.set_set] at g4
   have tk3 : ∀ L : List Res, (t.set id (rd rs k2 e l c) ++ L).take t.length = t.set id (rd rs k2 e l c) := fun L => by
    have : (t.set id (rd rs k2 e l c)).length = t.length := List.length_set
    rw [← this, take_app0]
   have at3 : ∀ (L : List Res) (j : Nat), (t.set id (rd rs k2 e l c) ++ L)[t.length + j]? = L[j]? := fun L j => by
    have : (t.set id (rd rs k2 e l c)).length = t.length := List.length_set
    rw [← this, app_at]
   have tk4 : ∀ (L : List Res) (j : Nat), (t.set id (rd rs k2 e l c) ++ L).take (t.length + j) = t.set id (rd rs k2 e l c) ++ L.take j := fun L j => by
    have : (t.set id (rd rs k2 e l c)).length = t.length := List.length_set
    rw [← this, take_appk]
   rw [app_set_lt (by simpa using hid), List.set_set] at q2
   simp only [List.replicate, List.length_append, List.length_cons, List.length_nil, ln, List.append_assoc, List.cons_append, List.nil_append, Nat.add_assoc, Nat.reduceAdd] at q2 e3
   simp only [st32, List.replicate, List.cons_append, List.nil_append] at g4
   rw [L_round hK]
   simp -implicitDefEqProofs only [B48L0, st32, sS, reduceCtorEq, seval, e1, q1, e2, h35, e3, q2, g4, ln, tk, tk2, at2, tk3, tk4, at3, app_at, hid, Nat.add_assoc]
  ·refine ⟨k1, by omega, hk1l, ?_, ?_⟩
   ·rw [hsk]
    rcases hend with h | ⟨y, y1, y2⟩
    ·rw [List.drop_eq_nil_of_le h]
     rfl
    ·obtain ⟨hlt, hy⟩ := List.getElem?_eq_some_iff.1 y1
     have hdr : rs.drop k1 = rs[k1] :: rs.drop (k1 + 1) := by simp
     have hp : ¬ y.r = 35 := by simpa [peekR, y1] using h35
     rw [hdr, hy]
     simp [sk, y2, hp]
   ·have h36 : (peekR rs k1 == 35) = false := by simpa using h35
    rw [L_round hK]
    simp -implicitDefEqProofs only [B48L0, st32, sS, reduceCtorEq, seval, e1, q1, e2, h35, h36, ln, tk, tk2, at2, app_at, hid, Nat.add_assoc]
theorem skip_ok {id : Nat} {rs : List Rn} {e l c : Int} (hsz : rs.length ≤ 100000) {t : List Res} {k : Nat} (hk : k ≤ rs.length) (hq : t[id]? = some (rd rs k e l c)) :
  ∃ k', k ≤ k' ∧ k' ≤ rs.length ∧ rs.drop k' = sk false (rs.drop k) ∧ D env 48 [.ptr id 0] t = some (.val (.d (.tup [])) (t.set id (rd rs k' e l c))) := by
 obtain ⟨k', h1, h2, h3, h4⟩ := loop32 hsz (rs.length - k + 1) t k rfl (by omega) hk hq
 refine ⟨k', h1, h2, h3, ?_⟩
 rw [D_own (F := A48) rfl rfl rfl rfl]
 simp only [st32, List.replicate, List.cons_append, List.nil_append] at h4
 simp -implicitDefEqProofs only [A48, B48, sS, reduceCtorEq, seval, h4, take_set]
end Go.Proofs.YtpemlmhggiaflaaGreatDoor.Codes
namespace Go.Proofs.YtpemlmhggiaflaaGreatDoor.Codes
open Go Go.Deepv
theorem strCells_len (s : ByteArray) : (strCells s).length = s.size := by
 unfold strCells
 rw [List.length_map]
 rfl
theorem strCells_app (a b : ByteArray) : strCells a ++ strCells b = strCells (a ++ b) := by
 unfold strCells
 rw [ByteArray.data_append, Array.toList_append, List.map_append]
def encB (w : Int) : ByteArray := ⟨(encI w).toArray⟩
theorem encB_size (w : Int) : (encB w).size = (encI w).length := List.size_toArray ..
theorem encB_cells (w : Int) : strCells (encB w) = (encI w).map fun b => [FV.int .u8 b.toNat] := rfl
theorem w8 (n : Nat) : IntKind.u8.wrap (n : Int) = ((n % 256 : Nat) : Int) := by
 simp only [IntKind.wrap, IntKind.signed, IntKind.bits, Bool.false_and, Bool.false_eq_true, if_false]
 omega
theorem and63 (n : Nat) (h : n < 256) : IntKind.u8.wrap ((BitVec.ofInt IntKind.u8.bits (n : Int) &&& BitVec.ofInt IntKind.u8.bits 63).toNat : Nat) = ((n % 64 : Nat) : Int) := by
 have : ∀ x : Fin 256, IntKind.u8.wrap ((BitVec.ofInt IntKind.u8.bits ((x.val : Nat) : Int) &&& BitVec.ofInt IntKind.u8.bits 63).toNat : Nat) = ((x.val % 64 : Nat) : Int) := by decide
 exact this ⟨n, h⟩
theorem or128 (n : Nat) (h : n < 64) : IntKind.u8.wrap ((BitVec.ofInt IntKind.u8.bits 128 ||| BitVec.ofInt IntKind.u8.bits (n : Int)).toNat : Nat) = ((128 + n : Nat) : Int) := by
 have : ∀ x : Fin 64, IntKind.u8.wrap ((BitVec.ofInt IntKind.u8.bits 128 ||| BitVec.ofInt IntKind.u8.bits ((x.val : Nat) : Int)).toNat : Nat) = ((128 + x.val : Nat) : Int) := by decide
 exact this ⟨n, h⟩
theorem or192 (n : Nat) (h : n < 32) : IntKind.u8.wrap ((BitVec.ofInt IntKind.u8.bits 192 ||| BitVec.ofInt IntKind.u8.bits (n : Int)).toNat : Nat) = ((192 + n : Nat) : Int) := by
 have : ∀ x : Fin 32, IntKind.u8.wrap ((BitVec.ofInt IntKind.u8.bits 192 ||| BitVec.ofInt IntKind.u8.bits ((x.val : Nat) : Int)).toNat : Nat) = ((192 + x.val : Nat) : Int) := by decide
 exact this ⟨n, h⟩
theorem or224 (n : Nat) (h : n < 16) : IntKind.u8.wrap ((BitVec.ofInt IntKind.u8.bits 224 ||| BitVec.ofInt IntKind.u8.bits (n : Int)).toNat : Nat) = ((224 + n : Nat) : Int) := by
 have : ∀ x : Fin 16, IntKind.u8.wrap ((BitVec.ofInt IntKind.u8.bits 224 ||| BitVec.ofInt IntKind.u8.bits ((x.val : Nat) : Int)).toNat : Nat) = ((224 + x.val : Nat) : Int) := by decide
 exact this ⟨n, h⟩
theorem or240 (n : Nat) (h : n < 8) : IntKind.u8.wrap ((BitVec.ofInt IntKind.u8.bits 240 ||| BitVec.ofInt IntKind.u8.bits (n : Int)).toNat : Nat) = ((240 + n : Nat) : Int) := by
 have : ∀ x : Fin 8, IntKind.u8.wrap ((BitVec.ofInt IntKind.u8.bits 240 ||| BitVec.ofInt IntKind.u8.bits ((x.val : Nat) : Int)).toNat : Nat) = ((240 + x.val : Nat) : Int) := by decide
 exact this ⟨n, h⟩
theorem wrap_u32 {n : Int} (h0 : 0 ≤ n) (h1 : n < 4294967296) : IntKind.u32.wrap n = n := by
 simp only [IntKind.wrap, IntKind.signed, IntKind.bits, Bool.false_and, Bool.false_eq_true, if_false]
 omega
theorem fdiv_lit (c k : Nat) : ((c : Int).fdiv (k : Int)) = ((c / k : Nat) : Int) := by
 rw [Int.fdiv_eq_ediv_of_nonneg _ (by omega)]
 rfl
theorem D_raw {E : Env} {f : FuncId} {F : AFunc} {args : List DV} (he : E.ext f = none) (ha : E.af f = some F) (hc : F.coe = false) (hd : (F.keep == 0 && args.all DV.isD) = false) (h : List Res) :
  D E f args h = dbody (Dc E) (L E) F args h := by
 rw [D_eq]
 unfold dcallF
 rw [he, ha]
 simp only [hc, hd, Bool.false_eq_true, if_false]
theorem enc2 {c : Nat} (h1 : 128 ≤ c) (h2 : c < 2048) : encB c = ⟨#[UInt8.ofNat (192 + c / 64), UInt8.ofNat (128 + c % 64)]⟩ := by
 unfold encB encI encL
 rw [Int.toNat_natCast, if_neg (by omega), if_pos (by omega)]
set_option maxHeartbeats 2000000 in
theorem append2_ok {h : List Res} {ri : Nat} {acc : ByteArray} {w : Int} (hw : rScal w = true) (h7 : 128 ≤ w) (hr : h[ri]? = some (rr 1 acc.size 5)) (hs : acc.size ≤ 1000000) :
  D env 135 [.row 1 (strCells acc) ri, .d (.int .i32 w)] h = some (.val (.row 1 (strCells (acc ++ encB w)) ri) (h.set ri (rr 1 (acc ++ encB w).size 5))) := by
 rw [D_raw (F := A135) rfl rfl rfl rfl]
 have hv := (rScal_iff w).1 hw
 obtain ⟨c, rfl⟩ : ∃ c : Nat, w = c := ⟨w.toNat, (Int.toNat_of_nonneg hv.1).symm⟩
 rw [Int.toNat_natCast, valid_iff] at hv
 have app : ∀ new : List (List FV), new.length ≤ 10 → appRow 1 1 (.row 1 (strCells acc) ri) (some (1, new)) h 5 = some (.val (.row 1 (strCells acc ++ new) ri) (h.set ri (rr 1 ((strCells acc).length + new.length) 5))) := fun new hn =>
  appRow_any (by rw [strCells_len]; exact hr) (by rw [strCells_len]; omega) (by decide) (by decide) 1 rfl
 have hri : ri < h.length := (List.getElem?_eq_some_iff.1 hr).1
 rw [← strCells_app, ByteArray.size_append, encB_size, encB_cells]
 unfold encI encL
 rw [Int.toNat_natCast]
 have wu : IntKind.u32.wrap (c : Int) = c := wrap_u32 (by omega) (by omega)
 have a0 : ¬ c < 128 := by omega
 have m6 : (min 6 IntKind.i32.bits) = 6 := rfl
 have m12 : (min 12 IntKind.i32.bits) = 12 := rfl
 have m18 : (min 18 IntKind.i32.bits) = 18 := rfl
 have p6 : (2 : Int) ^ 6 = ((64 : Nat) : Int) := rfl
 have p12 : (2 : Int) ^ 12 = ((4096 : Nat) : Int) := rfl
 have p18 : (2 : Int) ^ 18 = ((262144 : Nat) : Int) := rfl
 have d6 : (c : Int).fdiv 64 = ((c / 64 : Nat) : Int) := fdiv_lit c 64
 have d12 : (c : Int).fdiv 4096 = ((c / 4096 : Nat) : Int) := fdiv_lit c 4096
 have d18 : (c : Int).fdiv 262144 = ((c / 262144 : Nat) : Int) := fdiv_lit c 262144
 have v0 := w8 c
 have v6 := w8 (c / 64)
 have v12 := w8 (c / 4096)
 have b0 := and63 (c % 256) (Nat.mod_lt _ (by decide))
 have b6 := and63 (c / 64 % 256) (Nat.mod_lt _ (by decide))
 have b12 := and63 (c / 4096 % 256) (Nat.mod_lt _ (by decide))
 have x0 : c % 256 % 64 = c % 64 := by omega
 have x6 : c / 64 % 256 % 64 = c / 64 % 64 := by omega
 have x12 : c / 4096 % 256 % 64 = c / 4096 % 64 := by omega
 rw [x0] at b0
 rw [x6] at b6
 rw [x12] at b12
 have r0 := or128 (c % 64) (Nat.mod_lt _ (by decide))
 have r6 := or128 (c / 64 % 64) (Nat.mod_lt _ (by decide))
 have r12 := or128 (c / 4096 % 64) (Nat.mod_lt _ (by decide))
 have o0 : (UInt8.ofNat (128 + c % 64)).toNat = 128 + c % 64 := ofNat_toNat (by omega)
 have o6 : (UInt8.ofNat (128 + c / 64 % 64)).toNat = 128 + c / 64 % 64 := ofNat_toNat (by omega)
 have o12 : (UInt8.ofNat (128 + c / 4096 % 64)).toNat = 128 + c / 4096 % 64 := ofNat_toNat (by omega)
 rw [if_neg a0]
 by_cases c1 : c < 2048
 ·rw [if_pos c1]
  have g1 : (c : Int) ≤ 2047 := by omega
  have v6' : IntKind.u8.wrap ((c / 64 : Nat) : Int) = ((c / 64 : Nat) : Int) := by rw [v6]; congr 1; omega
  have u0 := or192 (c / 64) (by omega)
  have oh : (UInt8.ofNat (192 + c / 64)).toNat = 192 + c / 64 := ofNat_toNat (by omega)
  have ap := app [[FV.int .u8 ((192 + c / 64 : Nat) : Int)], [FV.int .u8 ((128 + c % 64 : Nat) : Int)]] (by simp)
  simp only [strCells_len, List.length_cons, List.length_nil, Nat.zero_add, Nat.reduceAdd] at ap
  simp -implicitDefEqProofs only [A135, B135, sS, reduceCtorEq, seval, wu, g1, m6, p6, d6, v6', u0, v0, b0, r0, ap, oh, o0, hri, take_set, strCells_len]
 rw [if_neg c1]
 have g1 : ¬ (c : Int) ≤ 2047 := by omega
 by_cases c2 : c < 65536
 ·rw [if_pos c2]
  have v12' : IntKind.u8.wrap ((c / 4096 : Nat) : Int) = ((c / 4096 : Nat) : Int) := by rw [v12]; congr 1; omega
  have u0 := or224 (c / 4096) (by omega)
  have oh : (UInt8.ofNat (224 + c / 4096)).toNat = 224 + c / 4096 := ofNat_toNat (by omega)
  have ap := app [[FV.int .u8 ((224 + c / 4096 : Nat) : Int)], [FV.int .u8 ((128 + c / 64 % 64 : Nat) : Int)], [FV.int .u8 ((128 + c % 64 : Nat) : Int)]] (by simp)
  simp only [strCells_len, List.length_cons, List.length_nil, Nat.zero_add, Nat.reduceAdd] at ap
  by_cases c3 : c < 55296
  ·have g2 : (c : Int) < 55296 := by omega
   simp -implicitDefEqProofs only [A135, B135, sS, reduceCtorEq, seval, wu, g1, g2, m6, p6, m12, p12, d6, d12, v6, v12', b6, r6, u0, v0, b0, r0, ap, oh, o0, o6, hri, take_set, strCells_len]
  ·have g2 : ¬ (c : Int) < 55296 := by omega
   have g3 : (57343 : Int) < c := by omega
   have g4 : (c : Int) ≤ 65535 := by omega
   simp -implicitDefEqProofs only [A135, B135, sS, reduceCtorEq, seval, wu, g1, g2, g3, g4, m6, p6, m12, p12, d6, d12, v6, v12', b6, r6, u0, v0, b0, r0, ap, oh, o0, o6, hri, take_set, strCells_len]
 rw [if_neg c2]
 have g2 : ¬ (c : Int) < 55296 := by omega
 have g3 : (57343 : Int) < c := by omega
 have g4 : ¬ (c : Int) ≤ 65535 := by omega
 have g5 : (65535 : Int) < c := by omega
 have g6 : (c : Int) ≤ 1114111 := by omega
 have v18' : IntKind.u8.wrap ((c / 262144 : Nat) : Int) = ((c / 262144 : Nat) : Int) := by rw [w8]; congr 1; omega
 have u0 := or240 (c / 262144) (by omega)
 have oh : (UInt8.ofNat (240 + c / 262144)).toNat = 240 + c / 262144 := ofNat_toNat (by omega)
 have ap := app [[FV.int .u8 ((240 + c / 262144 : Nat) : Int)], [FV.int .u8 ((128 + c / 4096 % 64 : Nat) : Int)], [FV.int .u8 ((128 + c / 64 % 64 : Nat) : Int)], [FV.int .u8 ((128 + c % 64 : Nat) : Int)]] (by simp)
 simp only [strCells_len, List.length_cons, List.length_nil, Nat.zero_add, Nat.reduceAdd] at ap
 simp -implicitDefEqProofs only [A135, B135, sS, reduceCtorEq, seval, wu, g1, g2, g3, g4, g5, g6, m6, p6, m12, p12, m18, p18, d6, d12, d18, v6, v12, v18', b6, r6, b12, r12, u0, v0, b0, r0, ap, oh, o0, o6, o12, hri, take_set, strCells_len]
theorem append_ok {h : List Res} {ri : Nat} {acc : ByteArray} {w : Int} (hw : rScal w = true) (hr : h[ri]? = some (rr 1 acc.size 5)) (hs : acc.size ≤ 1000000) :
  D env 123 [.row 1 (strCells acc) ri, .d (.int .i32 w)] h = some (.val (.row 1 (strCells (acc ++ encB w)) ri) (h.set ri (rr 1 (acc ++ encB w).size 5))) := by
 rw [D_raw (F := A123) rfl rfl rfl rfl]
 have hri : ri < h.length := (List.getElem?_eq_some_iff.1 hr).1
 have hv := (rScal_iff w).1 hw
 by_cases h7 : 128 ≤ w
 ·have e := append2_ok hw h7 hr hs
  have wu : IntKind.u32.wrap w = w := by
   have := hv.2
   rw [valid_iff] at this
   exact wrap_u32 (by omega) (by omega)
  have g1 : ¬ w ≤ 127 := by omega
  simp -implicitDefEqProofs only [A123, B123, sS, reduceCtorEq, seval, wu, g1, e, hri, take_set]
 ·obtain ⟨c, rfl⟩ : ∃ c : Nat, w = c := ⟨w.toNat, (Int.toNat_of_nonneg hv.1).symm⟩
  have wu : IntKind.u32.wrap (c : Int) = c := wrap_u32 (by omega) (by omega)
  have g1 : (c : Int) ≤ 127 := by omega
  have v0 : IntKind.u8.wrap (c : Int) = c := by rw [w8]; congr 1; omega
  have ap : appRow 1 1 (.row 1 (strCells acc) ri) (some (1, [[FV.int .u8 (c : Int)]])) h 5 = some (.val (.row 1 (strCells acc ++ [[FV.int .u8 (c : Int)]]) ri) (h.set ri (rr 1 ((strCells acc).length + 1) 5))) :=
   appRow_any (by rw [strCells_len]; exact hr) (by rw [strCells_len]; simp; omega) (by decide) (by decide) 1 rfl
  simp only [strCells_len] at ap
  rw [← strCells_app, ByteArray.size_append, encB_size, encB_cells]
  unfold encI encL
  rw [Int.toNat_natCast, if_pos (by omega)]
  have oh : (UInt8.ofNat c).toNat = c := ofNat_toNat (by omega)
  simp -implicitDefEqProofs only [A123, B123, sS, reduceCtorEq, seval, wu, g1, v0, ap, oh, hri, take_set, strCells_len]
end Go.Proofs.YtpemlmhggiaflaaGreatDoor.Codes
