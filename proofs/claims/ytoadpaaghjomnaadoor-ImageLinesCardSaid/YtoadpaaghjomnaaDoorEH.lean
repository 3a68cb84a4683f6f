/-
  What an image says of itself: the text.
  Conditions: none.
-/
import Derived.Test.YtoadpaaghjomnaaDoorEG
import Derived.Test.YtoadpaaghjomnaaDoorEC
import Derived.Lib.ItoaLen
set_option linter.unusedVariables false
set_option linter.unusedSimpArgs false
set_option maxRecDepth 100000
namespace Go.Proofs.YtoadpaaghjomnaaDoor.Codes
open Go.Deepv

/-! ### Texts -/
def nl (b : ByteArray) : Nat := b.data.toList.count 10
theorem data_app (a b : ByteArray) : (a ++ b).data.toList = a.data.toList ++ b.data.toList := by
  rw [ByteArray.data_append, Array.toList_append]
theorem nl_app (a b : ByteArray) : nl (a ++ b) = nl a + nl b := by
  unfold nl
  rw [data_app, List.count_append]
theorem size_eq (a : ByteArray) : a.size = a.data.toList.length := rfl

theorem dec_no (u : Nat) : ∀ b ∈ Lib.decDigits u, 48 ≤ b.toNat := by
  induction u using Nat.strongRecOn with
  | ind u ih =>
    intro b hb
    rw [Lib.decDigits] at hb
    split at hb
    · rename_i h
      simp at hb
      subst hb
      simp
      omega
    · rename_i h
      rw [List.mem_append] at hb
      rcases hb with hb | hb
      · exact ih (u / 10) (by omega) b hb
      · simp at hb
        subst hb
        simp
        omega
theorem itoa_no (n : Int) : (Lib.itoa n).count 10 = 0 := by
  rw [List.count_eq_zero]
  intro h
  unfold Lib.itoa at h
  split at h
  · rcases List.mem_cons.1 h with h | h
    · cases h
    · have := dec_no _ _ h
      simp at this
  · have := dec_no _ _ h
    simp at this

def Wd.len : Wd → Nat
  | .s t => t.size
  | .n _ => 21
def Wd.nls : Wd → Nat
  | .s t => nl t
  | .n _ => 0
theorem txt_len (w : Wd) (h : w.ok) : w.txt.data.toList.length ≤ w.len := by
  cases w with
  | s t => exact Nat.le_refl _
  | n i => exact Lib.itoa_length_le i h.1 h.2
theorem txt_nl (w : Wd) : w.txt.data.toList.count 10 = w.nls := by
  cases w with
  | s t => rfl
  | n i => exact itoa_no i

theorem joinTail_len (sep : List UInt8) : ∀ (ws : List Wd), (∀ w ∈ ws, w.ok) → (Lib.joinTail sep ((ws.map Wd.txt).map (·.data.toList))).length ≤ (ws.map (fun w => w.len + sep.length)).sum
  | [], _ => Nat.le_refl _
  | w :: ws, h => by
    have h1 := joinTail_len sep ws fun w' hw => h w' (List.mem_cons_of_mem _ hw)
    have h2 := txt_len w (h w (by simp))
    simp only [Lib.joinTail, List.map_cons, List.flatten_cons, List.length_append, List.sum_cons] at h1 ⊢
    omega
theorem joinTail_nl (sep : List UInt8) (hs : sep.count 10 = 0) : ∀ (ws : List Wd), (Lib.joinTail sep ((ws.map Wd.txt).map (·.data.toList))).count 10 = (ws.map Wd.nls).sum
  | [] => rfl
  | w :: ws => by
    have h1 := joinTail_nl sep hs ws
    have h2 := txt_nl w
    simp only [Lib.joinTail, List.map_cons, List.flatten_cons, List.count_append, List.sum_cons] at h1 ⊢
    omega

theorem line_len (w : Wd) (ws : List Wd) (h : ∀ x ∈ w :: ws, x.ok) : (Lib.join (((w :: ws).map Wd.txt).map (·.data.toList)) [32]).length ≤ w.len + (ws.map (fun w => w.len + 1)).sum := by
  rw [List.map_cons, List.map_cons, Lib.join_cons, List.length_append]
  have h1 := joinTail_len [32] ws fun w' hw => h w' (List.mem_cons_of_mem _ hw)
  have h2 := txt_len w (h w (by simp))
  simp only [List.length_singleton] at h1
  omega
theorem line_nl (w : Wd) (ws : List Wd) : nl (lineOf (w :: ws)) = 1 + w.nls + (ws.map Wd.nls).sum := by
  unfold lineOf
  rw [nl_app]
  have h3 : nl ⟨#[10]⟩ = 1 := rfl
  have h4 : nl (joined ((w :: ws).map Wd.txt) ⟨#[32]⟩) = w.nls + (ws.map Wd.nls).sum := by
    unfold nl joined
    show List.count 10 (Lib.join (((w :: ws).map Wd.txt).map (·.data.toList)) [32]) = _
    rw [List.map_cons, List.map_cons, Lib.join_cons, List.count_append, joinTail_nl [32] rfl, txt_nl]
  omega
theorem line_size (w : Wd) (ws : List Wd) (h : ∀ x ∈ w :: ws, x.ok) : (lineOf (w :: ws)).size ≤ w.len + (ws.map (fun w => w.len + 1)).sum + 1 := by
  have h1 := line_len w ws h
  unfold lineOf
  rw [size_eq, data_app, List.length_append]
  have h2 : (joined ((w :: ws).map Wd.txt) ⟨#[32]⟩).data.toList = Lib.join (((w :: ws).map Wd.txt).map (·.data.toList)) [32] := rfl
  have h3 : (⟨#[10]⟩ : ByteArray).data.toList.length = 1 := rfl
  rw [h2]
  omega
end Go.Proofs.YtoadpaaghjomnaaDoor.Codes
