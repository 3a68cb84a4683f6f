/-
  Each token that is read can be shown and is read back; how long it is shown.
  Conditions: none.
-/
import Derived.Test.YtoadpaaghjomnaaDoorHB
set_option linter.unusedVariables false
set_option linter.unusedSimpArgs false
set_option maxRecDepth 100000
namespace Go.Proofs.YtoadpaaghjomnaaDoor.Codes
open Go Go.Deepv

/-- Its text is of runes w, which are read as it when a blank stands behind. -/
structure BackW (x : Tk) (w : List Int) : Prop where
  sc : Sc w
  enc : (showV x).data.toList = encLs w
  ne : w ≠ []
  head : rBlank (pk w 0) = false ∧ pk w 0 ≠ 35
  tok : ∀ rest, tokI (w ++ 32 :: rest) = .ok (x, w.length)

theorem take_pk {l : List Int} {n : Nat} (h : 1 ≤ n) (hl : l ≠ []) : pk (l.take n) 0 = pk l 0 ∧ l.take n ≠ [] := by
  cases l with
  | nil => exact absurd rfl hl
  | cons x t =>
    match n, h with
    | n + 1, _ => exact ⟨rfl, by simp⟩
theorem app_pk {w : List Int} (h : w ≠ []) (r : List Int) : pk (w ++ r) 0 = pk w 0 := by
  cases w with
  | nil => exact absurd rfl h
  | cons x t => rfl
theorem sc_take {l : List Int} (h : Sc l) (n : Nat) : Sc (l.take n) := fun x hx => h x (List.mem_of_mem_take hx)
theorem sc_drop {l : List Int} (h : Sc l) (n : Nat) : Sc (l.drop n) := fun x hx => h x (List.mem_of_mem_drop hx)
theorem low_blank {r : Int} (h : rLow r = true ∨ rUp r = true ∨ rDig r = true) : rBlank r = false ∧ r ≠ 35 := by
  have : r ≠ 9 ∧ r ≠ 10 ∧ r ≠ 13 ∧ r ≠ 32 ∧ r ≠ 35 := by
    simp only [rLow, rUp, rDig, Bool.or_eq_true, Bool.and_eq_true, decide_eq_true_eq] at h
    omega
  unfold rBlank
  simp [this]
theorem dig_not {r : Int} (h : rDig r = true) : (rLow r || rUp r) = false := by
  simp only [rDig, Bool.and_eq_true, decide_eq_true_eq] at h
  have h1 : ¬ 97 ≤ r := by omega
  have h2 : ¬ 128 ≤ r := by omega
  have h3 : ¬ 65 ≤ r := by omega
  simp [rLow, rUp, h1, h2, h3]
theorem nameKind_in (t : ByteArray) (r : Int) : nameKind t r = 1 ∨ nameKind t r = 2 ∨ nameKind t r = 5 := by
  unfold nameKind
  split
  · exact .inr (.inr rfl)
  · split
    · exact .inr (.inl rfl)
    · exact .inl rfl

theorem back_of {l : List Int} {x : Tk} {m : Nat} (hs : Sc l) (hl : l ≠ []) (h : tokI l = .ok (x, m)) : ∃ w, BackW x w ∧ x.kind ≠ 0 := by
  unfold tokI tokF at h
  by_cases c1 : (rLow (pk l 0) || rUp (pk l 0)) = true
  · simp only [c1, if_true] at h
    split at h
    · cases h
    · rename_i h24
      simp only [Except.ok.injEq, Prod.mk.injEq] at h
      obtain ⟨rfl, rfl⟩ := h
      have hpart : rPart (pk l 0) = true := by
        unfold rPart
        cases h1 : rLow (pk l 0) <;> simp_all
      have hpos : 1 ≤ cntI rPart l := by
        cases l with
        | nil => exact absurd rfl hl
        | cons y t =>
          rw [pk_cons0] at hpart
          simp only [cntI, hpart, if_true]
          omega
      obtain ⟨hp, hne⟩ := take_pk hpos hl
      have hall := cntI_take rPart l
      have hk := nameKind_in (textI (l.take (cntI rPart l))) (pk l 0)
      have hlen : (l.take (cntI rPart l)).length = cntI rPart l := by
        rw [List.length_take]
        have := cntI_le rPart l
        omega
      refine ⟨l.take (cntI rPart l), ⟨sc_take hs _, ?_, hne, ?_, fun rest => ?_⟩, by simp only; omega⟩
      · unfold showV
        rw [if_pos (by simp only; omega)]
        exact textI_enc _
      · rw [hp]
        refine low_blank ?_
        rcases Bool.or_eq_true_iff.1 c1 with h | h
        · exact .inl h
        · exact .inr (.inl h)
      · generalize l.take (cntI rPart l) = w at *
        have hc := cntI_all (p := rPart) (c := 32) (by decide) rest w hall
        unfold tokI tokF
        rw [app_pk hne, hp, c1, if_pos rfl, hc, if_neg (by omega), List.take_left]
  · have c1' : (rLow (pk l 0) || rUp (pk l 0)) = false := by simpa using c1
    simp only [c1', Bool.false_eq_true, if_false] at h
    by_cases c2 : rDig (pk l 0) = true
    · simp only [c2, if_true] at h
      split at h
      · cases h
      · rename_i hg
        simp only [Except.ok.injEq, Prod.mk.injEq] at h
        obtain ⟨rfl, rfl⟩ := h
        have hin := numI_in (l.take (cntI rDig l)) (cntI_take rDig l)
        generalize (numI (l.take (cntI rDig l))).2 = v at *
        obtain ⟨u, rfl⟩ : ∃ u : Nat, v = u := ⟨v.toNat, (Int.toNat_of_nonneg hin.1).symm⟩
        have hdd := dd_dig u
        have hasc : ∀ b ∈ Lib.decDigits u, b.toNat < 128 := fun b hb => by have := hdd b hb; omega
        obtain ⟨e1, e2⟩ := wB_enc _ hasc
        have hall : ∀ y ∈ wB (Lib.decDigits u), rDig y = true := fun y hy => by
          unfold wB at hy
          obtain ⟨b, hb, rfl⟩ := List.mem_map.1 hy
          have := hdd b hb
          simp only [rDig, Bool.and_eq_true, decide_eq_true_eq]
          omega
        have hne : wB (Lib.decDigits u) ≠ [] := by
          intro hh
          exact dd_ne u (List.map_eq_nil_iff.1 hh)
        have hnum := dd_num u hin.2
        have hd0 : rDig (pk (wB (Lib.decDigits u)) 0) = true := by
          cases hw : wB (Lib.decDigits u) with
          | nil => exact absurd hw hne
          | cons y t => exact hall y (by rw [hw]; exact List.mem_cons_self)
        refine ⟨wB (Lib.decDigits u), ⟨e2, ?_, hne, low_blank (.inr (.inr hd0)), fun rest => ?_⟩, by simp⟩
        · unfold showV digitsB Lib.itoa
          rw [if_neg (by simp), if_pos rfl]
          simp only
          rw [if_neg (by omega), show (max (u : Int) 0).toNat = u by omega, e1]
        · generalize wB (Lib.decDigits u) = w at *
          have hc := cntI_all (p := rDig) (c := 32) (by decide) rest w hall
          unfold tokI tokF
          rw [app_pk hne, dig_not hd0, if_neg (by simp), hd0, if_pos rfl, hc, List.take_left, hnum]
          rfl
    · have c2' : rDig (pk l 0) = false := by simpa using c2
      simp only [c2', Bool.false_eq_true, if_false] at h
      by_cases c3 : pk l 0 = 34
      · simp only [c3, if_true] at h
        split at h
        · rename_i b n hq
          split at h
          · cases h
          · rename_i h64
            simp only [Except.ok.injEq, Prod.mk.injEq] at h
            obtain ⟨rfl, rfl⟩ := h
            have hfa : ∀ b' ∈ (34 : UInt8) :: (b.data.toList.flatMap escShow ++ [34]), b'.toNat < 128 := fun b' hb' => by
              rcases List.mem_cons.1 hb' with rfl | hb'
              · decide
              · rcases List.mem_append.1 hb' with hb' | hb'
                · obtain ⟨c, _, hc⟩ := List.mem_flatMap.1 hb'
                  exact escShow_ascii c b' hc
                · simp only [List.mem_cons, List.not_mem_nil, or_false] at hb'
                  subst hb'
                  decide
            obtain ⟨e1, e2⟩ := wB_enc _ hfa
            have hfold : ∀ (bs : List UInt8) (a : ByteArray), (bs.foldl (fun a c => a ++ escA c) a).data.toList = a.data.toList ++ bs.flatMap escShow := by
              intro bs
              induction bs with
              | nil => intro a; simp
              | cons c bs ih =>
                intro a
                rw [List.foldl_cons, ih, app_toList, List.flatMap_cons, List.append_assoc]
                rfl
            have hsplit : wB ((34 : UInt8) :: (b.data.toList.flatMap escShow ++ [34])) = 34 :: (wB (b.data.toList.flatMap escShow) ++ [34]) := by
              rw [show wB ((34 : UInt8) :: (b.data.toList.flatMap escShow ++ [34])) = 34 :: wB (b.data.toList.flatMap escShow ++ [34]) from rfl, wB_app]
              rfl
            refine ⟨wB ((34 : UInt8) :: (b.data.toList.flatMap escShow ++ [34])), ⟨e2, ?_, by simp [wB], ?_, fun rest => ?_⟩, by simp⟩
            · rw [e1]
              unfold showV quoteB
              rw [if_neg (by simp), if_neg (by simp), if_pos rfl, app_toList, hfold]
              simp
            · rw [hsplit, pk_cons0]
              decide
            · have hb0 : (⟨#[]⟩ : ByteArray) ++ ⟨b.data.toList.toArray⟩ = b := by
                rw [empty_app]
              rw [hsplit]
              have happ : 34 :: (wB (b.data.toList.flatMap escShow) ++ [34]) ++ 32 :: rest = 34 :: (wB (b.data.toList.flatMap escShow) ++ 34 :: 32 :: rest) := by simp
              have hqt := qt_shown b.data.toList ((34 :: (wB (b.data.toList.flatMap escShow) ++ 34 :: 32 :: rest)).length + 1) ⟨#[]⟩ (32 :: rest) (by simp [wB_len]; omega)
              rw [happ]
              unfold tokI tokF
              have h34a : (rLow (34 : Int) || rUp (34 : Int)) = false := by decide
              have h34b : rDig (34 : Int) = false := by decide
              rw [pk_cons0, h34a, if_neg (by simp), h34b, if_neg (by simp), if_pos rfl, List.drop_succ_cons, List.drop_zero, hqt, hb0]
              simp only
              rw [if_neg h64]
              simp [wB_len]
              omega
        · cases h
      · simp only [c3, if_false] at h
        split at h
        · cases h
        · rename_i hn
          simp only [Except.ok.injEq, Prod.mk.injEq] at h
          obtain ⟨rfl, rfl⟩ := h
          have hle := signN_le (pk l 0) (pk l 1)
          have hsn : signN (pk l 0) (pk l 1) = signN (pk l 0) (pk l 1) := rfl
          generalize hns : signN (pk l 0) (pk l 1) = n at *
          have hnn : n = 1 ∨ n = 2 := by omega
          cases l with
          | nil => exact absurd rfl hl
          | cons c t =>
          rw [pk_cons0] at c1' c2' c3 hns
          have hcs : isSign c = true ∨ c = 45 ∨ c = 60 ∨ c = 61 := by
            unfold signN at hns
            split at hns
            · omega
            · split at hns
              · rename_i h; exact .inl h
              · omega
          have hcs' : isSign c = true := by
            rcases hcs with h | rfl | rfl | rfl
            · exact h
            · decide
            · decide
            · decide
          have hnb : rBlank c = false ∧ c ≠ 35 := by
            have : c ≠ 9 ∧ c ≠ 10 ∧ c ≠ 13 ∧ c ≠ 32 ∧ c ≠ 35 := by
              refine ⟨?_, ?_, ?_, ?_, ?_⟩ <;> (intro hh; rw [hh] at hcs'; revert hcs'; decide)
            unfold rBlank
            simp [this]
          rcases hnn with rfl | rfl
          · refine ⟨[c], ⟨fun y hy => hs y (by simp at hy; simp [hy]), ?_, by simp, hnb, fun rest => ?_⟩, by simp⟩
            · unfold showV
              rw [if_pos (by simp)]
              exact textI_enc _
            · have h1 : signN c 32 = 1 := by
                unfold signN
                rw [if_neg (by omega), if_pos hcs']
              unfold tokI tokF
              rw [show [c] ++ 32 :: rest = c :: 32 :: rest from rfl, pk_cons0, pk_cons, pk_cons0, c1', if_neg (by simp), c2', if_neg (by simp), if_neg c3, h1, if_neg (by simp)]
              rfl
          · cases t with
            | nil =>
              have := hle.2 rfl
              rw [pk_cons, pk_nil] at this
              omega
            | cons d t =>
            rw [pk_cons, pk_cons0] at hns
            refine ⟨[c, d], ⟨fun y hy => hs y (by simp at hy; simp; rcases hy with h | h <;> simp [h]), ?_, by simp, hnb, fun rest => ?_⟩, by simp⟩
            · unfold showV
              rw [if_pos (by simp)]
              exact textI_enc _
            · unfold tokI tokF
              rw [show [c, d] ++ 32 :: rest = c :: d :: 32 :: rest from rfl, pk_cons0, pk_cons, pk_cons0, c1', if_neg (by simp), c2', if_neg (by simp), if_neg c3, hns, if_neg (by simp)]
              rfl
end Go.Proofs.YtoadpaaghjomnaaDoor.Codes
