/-
  The deep machine's limit: what a call comes to with enough rounds; its equations; its soundness.
  Conditions: the functions' deep codes are those of their codes.
-/
import Derived.Test.YtpemlmhggiaflaaGreatDoorDO
set_option linter.unusedVariables false
set_option linter.unusedSimpArgs false
namespace Go.Deepv
open Go.RowKit

abbrev CallF := Cle → List DV → List Res → Option DOut
def LeC (c c' : CallF) : Prop := ∀ f a h r, c f a h = some r → c' f a h = some r
def LeL (l l' : LoopF) : Prop := ∀ n cut hd ex c a h r, l n cut hd ex c a h = some r → l' n cut hd ex c a h = some r

theorem dcallV_mono {c c' : CallF} (hc : LeC c c') {v : DV} {a : List DV} {h : List Res} {r : DOut} (hr : dcallV c v a h = some r) : dcallV c' v a h = some r := by
  simp only [dcallV] at hr ⊢
  split at hr
  · exact hc _ _ _ _ hr
  · exact hc _ _ _ _ hr
  · exact hc _ _ _ _ hr
  · cases hr
theorem dop_mono {c c' : CallF} (hc : LeC c c') {o : DOp} {a : List DV} {h : List Res} {r : DOut} (hr : dop c o a h = some r) : dop c' o a h = some r := by
  cases o
  case call f args => exact dcallV_mono hc hr
  case calln sz f args =>
    simp only [dop] at hr ⊢
    split at hr
    · exact hc _ _ _ _ hr
    · cases hr
  case calld f args =>
    simp only [dop] at hr ⊢
    split at hr
    · split at hr
      · rename_i hall
        rw [if_pos hall]
        split at hr
        · rename_i v hv
          rw [hc _ _ _ _ hv]
          exact hr
        · cases hr
      · cases hr
    · cases hr
  case len s x => cases s <;> exact hr
  all_goals exact hr

theorem dops_mono {c c' : CallF} (hc : LeC c c') : ∀ {l : List DOper} {a : List DV} {h : List Res} {r : DRun}, dops c l a h = some r → dops c' l a h = some r
  | [], a, h, r, hr => hr
  | o :: l, a, h, r, hr => by
    simp only [dops] at hr ⊢
    split at hr
    · cases hd : dop c o.op a h with
      | none => rw [hd] at hr; cases hr
      | some out =>
        rw [hd] at hr
        rw [dop_mono hc hd]
        cases out with
        | val v h1 => exact dops_mono hc hr
        | pan v h1 => exact hr
    · exact dops_mono hc hr
    · cases hr

theorem same_mono {c c' : CallF} (hc : LeC c c') {l : List (List DOper)} {a : List DV} {h : List Res} {r : DRun} (hs : same c l a h r = true) : same c' l a h r = true := by
  simp only [same, decide_eq_true_eq] at hs ⊢
  exact fun x hx => dops_mono hc (hs x hx)

theorem dexec_mono {c c' : CallF} {l l' : LoopF} (hc : LeC c c') (hl : LeL l l') : ∀ {A : ACode} {a : List DV} {h : List Res} {r : DRun}, dexec c l A a h = some r → dexec c' l' A a h = some r := by
  intro A
  induction A with
  | skip => intro a h r hr; exact hr
  | region ops => intro a h r hr; exact dops_mono hc hr
  | draw ops alts =>
    intro a h r hr
    simp only [dexec] at hr ⊢
    split at hr
    · rename_i a1 h1 hm
      rw [dops_mono hc hm]
      simp only
      split at hr
      · rename_i hs
        rw [if_pos (same_mono hc hs)]
        exact hr
      · cases hr
    · cases hr
  | seq x y ihx ihy =>
    intro a h r hr
    simp only [dexec] at hr ⊢
    cases hx : dexec c l x a h with
    | none => rw [hx] at hr; cases hr
    | some q =>
      rw [hx] at hr
      rw [ihx hx]
      obtain ⟨e, a1, h1⟩ := q
      cases e with
      | normal => exact ihy hr
      | _ => exact hr
  | cond k x y ihx ihy =>
    intro a h r hr
    simp only [dexec] at hr ⊢
    split at hr
    · rename_i b eb
      cases b with
      | true => exact ihx (by simpa using hr)
      | false => exact ihy (by simpa using hr)
    · cases hr
  | block id b ih =>
    intro a h r hr
    simp only [dexec] at hr ⊢
    cases hx : dexec c l b a h with
    | none => rw [hx] at hr; cases hr
    | some q =>
      rw [hx] at hr
      rw [ih hx]
      exact hr
  | loop cut hd ex b ih => intro a h r hr; exact hl _ _ _ _ _ _ _ _ hr
  | rangeFn f ps sn as bd _ _ =>
    intro a h r hr
    simp only [dexec] at hr ⊢
    generalize ev a f = fv at hr ⊢
    cases fv
    case yld => cases hr
    all_goals
      simp only at hr ⊢
      split at hr
      · rename_i hx
        rw [dcallV_mono hc hx]
        exact hr
      · cases hr
  | exit id => intro a h r hr; exact hr
  | ret => intro a h r hr; exact hr
  | stuck => intro a h r hr; simp [dexec] at hr

theorem dround_mono {c c' : CallF} {l l' : LoopF} (hc : LeC c c') (hl : LeL l l') : LeL (dround c l) (dround c' l') := by
  intro n cut hd ex A a h r hr
  unfold dround at hr ⊢
  cases hx : dexec c l A a h with
  | none => rw [hx] at hr; cases hr
  | some q =>
    rw [hx] at hr
    rw [dexec_mono hc hl hx]
    obtain ⟨e, a1, h1⟩ := q
    cases e with
    | normal =>
      simp only at hr ⊢
      split at hr
      · rename_i ht
        rw [if_pos ht]
        exact hl _ _ _ _ _ _ _ _ hr
      · cases hr
    | _ => exact hr

theorem dbody_mono {c c' : CallF} {l l' : LoopF} (hc : LeC c c') (hl : LeL l l') {F : AFunc} {a : List DV} {h : List Res} {r : DOut} (hr : dbody c l F a h = some r) : dbody c' l' F a h = some r := by
  unfold dbody at hr ⊢
  cases hx : dexec c l F.body (a ++ List.replicate (F.ntmps - a.length) (.d .undef)) h with
  | none => rw [hx] at hr; cases hr
  | some q =>
    rw [hx] at hr
    rw [dexec_mono hc hl hx]
    exact hr

theorem dcallF_mono {c c' : CallF} {l l' : LoopF} (hc : LeC c c') (hl : LeL l l') (E : Env) {f : FuncId} {a : List DV} {h : List Res} {r : DOut} (hr : dcallF c l E f a h = some r) : dcallF c' l' E f a h = some r := by
  unfold dcallF at hr ⊢
  cases hF : E.ext f with
  | some F => rw [hF] at hr; exact hr
  | none =>
    rw [hF] at hr
    cases hA : E.af f with
    | none => rw [hA] at hr; cases hr
    | some F =>
      rw [hA] at hr
      simp only at hr ⊢
      generalize (if F.coe then a.map DV.coe else a) = da at hr ⊢
      split at hr
      · rename_i hda
        rw [if_pos hda]
        simp only [Option.map_eq_some_iff] at hr ⊢
        obtain ⟨o, ho, rfl⟩ := hr
        exact ⟨o, dbody_mono hc hl ho, rfl⟩
      · rename_i hda
        rw [if_neg hda]
        exact dbody_mono hc hl hr

theorem dyield_mono {c c' : CallF} {l l' : LoopF} (hc : LeC c c') (hl : LeL l l') {id : Nat} {a : List DV} {h : List Res} {r : DOut} (hr : dyield c l id a h = some r) : dyield c' l' id a h = some r := by
  unfold dyield at hr ⊢
  split at hr
  · rename_i ps A B snap hh
    split at hr
    · rename_i hlen
      simp only [if_pos hlen]
      cases hx : dexec c l A (setAll snap ps a) h with
      | none => rw [hx] at hr; cases hr
      | some q =>
        rw [dexec_mono hc hl hx]
        rw [hx] at hr
        obtain ⟨e, a1, h1⟩ := q
        cases e with
        | normal =>
          simp only at hr ⊢
          split at hr
          · rename_i h1'
            cases hm : markLoop id .busy h1 with
            | none => rw [hm] at hr; cases hr
            | some h1b =>
              rw [hm] at hr
              simp only at hr ⊢
              cases hb : dexec c l B a1 h1b with
              | none => rw [hb] at hr; cases hr
              | some q2 => rw [hb] at hr; rw [dexec_mono hc hl hb]; exact hr
          · cases hr
        | _ => cases hr
    · cases hr
  · cases hr
theorem dcall_mono {c c' : CallF} {l l' : LoopF} (hc : LeC c c') (hl : LeL l l') (E : Env) : LeC (dcall c l E) (dcall c' l' E) := by
  intro f a h r hr
  cases f with
  | fn f => exact dcallF_mono hc hl E hr
  | yld id => exact dyield_mono hc hl hr

theorem drec_step (E : Env) : ∀ k, LeC (drec E k).1 (drec E (k + 1)).1 ∧ LeL (drec E k).2 (drec E (k + 1)).2
  | 0 => ⟨fun f a h r hr => by simp [drec] at hr, fun n cut hd ex c a h r hr => by simp [drec] at hr⟩
  | k + 1 => by
    obtain ⟨h1, h2⟩ := drec_step E k
    exact ⟨dcall_mono h1 h2 E, dround_mono h1 h2⟩
theorem drec_le (E : Env) {k k' : Nat} (hk : k ≤ k') : LeC (drec E k).1 (drec E k').1 ∧ LeL (drec E k).2 (drec E k').2 := by
  induction hk with
  | refl => exact ⟨fun _ _ _ _ h => h, fun _ _ _ _ _ _ _ _ h => h⟩
  | step _ ih => exact ⟨fun f a h r hr => (drec_step E _).1 f a h r (ih.1 f a h r hr), fun n cut hd ex c a h r hr => (drec_step E _).2 n cut hd ex c a h r (ih.2 n cut hd ex c a h r hr)⟩

open Classical in
/-- What a call comes to. -/
noncomputable def Dc (E : Env) : CallF := fun f a h => if hx : ∃ k r, (drec E k).1 f a h = some r then some (Classical.choose (Classical.choose_spec hx)) else none
open Classical in
/-- What a loop comes to. -/
noncomputable def L (E : Env) : LoopF := fun n cut hd ex c a h => if hx : ∃ k r, (drec E k).2 n cut hd ex c a h = some r then some (Classical.choose (Classical.choose_spec hx)) else none

theorem D_iff {E : Env} {f : Cle} {a : List DV} {h : List Res} {r : DOut} : Dc E f a h = some r ↔ ∃ k, (drec E k).1 f a h = some r := by
  unfold Dc
  constructor
  · intro hr
    split at hr
    · rename_i hx
      simp only [Option.some.injEq] at hr
      exact ⟨_, by rw [← hr]; exact Classical.choose_spec (Classical.choose_spec hx)⟩
    · cases hr
  · rintro ⟨k, hk⟩
    have hx : ∃ k r, (drec E k).1 f a h = some r := ⟨k, r, hk⟩
    rw [dif_pos hx]
    have h2 := Classical.choose_spec (Classical.choose_spec hx)
    have l1 := (drec_le E (Nat.le_max_left k (Classical.choose hx))).1 f a h r hk
    have l2 := (drec_le E (Nat.le_max_right k (Classical.choose hx))).1 f a h _ h2
    rw [l1] at l2
    exact l2.symm
theorem L_iff {E : Env} {n : Nat} {cut : Bool} {hd ex : List Bool} {c : ACode} {a : List DV} {h : List Res} {r : DRun} : L E n cut hd ex c a h = some r ↔ ∃ k, (drec E k).2 n cut hd ex c a h = some r := by
  unfold L
  constructor
  · intro hr
    split at hr
    · rename_i hx
      simp only [Option.some.injEq] at hr
      exact ⟨_, by rw [← hr]; exact Classical.choose_spec (Classical.choose_spec hx)⟩
    · cases hr
  · rintro ⟨k, hk⟩
    have hx : ∃ k r, (drec E k).2 n cut hd ex c a h = some r := ⟨k, r, hk⟩
    rw [dif_pos hx]
    have h2 := Classical.choose_spec (Classical.choose_spec hx)
    have l1 := (drec_le E (Nat.le_max_left k (Classical.choose hx))).2 n cut hd ex c a h r hk
    have l2 := (drec_le E (Nat.le_max_right k (Classical.choose hx))).2 n cut hd ex c a h _ h2
    rw [l1] at l2
    exact l2.symm

theorem le_D (E : Env) (k : Nat) : LeC (drec E k).1 (Dc E) := fun f a h r hr => D_iff.2 ⟨k, hr⟩
theorem le_L (E : Env) (k : Nat) : LeL (drec E k).2 (L E) := fun n cut hd ex c a h r hr => L_iff.2 ⟨k, hr⟩

theorem dcallV_cont {E : Env} {v : DV} {a : List DV} {h : List Res} {r : DOut} (hr : dcallV (Dc E) v a h = some r) : ∃ k, dcallV (drec E k).1 v a h = some r := by
  simp only [dcallV] at hr ⊢
  split at hr
  · obtain ⟨k, hk⟩ := D_iff.1 hr
    exact ⟨k, hk⟩
  · obtain ⟨k, hk⟩ := D_iff.1 hr
    exact ⟨k, hk⟩
  · obtain ⟨k, hk⟩ := D_iff.1 hr
    exact ⟨k, hk⟩
  · cases hr
theorem dop_cont {E : Env} {o : DOp} {a : List DV} {h : List Res} {r : DOut} (hr : dop (Dc E) o a h = some r) : ∃ k, dop (drec E k).1 o a h = some r := by
  cases o
  case call f args => exact dcallV_cont hr
  case calln sz f args =>
    simp only [dop] at hr ⊢
    split at hr
    · obtain ⟨k, hk⟩ := D_iff.1 hr
      exact ⟨k, hk⟩
    · cases hr
  case calld f args =>
    simp only [dop] at hr ⊢
    split at hr
    · split at hr
      · rename_i hall
        split at hr
        · rename_i v hv
          obtain ⟨k, hk⟩ := D_iff.1 hv
          refine ⟨k, ?_⟩
          rw [if_pos hall, hk]
          exact hr
        · cases hr
      · cases hr
    · cases hr
  case len s x => cases s <;> exact ⟨0, hr⟩
  all_goals exact ⟨0, hr⟩

theorem dops_cont {E : Env} : ∀ {l : List DOper} {a : List DV} {h : List Res} {r : DRun}, dops (Dc E) l a h = some r → ∃ k, dops (drec E k).1 l a h = some r
  | [], a, h, r, hr => ⟨0, hr⟩
  | o :: l, a, h, r, hr => by
    simp only [dops] at hr ⊢
    split at hr
    · cases hd : dop (Dc E) o.op a h with
      | none => rw [hd] at hr; cases hr
      | some out =>
        rw [hd] at hr
        obtain ⟨k1, hk1⟩ := dop_cont hd
        cases out with
        | val v h1 =>
          obtain ⟨k2, hk2⟩ := dops_cont (l := l) hr
          refine ⟨max k1 k2, ?_⟩
          rw [dop_mono (drec_le E (Nat.le_max_left k1 k2)).1 hk1]
          exact dops_mono (drec_le E (Nat.le_max_right k1 k2)).1 hk2
        | pan v h1 => exact ⟨k1, by rw [hk1]; exact hr⟩
    · exact dops_cont hr
    · cases hr

theorem same_cont {E : Env} {a : List DV} {h : List Res} {r : DRun} : ∀ {l : List (List DOper)}, same (Dc E) l a h r = true → ∃ k, same (drec E k).1 l a h r = true
  | [], _ => ⟨0, by simp [same]⟩
  | x :: l, hs => by
    have hs' : ∀ y ∈ x :: l, dops (Dc E) y a h = some r := by simpa only [same, decide_eq_true_eq] using hs
    obtain ⟨k1, hk1⟩ := dops_cont (hs' x (by simp))
    obtain ⟨k2, hk2⟩ := same_cont (l := l) (by simp only [same, decide_eq_true_eq]; exact fun y hy => hs' y (by simp [hy]))
    refine ⟨max k1 k2, ?_⟩
    have l1 := (drec_le E (Nat.le_max_left k1 k2)).1
    have l2 := (drec_le E (Nat.le_max_right k1 k2)).1
    have := same_mono l2 hk2
    simp only [same, decide_eq_true_eq] at this ⊢
    intro y hy
    rcases List.mem_cons.1 hy with rfl | hy
    · exact dops_mono l1 hk1
    · exact this y hy

theorem dexec_cont {E : Env} : ∀ {A : ACode} {a : List DV} {h : List Res} {r : DRun}, dexec (Dc E) (L E) A a h = some r → ∃ k, dexec (drec E k).1 (drec E k).2 A a h = some r := by
  intro A
  induction A with
  | skip => intro a h r hr; exact ⟨0, hr⟩
  | region ops => intro a h r hr; exact dops_cont hr
  | draw ops alts =>
    intro a h r hr
    simp only [dexec] at hr ⊢
    split at hr
    · rename_i a1 h1 hm
      split at hr
      · rename_i hs
        obtain ⟨k1, hk1⟩ := dops_cont hm
        obtain ⟨k2, hk2⟩ := same_cont hs
        refine ⟨max k1 k2, ?_⟩
        rw [dops_mono (drec_le E (Nat.le_max_left k1 k2)).1 hk1]
        simp only
        rw [if_pos (same_mono (drec_le E (Nat.le_max_right k1 k2)).1 hk2)]
        exact hr
      · cases hr
    · cases hr
  | seq x y ihx ihy =>
    intro a h r hr
    simp only [dexec] at hr ⊢
    cases hx : dexec (Dc E) (L E) x a h with
    | none => rw [hx] at hr; cases hr
    | some q =>
      rw [hx] at hr
      obtain ⟨k1, hk1⟩ := ihx hx
      obtain ⟨e, a1, h1⟩ := q
      cases e with
      | normal =>
        obtain ⟨k2, hk2⟩ := ihy hr
        refine ⟨max k1 k2, ?_⟩
        have l1 := drec_le E (Nat.le_max_left k1 k2)
        have l2 := drec_le E (Nat.le_max_right k1 k2)
        rw [dexec_mono l1.1 l1.2 hk1]
        exact dexec_mono l2.1 l2.2 hk2
      | _ => exact ⟨k1, by rw [hk1]; exact hr⟩
  | cond c x y ihx ihy =>
    intro a h r hr
    simp only [dexec] at hr ⊢
    split at hr
    · rename_i b eb
      cases b with
      | true => obtain ⟨k, hk⟩ := ihx (by simpa using hr); exact ⟨k, by simpa using hk⟩
      | false => obtain ⟨k, hk⟩ := ihy (by simpa using hr); exact ⟨k, by simpa using hk⟩
    · cases hr
  | block id b ih =>
    intro a h r hr
    simp only [dexec] at hr ⊢
    cases hx : dexec (Dc E) (L E) b a h with
    | none => rw [hx] at hr; cases hr
    | some q =>
      rw [hx] at hr
      obtain ⟨k, hk⟩ := ih hx
      exact ⟨k, by rw [hk]; exact hr⟩
  | loop cut hd ex b ih =>
    intro a h r hr
    obtain ⟨k, hk⟩ := L_iff.1 hr
    exact ⟨k, hk⟩
  | rangeFn f ps sn as bd _ _ =>
    intro a h r hr
    simp only [dexec] at hr ⊢
    generalize ev a f = fv at hr ⊢
    cases fv
    case yld => cases hr
    all_goals
      simp only at hr ⊢
      split at hr
      · rename_i hx
        obtain ⟨k, hk⟩ := dcallV_cont hx
        refine ⟨k, ?_⟩
        rw [hk]
        exact hr
      · cases hr
  | exit id => intro a h r hr; exact ⟨0, hr⟩
  | ret => intro a h r hr; exact ⟨0, hr⟩
  | stuck => intro a h r hr; simp [dexec] at hr

theorem dround_cont {E : Env} {n : Nat} {cut : Bool} {hd ex : List Bool} {A : ACode} {a : List DV} {h : List Res} {r : DRun} (hr : dround (Dc E) (L E) n cut hd ex A a h = some r) : ∃ k, dround (drec E k).1 (drec E k).2 n cut hd ex A a h = some r := by
  unfold dround at hr ⊢
  cases hx : dexec (Dc E) (L E) A a h with
  | none => rw [hx] at hr; cases hr
  | some q =>
    rw [hx] at hr
    obtain ⟨k1, hk1⟩ := dexec_cont hx
    obtain ⟨e, a1, h1⟩ := q
    cases e with
    | normal =>
      simp only at hr
      split at hr
      · rename_i ht
        obtain ⟨k2, hk2⟩ := L_iff.1 hr
        refine ⟨max k1 k2, ?_⟩
        have l1 := drec_le E (Nat.le_max_left k1 k2)
        have l2 := drec_le E (Nat.le_max_right k1 k2)
        rw [dexec_mono l1.1 l1.2 hk1]
        simp only
        rw [if_pos ht]
        exact l2.2 _ _ _ _ _ _ _ _ hk2
      · cases hr
    | _ => exact ⟨k1, by rw [hk1]; exact hr⟩

theorem dbody_cont {E : Env} {F : AFunc} {a : List DV} {h : List Res} {r : DOut} (hr : dbody (Dc E) (L E) F a h = some r) : ∃ k, dbody (drec E k).1 (drec E k).2 F a h = some r := by
  unfold dbody at hr ⊢
  cases hx : dexec (Dc E) (L E) F.body (a ++ List.replicate (F.ntmps - a.length) (.d .undef)) h with
  | none => rw [hx] at hr; cases hr
  | some q =>
    rw [hx] at hr
    obtain ⟨k, hk⟩ := dexec_cont hx
    exact ⟨k, by rw [hk]; exact hr⟩

theorem dcallF_cont {E : Env} {f : FuncId} {a : List DV} {h : List Res} {r : DOut} (hr : dcallF (Dc E) (L E) E f a h = some r) : ∃ k, dcallF (drec E k).1 (drec E k).2 E f a h = some r := by
  unfold dcallF at hr ⊢
  cases hF : E.ext f with
  | some F => rw [hF] at hr; exact ⟨0, hr⟩
  | none =>
    rw [hF] at hr
    cases hA : E.af f with
    | none => rw [hA] at hr; cases hr
    | some F =>
      rw [hA] at hr
      simp only at hr ⊢
      generalize (if F.coe then a.map DV.coe else a) = da at hr ⊢
      split at hr
      · rename_i hda
        simp only [Option.map_eq_some_iff] at hr
        obtain ⟨o, ho, rfl⟩ := hr
        obtain ⟨k, hk⟩ := dbody_cont ho
        exact ⟨k, by rw [if_pos hda, hk]; rfl⟩
      · rename_i hda
        obtain ⟨k, hk⟩ := dbody_cont hr
        exact ⟨k, by rw [if_neg hda]; exact hk⟩

theorem dyield_cont {E : Env} {id : Nat} {a : List DV} {h : List Res} {r : DOut} (hr : dyield (Dc E) (L E) id a h = some r) : ∃ k, dyield (drec E k).1 (drec E k).2 id a h = some r := by
  unfold dyield at hr ⊢
  split at hr
  · rename_i ps A B snap hh
    split at hr
    · rename_i hlen
      simp only [if_pos hlen]
      cases hx : dexec (Dc E) (L E) A (setAll snap ps a) h with
      | none => rw [hx] at hr; cases hr
      | some q =>
        obtain ⟨k1, hk1⟩ := dexec_cont hx
        rw [hx] at hr
        obtain ⟨e, a1, h1⟩ := q
        cases e with
        | normal =>
          simp only at hr
          split at hr
          · rename_i h1'
            cases hm : markLoop id .busy h1 with
            | none => rw [hm] at hr; cases hr
            | some h1b =>
              rw [hm] at hr
              simp only at hr
              cases hb : dexec (Dc E) (L E) B a1 h1b with
              | none => rw [hb] at hr; cases hr
              | some q2 =>
                obtain ⟨k2, hk2⟩ := dexec_cont hb
                have l1 := drec_le E (Nat.le_max_left k1 k2)
                have l2 := drec_le E (Nat.le_max_right k1 k2)
                refine ⟨max k1 k2, ?_⟩
                rw [dexec_mono l1.1 l1.2 hk1]
                simp only [h1', hm]
                rw [dexec_mono l2.1 l2.2 hk2]
                rw [hb] at hr
                exact hr
          · cases hr
        | _ => cases hr
    · cases hr
  · cases hr
theorem dcall_cont {E : Env} {f : Cle} {a : List DV} {h : List Res} {r : DOut} (hr : dcall (Dc E) (L E) E f a h = some r) : ∃ k, dcall (drec E k).1 (drec E k).2 E f a h = some r := by
  cases f with
  | fn f => exact dcallF_cont hr
  | yld id => exact dyield_cont hr

/-- THE EQUATION OF A CALL. -/
theorem Dc_eq (E : Env) (f : Cle) (a : List DV) (h : List Res) : Dc E f a h = dcall (Dc E) (L E) E f a h := by
  apply Option.ext
  intro r
  constructor
  · intro hr
    obtain ⟨k, hk⟩ := D_iff.1 hr
    cases k with
    | zero => simp [drec] at hk
    | succ k => exact dcall_mono (le_D E k) (le_L E k) E f a h r hk
  · intro hr
    obtain ⟨k, hk⟩ := dcall_cont hr
    exact D_iff.2 ⟨k + 1, hk⟩
/-- THE EQUATION OF A LOOP. -/
theorem L_eq (E : Env) (n : Nat) (cut : Bool) (hd ex : List Bool) (c : ACode) (a : List DV) (h : List Res) : L E n cut hd ex c a h = dround (Dc E) (L E) n cut hd ex c a h := by
  apply Option.ext
  intro r
  constructor
  · intro hr
    obtain ⟨k, hk⟩ := L_iff.1 hr
    cases k with
    | zero => simp [drec] at hk
    | succ k => exact dround_mono (le_D E k) (le_L E k) n cut hd ex c a h r hk
  · intro hr
    obtain ⟨k, hk⟩ := dround_cont hr
    exact L_iff.2 ⟨k + 1, hk⟩

/-- What a function's call comes to; what a round of a range over a function comes to. -/
noncomputable def D (E : Env) (f : FuncId) (a : List DV) (h : List Res) : Option DOut := Dc E (.fn f) a h
noncomputable def Y (E : Env) (id : Nat) (a : List DV) (h : List Res) : Option DOut := Dc E (.yld id) a h
theorem D_eq (E : Env) (f : FuncId) (a : List DV) (h : List Res) : D E f a h = dcallF (Dc E) (L E) E f a h := Dc_eq E (.fn f) a h
theorem Y_eq (E : Env) (id : Nat) (a : List DV) (h : List Res) : Y E id a h = dyield (Dc E) (L E) id a h := Dc_eq E (.yld id) a h

/-- SOUND. -/
theorem D_sound {P : Program} {G : Glob} {E : Env} (EO : EnvOk P G E) : CallS P G (Dc E) := by
  refine ⟨fun g args dargs S ρ h w out hi hl hr hd => ?_, fun id l args dargs S ρ h w out hi hρ hl hr hd => ?_⟩
  · obtain ⟨k, hk⟩ := D_iff.1 hd
    exact (sound EO k).1.fn g args dargs S ρ h w out hi hl hr hk
  · obtain ⟨k, hk⟩ := D_iff.1 hd
    exact (sound EO k).1.yld id l args dargs S ρ h w out hi hρ hl hr hk

/-- At a world as it stands: all that is there is settled. -/
theorem inv_start (P : Program) (G : Glob) (w : World) (hg : ∀ b o v, G b o v → b < w.heap.size ∧ w.cell? ⟨b, o, none⟩ = v) : Inv P G (fun b _ => b < w.heap.size) [] [] w where
  len := rfl
  bound := fun b o h => h
  glob := hg
  low := fun i b r hr => by simp at hr
  apart := fun i j b r r' hr => by simp at hr
  box := fun i cells tag hc => by simp at hc
  nilrow := fun i hc => by simp at hc
  row := fun i sz n et hc => by simp at hc
  iter := fun i s pos hc => by simp at hc
  loop := fun i ps as bd snap st hc => by simp at hc
  own := fun i r hc => by simp at hc

/-- A law: its call returns true, and nothing that was there is turned. -/
theorem D_law {P : Program} {G : Glob} {E : Env} (EO : EnvOk P G E) {g : FuncId} {w : World} (hg : ∀ b o v, G b o v → b < w.heap.size ∧ w.cell? ⟨b, o, none⟩ = v) {args : Array Value} {fs : List FV} (hl : args.size = fs.length) (hr : ∀ (j : Nat) (x : FV), fs[j]? = some x → RepF (fun b _ => b < w.heap.size) w (args.getD j undef) x)
    {b : Bool} {h' : List Res} (hd : D E g (fs.map .d) [] = some (.val (.d (.bool b)) h')) : Calls P g args w fun e w' => e = .returned (.bool b) ∧ Below w.heap.size w w' := by
  refine ((D_sound EO).fn g args (fs.map .d) _ [] [] w _ (inv_start P G w hg) (by simpa using hl) (fun j x hx => ?_) hd).mono fun e w' hp => ?_
  · simp only [List.getElem?_map, Option.map_eq_some_iff] at hx
    obtain ⟨y, hy, rfl⟩ := hx
    exact .d _ _ (hr j y hy)
  · obtain ⟨x, S', ρ', rfl, hx, E', I⟩ := hp
    rw [repF_bool (repD_d hx)]
    exact ⟨rfl, E'.os, E'.tape, E'.output, E'.size, fun k hk => E'.frame k hk fun i r hr => by simp at hr⟩

end Go.Deepv
