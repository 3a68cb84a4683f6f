/-
  The deep machine, reckoned: the same machine with a test for 'the other orders come to the same' that the kernel can run; what it comes to is what the machine comes to.
  Conditions: none.
-/
import Derived.Test.YtpemlmhggiaflaaGreatDoorDP
set_option linter.unusedVariables false
set_option linter.unusedSimpArgs false
namespace Go.Deepv

mutual
def eqF : FV → FV → Bool
  | .int k a, .int l b => decide (k = l) && decide (a = b)
  | .bool a, .bool b => a == b
  | .str a, .str b => decide (a.data.toList = b.data.toList)
  | .slice s l, .slice t m => s == t && eqLL l m
  | .agg l, .agg m => eqL l m
  | .ref l o, .ref m p => eqL l m && o == p
  | .nilp, .nilp => true
  | .nili, .nili => true
  | .nilf, .nilf => true
  | .undef, .undef => true
  | .iface t v, .iface u w => decide (t = u) && eqF v w
  | .tup l, .tup m => eqL l m
  | .nils s, .nils t => s == t
  | .func (.func f) p q, .func (.func g) p' q' => decide (f = g) && eqL p p' && eqL q q'
  | _, _ => false
def eqL : List FV → List FV → Bool
  | [], [] => true
  | x :: xs, y :: ys => eqF x y && eqL xs ys
  | _, _ => false
def eqLL : List (List FV) → List (List FV) → Bool
  | [], [] => true
  | x :: xs, y :: ys => eqL x y && eqLL xs ys
  | _, _ => false
end
mutual
theorem eqF_eq : ∀ {x y : FV}, eqF x y = true → x = y
  | .int k a, y, h => by cases y <;> simp_all [eqF]
  | .bool a, y, h => by cases y <;> simp_all [eqF]
  | .str a, y, h => by
    cases y <;> simp [eqF] at h
    congr 1
    exact ByteArray.ext h
  | .slice s l, y, h => by
    cases y <;> simp [eqF] at h
    rw [h.1, eqLL_eq h.2]
  | .agg l, y, h => by
    cases y <;> simp [eqF] at h
    rw [eqL_eq h]
  | .ref l o, y, h => by
    cases y <;> simp [eqF] at h
    rw [eqL_eq h.1, h.2]
  | .nilp, y, h => by cases y <;> simp_all [eqF]
  | .nili, y, h => by cases y <;> simp_all [eqF]
  | .nilf, y, h => by cases y <;> simp_all [eqF]
  | .undef, y, h => by cases y <;> simp_all [eqF]
  | .iface t v, y, h => by
    cases y <;> simp [eqF] at h
    rw [h.1, eqF_eq h.2]
  | .tup l, y, h => by
    cases y <;> simp [eqF] at h
    rw [eqL_eq h]
  | .nils s, y, h => by cases y <;> simp_all [eqF]
  | .func f p q, y, h => by
    cases f
    case func f =>
      cases y
      case func g p' q' =>
        cases g
        case func g =>
          simp [eqF] at h
          rw [h.1.1, eqL_eq h.1.2, eqL_eq h.2]
        all_goals simp [eqF] at h
      all_goals simp [eqF] at h
    all_goals (cases y <;> simp [eqF] at h)
theorem eqL_eq : ∀ {x y : List FV}, eqL x y = true → x = y
  | [], y, h => by cases y <;> simp_all [eqL]
  | x :: xs, y, h => by
    cases y <;> simp [eqL] at h
    rw [eqF_eq h.1, eqL_eq h.2]
theorem eqLL_eq : ∀ {x y : List (List FV)}, eqLL x y = true → x = y
  | [], y, h => by cases y <;> simp_all [eqLL]
  | x :: xs, y, h => by
    cases y <;> simp [eqLL] at h
    rw [eqL_eq h.1, eqLL_eq h.2]
end
mutual
def eqV : DV → DV → Bool
  | .d x, .d y => eqF x y
  | .ptr i o, .ptr j p => i == j && o == p
  | .row s l t, .row s' l' t' => s == s' && eqLL l l' && t == t'
  | .agg l, .agg m => eqVs l m
  | .tup l, .tup m => eqVs l m
  | .iface t v, .iface u w => decide (t = u) && eqV v w
  | .yld i, .yld j => i == j
  | .rptr l t, .rptr l' t' => eqLL l l' && t == t'
  | .bslc i o n, .bslc j p m => i == j && o == p && n == m
  | .vslc i g s o n, .vslc i' g' s' o' n' => i == i' && g == g' && s == s' && o == o' && n == n'
  | .eptr i g k o, .eptr i' g' k' o' => i == i' && g == g' && k == k' && o == o'
  | .mref i, .mref j => i == j
  | .clo (.func f) p q, .clo (.func g) p' q' => decide (f = g) && eqVs p p' && eqVs q q'
  | _, _ => false
def eqVs : List DV → List DV → Bool
  | [], [] => true
  | x :: xs, y :: ys => eqV x y && eqVs xs ys
  | _, _ => false
end
mutual
theorem eqV_eq : ∀ {x y : DV}, eqV x y = true → x = y
  | .d x, y, h => by
    cases y <;> simp [eqV] at h
    rw [eqF_eq h]
  | .ptr i o, y, h => by cases y <;> simp_all [eqV]
  | .row s l t, y, h => by
    cases y <;> simp [eqV] at h
    rw [h.1.1, eqLL_eq h.1.2, h.2]
  | .agg l, y, h => by
    cases y <;> simp [eqV] at h
    rw [eqVs_eq h]
  | .tup l, y, h => by
    cases y <;> simp [eqV] at h
    rw [eqVs_eq h]
  | .iface t v, y, h => by
    cases y <;> simp [eqV] at h
    rw [h.1, eqV_eq h.2]
  | .yld i, y, h => by cases y <;> simp_all [eqV]
  | .rptr l t, y, h => by
    cases y <;> simp [eqV] at h
    rw [eqLL_eq h.1, h.2]
  | .bslc i o n, y, h => by cases y <;> simp_all [eqV]
  | .vslc i g s o n, y, h => by cases y <;> simp_all [eqV]
  | .eptr i g k o, y, h => by cases y <;> simp_all [eqV]
  | .mref i, y, h => by cases y <;> simp_all [eqV]
  | .clo f p q, y, h => by
    cases f
    case func f =>
      cases y
      case clo g p' q' =>
        cases g
        case func g =>
          simp [eqV] at h
          rw [h.1.1, eqVs_eq h.1.2, eqVs_eq h.2]
        all_goals simp [eqV] at h
      all_goals simp [eqV] at h
    all_goals (cases y <;> simp [eqV] at h)
theorem eqVs_eq : ∀ {x y : List DV}, eqVs x y = true → x = y
  | [], y, h => by cases y <;> simp_all [eqVs]
  | x :: xs, y, h => by
    cases y <;> simp [eqVs] at h
    rw [eqV_eq h.1, eqVs_eq h.2]
end
def eqPs : List (FV × FV) → List (FV × FV) → Bool
  | [], [] => true
  | x :: xs, y :: ys => eqF x.1 y.1 && eqF x.2 y.2 && eqPs xs ys
  | _, _ => false
theorem eqPs_eq : ∀ {x y : List (FV × FV)}, eqPs x y = true → x = y
  | [], y, h => by cases y <;> simp_all [eqPs]
  | (a, b) :: xs, y, h => by
    rcases y with _ | ⟨⟨c, d⟩, ys⟩ <;> simp [eqPs] at h
    rw [eqF_eq h.1.1, eqF_eq h.1.2, eqPs_eq h.2]
def eqR : Res → Res → Bool
  | .vec s l f e, .vec s' l' f' e' => s == s' && eqLL l l' && f == f' && e == e'
  | .map l, .map m => eqPs l m
  | .box l t, .box m u => eqVs l m && t == u
  | .nilrow, .nilrow => true
  | .row a b c, .row d e f => a == d && b == e && c == f
  | .iter s p, .iter t q => decide (s.data.toList = t.data.toList) && p == q
  | .dead, .dead => true
  | _, _ => false
theorem eqR_eq : ∀ {x y : Res}, eqR x y = true → x = y
  | .vec s l f e, y, h => by
    cases y <;> simp [eqR] at h
    rw [h.1.1.1, eqLL_eq h.1.1.2, h.1.2, h.2]
  | .map l, y, h => by
    cases y <;> simp [eqR] at h
    rw [eqPs_eq h]
  | .box l t, y, h => by
    cases y <;> simp [eqR] at h
    rw [eqVs_eq h.1, h.2]
  | .nilrow, y, h => by cases y <;> simp_all [eqR]
  | .row .., y, h => by cases y <;> simp_all [eqR]
  | .iter s p, y, h => by
    cases y <;> simp [eqR] at h
    rw [h.2]
    congr 1
    exact ByteArray.ext h.1
  | .dead, y, h => by cases y <;> simp_all [eqR]
  | .loop .., y, h => by cases y <;> simp [eqR] at h
def eqRs : List Res → List Res → Bool
  | [], [] => true
  | x :: xs, y :: ys => eqR x y && eqRs xs ys
  | _, _ => false
theorem eqRs_eq : ∀ {x y : List Res}, eqRs x y = true → x = y
  | [], y, h => by cases y <;> simp_all [eqRs]
  | x :: xs, y, h => by
    cases y <;> simp [eqRs] at h
    rw [eqR_eq h.1, eqRs_eq h.2]
def sameB (call : Cle → List DV → List Res → Option DOut) (alts : List (List DOper)) (a : List DV) (h : List Res) (a' : List DV) (h' : List Res) : Bool := alts.all fun l => match dops call l a h with
  | some (.normal, a1, h1) => eqVs a1 a' && eqRs h1 h'
  | _ => false
theorem sameB_eq {call : Cle → List DV → List Res → Option DOut} {alts : List (List DOper)} {a : List DV} {h : List Res} {a' : List DV} {h' : List Res} (hs : sameB call alts a h a' h' = true) : same call alts a h (.normal, a', h') = true := by
  simp only [sameB, List.all_eq_true] at hs
  simp only [same, decide_eq_true_eq]
  intro l hl
  have := hs l hl
  split at this
  · rename_i a1 h1 hd
    simp only [Bool.and_eq_true] at this
    rw [hd, eqVs_eq this.1, eqRs_eq this.2]
  · cases this

section
variable (call : Cle → List DV → List Res → Option DOut) (loop : LoopF)
def cexec : ACode → List DV → List Res → Option DRun
  | .skip, a, h => some (.normal, a, h)
  | .region ops, a, h => dops call ops a h
  | .draw ops alts, a, h => match dops call ops a h with
    | some (.normal, a', h') => if sameB call alts a h a' h' then some (.normal, a', h') else none
    | _ => none
  | .seq c d, a, h => match cexec c a h with
    | some (.normal, a', h') => cexec d a' h'
    | r => r
  | .cond c t e, a, h => match ev a c with
    | .d (.bool b) => if b then cexec t a h else cexec e a h
    | _ => none
  | .block id c, a, h => match cexec c a h with
    | some (.exit i, a', h') => if i = id then some (.normal, a', h') else some (.exit i, a', h')
    | r => r
  | .loop cut hd ex c, a, h => loop h.length cut hd ex c (mask hd a) h
  | .rangeFn f ps sn as bd, a, h => match ev a f with
    | .yld _ => none
    | fv => match dcallV call fv [.yld h.length] (h ++ [.loop ps as bd (mask sn a) .ready]) with
      | some (.val _ h') => match h'[h.length]? with
        | some (.loop _ _ _ _ .ready) => some (.normal, a, h'.take h.length)
        | some (.loop _ _ _ _ (.done (some i))) => some (.exit i, a, h'.take h.length)
        | some (.loop _ _ _ _ (.done none)) => some (.ret, a, h'.take h.length)
        | _ => none
      | _ => none
  | .exit id, a, h => some (.exit id, a, h)
  | .ret, a, h => some (.ret, a, h)
  | .stuck, _, _ => none
theorem cexec_eq : ∀ {A : ACode} {a : List DV} {h : List Res} {r : DRun}, cexec call loop A a h = some r → dexec call loop A a h = some r := by
  intro A
  induction A with
  | skip => intro a h r hr; exact hr
  | region ops => intro a h r hr; exact hr
  | draw ops alts =>
    intro a h r hr
    simp only [cexec, dexec] at hr ⊢
    split at hr
    · rename_i a1 h1 hm
      split at hr
      · rename_i hs
        rw [hm]
        simp only
        rw [if_pos (sameB_eq hs)]
        exact hr
      · cases hr
    · cases hr
  | seq x y ihx ihy =>
    intro a h r hr
    simp only [cexec, dexec] at hr ⊢
    cases hx : cexec call loop x a h with
    | none => rw [hx] at hr; cases hr
    | some q =>
      rw [hx] at hr
      rw [ihx hx]
      obtain ⟨e, a1, h1⟩ := q
      cases e with
      | normal => exact ihy hr
      | _ => exact hr
  | cond k x y ihx ihy =>
    intro a h r hr
    simp only [cexec, dexec] at hr ⊢
    split at hr
    · rename_i b eb
      rw [eb]
      cases b with
      | true => exact ihx (by simpa using hr)
      | false => exact ihy (by simpa using hr)
    · cases hr
  | block id b ih =>
    intro a h r hr
    simp only [cexec, dexec] at hr ⊢
    cases hx : cexec call loop b a h with
    | none => rw [hx] at hr; cases hr
    | some q =>
      rw [hx] at hr
      rw [ih hx]
      exact hr
  | loop cut hd ex b ih => intro a h r hr; exact hr
  | rangeFn f ps sn as bd _ _ => intro a h r hr; exact hr
  | exit id => intro a h r hr; exact hr
  | ret => intro a h r hr; exact hr
  | stuck => intro a h r hr; cases hr
def cyield (id : Nat) (args : List DV) (h : List Res) : Option DOut :=
  match h[id]? with
  | some (.loop ps as bd snap .ready) =>
    if args.length = ps.length then
      match cexec call loop as (setAll snap ps args) h with
      | some (.normal, a1, h1) => match h1[id]? with
        | some (.loop _ _ _ _ .ready) => match markLoop id .busy h1 with
          | some h1 => match cexec call loop bd a1 h1 with
            | some (.normal, _, h2) => endLoop id h.length .ready h2
            | some (.exit i, _, h2) => endLoop id h.length (.done (some i)) h2
            | some (.ret, _, h2) => endLoop id h.length (.done none) h2
            | _ => none
          | none => none
        | _ => none
      | _ => none
    else none
  | _ => none
theorem cyield_eq {id : Nat} {args : List DV} {h : List Res} {r : DOut} (hr : cyield call loop id args h = some r) : dyield call loop id args h = some r := by
  unfold cyield at hr
  unfold dyield
  split at hr
  · rename_i ps A B snap hh
    split at hr
    · rename_i hl
      rw [hh]
      simp only
      rw [if_pos hl]
      split at hr
      · rename_i a1 h1 hA
        rw [cexec_eq call loop hA]
        simp only
        split at hr
        · rename_i hrd
          rw [hrd]
          simp only
          split at hr
          · rename_i h2 hm
            rw [hm]
            simp only
            cases hB : cexec call loop B a1 h2 with
            | none => rw [hB] at hr; cases hr
            | some q => rw [hB] at hr; rw [cexec_eq call loop hB]; exact hr
          · cases hr
        · cases hr
      · cases hr
    · cases hr
  · cases hr
def cround (n0 : Nat) (cut : Bool) (hd ex : List Bool) (c : ACode) (a : List DV) (h : List Res) : Option DRun :=
  match cexec call loop c a h with
  | some (.normal, a', h') => if trims cut n0 (mask hd a') then loop n0 cut hd ex c (mask hd a') (trim cut n0 h') else none
  | some (.pan v, a', h') => some (.pan v, a', h')
  | some (e, a', h') => if trims cut n0 (mask ex a') then some (e, mask ex a', trim cut n0 h') else none
  | none => none
theorem cround_eq {n0 : Nat} {cut : Bool} {hd ex : List Bool} {c : ACode} {a : List DV} {h : List Res} {r : DRun} (hr : cround call loop n0 cut hd ex c a h = some r) : dround call loop n0 cut hd ex c a h = some r := by
  unfold cround at hr
  unfold dround
  cases hx : cexec call loop c a h with
  | none => rw [hx] at hr; cases hr
  | some q =>
    rw [hx] at hr
    rw [cexec_eq call loop hx]
    exact hr
def cbody (F : AFunc) (args : List DV) (h : List Res) : Option DOut :=
  match cexec call loop F.body (args ++ List.replicate (F.ntmps - args.length) (.d .undef)) h with
  | some (.pan v, _, h') => if v.low h.length then some (.pan v (h'.take h.length)) else none
  | some (.normal, a, h') | some (.ret, a, h') => match F.results.mapM (dresult a h') with
    | some rs => if (dresults (F.keep == 0 && F.coe) rs).low (h.length + F.keep) then some (.val (dresults (F.keep == 0 && F.coe) rs) (h'.take (h.length + F.keep))) else none
    | none => none
  | _ => none
theorem cbody_eq {F : AFunc} {args : List DV} {h : List Res} {r : DOut} (hr : cbody call loop F args h = some r) : dbody call loop F args h = some r := by
  unfold cbody at hr
  unfold dbody
  cases hx : cexec call loop F.body (args ++ List.replicate (F.ntmps - args.length) (.d .undef)) h with
  | none => rw [hx] at hr; cases hr
  | some q =>
    rw [hx] at hr
    rw [cexec_eq call loop hx]
    exact hr
def ccall (E : Env) (c : Cle) (args : List DV) (h : List Res) : Option DOut := match c with
  | .fn f => match E.ext f with
    | some F => F args h
    | none => match E.af f with
      | none => none
      | some F =>
        let args' := if F.coe then args.map DV.coe else args
        if F.keep == 0 && args'.all DV.isD then (cbody call loop F args' []).map (withHeap h) else cbody call loop F args' h
  | .yld id => cyield call loop id args h
theorem ccall_eq {E : Env} {c : Cle} {args : List DV} {h : List Res} {r : DOut} (hr : ccall call loop E c args h = some r) : dcall call loop E c args h = some r := by
  cases c with
  | yld id => exact cyield_eq call loop hr
  | fn f =>
    unfold ccall at hr
    unfold dcall dcallF
    simp only at hr ⊢
    cases hF : E.ext f with
    | some F => rw [hF] at hr; exact hr
    | none =>
      rw [hF] at hr
      cases hA : E.af f with
      | none => rw [hA] at hr; cases hr
      | some F =>
        rw [hA] at hr
        simp only at hr ⊢
        generalize (if F.coe then args.map DV.coe else args) = da at hr ⊢
        split at hr
        · rename_i hda
          rw [if_pos hda]
          simp only [Option.map_eq_some_iff] at hr ⊢
          obtain ⟨o, ho, rfl⟩ := hr
          exact ⟨o, cbody_eq call loop ho, rfl⟩
        · rename_i hda
          rw [if_neg hda]
          exact cbody_eq call loop hr
end
def crec (E : Env) : Nat → (Cle → List DV → List Res → Option DOut) × LoopF
  | 0 => (fun _ _ _ => none, fun _ _ _ _ _ _ _ => none)
  | k + 1 => (ccall (crec E k).1 (crec E k).2 E, cround (crec E k).1 (crec E k).2)
theorem crec_eq (E : Env) : ∀ k, LeC (crec E k).1 (drec E k).1 ∧ LeL (crec E k).2 (drec E k).2
  | 0 => ⟨fun _ _ _ _ h => h, fun _ _ _ _ _ _ _ _ h => h⟩
  | k + 1 => by
    obtain ⟨h1, h2⟩ := crec_eq E k
    refine ⟨fun c a h r hr => ?_, fun n cut hd ex c a h r hr => ?_⟩
    · exact dcall_mono h1 h2 E c a h r (ccall_eq _ _ hr)
    · exact dround_mono h1 h2 n cut hd ex c a h r (cround_eq _ _ hr)
/-- A call, reckoned. -/
theorem D_reckon {E : Env} {f : FuncId} {args : List DV} {h : List Res} {r : DOut} (k : Nat) (hr : (crec E k).1 (.fn f) args h = some r) : D E f args h = some r :=
  D_iff.2 ⟨k, (crec_eq E k).1 _ _ _ _ hr⟩
end Go.Deepv
