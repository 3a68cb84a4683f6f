/-
  The deep machine stepped so that what is undecided becomes an if; everything behind it is pushed into its branches.
  Conditions: none.
-/
import Derived.Test.YtpemlmhggiaflaaGreatDoorDX
set_option linter.unusedVariables false
set_option linter.unusedSimpArgs false
namespace Go.Deepv

abbrev CallG := Cle → List DV → List Res → Option DOut
def opK (r : Option DOut) (a : List DV) (d : Option Nat) (k : List DV → List Res → Option DRun) : Option DRun := match r with
  | some (.val v h') => k (put a d v) h'
  | some (.pan v h') => some (.pan v, a, h')
  | none => none
def seqK (r : Option DRun) (k : List DV → List Res → Option DRun) : Option DRun := match r with
  | some (.normal, a', h') => k a' h'
  | r => r
def blkK (id : Nat) (r : Option DRun) : Option DRun := match r with
  | some (.exit i, a', h') => if i = id then some (.normal, a', h') else some (.exit i, a', h')
  | r => r
def drawK (r : Option DRun) (k : DRun → Bool) : Option DRun := match r with
  | some (.normal, a', h') => if k (.normal, a', h') = true then some (.normal, a', h') else none
  | _ => none
def bodK (F : AFunc) (n : Nat) (r : Option DRun) : Option DOut := match r with
  | some (.pan v, _, h') => if v.low n then some (.pan v (h'.take n)) else none
  | some (.normal, a, h') | some (.ret, a, h') => match F.results.mapM (dresult a h') with
    | some rs => if (dresults (F.keep == 0 && F.coe) rs).low (n + F.keep) then some (.val (dresults (F.keep == 0 && F.coe) rs) (h'.take (n + F.keep))) else none
    | none => none
  | _ => none
def rndK (n : Nat) (hd ex : List Bool) (K : List DV → List Res → Option DRun) (r : Option DRun) : Option DRun := match r with
  | some (.normal, a', h') => if DV.lows n (mask hd a') then K (mask hd a') (h'.take n) else none
  | some (.pan v, a', h') => some (.pan v, a', h')
  | some (e, a', h') => if DV.lows n (mask ex a') then some (e, mask ex a', h'.take n) else none
  | none => none
/-- By what stands in a slot: true, false, left out. -/
def bySlot (a : List DV) (t : Nat) (x : Option DV) (P Q R : List DV → Option DRun) : Option DRun := match x with
  | some (.d (.bool b)) => if b = true then P (a.set t (.d (.bool true))) else Q (a.set t (.d (.bool false)))
  | some (.d (.tup [])) => R a
  | _ => none
def setOpd (a : List DV) (c : Opd) (v : DV) : List DV := match c with
  | .tmp t => a.set t v
  | _ => a
def byOpd (a : List DV) (c : Opd) (x : DV) (P Q : List DV → Option DRun) : Option DRun := match x with
  | .d (.bool b) => if b = true then P (setOpd a c (.d (.bool true))) else Q (setOpd a c (.d (.bool false)))
  | _ => none

def runT (call : CallG) (d : Option Nat) (o : DOp) (r : List DOper) (h : List Res) (a : List DV) : Option DRun := opK (dop call o a h) a d (dops call r)
def skipT (call : CallG) (d : Option Nat) (r : List DOper) (h : List Res) (a : List DV) : Option DRun := dops call r (put a d (.d (.tup []))) h
noncomputable def exT (call : CallG) (loop : LoopF) (c : ACode) (h : List Res) (a : List DV) : Option DRun := dexec call loop c a h
def pickT (k : List DV → List Res → Option DRun) (d : Option Nat) (x : Opd) (h : List Res) (a : List DV) : Option DRun := k (put a d (ev a x)) h

section
variable (call : CallG) (loop : LoopF)
theorem go_none (d : Option Nat) (o : DOp) (r : List DOper) (a : List DV) (h : List Res) : dops call (⟨d, o, none⟩ :: r) a h = opK (dop call o a h) a d (dops call r) := by
  simp only [dops, wants]
  cases dop call o a h with
  | none => rfl
  | some x => cases x <;> rfl
theorem set_get {a : List DV} {t : Nat} {v : DV} (h : a[t]? = some v) : a.set t v = a := by
  apply List.ext_getElem?
  intro i
  by_cases hi : t = i
  · subst hi
    have : t < a.length := (List.getElem?_eq_some_iff.1 h).1
    rw [h, List.getElem?_set_self this]
  · rw [List.getElem?_set_ne hi]
theorem by_eq {a : List DV} {t : Nat} {P Q R : List DV → Option DRun} : bySlot a t a[t]? P Q R = match a[t]? with
    | some (.d (.bool b)) => if b = true then P a else Q a
    | some (.d (.tup [])) => R a
    | _ => none := by
  generalize hx : a[t]? = x
  unfold bySlot
  split
  · rename_i b
    have hs := set_get hx
    cases b <;> simp [hs]
  · rfl
  · rename_i h1 h2
    rfl
theorem go_true (d : Option Nat) (o : DOp) (t : Nat) (r : List DOper) (a : List DV) (h : List Res) : dops call (⟨d, o, some (t, true)⟩ :: r) a h = bySlot a t a[t]? (runT call d o r h) (skipT call d r h) (skipT call d r h) := by
  unfold runT skipT
  rw [by_eq, ← go_none]
  simp only [dops, wants]
  split
  · rename_i h1
    split at h1
    · rename_i b hb; rw [hb]; cases b <;> simp_all
    · cases h1
    · cases h1
  · rename_i h1
    split at h1
    · rename_i b hb; rw [hb]; cases b <;> simp_all
    · rename_i hb; rw [hb]
    · cases h1
  · rename_i h1
    split at h1
    · cases h1
    · cases h1
    · rename_i h2 h3
      split
      · rename_i hb; exact absurd hb (h2 _)
      · rename_i hb; exact absurd hb h3
      · rfl
theorem go_false (d : Option Nat) (o : DOp) (t : Nat) (r : List DOper) (a : List DV) (h : List Res) : dops call (⟨d, o, some (t, false)⟩ :: r) a h = bySlot a t a[t]? (skipT call d r h) (runT call d o r h) (skipT call d r h) := by
  unfold runT skipT
  rw [by_eq, ← go_none]
  simp only [dops, wants]
  split
  · rename_i h1
    split at h1
    · rename_i b hb; rw [hb]; cases b <;> simp_all
    · cases h1
    · cases h1
  · rename_i h1
    split at h1
    · rename_i b hb; rw [hb]; cases b <;> simp_all
    · rename_i hb; rw [hb]
    · cases h1
  · rename_i h1
    split at h1
    · cases h1
    · cases h1
    · rename_i h2 h3
      split
      · rename_i hb; exact absurd hb (h2 _)
      · rename_i hb; exact absurd hb h3
      · rfl
theorem opd_set {a : List DV} {c : Opd} {b : Bool} (h : ev a c = .d (.bool b)) : setOpd a c (.d (.bool b)) = a := by
  cases c with
  | tmp t =>
    simp only [ev] at h
    simp only [setOpd]
    cases hx : a[t]? with
    | none => exact List.set_eq_of_length_le (by simpa using hx)
    | some v =>
      have : v = .d (.bool b) := by simpa [List.getD, hx] using h
      exact set_get (this ▸ hx)
  | _ => rfl
theorem op_pick (d : Option Nat) (c x y : Opd) (k : List DV → List Res → Option DRun) (a : List DV) (h : List Res) : opK (dop call (.pick c x y) a h) a d k = byOpd a c (ev a c) (pickT k d x h) (pickT k d y h) := by
  unfold pickT
  simp only [dop]
  generalize hx : ev a c = v
  unfold byOpd
  split
  · rename_i b
    cases b
    · simp only [opd_set hx, opK, Bool.false_eq_true, if_false]
    · simp only [opd_set hx, opK, if_true]
  · rename_i h1
    cases v with
    | d v => cases v with
      | bool b => exact absurd rfl (h1 b)
      | _ => rfl
    | _ => rfl
theorem ex_seq (c d : ACode) (a : List DV) (h : List Res) : dexec call loop (.seq c d) a h = seqK (dexec call loop c a h) (dexec call loop d) := by
  rw [dexec]
  unfold seqK
  cases dexec call loop c a h with
  | none => rfl
  | some r => obtain ⟨e, a1, h1⟩ := r; cases e <;> rfl
theorem ex_blk (id : Nat) (c : ACode) (a : List DV) (h : List Res) : dexec call loop (.block id c) a h = blkK id (dexec call loop c a h) := by
  rw [dexec]
  unfold blkK
  cases dexec call loop c a h with
  | none => rfl
  | some r => obtain ⟨e, a1, h1⟩ := r; cases e <;> rfl
theorem ex_cond (c : Opd) (t e : ACode) (a : List DV) (h : List Res) : dexec call loop (.cond c t e) a h = byOpd a c (ev a c) (exT call loop t h) (exT call loop e h) := by
  unfold exT
  simp only [dexec]
  generalize hx : ev a c = v
  unfold byOpd
  split
  · rename_i b
    cases b
    · simp only [opd_set hx, Bool.false_eq_true, if_false]
    · simp only [opd_set hx, if_true]
  · rename_i h1
    cases v with
    | d v => cases v with
      | bool b => exact absurd rfl (h1 b)
      | _ => rfl
    | _ => rfl
theorem ex_draw (ops : List DOper) (alts : List (List DOper)) (a : List DV) (h : List Res) : dexec call loop (.draw ops alts) a h = drawK (dops call ops a h) (same call alts a h) := by
  rw [dexec]
  unfold drawK
  cases dops call ops a h with
  | none => rfl
  | some r => obtain ⟨e, a1, h1⟩ := r; cases e <;> rfl
theorem bod_eq (F : AFunc) (args : List DV) (h : List Res) : dbody call loop F args h = bodK F h.length (dexec call loop F.body (args ++ List.replicate (F.ntmps - args.length) (.d .undef)) h) := rfl
theorem same_nil (a : List DV) (h : List Res) (r : DRun) : same call [] a h r = true := by simp [same]
end
theorem L_rnd {E : Env} {n : Nat} {hd ex : List Bool} {c : ACode} {K : List DV → List Res → Option DRun} (hK : L E n true hd ex c = K) (a : List DV) (h : List Res) :
    K a h = rndK n hd ex K (dexec (Dc E) (L E) c a h) := L_round hK a h

/-! ### Steps -/
section
variable (a : List DV) (h : List Res) (d : Option Nat) (k : List DV → List Res → Option DRun)
theorem opK_v (v : DV) (h' : List Res) : opK (some (.val v h')) a d k = k (put a d v) h' := rfl
theorem opK_p (v : DV) (h' : List Res) : opK (some (.pan v h')) a d k = some (.pan v, a, h') := rfl
theorem opK_n : opK none a d k = none := rfl
theorem seqK_o : seqK (some (.normal, a, h)) k = k a h := rfl
theorem seqK_r : seqK (some (.ret, a, h)) k = some (.ret, a, h) := rfl
theorem seqK_e (i : Nat) : seqK (some (.exit i, a, h)) k = some (.exit i, a, h) := rfl
theorem seqK_p (v : DV) : seqK (some (.pan v, a, h)) k = some (.pan v, a, h) := rfl
theorem seqK_n : seqK none k = none := rfl
theorem blkK_o (i : Nat) : blkK i (some (.normal, a, h)) = some (.normal, a, h) := rfl
theorem blkK_r (i : Nat) : blkK i (some (.ret, a, h)) = some (.ret, a, h) := rfl
theorem blkK_e (i j : Nat) : blkK i (some (.exit j, a, h)) = if j = i then some (.normal, a, h) else some (.exit j, a, h) := rfl
theorem blkK_p (i : Nat) (v : DV) : blkK i (some (.pan v, a, h)) = some (.pan v, a, h) := rfl
theorem blkK_n (i : Nat) : blkK i none = none := rfl
theorem drawK_o (q : DRun → Bool) : drawK (some (.normal, a, h)) q = if q (.normal, a, h) = true then some (.normal, a, h) else none := rfl
theorem drawK_p (q : DRun → Bool) (v : DV) : drawK (some (.pan v, a, h)) q = none := rfl
theorem drawK_n (q : DRun → Bool) : drawK none q = none := rfl
def outK (F : AFunc) (n : Nat) (h' : List Res) (r : Option (List DV)) : Option DOut := match r with
  | some rs => if (dresults (F.keep == 0 && F.coe) rs).low (n + F.keep) then some (.val (dresults (F.keep == 0 && F.coe) rs) (h'.take (n + F.keep))) else none
  | none => none
theorem bodK_o (F : AFunc) (n : Nat) : bodK F n (some (.normal, a, h)) = outK F n h (F.results.mapM (dresult a h)) := rfl
theorem bodK_r (F : AFunc) (n : Nat) : bodK F n (some (.ret, a, h)) = outK F n h (F.results.mapM (dresult a h)) := rfl
theorem bodK_p (F : AFunc) (n : Nat) (v : DV) : bodK F n (some (.pan v, a, h)) = if v.low n then some (.pan v (h.take n)) else none := rfl
theorem bodK_n (F : AFunc) (n : Nat) : bodK F n none = none := rfl
theorem outK_s (F : AFunc) (n : Nat) (rs : List DV) : outK F n h (some rs) = if (dresults (F.keep == 0 && F.coe) rs).low (n + F.keep) then some (.val (dresults (F.keep == 0 && F.coe) rs) (h.take (n + F.keep))) else none := rfl
theorem rndK_o (n : Nat) (hd ex : List Bool) : rndK n hd ex k (some (.normal, a, h)) = if DV.lows n (mask hd a) then k (mask hd a) (h.take n) else none := rfl
theorem rndK_r (n : Nat) (hd ex : List Bool) : rndK n hd ex k (some (.ret, a, h)) = if DV.lows n (mask ex a) then some (.ret, mask ex a, h.take n) else none := rfl
theorem rndK_e (n : Nat) (hd ex : List Bool) (i : Nat) : rndK n hd ex k (some (.exit i, a, h)) = if DV.lows n (mask ex a) then some (.exit i, mask ex a, h.take n) else none := rfl
theorem rndK_p (n : Nat) (hd ex : List Bool) (v : DV) : rndK n hd ex k (some (.pan v, a, h)) = some (.pan v, a, h) := rfl
theorem rndK_n (n : Nat) (hd ex : List Bool) : rndK n hd ex k none = none := rfl
theorem set_t (t : Nat) (v : DV) : setOpd a (.tmp t) v = a.set t v := rfl
theorem set_c (c : FV) (v : DV) : setOpd a (.con c) v = a := rfl
theorem run_eq (call : CallG) (o : DOp) (r : List DOper) : runT call d o r h a = opK (dop call o a h) a d (dops call r) := rfl
theorem skip_eq (call : CallG) (r : List DOper) : skipT call d r h a = dops call r (put a d (.d (.tup []))) h := rfl
theorem exT_eq (call : CallG) (loop : LoopF) (c : ACode) : exT call loop c h a = dexec call loop c a h := rfl
theorem pick_eq (x : Opd) : pickT k d x h a = k (put a d (ev a x)) h := rfl
end

theorem L_go (E : Env) (n : Nat) (hd ex : List Bool) (c : ACode) (a : List DV) (h : List Res) : L E n true hd ex c a h = rndK n hd ex (L E n true hd ex c) (dexec (Dc E) (L E) c a h) := L_rnd rfl a h

theorem D_ext {E : Env} {f : FuncId} {F : List DV → List Res → Option DOut} (he : E.ext f = some F) (args : List DV) (h : List Res) : D E f args h = F args h := by
  rw [D_eq]
  unfold dcallF
  rw [he]

/-! ### Into the branches -/
section
variable {p : Prop} [Decidable p]
theorem opK_ite (x y : Option DOut) (a : List DV) (d : Option Nat) (k : List DV → List Res → Option DRun) : opK (if p then x else y) a d k = if p then opK x a d k else opK y a d k := by split <;> rfl
theorem seqK_ite (x y : Option DRun) (k : List DV → List Res → Option DRun) : seqK (if p then x else y) k = if p then seqK x k else seqK y k := by split <;> rfl
theorem blkK_ite (i : Nat) (x y : Option DRun) : blkK i (if p then x else y) = if p then blkK i x else blkK i y := by split <;> rfl
theorem drawK_ite (x y : Option DRun) (k : DRun → Bool) : drawK (if p then x else y) k = if p then drawK x k else drawK y k := by split <;> rfl
theorem bodK_ite (F : AFunc) (n : Nat) (x y : Option DRun) : bodK F n (if p then x else y) = if p then bodK F n x else bodK F n y := by split <;> rfl
theorem rndK_ite (n : Nat) (hd ex : List Bool) (K : List DV → List Res → Option DRun) (x y : Option DRun) : rndK n hd ex K (if p then x else y) = if p then rndK n hd ex K x else rndK n hd ex K y := by split <;> rfl
theorem omap_ite {α β : Type} (f : α → β) (x y : Option α) : Option.map f (if p then x else y) = if p then Option.map f x else Option.map f y := by split <;> rfl
end

/-! ### What stands behind '&&' and '||': run for both ways, and joined -/
def insD : Option Nat → List Nat → List Nat
  | some d, D => d :: D
  | none, D => D
def memD : List Nat → Nat → Bool
  | [], _ => false
  | x :: l, t => if x = t then true else memD l t
def splitG (t : Nat) (b : Bool) : List Nat → List DOper → List DOper × List DOper
  | _, [] => ([], [])
  | D, ⟨d, o, some (t', b')⟩ :: r => if d ≠ some t ∧ (t' = t ∧ b' = b ∨ t' ≠ t ∧ memD D t' = true) then (⟨d, o, some (t', b')⟩ :: (splitG t b (insD d D) r).1, (splitG t b (insD d D) r).2) else ([], ⟨d, o, some (t', b')⟩ :: r)
  | _, ⟨d, .pick (.tmp t') x y, none⟩ :: r => if t' = t then ([⟨d, .pick (.tmp t') x y, none⟩], r) else ([], ⟨d, .pick (.tmp t') x y, none⟩ :: r)
  | _, ⟨d, o, none⟩ :: r => ([], ⟨d, o, none⟩ :: r)
def onG (t : Nat) (on : Bool) : List DOper → List DOper
  | [] => []
  | ⟨d, o, some (t', b')⟩ :: r => (if t' = t then (if on = true then ⟨d, o, none⟩ else ⟨d, .mv (.con (.tup [])), none⟩) else ⟨d, o, some (t', b')⟩) :: onG t on r
  | ⟨d, o, none⟩ :: r => ⟨d, o, none⟩ :: onG t on r
def iteD (c : Bool) (x y : DV) : DV := if c = true then x else y
def zipD (c : Bool) : List DV → List DV → List DV
  | x :: xs, y :: ys => iteD c x y :: zipD c xs ys
  | xs, ys => if c = true then xs else ys
theorem zipD_eq (c : Bool) : ∀ xs ys : List DV, zipD c xs ys = if c = true then xs else ys
  | x :: xs, y :: ys => by
    simp only [zipD, zipD_eq c xs ys, iteD]
    cases c <;> rfl
  | [], _ => by simp [zipD]
  | _ :: _, [] => by simp [zipD]
def joinK (c : Bool) (r1 r2 : Option DRun) (k : List DV → List Res → Option DRun) : Option DRun := if c = true then seqK r1 k else seqK r2 k
def runG (call : CallG) (ops : List DOper) (h : List Res) (a : List DV) : Option DRun := dops call ops a h
def grpK (a : List DV) (t : Nat) (x : Option DV) (P Q R : List DV → Option DRun) (k : List DV → List Res → Option DRun) : Option DRun := match x with
  | some (.d (.bool c)) => joinK c (P (a.set t (.d (.bool true)))) (Q (a.set t (.d (.bool false)))) k
  | some (.d (.tup [])) => seqK (R a) k
  | _ => none
def grpS (call : CallG) (p : List DOper × List DOper) (t : Nat) (b : Bool) (a : List DV) (h : List Res) : Option DRun :=
  grpK a t a[t]? (runG call (onG t b p.1) h) (runG call (onG t (!b) p.1) h) (runG call (onG t false p.1) h) (dops call p.2)
theorem splitG_app (t : Nat) (b : Bool) : ∀ l D, (splitG t b D l).1 ++ (splitG t b D l).2 = l
  | [], _ => rfl
  | ⟨d, o, some (t', b')⟩ :: r, D => by
    simp only [splitG]
    split
    · simp [splitG_app t b r]
    · rfl
  | ⟨d, o, none⟩ :: r, D => by
    unfold splitG
    split <;> try simp_all
    split <;> simp_all
theorem dops_app (call : CallG) : ∀ (x y : List DOper) (a : List DV) (h : List Res), dops call (x ++ y) a h = seqK (dops call x a h) (dops call y)
  | [], y, a, h => rfl
  | o :: x, y, a, h => by
    simp only [List.cons_append, dops]
    cases wants a o.guard with
    | none => rfl
    | some w => cases w with
      | false => exact dops_app call x y _ _
      | true =>
        simp only
        cases dop call o.op a h with
        | none => rfl
        | some r => cases r with
          | val v h' => exact dops_app call x y _ _
          | pan v h' => rfl
theorem put_get {a : List DV} {d : Option Nat} {t : Nat} {v : DV} (hd : d ≠ some t) : (put a d v)[t]? = a[t]? := by
  cases d with
  | none => rfl
  | some d => simp only [put]; rw [List.getElem?_set_ne (fun e => hd (by rw [e]))]
theorem onG_eq (call : CallG) (t : Nat) (b c : Bool) : ∀ (l : List DOper) (D : List Nat) (a : List DV) (h : List Res), a[t]? = some (.d (.bool c)) → dops call (splitG t b D l).1 a h = dops call (onG t (c == b) (splitG t b D l).1) a h
  | [], D, a, h, ha => rfl
  | ⟨d, o, some (t', b')⟩ :: r, D, a, h, ha => by
    simp only [splitG]
    split
    · rename_i hc
      obtain ⟨hd, hc⟩ := hc
      have ih := fun v (h' : List Res) => onG_eq call t b c r (insD d D) (put a d v) h' (by rw [put_get hd, ha])
      rcases hc with ⟨rfl, rfl⟩ | ⟨hne, _⟩
      · simp only [onG, dops, wants, ha, if_true]
        cases hcb : c == b' with
        | true =>
          rw [hcb] at ih
          simp only [if_true, wants]
          cases dop call o a h with
          | none => rfl
          | some q => cases q with
            | val v h' => exact ih v h'
            | pan v h' => rfl
        | false =>
          rw [hcb] at ih
          simp only [Bool.false_eq_true, if_false, wants, dop, ev]
          exact ih _ _
      · simp only [onG, hne, if_false, dops]
        split
        · cases dop call o a h with
          | none => rfl
          | some q => cases q with
            | val v h' => exact ih v h'
            | pan v h' => rfl
        · exact ih _ _
        · rfl
    · rfl
  | ⟨d, o, none⟩ :: r, D, a, h, ha => by
    unfold splitG
    split <;> try simp_all [onG]
    split <;> simp_all [onG]
theorem onG_tup (call : CallG) (t : Nat) (b : Bool) : ∀ (l : List DOper) (D : List Nat) (a : List DV) (h : List Res), a[t]? = some (.d (.tup [])) → dops call (splitG t b D l).1 a h = dops call (onG t false (splitG t b D l).1) a h
  | [], D, a, h, ha => rfl
  | ⟨d, o, some (t', b')⟩ :: r, D, a, h, ha => by
    simp only [splitG]
    split
    · rename_i hc
      obtain ⟨hd, hc⟩ := hc
      have ih := fun v (h' : List Res) => onG_tup call t b r (insD d D) (put a d v) h' (by rw [put_get hd, ha])
      rcases hc with ⟨rfl, rfl⟩ | ⟨hne, _⟩
      · simp only [onG, dops, wants, ha, Bool.false_eq_true, if_false, if_true, dop, ev]
        exact ih _ _
      · simp only [onG, hne, if_false, dops]
        split
        · cases dop call o a h with
          | none => rfl
          | some q => cases q with
            | val v h' => exact ih v h'
            | pan v h' => rfl
        · exact ih _ _
        · rfl
    · rfl
  | ⟨d, o, none⟩ :: r, D, a, h, ha => by
    unfold splitG
    split <;> try simp_all [onG]
    split <;> simp_all [onG]
theorem go_grp (call : CallG) (d : Option Nat) (o : DOp) (t : Nat) (b : Bool) (r : List DOper) (a : List DV) (h : List Res) (hd : (d == some t) = false) :
    dops call (⟨d, o, some (t, b)⟩ :: r) a h = grpS call (splitG t b [] (⟨d, o, some (t, b)⟩ :: r)) t b a h := by
  conv => lhs; rw [← splitG_app t b (⟨d, o, some (t, b)⟩ :: r) [], dops_app]
  unfold grpS grpK runG
  have hd' : d ≠ some t := by simpa using hd
  generalize hx : a[t]? = x
  split
  · rename_i c
    have hs := set_get hx
    rw [onG_eq call t b c _ [] a h hx]
    unfold joinK
    cases c <;> cases b <;> simp [hs]
  · rw [onG_tup call t b _ [] a h hx]
  · rename_i h1 h2
    simp only [splitG, ne_eq, hd', not_false_eq_true, and_self, true_and, true_or, if_true, dops, wants, hx]
    rfl
theorem dst_ne (x y : Nat) : ((some x : Option Nat) == some y) = (x == y) := rfl
theorem dst_no (y : Nat) : ((none : Option Nat) == some y) = false := rfl
section
variable (a : List DV) (h : List Res) (k : List DV → List Res → Option DRun) (c : Bool) (r1 r2 : Option DRun)
theorem run_g (call : CallG) (ops : List DOper) : runG call ops h a = dops call ops a h := rfl
theorem grpS_eq (call : CallG) (g r : List DOper) (t : Nat) (b : Bool) : grpS call (g, r) t b a h = grpK a t a[t]? (runG call (onG t b g) h) (runG call (onG t (!b) g) h) (runG call (onG t false g) h) (dops call r) := rfl
theorem joinK_t : joinK true r1 r2 k = seqK r1 k := rfl
theorem joinK_f : joinK false r1 r2 k = seqK r2 k := rfl
theorem joinK_oo (a1 a2 : List DV) (h1 h2 : List Res) : joinK c (some (.normal, a1, h1)) (some (.normal, a2, h2)) k = k (zipD c a1 a2) (if c = true then h1 else h2) := by
  rw [zipD_eq]; unfold joinK seqK; cases c <;> rfl
theorem joinK_n1 : joinK c none r2 k = if c = true then none else seqK r2 k := rfl
theorem joinK_n2 : joinK c r1 none k = if c = true then seqK r1 k else none := rfl
theorem joinK_p1 (v : DV) : joinK c (some (.pan v, a, h)) r2 k = if c = true then some (.pan v, a, h) else seqK r2 k := rfl
theorem joinK_p2 (v : DV) : joinK c r1 (some (.pan v, a, h)) k = if c = true then seqK r1 k else some (.pan v, a, h) := rfl
theorem joinK_i1 {p : Prop} [Decidable p] (x y : Option DRun) : joinK c (if p then x else y) r2 k = if p then joinK c x r2 k else joinK c y r2 k := by split <;> rfl
theorem joinK_i2 {p : Prop} [Decidable p] (x y : Option DRun) : joinK c r1 (if p then x else y) k = if p then joinK c r1 x k else joinK c r1 y k := by split <;> rfl
theorem zipD_c (x y : DV) (xs ys : List DV) : zipD c (x :: xs) (y :: ys) = iteD c x y :: zipD c xs ys := rfl
theorem zipD_n : zipD c [] [] = [] := by simp [zipD]
theorem iteD_s (x : DV) : iteD c x x = x := by simp [iteD]
theorem iteD_and (p : Bool) : iteD c (.d (.bool p)) (.d (.bool false)) = .d (.bool (c && p)) := by cases c <;> rfl
theorem iteD_or (p : Bool) : iteD c (.d (.bool true)) (.d (.bool p)) = .d (.bool (c || p)) := by cases c <;> rfl
theorem iteD_imp (p : Bool) : iteD c (.d (.bool p)) (.d (.bool true)) = .d (.bool (!c || p)) := by cases c <;> rfl
theorem iteD_nand (p : Bool) : iteD c (.d (.bool false)) (.d (.bool p)) = .d (.bool (!c && p)) := by cases c <;> rfl
theorem iteD_tf : iteD c (.d (.bool true)) (.d (.bool false)) = .d (.bool c) := by cases c <;> rfl
theorem iteD_ft : iteD c (.d (.bool false)) (.d (.bool true)) = .d (.bool (!c)) := by cases c <;> rfl
end

/-! ### Slots by their numbers: what was put last stands first -/
def slk : List (Nat × DV) → Nat → DV
  | [], _ => .d .undef
  | (k, v) :: r, t => if k = t then v else slk r t
def den (n : Nat) (s : List (Nat × DV)) : List DV := (List.range n).map (slk s)
def keepS : List Bool → Nat → List (Nat × DV) → List (Nat × DV)
  | [], _, _ => []
  | true :: m, k, s => (k, slk s k) :: keepS m (k + 1) s
  | false :: m, k, s => keepS m (k + 1) s
def joinS (c : Bool) : List (Nat × DV) → List (Nat × DV) → List (Nat × DV)
  | (k, x) :: r, (k', y) :: r' => if k = k' then (k, iteD c x y) :: joinS c r r' else if c = true then (k, x) :: r else (k', y) :: r'
  | s, s' => if c = true then s else s'
def idxS : Nat → List DV → List (Nat × DV)
  | _, [] => []
  | k, x :: xs => (k, x) :: idxS (k + 1) xs
def lowS (n : Nat) : List (Nat × DV) → Bool
  | [] => true
  | (_, v) :: r => v.low n && lowS n r
section
variable (n : Nat) (s : List (Nat × DV))
theorem den_len : (den n s).length = n := by simp [den]
theorem den_get (t : Nat) : (den n s)[t]? = if t < n then some (slk s t) else none := by
  simp only [den, List.getElem?_map]
  split
  · rename_i h; rw [List.getElem?_range h]; rfl
  · rename_i h; rw [List.getElem?_eq_none (by simpa using h)]; rfl
theorem den_getD (t : Nat) (d : DV) : (den n s).getD t d = if t < n then slk s t else d := by
  rw [List.getD_eq_getElem?_getD, den_get]
  split <;> rfl
theorem den_t (t : Nat) : ev (den n s) (.tmp t) = if t < n then slk s t else .d .undef := den_getD n s t _
theorem den_c (v : FV) : ev (den n s) (.con v) = .d v := rfl
theorem den_f (g : FuncId) : ev (den n s) (.fn g) = .d (.func (.func g) [] []) := rfl
theorem den_set (d : Nat) (v : DV) : (den n s).set d v = den n ((d, v) :: s) := by
  apply List.ext_getElem?
  intro t
  rw [den_get]
  simp only [slk]
  by_cases ht : d = t
  · subst ht
    by_cases hd : d < n
    · rw [List.getElem?_set_self (by rw [den_len]; exact hd)]; simp [hd]
    · rw [List.getElem?_eq_none (by simp [den_len]; omega)]; simp [hd]
  · rw [List.getElem?_set_ne ht, den_get]; simp [ht]
theorem den_put (d : Nat) (v : DV) : put (den n s) (some d) v = den n ((d, v) :: s) := den_set n s d v
theorem den_pno (v : DV) : put (den n s) none v = den n s := rfl
theorem look_keep (m : List Bool) : ∀ (k t : Nat), slk (keepS m k s) t = if k ≤ t ∧ m[t - k]? = some true then slk s t else .d .undef := by
  induction m with
  | nil => intro k t; simp [keepS, slk]
  | cons b m ih =>
    intro k t
    have hstep : ∀ (h : k < t), (b :: m)[t - k]? = m[t - (k + 1)]? := fun h => by
      rw [show t - k = (t - (k + 1)) + 1 from by omega, List.getElem?_cons_succ]
    cases b with
    | true =>
      simp only [keepS, slk, ih]
      by_cases h1 : k = t
      · subst h1; simp
      · by_cases h2 : k < t
        · have e1 : k + 1 ≤ t := h2
          have e2 : k ≤ t := by omega
          simp only [h1, if_false, hstep h2, e1, e2, true_and]
        · have e1 : ¬ k + 1 ≤ t := by omega
          have e2 : ¬ k ≤ t := by omega
          simp only [h1, if_false, e1, e2, false_and]
    | false =>
      simp only [keepS, ih]
      by_cases h1 : k = t
      · subst h1; simp; omega
      · by_cases h2 : k < t
        · have e1 : k + 1 ≤ t := h2
          have e2 : k ≤ t := by omega
          simp only [hstep h2, e1, e2, true_and]
        · have e1 : ¬ k + 1 ≤ t := by omega
          have e2 : ¬ k ≤ t := by omega
          simp only [e1, e2, false_and, if_false]
theorem mask_get (m : List Bool) : ∀ (a : List DV) (t : Nat), (mask m a)[t]? = (a[t]?).map fun x => if m[t]? = some true then x else .d .undef := by
  induction m with
  | nil =>
    intro a
    induction a with
    | nil => intro t; simp [mask]
    | cons x xs ih =>
      intro t
      simp only [mask]
      cases t with
      | zero => simp
      | succ t => simpa using ih t
  | cons b m ih =>
    intro a t
    cases a with
    | nil => cases b <;> simp [mask]
    | cons x xs =>
      cases b <;> cases t <;> simp [mask, ih]
theorem den_mask (m : List Bool) : mask m (den n s) = den n (keepS m 0 s) := by
  apply List.ext_getElem?
  intro t
  rw [mask_get, den_get, den_get, look_keep]
  by_cases ht : t < n
  · simp [ht]
  · simp [ht]
theorem look_join (c : Bool) : ∀ (s s' : List (Nat × DV)) (t : Nat), slk (joinS c s s') t = iteD c (slk s t) (slk s' t)
  | (k, x) :: r, (k', y) :: r', t => by
    simp only [joinS]
    split
    · rename_i h
      subst h
      simp only [slk, look_join c r r' t]
      split <;> rfl
    · cases c <;> simp [iteD]
  | [], s', t => by cases c <;> simp [joinS, iteD]
  | _ :: _, [], t => by cases c <;> simp [joinS, iteD]
theorem den_zip (c : Bool) (s' : List (Nat × DV)) : zipD c (den n s) (den n s') = den n (joinS c s s') := by
  rw [zipD_eq]
  unfold den
  rw [show slk (joinS c s s') = fun t => iteD c (slk s t) (slk s' t) from funext (look_join c s s')]
  cases c <;> rfl
theorem joinS_s (c : Bool) : joinS c s s = s := by
  induction s with
  | nil => simp [joinS]
  | cons p r ih => obtain ⟨k, x⟩ := p; simp [joinS, ih, iteD]
theorem joinS_c (c : Bool) (k k' : Nat) (x y : DV) (r r' : List (Nat × DV)) : joinS c ((k, x) :: r) ((k', y) :: r') = if k = k' then (k, iteD c x y) :: joinS c r r' else if c = true then (k, x) :: r else (k', y) :: r' := rfl
theorem look_low {m : Nat} : ∀ {s : List (Nat × DV)}, lowS m s = true → ∀ t, (slk s t).low m = true
  | [], _, t => rfl
  | (k, v) :: r, h, t => by
    simp only [lowS, Bool.and_eq_true] at h
    simp only [slk]
    split
    · exact h.1
    · exact look_low h.2 t
theorem lows_all {m : Nat} : ∀ {a : List DV}, (∀ x ∈ a, x.low m = true) → DV.lows m a = true
  | [], _ => rfl
  | x :: a, h => by
    simp only [DV.lows, Bool.and_eq_true]
    exact ⟨h x (by simp), lows_all fun y hy => h y (by simp [hy])⟩
theorem den_low {m : Nat} (h : lowS m s = true) : DV.lows m (den n s) = true := lows_all fun x hx => by
  simp only [den, List.mem_map] at hx
  obtain ⟨t, _, rfl⟩ := hx
  exact look_low h t
theorem look_idx : ∀ (xs : List DV) (k t : Nat), slk (idxS k xs) t = if k ≤ t then xs.getD (t - k) (.d .undef) else .d .undef
  | [], k, t => by simp [idxS, slk]
  | x :: xs, k, t => by
    simp only [idxS, slk, look_idx xs]
    by_cases h : k = t
    · subst h; simp
    · by_cases h2 : k < t
      · have e1 : k + 1 ≤ t := h2
        have e2 : k ≤ t := by omega
        rw [if_neg h, if_pos e1, if_pos e2, show t - k = (t - (k + 1)) + 1 from by omega]
        rfl
      · rw [if_neg h, if_neg (by omega), if_neg (by omega)]
theorem den_args (xs : List DV) (hn : xs.length ≤ n) : xs ++ List.replicate (n - xs.length) (.d .undef) = den n (idxS 0 xs) := by
  apply List.ext_getElem?
  intro t
  rw [den_get, look_idx]
  by_cases h : t < n
  · simp only [h, if_true, Nat.zero_le, Nat.sub_zero]
    by_cases h2 : t < xs.length
    · rw [List.getElem?_append_left h2, List.getElem?_eq_getElem h2]; simp [h2]
    · rw [List.getElem?_append_right (by omega), List.getElem?_replicate]
      rw [if_pos (by omega)]
      simp [List.getD, List.getElem?_eq_none (by omega : xs.length ≤ t)]
  · rw [List.getElem?_eq_none (by simp; omega)]; simp [h]
theorem bod_den (call : CallG) (loop : LoopF) (F : AFunc) (args : List DV) (h : List Res) (hn : decide (args.length ≤ F.ntmps) = true) : dbody call loop F args h = bodK F h.length (dexec call loop F.body (den F.ntmps (idxS 0 args)) h) := by
  rw [bod_eq, den_args _ _ (by simpa using hn)]
theorem set_d (t : Nat) (v : DV) : setOpd (den n s) (.tmp t) v = den n ((t, v) :: s) := den_set n s t v
theorem set_dc (c : FV) (v : DV) : setOpd (den n s) (.con c) v = den n s := rfl
theorem res_t (h : List Res) (t : Nat) : dresult (den n s) h (.tmp t) = some (if t < n then slk s t else .d .undef) := by
  rw [dresult, den_getD]
end
def agreeS (s s' : List (Nat × DV)) : List Nat → Prop
  | [] => True
  | k :: r => slk s k = slk s' k ∧ agreeS s s' r
theorem slk_no : ∀ {s : List (Nat × DV)} {t : Nat}, t ∉ s.map (·.1) → slk s t = .d .undef
  | [], _, _ => rfl
  | (k, v) :: r, t, h => by
    simp only [List.map_cons, List.mem_cons, not_or] at h
    simp only [slk, if_neg (fun e => h.1 (Eq.symm e))]
    exact slk_no h.2
theorem agree_mem {s s' : List (Nat × DV)} : ∀ {l : List Nat}, agreeS s s' l → ∀ t ∈ l, slk s t = slk s' t
  | _ :: _, h, t, ht => by
    rcases List.mem_cons.1 ht with rfl | ht
    · exact h.1
    · exact agree_mem h.2 t ht
theorem den_eq (n : Nat) (s s' : List (Nat × DV)) (h : agreeS s s' (s.map (·.1) ++ s'.map (·.1))) : (den n s = den n s') = True := by
  refine eq_true ?_
  unfold den
  refine List.map_congr_left fun t _ => ?_
  by_cases h1 : t ∈ s.map (·.1) ++ s'.map (·.1)
  · exact agree_mem h t h1
  · simp only [List.mem_append, not_or] at h1
    rw [slk_no h1.1, slk_no h1.2]/-! ### Out of the branches -/
section
variable {p : Prop} [Decidable p]
theorem if_some {α : Type} (x y : α) : (if p then some x else some y) = some (if p then x else y) := by split <;> rfl
theorem if_val (x y : DV) (h : List Res) : (if p then DOut.val x h else DOut.val y h) = DOut.val (if p then x else y) h := by split <;> rfl
theorem if_d (x y : FV) : (if p then DV.d x else DV.d y) = DV.d (if p then x else y) := by split <;> rfl
theorem if_int (k : IntKind) (x y : Int) : (if p then FV.int k x else FV.int k y) = FV.int k (if p then x else y) := by split <;> rfl
theorem if_bool (x y : Bool) : (if p then FV.bool x else FV.bool y) = FV.bool (if p then x else y) := by split <;> rfl
theorem if_str (x y : ByteArray) : (if p then FV.str x else FV.str y) = FV.str (if p then x else y) := by split <;> rfl
theorem if_slice (n : Nat) (x y : List (List FV)) : (if p then FV.slice n x else FV.slice n y) = FV.slice n (if p then x else y) := by split <;> rfl
theorem if_agg (x y : List FV) : (if p then FV.agg x else FV.agg y) = FV.agg (if p then x else y) := by split <;> rfl
theorem if_tup (x y : List FV) : (if p then FV.tup x else FV.tup y) = FV.tup (if p then x else y) := by split <;> rfl
theorem if_cons (x y : FV) (xs ys : List FV) : (if p then x :: xs else y :: ys) = (if p then x else y) :: (if p then xs else ys) := by split <;> rfl
end
theorem fac : type_of% @if_some ∧ type_of% @if_val ∧ type_of% @if_d ∧ type_of% @if_int ∧ type_of% @if_bool ∧ type_of% @if_str ∧ type_of% @if_slice ∧ type_of% @if_agg ∧ type_of% @if_tup ∧ type_of% @if_cons ∧ type_of% @ite_self.{1} :=
  ⟨@if_some, @if_val, @if_d, @if_int, @if_bool, @if_str, @if_slice, @if_agg, @if_tup, @if_cons, @ite_self.{1}⟩
theorem wrap_i32 {n : Int} (h1 : -2147483648 ≤ n) (h2 : n < 2147483648) : IntKind.i32.wrap n = n := by
  simp only [IntKind.wrap, IntKind.signed, IntKind.bits, Bool.true_and, Bool.false_and, decide_eq_true_eq, Bool.false_eq_true, if_false, show ((2 : Int) ^ 32) = 4294967296 from rfl, show ((2 : Int) ^ (32 - 1)) = 2147483648 from rfl]
  try split
  all_goals omega
theorem wrap_u64 {n : Int} (h1 : 0 ≤ n) (h2 : n < 18446744073709551616) : IntKind.u64.wrap n = n := by
  simp only [IntKind.wrap, IntKind.signed, IntKind.bits, Bool.true_and, Bool.false_and, decide_eq_true_eq, Bool.false_eq_true, if_false, show ((2 : Int) ^ 64) = 18446744073709551616 from rfl]
  try split
  all_goals omega
theorem wl_p (n : Nat) (h : n < 9223372036854775808) : IntKind.i64.wrap (no_index (OfNat.ofNat n)) = OfNat.ofNat n := wrap_i64 (n := (n : Int)) (by omega) (by omega)
theorem wl_n (n : Nat) (h : n < 9223372036854775808) : IntKind.i64.wrap (-(no_index (OfNat.ofNat n))) = -(OfNat.ofNat n) := wrap_i64 (n := -(n : Int)) (by omega) (by omega)
theorem wl_32 (n : Nat) (h : n < 2147483648) : IntKind.i32.wrap (no_index (OfNat.ofNat n)) = OfNat.ofNat n := wrap_i32 (n := (n : Int)) (by omega) (by omega)
theorem wl_8 (n : Nat) (h : n < 256) : IntKind.u8.wrap (no_index (OfNat.ofNat n)) = OfNat.ofNat n := wrap_u8 (n := (n : Int)) (by omega) (by omega)
theorem wl_u (n : Nat) (h : n < 18446744073709551616) : IntKind.u64.wrap (no_index (OfNat.ofNat n)) = OfNat.ofNat n := wrap_u64 (n := (n : Int)) (by omega) (by omega)
theorem one_vslc (i g s o n : Nat) : (DV.vslc i g s o n).one = true := rfl
theorem one_eptr (i g k o : Nat) : (DV.eptr i g k o).one = true := rfl
theorem one_mref (i : Nat) : (DV.mref i).one = true := rfl

set_option maxRecDepth 10000 in
theorem stq :
    type_of% @dops_end ∧
    type_of% @List.length_cons.{0} ∧
    type_of% @List.length_cons.{1} ∧
    type_of% @List.length_nil.{0} ∧
    type_of% @List.length_nil.{1} ∧
    type_of% @List.cons_append.{0} ∧
    type_of% @List.cons_append.{1} ∧
    type_of% @List.nil_append.{0} ∧
    type_of% @List.nil_append.{1} ∧
    type_of% @List.append_nil.{0} ∧
    type_of% @List.append_nil.{1} ∧
    type_of% @List.set_cons_zero.{0} ∧
    type_of% @List.set_cons_zero.{1} ∧
    type_of% @List.set_cons_succ.{0} ∧
    type_of% @List.set_cons_succ.{1} ∧
    type_of% @List.set_nil.{0} ∧
    type_of% @List.set_nil.{1} ∧
    type_of% @List.getD_cons_zero.{0} ∧
    type_of% @List.getD_cons_zero.{1} ∧
    type_of% @List.getD_cons_succ.{0} ∧
    type_of% @List.getD_cons_succ.{1} ∧
    type_of% @List.getD_nil.{0} ∧
    type_of% @List.getD_nil.{1} ∧
    type_of% @List.map_cons.{0, 0} ∧
    type_of% @List.map_cons.{1, 1} ∧
    type_of% @List.map_nil.{0, 0} ∧
    type_of% @List.map_nil.{1, 1} ∧
    type_of% @List.all_cons.{0} ∧
    type_of% @List.all_cons.{1} ∧
    type_of% @List.all_nil.{0} ∧
    type_of% @List.all_nil.{1} ∧
    type_of% @one_d1 ∧
    type_of% @one_ptr ∧
    type_of% @one_row ∧
    type_of% @one_clo ∧
    type_of% @one_if ∧
    type_of% @one_int ∧
    type_of% @one_bool ∧
    type_of% @one_str ∧
    type_of% @one_slice ∧
    type_of% @one_ref ∧
    type_of% @one_nilp ∧
    type_of% @one_iface ∧
    type_of% @one_nili ∧
    type_of% @one_func ∧
    type_of% @one_nilf ∧
    type_of% @Bool.and_self ∧
    type_of% @Bool.and_true ∧
    type_of% @Bool.true_and ∧
    type_of% @Bool.and_false ∧
    type_of% @Bool.false_and ∧
    type_of% @Bool.or_true ∧
    type_of% @Bool.or_false ∧
    type_of% @Bool.true_or ∧
    type_of% @Bool.false_or ∧
    type_of% @if_true.{0} ∧
    type_of% @if_true.{1} ∧
    type_of% @flat_comp ∧
    type_of% @flat_map ∧
    type_of% @List.mapM_cons.{0, 0, 0} ∧
    type_of% @List.mapM_cons.{1, 1, 1} ∧
    type_of% @List.mapM_nil.{0, 0, 0} ∧
    type_of% @List.mapM_nil.{1, 1, 1} ∧
    type_of% @Option.pure_def.{0} ∧
    type_of% @Option.pure_def.{1} ∧
    type_of% @Option.bind_eq_bind.{0} ∧
    type_of% @Option.bind_eq_bind.{1} ∧
    type_of% @Option.bind_some.{0, 0} ∧
    type_of% @Option.bind_some.{1, 1} ∧
    type_of% @Option.bind_none.{0, 0} ∧
    type_of% @Option.bind_none.{1, 1} ∧
    type_of% @Option.map_some.{0, 0} ∧
    type_of% @Option.map_some.{1, 1} ∧
    type_of% @Option.map_none.{0, 0} ∧
    type_of% @Option.map_none.{1, 1} ∧
    type_of% @List.getElem?_cons_zero.{0} ∧
    type_of% @List.getElem?_cons_zero.{1} ∧
    type_of% @List.getElem?_cons_succ.{0} ∧
    type_of% @List.getElem?_cons_succ.{1} ∧
    type_of% @List.getElem?_nil.{0} ∧
    type_of% @List.getElem?_nil.{1} ∧
    type_of% @Nat.zero_add ∧
    type_of% @Nat.add_zero ∧
    type_of% @bne_self_eq_false.{0} ∧
    type_of% @bne_self_eq_false.{1} ∧
    type_of% @beq_self_eq_true.{0} ∧
    type_of% @beq_self_eq_true.{1} ∧
    type_of% @Bool.false_eq_true ∧
    type_of% @if_false.{0} ∧
    type_of% @if_false.{1} ∧
    type_of% @ne_eq.{0} ∧
    type_of% @ne_eq.{1} ∧
    type_of% @not_true_eq_false ∧
    type_of% @not_false_eq_true ∧
    type_of% @Bool.not_true ∧
    type_of% @Bool.not_false ∧
    type_of% @beq_iff_eq.{0} ∧
    type_of% @beq_iff_eq.{1} ∧
    type_of% @bne_iff_ne.{0} ∧
    type_of% @bne_iff_ne.{1} ∧
    type_of% @List.take_zero.{0} ∧
    type_of% @List.take_zero.{1} ∧
    type_of% @List.take_nil.{0} ∧
    type_of% @List.take_nil.{1} ∧
    type_of% @dcallV_fn ∧
    type_of% @dcallV_fnc ∧
    type_of% @dcallV_clo ∧
    type_of% @dcallV_yld ∧
    type_of% @List.drop_zero.{0} ∧
    type_of% @List.drop_zero.{1} ∧
    type_of% @List.drop_succ_cons.{0} ∧
    type_of% @List.drop_succ_cons.{1} ∧
    type_of% @List.take_succ_cons.{0} ∧
    type_of% @List.take_succ_cons.{1} ∧
    type_of% @List.not_mem_nil.{0} ∧
    type_of% @List.not_mem_nil.{1} ∧
    type_of% @false_implies ∧
    type_of% @implies_true.{0} ∧
    type_of% @implies_true.{1} ∧
    type_of% @decide_true ∧
    type_of% @decide_false ∧
    type_of% @decide_eq_true_eq ∧
    type_of% @Int.toNat_natCast ∧
    type_of% @Int.natCast_nonneg ∧
    type_of% @and_self ∧
    type_of% @and_true ∧
    type_of% @true_and ∧
    type_of% @List.foldlM_cons.{0, 0, 0} ∧
    type_of% @List.foldlM_cons.{1, 1, 1} ∧
    type_of% @List.foldlM_nil.{0, 0, 0} ∧
    type_of% @List.foldlM_nil.{1, 1, 1} ∧
    type_of% @List.length_append.{0} ∧
    type_of% @List.length_append.{1} ∧
    type_of% @List.length_map.{0, 0} ∧
    type_of% @List.length_map.{1, 1} ∧
    type_of% @Nat.le_refl ∧
    type_of% @List.all_map.{0, 0} ∧
    type_of% @List.all_map.{1, 1} ∧
    type_of% @Function.comp_def.{0, 0, 0} ∧
    type_of% @Function.comp_def.{1, 1, 1} ∧
    type_of% @Bool.false_beq ∧
    type_of% @Bool.true_beq ∧
    type_of% @gt_iff_lt.{0} ∧
    type_of% @gt_iff_lt.{1} ∧
    type_of% @ge_iff_le.{0} ∧
    type_of% @ge_iff_le.{1} ∧
    type_of% @cast_lit ∧
    type_of% @Bool.not_eq_true ∧
    type_of% @Int.toNat_zero ∧
    type_of% @Nat.zero_mul ∧
    type_of% @and_false ∧
    type_of% @false_and ∧
    type_of% @or_false ∧
    type_of% @or_true ∧
    type_of% @true_or ∧
    type_of% @false_or ∧
    type_of% @Int.le_refl ∧
    type_of% @Int.lt_irrefl ∧
    type_of% @List.mem_cons.{0} ∧
    type_of% @List.mem_cons.{1} ∧
    type_of% @forall_eq_or_imp.{0} ∧
    type_of% @forall_eq_or_imp.{1} ∧
    type_of% @forall_eq.{0} ∧
    type_of% @forall_eq.{1} ∧
    type_of% @List.append_assoc.{0} ∧
    type_of% @List.append_assoc.{1} ∧
    type_of% @List.length_set.{0} ∧
    type_of% @List.length_set.{1} ∧
    type_of% @List.set_set.{0} ∧
    type_of% @List.set_set.{1} ∧
    type_of% @DOut.val.injEq ∧
    type_of% @one_bslc ∧
    type_of% @dc_fn ∧
    type_of% @dexec.eq_1 ∧
    type_of% @dexec.eq_2 ∧
    type_of% @dexec.eq_7 ∧
    type_of% @dexec.eq_9 ∧
    type_of% @dexec.eq_10 ∧
    type_of% @dop.eq_1 ∧
    type_of% @dop.eq_2 ∧
    type_of% @dop.eq_3 ∧
    type_of% @dop.eq_5 ∧
    type_of% @dop.eq_6 ∧
    type_of% @dop.eq_7 ∧
    type_of% @dop.eq_8 ∧
    type_of% @dop.eq_9 ∧
    type_of% @dop.eq_10 ∧
    type_of% @dop.eq_11 ∧
    type_of% @dop.eq_12 ∧
    type_of% @dop.eq_13 ∧
    type_of% @dop.eq_14 ∧
    type_of% @dop.eq_15 ∧
    type_of% @dop.eq_16 ∧
    type_of% @dop.eq_17 ∧
    type_of% @dop.eq_18 ∧
    type_of% @dop.eq_19 ∧
    type_of% @dop.eq_20 ∧
    type_of% @dop.eq_21 ∧
    type_of% @dop.eq_22 ∧
    type_of% @dop.eq_23 ∧
    type_of% @dop.eq_24 ∧
    type_of% @dop.eq_25 ∧
    type_of% @dop.eq_26 ∧
    type_of% @dop.eq_27 ∧
    type_of% @dop.eq_28 ∧
    type_of% @dop.eq_29 ∧
    type_of% @dop.eq_30 ∧
    type_of% @dop.eq_31 ∧
    type_of% @dop.eq_32 ∧
    type_of% @dop.eq_33 ∧
    type_of% @dop.eq_34 ∧
    type_of% @dop.eq_35 ∧
    type_of% @dop.eq_36 ∧
    type_of% @dop.eq_37 ∧
    type_of% @dop.eq_38 ∧
    type_of% @dop.eq_39 ∧
    type_of% @dop.eq_40 ∧
    type_of% @dop.eq_41 ∧
    type_of% @dop.eq_42 ∧
    type_of% @dop.eq_43 ∧
    type_of% @dop.eq_44 ∧
    type_of% @dop.eq_45 ∧
    type_of% @dop.eq_46 ∧
    type_of% @dop.eq_47 ∧
    type_of% @dop.eq_48 ∧
    type_of% @dop.eq_49 ∧
    type_of% @dop.eq_50 ∧
    type_of% @dop.eq_51 ∧
    type_of% @dop.eq_52 ∧
    type_of% @dop.eq_53 ∧
    type_of% @dop.eq_54 ∧
    type_of% @dop.eq_55 ∧
    type_of% @one_vslc ∧
    type_of% @one_eptr ∧
    type_of% @one_mref ∧
    type_of% @go_none ∧
    type_of% @go_grp ∧
    type_of% @op_pick ∧
    type_of% @ex_seq ∧
    type_of% @ex_blk ∧
    type_of% @ex_cond ∧
    type_of% @ex_draw ∧
    type_of% @bod_den ∧
    type_of% @same_nil ∧
    type_of% @opK_ite ∧
    type_of% @seqK_ite ∧
    type_of% @blkK_ite ∧
    type_of% @drawK_ite ∧
    type_of% @bodK_ite ∧
    type_of% @rndK_ite ∧
    type_of% @omap_ite ∧
    type_of% @opK_v ∧
    type_of% @opK_p ∧
    type_of% @opK_n ∧
    type_of% @seqK_o ∧
    type_of% @seqK_r ∧
    type_of% @seqK_e ∧
    type_of% @seqK_p ∧
    type_of% @seqK_n ∧
    type_of% @blkK_o ∧
    type_of% @blkK_r ∧
    type_of% @blkK_e ∧
    type_of% @blkK_p ∧
    type_of% @blkK_n ∧
    type_of% @drawK_o ∧
    type_of% @drawK_p ∧
    type_of% @drawK_n ∧
    type_of% @bodK_o ∧
    type_of% @bodK_r ∧
    type_of% @bodK_p ∧
    type_of% @bodK_n ∧
    type_of% @outK_s ∧
    type_of% @rndK_o ∧
    type_of% @rndK_r ∧
    type_of% @rndK_e ∧
    type_of% @rndK_p ∧
    type_of% @rndK_n ∧
    type_of% @den_get ∧
    type_of% @den_getD ∧
    type_of% @den_t ∧
    type_of% @den_c ∧
    type_of% @den_f ∧
    type_of% @den_set ∧
    type_of% @den_put ∧
    type_of% @den_pno ∧
    type_of% @den_mask ∧
    type_of% @den_zip ∧
    type_of% @joinS_s ∧
    type_of% @joinS_c ∧
    type_of% @den_eq ∧
    type_of% @Prod.mk.injEq.{0,0} ∧
    type_of% @den_low ∧
    type_of% @set_d ∧
    type_of% @set_dc ∧
    type_of% @run_eq ∧
    type_of% @skip_eq ∧
    type_of% @exT_eq ∧
    type_of% @pick_eq ∧
    type_of% @run_g ∧
    type_of% @grpS_eq ∧
    type_of% @grpK.eq_1 ∧
    type_of% @grpK.eq_2 ∧
    type_of% @joinK_oo ∧
    type_of% @joinK_n1 ∧
    type_of% @joinK_n2 ∧
    type_of% @joinK_p1 ∧
    type_of% @joinK_p2 ∧
    type_of% @joinK_i1 ∧
    type_of% @joinK_i2 ∧
    type_of% @iteD_s ∧
    type_of% @iteD_tf ∧
    type_of% @iteD_ft ∧
    type_of% @iteD_and ∧
    type_of% @iteD_or ∧
    type_of% @iteD_imp ∧
    type_of% @iteD_nand ∧
    type_of% @ite_self.{1} ∧
    type_of% @ite_self.{2} ∧
    type_of% @dst_ne ∧
    type_of% @dst_no ∧
    type_of% @Option.some.injEq.{0} ∧
    type_of% @List.take_length.{0} ∧
    type_of% @wl_p ∧
    type_of% @wl_n ∧
    type_of% @wl_32 ∧
    type_of% @wl_8 ∧
    type_of% @wl_u ∧
    type_of% @byOpd.eq_1 ∧
    type_of% @Bool.not_eq_true' ∧
    type_of% @Bool.not_eq_false' ∧
    type_of% @Bool.and_eq_true ∧
    type_of% @Bool.or_eq_true :=
  ⟨@dops_end, @List.length_cons.{0}, @List.length_cons.{1}, @List.length_nil.{0}, @List.length_nil.{1}, @List.cons_append.{0}, @List.cons_append.{1}, @List.nil_append.{0}, @List.nil_append.{1}, @List.append_nil.{0}, @List.append_nil.{1}, @List.set_cons_zero.{0}, @List.set_cons_zero.{1}, @List.set_cons_succ.{0}, @List.set_cons_succ.{1}, @List.set_nil.{0}, @List.set_nil.{1}, @List.getD_cons_zero.{0}, @List.getD_cons_zero.{1}, @List.getD_cons_succ.{0}, @List.getD_cons_succ.{1}, @List.getD_nil.{0}, @List.getD_nil.{1}, @List.map_cons.{0, 0}, @List.map_cons.{1, 1}, @List.map_nil.{0, 0}, @List.map_nil.{1, 1}, @List.all_cons.{0}, @List.all_cons.{1}, @List.all_nil.{0}, @List.all_nil.{1}, @one_d1, @one_ptr, @one_row, @one_clo, @one_if, @one_int, @one_bool, @one_str, @one_slice, @one_ref, @one_nilp, @one_iface, @one_nili, @one_func, @one_nilf, @Bool.and_self, @Bool.and_true, @Bool.true_and, @Bool.and_false, @Bool.false_and, @Bool.or_true, @Bool.or_false, @Bool.true_or, @Bool.false_or, @if_true.{0}, @if_true.{1}, @flat_comp, @flat_map, @List.mapM_cons.{0, 0, 0}, @List.mapM_cons.{1, 1, 1}, @List.mapM_nil.{0, 0, 0}, @List.mapM_nil.{1, 1, 1}, @Option.pure_def.{0}, @Option.pure_def.{1}, @Option.bind_eq_bind.{0}, @Option.bind_eq_bind.{1}, @Option.bind_some.{0, 0}, @Option.bind_some.{1, 1}, @Option.bind_none.{0, 0}, @Option.bind_none.{1, 1}, @Option.map_some.{0, 0}, @Option.map_some.{1, 1}, @Option.map_none.{0, 0}, @Option.map_none.{1, 1}, @List.getElem?_cons_zero.{0}, @List.getElem?_cons_zero.{1}, @List.getElem?_cons_succ.{0}, @List.getElem?_cons_succ.{1}, @List.getElem?_nil.{0}, @List.getElem?_nil.{1}, @Nat.zero_add, @Nat.add_zero, @bne_self_eq_false.{0}, @bne_self_eq_false.{1}, @beq_self_eq_true.{0}, @beq_self_eq_true.{1}, @Bool.false_eq_true, @if_false.{0}, @if_false.{1}, @ne_eq.{0}, @ne_eq.{1}, @not_true_eq_false, @not_false_eq_true, @Bool.not_true, @Bool.not_false, @beq_iff_eq.{0}, @beq_iff_eq.{1}, @bne_iff_ne.{0}, @bne_iff_ne.{1}, @List.take_zero.{0}, @List.take_zero.{1}, @List.take_nil.{0}, @List.take_nil.{1}, @dcallV_fn, @dcallV_fnc, @dcallV_clo, @dcallV_yld, @List.drop_zero.{0}, @List.drop_zero.{1}, @List.drop_succ_cons.{0}, @List.drop_succ_cons.{1}, @List.take_succ_cons.{0}, @List.take_succ_cons.{1}, @List.not_mem_nil.{0}, @List.not_mem_nil.{1}, @false_implies, @implies_true.{0}, @implies_true.{1}, @decide_true, @decide_false, @decide_eq_true_eq, @Int.toNat_natCast, @Int.natCast_nonneg, @and_self, @and_true, @true_and, @List.foldlM_cons.{0, 0, 0}, @List.foldlM_cons.{1, 1, 1}, @List.foldlM_nil.{0, 0, 0}, @List.foldlM_nil.{1, 1, 1}, @List.length_append.{0}, @List.length_append.{1}, @List.length_map.{0, 0}, @List.length_map.{1, 1}, @Nat.le_refl, @List.all_map.{0, 0}, @List.all_map.{1, 1}, @Function.comp_def.{0, 0, 0}, @Function.comp_def.{1, 1, 1}, @Bool.false_beq, @Bool.true_beq, @gt_iff_lt.{0}, @gt_iff_lt.{1}, @ge_iff_le.{0}, @ge_iff_le.{1}, @cast_lit, @Bool.not_eq_true, @Int.toNat_zero, @Nat.zero_mul, @and_false, @false_and, @or_false, @or_true, @true_or, @false_or, @Int.le_refl, @Int.lt_irrefl, @List.mem_cons.{0}, @List.mem_cons.{1}, @forall_eq_or_imp.{0}, @forall_eq_or_imp.{1}, @forall_eq.{0}, @forall_eq.{1}, @List.append_assoc.{0}, @List.append_assoc.{1}, @List.length_set.{0}, @List.length_set.{1}, @List.set_set.{0}, @List.set_set.{1}, @DOut.val.injEq, @one_bslc, @dc_fn, @dexec.eq_1, @dexec.eq_2, @dexec.eq_7, @dexec.eq_9, @dexec.eq_10, @dop.eq_1, @dop.eq_2, @dop.eq_3, @dop.eq_5, @dop.eq_6, @dop.eq_7, @dop.eq_8, @dop.eq_9, @dop.eq_10, @dop.eq_11, @dop.eq_12, @dop.eq_13, @dop.eq_14, @dop.eq_15, @dop.eq_16, @dop.eq_17, @dop.eq_18, @dop.eq_19, @dop.eq_20, @dop.eq_21, @dop.eq_22, @dop.eq_23, @dop.eq_24, @dop.eq_25, @dop.eq_26, @dop.eq_27, @dop.eq_28, @dop.eq_29, @dop.eq_30, @dop.eq_31, @dop.eq_32, @dop.eq_33, @dop.eq_34, @dop.eq_35, @dop.eq_36, @dop.eq_37, @dop.eq_38, @dop.eq_39, @dop.eq_40, @dop.eq_41, @dop.eq_42, @dop.eq_43, @dop.eq_44, @dop.eq_45, @dop.eq_46, @dop.eq_47, @dop.eq_48, @dop.eq_49, @dop.eq_50, @dop.eq_51, @dop.eq_52, @dop.eq_53, @dop.eq_54, @dop.eq_55, @one_vslc, @one_eptr, @one_mref, @go_none, @go_grp, @op_pick, @ex_seq, @ex_blk, @ex_cond, @ex_draw, @bod_den, @same_nil, @opK_ite, @seqK_ite, @blkK_ite, @drawK_ite, @bodK_ite, @rndK_ite, @omap_ite, @opK_v, @opK_p, @opK_n, @seqK_o, @seqK_r, @seqK_e, @seqK_p, @seqK_n, @blkK_o, @blkK_r, @blkK_e, @blkK_p, @blkK_n, @drawK_o, @drawK_p, @drawK_n, @bodK_o, @bodK_r, @bodK_p, @bodK_n, @outK_s, @rndK_o, @rndK_r, @rndK_e, @rndK_p, @rndK_n, @den_get, @den_getD, @den_t, @den_c, @den_f, @den_set, @den_put, @den_pno, @den_mask, @den_zip, @joinS_s, @joinS_c, @den_eq, @Prod.mk.injEq.{0,0}, @den_low, @set_d, @set_dc, @run_eq, @skip_eq, @exT_eq, @pick_eq, @run_g, @grpS_eq, @grpK.eq_1, @grpK.eq_2, @joinK_oo, @joinK_n1, @joinK_n2, @joinK_p1, @joinK_p2, @joinK_i1, @joinK_i2, @iteD_s, @iteD_tf, @iteD_ft, @iteD_and, @iteD_or, @iteD_imp, @iteD_nand, @ite_self.{1}, @ite_self.{2}, @dst_ne, @dst_no, @Option.some.injEq.{0}, @List.take_length.{0}, @wl_p, @wl_n, @wl_32, @wl_8, @wl_u, @byOpd.eq_1, @Bool.not_eq_true', @Bool.not_eq_false', @Bool.and_eq_true, @Bool.or_eq_true⟩
end Go.Deepv
