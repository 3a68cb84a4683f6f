/-
  The reader: peek, over, fail; the walker; places; Places: the walker, the document's next; hex digits; Whether a text begins with another; A text's runes with their places: the program's Split; A text's runes with their places: the program's Split, whole; Hex digits of the document; The bytes behind a rune's first one, as the document reads them; The document's One: the rune that begins at a byte
  Conditions: none.
-/
import Derived.Test.YtpemlmhggiaflaaGreatDoorNA
set_option linter.unusedVariables false
set_option linter.unusedSimpArgs false
set_option maxRecDepth 100000
namespace Go.Proofs.YtpemlmhggiaflaaGreatDoor.Codes
open Go.Deepv
structure Rn where
 r : Int
 off : Int
 l : Int
 c : Int
def Rn.enc (x : Rn) : List FV := [.int .i32 x.r, .int .i64 x.off, .int .i64 x.l, .int .i64 x.c]
def rd (rs : List Rn) (at_ : Nat) (e l c : Int) : Res := .box [.d (.slice 4 (rs.map Rn.enc)), .d (.int .i64 at_), .d (.int .i64 e), .d (.int .i64 l), .d (.int .i64 c)]
def peekR (rs : List Rn) (k : Nat) : Int := match rs[k]? with
 | some x => x.r
 | none => -1
theorem rmap_at {α β : Type} {f : α → β} {l : List α} {i : Nat} {x : α} (h : l[i]? = some x) : (l.map f)[i]? = some (f x) := by simp [h]
theorem peek_ok {h : List Res} {id : Nat} {rs : List Rn} {k : Nat} {e l c : Int} (hq : h[id]? = some (rd rs k e l c)) (n : Nat) (hk : k + n ≤ 1000000000000) :
  D env 68 [.ptr id 0, .d (.int .i64 n)] h = some (.val (.d (.int .i32 (peekR rs (k + n)))) h) := by
 rw [D_own (F := A68) rfl rfl rfl rfl]
 have w1 : IntKind.i64.wrap ((k : Int) + n) = ((k + n : Nat) : Int) := by rw [wrap_i64 (by omega) (by omega)]; simp
 simp only [rd] at hq
 by_cases hl : k + n < rs.length
 ·obtain ⟨x, hx⟩ : ∃ x, rs[k + n]? = some x := ⟨rs[k + n], by simp [hl]⟩
  have hx' := rmap_at (f := Rn.enc) hx
  have h1 : ¬ (rs.length : Int) ≤ ((k + n : Nat) : Int) := by omega
  have h2 : ((k + n : Nat) : Int) < rs.length := by omega
  have h3 : peekR rs (k + n) = x.r := by simp [peekR, hx]
  rw [h3]
  generalize k + n = m at *
  simp -implicitDefEqProofs only [A68, B68, sS, reduceCtorEq, seval, hq, w1, h1, h2, hx, hx', Rn.enc, List.take_length]
 ·have h1 : (rs.length : Int) ≤ ((k + n : Nat) : Int) := by omega
  have h3 : peekR rs (k + n) = -1 := by
   have : rs[k + n]? = none := by simp; omega
   simp [peekR, this]
  rw [h3]
  generalize k + n = m at *
  simp -implicitDefEqProofs only [A68, B68, sS, reduceCtorEq, seval, hq, w1, h1, List.take_length]
theorem over_ok {h : List Res} {id : Nat} {rs : List Rn} {k : Nat} {e l c : Int} (hq : h[id]? = some (rd rs k e l c)) :
  D env 49 [.ptr id 0] h = some (.val (.d (.bool (decide (rs.length ≤ k)))) h) := by
 rw [D_own (F := A49) rfl rfl rfl rfl]
 simp only [rd] at hq
 have h1 : decide ((rs.length : Int) ≤ (k : Int)) = decide (rs.length ≤ k) := by simp
 simp -implicitDefEqProofs only [A49, B49, sS, reduceCtorEq, seval, hq, h1, List.take_length]
theorem fail_ok {h : List Res} {id : Nat} {rs : List Rn} {k : Nat} {e l c : Int} (hq : h[id]? = some (rd rs k e l c)) (x pl pc : Int) :
  D env 51 [.ptr id 0, .d (.int .i64 x), .d (.agg [.int .i64 pl, .int .i64 pc])] h = some (.val (.d (.tup [])) (if e = 0 then h.set id (rd rs k x pl pc) else h)) := by
 rw [D_own (F := A51) rfl rfl rfl rfl]
 have hl : (h.set id (rd rs k x pl pc)).length = h.length := List.length_set
 have ht : (h.set id (rd rs k x pl pc)).take h.length = h.set id (rd rs k x pl pc) := by rw [← hl, List.take_length]
 simp only [rd] at hq ht ⊢
 by_cases h0 : e = 0
 ·subst h0
  simp -implicitDefEqProofs only [A51, B51, sS, reduceCtorEq, seval, hq, putCells, ht, List.take_length]
 ·have h1 : (e == 0) = false := by simpa using h0
  simp -implicitDefEqProofs only [A51, B51, sS, reduceCtorEq, seval, hq, putCells, h0, h1, List.take_length]
end Go.Proofs.YtpemlmhggiaflaaGreatDoor.Codes
namespace Go.Proofs.YtpemlmhggiaflaaGreatDoor.Codes
open Go.Deepv
def nxtL (l r : Int) : Int := if r = 10 then l + 1 else l
def nxtC (c r : Int) : Int := if r = 10 then 1 else c + 1
def small (n : Int) : Prop := 0 ≤ n ∧ n ≤ 1000000000000
theorem wrap1 {n : Int} (h : small n) : IntKind.i64.wrap (n + 1) = n + 1 := by
 obtain ⟨h1, h2⟩ := h
 exact wrap_i64 (by omega) (by omega)
theorem next_ok (l c r : Int) (hl : small l) (hc : small c) (h : List Res) : D env 113 [.d (.agg [.int .i64 l, .int .i64 c]), .d (.int .i32 r)] h = some (.val (.d (.agg [.int .i64 (nxtL l r), .int .i64 (nxtC c r)])) h) := by
 rw [D_dat (F := A113) rfl rfl rfl rfl]
 have w1 := wrap1 hl
 have w2 := wrap1 hc
 by_cases h0 : r = 10
 ·subst h0
  simp -implicitDefEqProofs only [A113, B113, sS, reduceCtorEq, seval, putCells, nxtL, nxtC, w1, w2]
 ·have h1 : (r == 10) = false := by simpa using h0
  simp -implicitDefEqProofs only [A113, B113, sS, reduceCtorEq, seval, putCells, nxtL, nxtC, w1, w2, h0, h1]
theorem begun_ok (h : List Res) : D env 63 [] h = some (.val (.ptr h.length 0) (h ++ [.box [.d (.int .i64 1), .d (.int .i64 1)]])) := by
 rw [D_own (F := A63) rfl rfl rfl rfl]
 have ht : (h ++ [Res.box [.d (.int .i64 1), .d (.int .i64 1)]]).take (h.length + 1) = h ++ [Res.box [.d (.int .i64 1), .d (.int .i64 1)]] := List.take_of_length_le (by simp)
 simp -implicitDefEqProofs only [A63, B63, sS, reduceCtorEq, seval, ht, Nat.lt_succ_self]
theorem past_ok {h : List Res} {id : Nat} {l c : Int} (hq : h[id]? = some (.box [.d (.int .i64 l), .d (.int .i64 c)])) (hl : small l) (hc : small c) (r : Int) :
  D env 65 [.ptr id 0, .d (.int .i32 r)] h = some (.val (.d (.tup [])) (h.set id (.box [.d (.int .i64 (nxtL l r)), .d (.int .i64 (nxtC c r))]))) := by
 rw [D_own (F := A65) rfl rfl rfl rfl]
 have w1 := wrap1 hl
 have w2 := wrap1 hc
 have hlt : id < h.length := (List.getElem?_eq_some_iff.1 hq).1
 have hs : ∀ x : Res, (h.set id x)[id]? = some x := fun x => List.getElem?_set_self hlt
 have ht : ∀ x : Res, (h.set id x).take h.length = h.set id x := fun x => List.take_of_length_le (by simp)
 by_cases h0 : r = 10
 ·subst h0
  simp -implicitDefEqProofs only [A65, B65, sS, reduceCtorEq, seval, putCells, nxtL, nxtC, w1, w2, hq, hs, ht]
 ·have h1 : (r == 10) = false := by simpa using h0
  simp -implicitDefEqProofs only [A65, B65, sS, reduceCtorEq, seval, putCells, nxtL, nxtC, w1, w2, h0, h1, hq, hs, ht]
def hexOf (r : Int) : Int := if 48 ≤ r ∧ r ≤ 57 then r - 48 else if 97 ≤ r ∧ r ≤ 102 then r - 97 + 10 else -1
end Go.Proofs.YtpemlmhggiaflaaGreatDoor.Codes
namespace Go.Proofs.YtpemlmhggiaflaaGreatDoor.Codes
open Go.Deepv
def hasPre (s p : ByteArray) : Bool := decide (p.size ≤ s.size) && ((s.extract 0 p.size).toList == p.toList)
theorem hasPrefix_ok (s p : ByteArray) (h : List Res) : D env 64 [.d (.str s), .d (.str p)] h = some (.val (.d (.bool (hasPre s p))) h) := by
 have e82 : ∀ h, D env 46 [.d (.str s), .d (.str p)] h = some (.val (.d (.bool (hasPre s p))) h) := fun h => by
  rw [D_dat (F := A46) rfl rfl rfl rfl]
  unfold hasPre
  by_cases h1 : p.size ≤ s.size
  ·have h2 : (p.size : Int) ≤ s.size := by omega
   simp -implicitDefEqProofs only [A46, B46, sS, reduceCtorEq, seval, h1, h2]
  ·have h2 : ¬ (p.size : Int) ≤ s.size := by omega
   simp -implicitDefEqProofs only [A46, B46, sS, reduceCtorEq, seval, h1, h2]
 rw [D_dat (F := A64) rfl rfl rfl rfl]
 simp -implicitDefEqProofs only [A64, B64, sS, reduceCtorEq, seval, e82]
end Go.Proofs.YtpemlmhggiaflaaGreatDoor.Codes
namespace Go.Proofs.YtpemlmhggiaflaaGreatDoor.Codes
open Go.Deepv
def badR (s : ByteArray) (pos : Nat) : Bool := decide ((Utf8.decode s pos).1 = 65533) && !hasPre (s.extract pos s.size) ⟨#[239, 191, 189]⟩
def spl (s : ByteArray) : Nat → Nat → Int → Int → List Rn × Option (Int × Int)
 | 0, _, _, _ => ([], none)
 | f + 1, pos, l, c =>
  if pos < s.size then
   if badR s pos then ([], some (l, c))
   else
    let d := Utf8.decode s pos
    let x := spl s f (pos + d.2) (nxtL l d.1) (nxtC c d.1)
    (⟨d.1, pos, l, c⟩ :: x.1, x.2)
  else ([], none)
theorem dec_pos (s : ByteArray) (pos : Nat) : 1 ≤ (Utf8.decode s pos).2 := by
 unfold Utf8.decode
 simp only
 repeat' split
 all_goals simp
def walkB (l c : Int) : Res := .box [.d (.int .i64 l), .d (.int .i64 c)]
def faultB (e l c : Int) : Res := .box [.d (.int .i64 e), .d (.int .i64 l), .d (.int .i64 c)]
def st31 (s : ByteArray) (acc : List Rn) : List DV := [.d (.str s), .d .undef, .d .undef, .ptr 0 0, .ptr 1 0, .row 4 (acc.map Rn.enc) 2] ++ List.replicate 12 (.d .undef) ++ [.ptr 3 0] ++ List.replicate 33 (.d .undef)
def ex31 (v : FV) (acc : List Rn) : List DV := [.d .undef, .d .undef, .d v, .ptr 0 0, .d .undef, .row 4 (acc.map Rn.enc) 2] ++ List.replicate 46 (.d .undef)
theorem loop31 (s : ByteArray) (hs : s.size ≤ 16384) :
  ∀ (f pos : Nat) (l c : Int) (acc : List Rn), s.size ≤ pos + f → 0 ≤ l → l ≤ pos + 1 → 0 ≤ c → c ≤ pos + 1 → acc.length ≤ pos →
   ∃ W I, L env 4 true H47L6 X47L6 B47L6 (st31 s acc) [faultB 0 0 0, walkB l c, rr 4 acc.length, .iter s pos] =
    match spl s f pos l c with
    | (rs, none) => some (.exit 0, ex31 .undef (acc ++ rs), [faultB 0 0 0, W, rr 4 (acc ++ rs).length, I])
    | (rs, some (fl, fc)) => some (.ret, ex31 (.slice 4 []) (acc ++ rs), [faultB 1 fl fc, W, rr 4 (acc ++ rs).length, I]) := by
 obtain ⟨K, hK⟩ : ∃ K, L env 4 true H47L6 X47L6 B47L6 = K := ⟨_, rfl⟩
 rw [hK]
 intro f
 induction f with
 | zero =>
  intro pos l c acc h1 h2 h3 h4 h5 h6
  refine ⟨walkB l c, .iter s pos, ?_⟩
  have hp : ¬ pos < s.size := by omega
  rw [L_round hK]
  simp -implicitDefEqProofs only [B47L6, st31, ex31, faultB, walkB, spl, sS, reduceCtorEq, seval, hp]
 | succ f ihf =>
  intro pos l c acc h1 h2 h3 h4 h5 h6
  by_cases hp : pos < s.size
  ·cases hb : badR s pos with
   | true =>
    refine ⟨walkB l c, .iter s (pos + (Utf8.decode s pos).2), ?_⟩
    have hb' := hb
    unfold badR at hb
    simp only [Bool.and_eq_true, decide_eq_true_eq, Bool.not_eq_true'] at hb
    have e1 : ((Utf8.decode s pos).1 : Int) = 65533 := by rw [hb.1]; rfl
    have e2 := fun h => hasPrefix_ok (s.extract pos s.size) ⟨#[239, 191, 189]⟩ h
    rw [hb.2] at e2
    have e3 : (pos : Int) ≤ s.size := by omega
    rw [L_round hK]
    simp -implicitDefEqProofs only [B47L6, st31, ex31, faultB, walkB, spl, sS, reduceCtorEq, seval, hp, hb', e1, e2, e3, putCells]
   | false =>
    have hd := dec_pos s pos
    have hb' := hb
    generalize hr : (Utf8.decode s pos).1 = r at *
    generalize hn : (Utf8.decode s pos).2 = n at *
    obtain ⟨W, I, ih⟩ := ihf (pos + n) (nxtL l r) (nxtC c r) (acc ++ [⟨r, pos, l, c⟩]) (by omega) (by unfold nxtL; split <;> omega) (by unfold nxtL; split <;> omega) (by unfold nxtC; split <;> omega) (by unfold nxtC; split <;> omega) (by simp; omega)
    refine ⟨W, I, ?_⟩
    have hsmall : small l ∧ small c := ⟨⟨by omega, by omega⟩, ⟨by omega, by omega⟩⟩
    have e4 := past_ok (h := [faultB 0 0 0, walkB l c, rr 4 (acc.length + 1), .iter s (pos + n)]) (id := 1) (l := l) (c := c) rfl hsmall.1 hsmall.2 (r : Int)
    have e5 : appRow 4 32 (.row 4 (acc.map Rn.enc) 2) (some (4, [Rn.enc ⟨r, pos, l, c⟩])) [faultB 0 0 0, walkB l c, rr 4 acc.length, .iter s (pos + n)] = some (.val (.row 4 (acc.map Rn.enc ++ [Rn.enc ⟨r, pos, l, c⟩]) 2) ([faultB 0 0 0, walkB l c, rr 4 acc.length, .iter s (pos + n)].set 2 (rr 4 ((acc.map Rn.enc).length + 1)))) :=
     appRow_one (by simp) (by simp; omega) (by decide) (by decide) 4 rfl
    simp only [List.length_map, List.set_cons_succ, List.set_cons_zero] at e5
    have e3 : (pos : Int) ≤ s.size := by omega
    have e2 := fun h => hasPrefix_ok (s.extract pos s.size) ⟨#[239, 191, 189]⟩ h
    have len1 : (acc ++ [(⟨r, pos, l, c⟩ : Rn)]).length = acc.length + 1 := by simp
    have map1 : (acc ++ [(⟨r, pos, l, c⟩ : Rn)]).map Rn.enc = acc.map Rn.enc ++ [Rn.enc ⟨r, pos, l, c⟩] := by simp
    have hspl : spl s (f + 1) pos l c = (⟨r, pos, l, c⟩ :: (spl s f (pos + n) (nxtL l r) (nxtC c r)).1, (spl s f (pos + n) (nxtL l r) (nxtC c r)).2) := by
     simp only [spl, hp, hb', hr, hn, if_true, Bool.false_eq_true, if_false]
    rw [hspl]
    have fin : ∀ a h, K a h = (match spl s f (pos + n) (nxtL l r) (nxtC c r) with
      | (rs, none) => some (.exit 0, ex31 .undef (acc ++ [(⟨r, pos, l, c⟩ : Rn)] ++ rs), [faultB 0 0 0, W, rr 4 (acc ++ [(⟨r, pos, l, c⟩ : Rn)] ++ rs).length, I])
      | (rs, some (fl, fc)) => some (.ret, ex31 (.slice 4 []) (acc ++ [(⟨r, pos, l, c⟩ : Rn)] ++ rs), [faultB 1 fl fc, W, rr 4 (acc ++ [(⟨r, pos, l, c⟩ : Rn)] ++ rs).length, I])) →
      K a h = (match (((⟨r, pos, l, c⟩ : Rn) :: (spl s f (pos + n) (nxtL l r) (nxtC c r)).1, (spl s f (pos + n) (nxtL l r) (nxtC c r)).2) : List Rn × Option (Int × Int)) with
      | (rs, none) => some (.exit 0, ex31 .undef (acc ++ rs), [faultB 0 0 0, W, rr 4 (acc ++ rs).length, I])
      | (rs, some (fl, fc)) => some (.ret, ex31 (.slice 4 []) (acc ++ rs), [faultB 1 fl fc, W, rr 4 (acc ++ rs).length, I])) := fun a h hk => by
     rw [hk]
     generalize spl s f (pos + n) (nxtL l r) (nxtC c r) = x
     rcases x with ⟨rs, _ | ⟨fl, fc⟩⟩ <;> simp only [List.append_assoc, List.cons_append, List.nil_append]
    have ih2 := fin _ _ ih
    generalize (match (((⟨r, pos, l, c⟩ : Rn) :: (spl s f (pos + n) (nxtL l r) (nxtC c r)).1, (spl s f (pos + n) (nxtL l r) (nxtC c r)).2) : List Rn × Option (Int × Int)) with
      | (rs, none) => some (DExit.exit 0, ex31 .undef (acc ++ rs), [faultB 0 0 0, W, rr 4 (acc ++ rs).length, I])
      | (rs, some (fl, fc)) => some (DExit.ret, ex31 (.slice 4 []) (acc ++ rs), [faultB 1 fl fc, W, rr 4 (acc ++ rs).length, I])) = RHS at *
    simp only [st31, len1, map1, Rn.enc, List.replicate, List.cons_append, List.nil_append, walkB, faultB] at ih2
    simp only [Rn.enc, walkB, faultB] at e5
    simp only [walkB, faultB, List.set_cons_succ, List.set_cons_zero] at e4
    rw [L_round hK]
    by_cases h0 : r = 65533
    ·subst h0
     have hpre : hasPre (s.extract pos s.size) ⟨#[239, 191, 189]⟩ = true := by
      unfold badR at hb
      rw [hr] at hb
      simpa using hb
     rw [hpre] at e2
     have e1 : ((65533 : Nat) : Int) = 65533 := rfl
     rw [e1] at e5
     try rw [e1] at e4
     simp only [e1] at ih2
     simp -implicitDefEqProofs only [B47L6, st31, faultB, walkB, sS, reduceCtorEq, seval, hp, hr, hn, e1, e2, e3, e4, e5, ih2]
    ·have e1 : ((r : Int) == 65533) = false := by simp; omega
     simp -implicitDefEqProofs only [B47L6, st31, faultB, walkB, sS, reduceCtorEq, seval, hp, hr, hn, e1, e2, e3, e4, e5, ih2]
  ·refine ⟨walkB l c, .iter s pos, ?_⟩
   rw [L_round hK]
   simp -implicitDefEqProofs only [B47L6, st31, ex31, faultB, walkB, spl, sS, reduceCtorEq, seval, hp]
end Go.Proofs.YtpemlmhggiaflaaGreatDoor.Codes
namespace Go.Proofs.YtpemlmhggiaflaaGreatDoor.Codes
open Go.Deepv
def splitV (s : ByteArray) : FV :=
 if s.size ≤ 16384 then match spl s s.size 0 1 1 with
  | (rs, none) => .tup [.slice 4 (rs.map Rn.enc), .agg [.int .i64 0, .int .i64 0, .int .i64 0]]
  | (_, some (l, c)) => .tup [.slice 4 [], .agg [.int .i64 1, .int .i64 l, .int .i64 c]]
 else .tup [.slice 4 [], .agg [.int .i64 5, .int .i64 1, .int .i64 1]]
theorem split_ok (s : ByteArray) (h : List Res) : D env 47 [.d (.str s)] h = some (.val (.d (splitV s)) h) := by
 rw [D_dat (F := A47) rfl rfl rfl rfl]
 unfold splitV
 have eb := fun h => begun_ok h
 by_cases hs : s.size ≤ 16384
 ·have h1 : ¬ (16384 : Int) < s.size := by omega
  obtain ⟨W, I, hl⟩ := loop31 s hs s.size 0 1 1 [] (by omega) (by omega) (by omega) (by omega) (by omega) (by simp)
  have r0 : rr 4 ([] : List Rn).length = .nilrow := rfl
  rw [r0] at hl
  rw [if_pos hs]
  generalize spl s s.size 0 1 1 = x at *
  rcases x with ⟨rs, _ | ⟨fl, fc⟩⟩
  ·simp only [st31, ex31, walkB, faultB, List.map_nil, List.replicate, List.cons_append, List.nil_append] at hl
   simp -implicitDefEqProofs only [A47, B47, sS, reduceCtorEq, seval, eb, h1, hl, putCells]
  ·simp only [st31, ex31, walkB, faultB, List.map_nil, List.replicate, List.cons_append, List.nil_append] at hl
   simp -implicitDefEqProofs only [A47, B47, sS, reduceCtorEq, seval, eb, h1, hl, putCells]
 ·have h1 : (16384 : Int) < s.size := by omega
  rw [if_neg hs]
  simp -implicitDefEqProofs only [A47, B47, sS, reduceCtorEq, seval, eb, h1, putCells]
end Go.Proofs.YtpemlmhggiaflaaGreatDoor.Codes
namespace Go.Proofs.YtpemlmhggiaflaaGreatDoor.Codes
open Go.Deepv
theorem wrap_i32 {n : Int} (h0 : -2147483648 ≤ n) (h1 : n ≤ 2147483647) : IntKind.i32.wrap n = n := by
 simp only [IntKind.wrap, IntKind.signed, IntKind.bits]
 simp [Int.bmod]
 split <;> omega
theorem hex_ok (r : Int) (h : List Res) : D env 134 [.d (.int .i32 r)] h = some (.val (.d (.int .i64 (hexOf r))) h) := by
 rw [D_dat (F := A134) rfl rfl rfl rfl]
 unfold hexOf
 by_cases h1 : 48 ≤ r
 ·by_cases h2 : r ≤ 57
  ·have w1 : IntKind.i32.wrap (r - 48) = r - 48 := wrap_i32 (by omega) (by omega)
   have w2 : IntKind.i64.wrap (r - 48) = r - 48 := wrap_i64 (by omega) (by omega)
   simp -implicitDefEqProofs only [A134, B134, sS, reduceCtorEq, seval, h1, h2, w1, w2]
  ·by_cases h3 : 97 ≤ r
   ·by_cases h4 : r ≤ 102
    ·have w1 : IntKind.i32.wrap (r - 97) = r - 97 := wrap_i32 (by omega) (by omega)
     have w2 : IntKind.i64.wrap (r - 97) = r - 97 := wrap_i64 (by omega) (by omega)
     have w3 : IntKind.i64.wrap (r - 97 + 10) = r - 97 + 10 := wrap_i64 (by omega) (by omega)
     simp -implicitDefEqProofs only [A134, B134, sS, reduceCtorEq, seval, h1, h2, h3, h4, w1, w2, w3]
    ·simp -implicitDefEqProofs only [A134, B134, sS, reduceCtorEq, seval, h1, h2, h3, h4]
   ·simp -implicitDefEqProofs only [A134, B134, sS, reduceCtorEq, seval, h1, h2, h3]
 ·have h3 : ¬ 97 ≤ r := by omega
  simp -implicitDefEqProofs only [A134, B134, sS, reduceCtorEq, seval, h1, h3]
end Go.Proofs.YtpemlmhggiaflaaGreatDoor.Codes
namespace Go.Proofs.YtpemlmhggiaflaaGreatDoor.Codes
open Go.Deepv
def tailV (s : ByteArray) : Nat → Nat → Int → Int × Bool
 | 0, _, r => (r, true)
 | n + 1, i, r => match s[i]? with
  | none => (0, false)
  | some b => if (b.toNat : Int) < 128 then (0, false) else if (191 : Int) < b.toNat then (0, false) else tailV s n (i + 1) (r * 64 + (b.toNat - 128))
def st76 (s : ByteArray) (i n r k : Int) : List DV := [.d (.str s), .d (.int .i64 i), .d (.int .i64 n), .d .undef, .d .undef, .d .undef, .d .undef, .d .undef, .d (.int .i32 r), .d (.int .i64 k)] ++ List.replicate 33 (.d .undef)
theorem wrap_u8 {n : Int} (h0 : 0 ≤ n) (h1 : n < 256) : IntKind.u8.wrap n = n := by
 simp only [IntKind.wrap, IntKind.signed, IntKind.bits, Bool.false_and, Bool.false_eq_true, if_false]
 omega
theorem ba_none {s : ByteArray} {i : Nat} (h : s.size ≤ i) : s[i]? = none := by simp [h]
theorem ba_some {s : ByteArray} {i : Nat} (h : i < s.size) : s[i]? = some s[i] := by simp [h]
def ex76 (b : FV) (v : Bool) (r : Int) : List DV := List.replicate 6 (.d .undef) ++ [.d b, .d (if v then .undef else .bool false), .d (.int .i32 r)] ++ List.replicate 34 (.d .undef)
theorem tail_loop (s : ByteArray) (i0 N : Int) (h0 : 0 ≤ i0) (h2 : 0 ≤ N) (h1 : i0 + N ≤ 1000000) :
  ∀ (n k : Nat) (r : Int), (k : Int) + n = i0 + N → 0 ≤ r → (r + 1) * 64 ^ n ≤ 262144 →
   ∃ q, L env 0 true H130L3 X130L3 B130L3 (st76 s i0 N r k) [] = match tailV s n k r with
    | (v, true) => some (.exit 0, ex76 .undef true v, [])
    | (_, false) => some (.ret, ex76 (.int .i32 0) false q, []) := by
 obtain ⟨K, hK⟩ : ∃ K, L env 0 true H130L3 X130L3 B130L3 = K := ⟨_, rfl⟩
 rw [hK]
 have w0 : IntKind.i64.wrap (i0 + N) = i0 + N := wrap_i64 (by omega) (by omega)
 intro n
 induction n with
 | zero =>
  intro k r hk hr hb
  refine ⟨0, ?_⟩
  have hp : ¬ (k : Int) < i0 + N := by omega
  rw [L_round hK]
  simp -implicitDefEqProofs only [B130L3, st76, ex76, tailV, sS, reduceCtorEq, seval, hp, w0]
 | succ n ih =>
  intro k r hk hr hb
  have hp : (k : Int) < i0 + N := by omega
  by_cases hs : k < s.size
  ·have hs1 : ¬ (s.size : Int) ≤ (k : Int) := by omega
   have hx := ba_some hs
   generalize s[k] = x at *
   have hx2 := x.toNat_lt
   by_cases ha : (x.toNat : Int) < 128
   ·refine ⟨r, ?_⟩
    rw [L_round hK]
    simp -implicitDefEqProofs only [B130L3, st76, ex76, tailV, sS, reduceCtorEq, seval, hp, w0, hs1, hx, ha]
   ·by_cases hc : (191 : Int) < x.toNat
    ·refine ⟨r, ?_⟩
     rw [L_round hK]
     simp -implicitDefEqProofs only [B130L3, st76, ex76, tailV, sS, reduceCtorEq, seval, hp, w0, hs1, hx, ha, hc]
    ·have hpow : 1 ≤ (64 : Int) ^ n := by
      have := Int.pow_pos (n := 64) (m := n) (by decide)
      omega
     have hb2 : (r + 1) * 64 * 64 ^ n ≤ 262144 := by
      have : (64 : Int) ^ (n + 1) = 64 ^ n * 64 := Int.pow_succ ..
      rw [this] at hb
      rw [Int.mul_assoc, Int.mul_comm 64]
      exact hb
     have hb3 : (r + 1) * 64 ≤ 262144 := by
      have : (r + 1) * 64 * 1 ≤ (r + 1) * 64 * 64 ^ n := Int.mul_le_mul_of_nonneg_left hpow (by omega)
      omega
     have hb4 : (r * 64 + (x.toNat - 128) + 1) * 64 ^ n ≤ 262144 := by
      have : (r * 64 + (x.toNat - 128) + 1) * 64 ^ n ≤ (r + 1) * 64 * 64 ^ n := Int.mul_le_mul_of_nonneg_right (by omega) (by omega)
      omega
     obtain ⟨q, ih⟩ := ih (k + 1) (r * 64 + (x.toNat - 128)) (by omega) (by omega) hb4
     refine ⟨q, ?_⟩
     have w1 : IntKind.i32.wrap (r * 64) = r * 64 := wrap_i32 (by omega) (by omega)
     have w2 : IntKind.u8.wrap ((x.toNat : Int) - 128) = x.toNat - 128 := wrap_u8 (by omega) (by omega)
     have w3 : IntKind.i32.wrap ((x.toNat : Int) - 128) = x.toNat - 128 := wrap_i32 (by omega) (by omega)
     have w4 : IntKind.i32.wrap (r * 64 + ((x.toNat : Int) - 128)) = r * 64 + (x.toNat - 128) := wrap_i32 (by omega) (by omega)
     have w5 : IntKind.i64.wrap ((k : Int) + 1) = ((k + 1 : Nat) : Int) := by rw [wrap_i64 (by omega) (by omega)]; simp
     have ht : tailV s (n + 1) k r = tailV s n (k + 1) (r * 64 + (x.toNat - 128)) := by simp only [tailV, hx, ha, hc, if_false]
     rw [ht]
     simp only [st76, List.replicate, List.cons_append, List.nil_append] at ih
     rw [L_round hK]
     simp -implicitDefEqProofs only [B130L3, st76, sS, reduceCtorEq, seval, hp, w0, hs1, hx, ha, hc, w1, w2, w3, w4, w5, ih]
  ·refine ⟨r, ?_⟩
   have hs1 : (s.size : Int) ≤ (k : Int) := by omega
   have hx := ba_none (s := s) (i := k) (by omega)
   rw [L_round hK]
   simp -implicitDefEqProofs only [B130L3, st76, ex76, tailV, sS, reduceCtorEq, seval, hp, w0, hs1, hx]
theorem tail_ok (s : ByteArray) (i n : Nat) (h0 : i + n ≤ 1000000) (h1 : n ≤ 3) (h : List Res) :
  D env 130 [.d (.str s), .d (.int .i64 i), .d (.int .i64 n)] h = some (.val (.d (.tup [.int .i32 (if (tailV s n i 0).2 then (tailV s n i 0).1 else 0), .bool (tailV s n i 0).2])) h) := by
 rw [D_dat (F := A130) rfl rfl rfl rfl]
 have hp : ((0 : Int) + 1) * 64 ^ n ≤ 262144 := by
  have : n = 0 ∨ n = 1 ∨ n = 2 ∨ n = 3 := by omega
  rcases this with h | h | h | h <;> subst h <;> decide
 obtain ⟨q, hl⟩ := tail_loop s i n (by omega) (by omega) (by omega) n i 0 rfl (by omega) hp
 generalize tailV s n i 0 = x at *
 rcases x with ⟨v, _ | _⟩ <;> simp only [st76, ex76, List.replicate, List.cons_append, List.nil_append, Bool.false_eq_true, if_false, if_true] at hl <;>
  simp -implicitDefEqProofs only [A130, B130, sS, reduceCtorEq, seval, hl]
end Go.Proofs.YtpemlmhggiaflaaGreatDoor.Codes
namespace Go.Proofs.YtpemlmhggiaflaaGreatDoor.Codes
open Go.Deepv
def oneN (s : ByteArray) (i n : Nat) (r least : Int) : Int × Nat :=
 if (tailV s n (i + 1) 0).2 = true then
  if r * 64 ^ n + (tailV s n (i + 1) 0).1 < least then (0, 0)
  else if rScal (r * 64 ^ n + (tailV s n (i + 1) 0).1) = true then (r * 64 ^ n + (tailV s n (i + 1) 0).1, n + 1) else (0, 0)
 else (0, 0)
def oneV (s : ByteArray) (i : Nat) : Int × Nat := match s[i]? with
 | none => (0, 0)
 | some b => if (b.toNat : Int) < 128 then (b.toNat, 1)
  else if (192 : Int) ≤ b.toNat ∧ (b.toNat : Int) < 224 then oneN s i 1 (b.toNat - 192) 128
  else if (224 : Int) ≤ b.toNat ∧ (b.toNat : Int) < 240 then oneN s i 2 (b.toNat - 224) 2048
  else if (240 : Int) ≤ b.toNat ∧ (b.toNat : Int) < 248 then oneN s i 3 (b.toNat - 240) 65536
  else (0, 0)
theorem tailV_low (s : ByteArray) : ∀ (n k : Nat) (r : Int), 0 ≤ r → 0 ≤ (tailV s n k r).1 ∧ (tailV s n k r).1 + 1 ≤ (r + 1) * 64 ^ n := by
 intro n
 induction n with
 | zero => intro k r h; simp only [tailV]; omega
 | succ n ih =>
  intro k r h
  have hp : 1 ≤ (64 : Int) ^ (n + 1) := by
   have := Int.pow_pos (n := 64) (m := n + 1) (by decide)
   omega
  have hp2 : 0 ≤ (r + 1) * 64 ^ (n + 1) - 1 := by
   have : 1 * 1 ≤ (r + 1) * 64 ^ (n + 1) := Int.mul_le_mul (by omega) hp (by omega) (by omega)
   omega
  simp only [tailV]
  split
  ·simp only; omega
  ·rename_i b hb
   have hx := b.toNat_lt
   split
   ·simp only; omega
   ·split
    ·simp only; omega
    ·have := ih (k + 1) (r * 64 + (b.toNat - 128)) (by omega)
     refine ⟨this.1, Int.le_trans this.2 ?_⟩
     have e : (64 : Int) ^ (n + 1) = 64 ^ n * 64 := Int.pow_succ ..
     rw [e, Int.mul_comm (64 ^ n) 64, ← Int.mul_assoc]
     have hp : 1 ≤ (64 : Int) ^ n := by
      have := Int.pow_pos (n := 64) (m := n) (by decide)
      omega
     exact Int.mul_le_mul_of_nonneg_right (by omega) (by omega)
set_option maxHeartbeats 2000000 in
theorem one2_ok (s : ByteArray) (i : Nat) (h0 : i < s.size) (h1 : s.size ≤ 900000) (h : List Res) :
  D env 112 [.d (.str s), .d (.int .i64 i)] h = some (.val (.d (.tup [.int .i32 (oneV s i).1, .int .i64 (oneV s i).2])) h) := by
 rw [D_dat (F := A112) rfl rfl rfl rfl]
 have hx := ba_some h0
 unfold oneV
 rw [hx]
 generalize s[i] = b at *
 have hb := b.toNat_lt
 have w0 : IntKind.i64.wrap ((i : Int) + 1) = ((i + 1 : Nat) : Int) := by rw [wrap_i64 (by omega) (by omega)]; simp
 have wb : IntKind.i32.wrap (b.toNat : Int) = b.toNat := wrap_i32 (by omega) (by omega)
 simp only
 by_cases a1 : (b.toNat : Int) < 128
 ·rw [if_pos a1]
  simp -implicitDefEqProofs only [A112, B112, sS, reduceCtorEq, seval, hx, wb, a1]
 rw [if_neg a1]
 by_cases a2 : (b.toNat : Int) < 192
 ·rw [if_neg (by omega), if_neg (by omega), if_neg (by omega)]
  have n1 : ¬ (192 : Int) ≤ b.toNat := by omega
  have n2 : ¬ (224 : Int) ≤ b.toNat := by omega
  have n3 : ¬ (240 : Int) ≤ b.toNat := by omega
  simp -implicitDefEqProofs only [A112, B112, sS, reduceCtorEq, seval, hx, wb, a1, n1, n2, n3]
 by_cases c1 : (b.toNat : Int) < 224
 ·rw [if_pos (by omega)]
  have l1 : (192 : Int) ≤ b.toNat := by omega
  have m1 : (b.toNat : Int) < 224 := by omega
  have ht := fun h => tail_ok s (i + 1) 1 (by omega) (by omega) h
  have tl := tailV_low s 1 (i + 1) 0 (by omega)
  unfold oneN
  generalize tailV s 1 (i + 1) 0 = x at *
  have wc : IntKind.i32.wrap ((b.toNat : Int) - 192) = b.toNat - 192 := wrap_i32 (by omega) (by omega)
  have w2 : IntKind.i64.wrap 6 = 6 := rfl
  have w3 : IntKind.u64.wrap 6 = 6 := rfl
  have w4 : (min 6 IntKind.i32.bits) = 6 := rfl
  have q1 : (2 : Int) ^ 6 = 64 := rfl
  have q2 : (64 : Int) ^ 1 = 64 := rfl
  have e0 : ((1 : Nat) : Int) = 1 := rfl
  have e1 : ((1 + 1 : Nat) : Int) = 2 := rfl
  have z0 : ((0 : Nat) : Int) = 0 := rfl
  have w5 : IntKind.i32.wrap (((b.toNat : Int) - 192) * 64) = (b.toNat - 192) * 64 := wrap_i32 (by omega) (by omega)
  rw [q2] at tl
  simp only [e0] at ht
  rw [q2]
  rcases x with ⟨v, _ | _⟩
  ·simp only [Bool.false_eq_true, if_false] at ht ⊢
   have w6 : IntKind.i32.wrap (((b.toNat : Int) - 192) * 64 + 0) = (b.toNat - 192) * 64 + 0 := wrap_i32 (by omega) (by omega)
   simp -implicitDefEqProofs only [A112, B112, sS, reduceCtorEq, seval, hx, wb, w0, wc, w2, w3, w4, w5, w6, q1, z0, a1, l1, m1, ht]
  ·simp only [if_true] at ht tl ⊢
   obtain ⟨r, hr⟩ : ∃ r, ((b.toNat : Int) - 192) * 64 + v = r := ⟨_, rfl⟩
   have w6 : IntKind.i32.wrap (((b.toNat : Int) - 192) * 64 + v) = r := by rw [wrap_i32 (by omega) (by omega), hr]
   rw [hr]
   have w7 : IntKind.i64.wrap 2 = 2 := rfl
   have es := fun h => scalar_ok r h
   by_cases g1 : r < 128
   ·simp -implicitDefEqProofs only [A112, B112, sS, reduceCtorEq, seval, hx, wb, w0, wc, w2, w3, w4, w5, w6, w7, q1, e1, z0, a1, l1, m1, ht, g1]
   ·cases g2 : rScal r <;> rw [g2] at es <;>
     simp -implicitDefEqProofs only [A112, B112, sS, reduceCtorEq, seval, hx, wb, w0, wc, w2, w3, w4, w5, w6, w7, q1, e1, z0, a1, l1, m1, ht, g1, es]
 by_cases c2 : (b.toNat : Int) < 240
 ·rw [if_neg (by omega), if_pos (by omega)]
  have l1 : (192 : Int) ≤ b.toNat := by omega
  have m1 : ¬ (b.toNat : Int) < 224 := by omega
  have l2 : (224 : Int) ≤ b.toNat := by omega
  have m2 : (b.toNat : Int) < 240 := by omega
  have ht := fun h => tail_ok s (i + 1) 2 (by omega) (by omega) h
  have tl := tailV_low s 2 (i + 1) 0 (by omega)
  unfold oneN
  generalize tailV s 2 (i + 1) 0 = x at *
  have wc : IntKind.i32.wrap ((b.toNat : Int) - 224) = b.toNat - 224 := wrap_i32 (by omega) (by omega)
  have w2 : IntKind.i64.wrap 12 = 12 := rfl
  have w3 : IntKind.u64.wrap 12 = 12 := rfl
  have w4 : (min 12 IntKind.i32.bits) = 12 := rfl
  have q1 : (2 : Int) ^ 12 = 4096 := rfl
  have q2 : (64 : Int) ^ 2 = 4096 := rfl
  have e0 : ((2 : Nat) : Int) = 2 := rfl
  have e1 : ((2 + 1 : Nat) : Int) = 3 := rfl
  have z0 : ((0 : Nat) : Int) = 0 := rfl
  have w5 : IntKind.i32.wrap (((b.toNat : Int) - 224) * 4096) = (b.toNat - 224) * 4096 := wrap_i32 (by omega) (by omega)
  rw [q2] at tl
  simp only [e0] at ht
  rw [q2]
  rcases x with ⟨v, _ | _⟩
  ·simp only [Bool.false_eq_true, if_false] at ht ⊢
   have w6 : IntKind.i32.wrap (((b.toNat : Int) - 224) * 4096 + 0) = (b.toNat - 224) * 4096 + 0 := wrap_i32 (by omega) (by omega)
   simp -implicitDefEqProofs only [A112, B112, sS, reduceCtorEq, seval, hx, wb, w0, wc, w2, w3, w4, w5, w6, q1, z0, a1, l1, m1, l2, m2, ht]
  ·simp only [if_true] at ht tl ⊢
   obtain ⟨r, hr⟩ : ∃ r, ((b.toNat : Int) - 224) * 4096 + v = r := ⟨_, rfl⟩
   have w6 : IntKind.i32.wrap (((b.toNat : Int) - 224) * 4096 + v) = r := by rw [wrap_i32 (by omega) (by omega), hr]
   rw [hr]
   have w7 : IntKind.i64.wrap 3 = 3 := rfl
   have es := fun h => scalar_ok r h
   by_cases g1 : r < 2048
   ·simp -implicitDefEqProofs only [A112, B112, sS, reduceCtorEq, seval, hx, wb, w0, wc, w2, w3, w4, w5, w6, w7, q1, e1, z0, a1, l1, m1, l2, m2, ht, g1]
   ·cases g2 : rScal r <;> rw [g2] at es <;>
     simp -implicitDefEqProofs only [A112, B112, sS, reduceCtorEq, seval, hx, wb, w0, wc, w2, w3, w4, w5, w6, w7, q1, e1, z0, a1, l1, m1, l2, m2, ht, g1, es]
 by_cases c3 : (b.toNat : Int) < 248
 ·rw [if_neg (by omega), if_neg (by omega), if_pos (by omega)]
  have l1 : (192 : Int) ≤ b.toNat := by omega
  have m1 : ¬ (b.toNat : Int) < 224 := by omega
  have l2 : (224 : Int) ≤ b.toNat := by omega
  have m2 : ¬ (b.toNat : Int) < 240 := by omega
  have l3 : (240 : Int) ≤ b.toNat := by omega
  have m3 : (b.toNat : Int) < 248 := by omega
  have ht := fun h => tail_ok s (i + 1) 3 (by omega) (by omega) h
  have tl := tailV_low s 3 (i + 1) 0 (by omega)
  unfold oneN
  generalize tailV s 3 (i + 1) 0 = x at *
  have wc : IntKind.i32.wrap ((b.toNat : Int) - 240) = b.toNat - 240 := wrap_i32 (by omega) (by omega)
  have w2 : IntKind.i64.wrap 18 = 18 := rfl
  have w3 : IntKind.u64.wrap 18 = 18 := rfl
  have w4 : (min 18 IntKind.i32.bits) = 18 := rfl
  have q1 : (2 : Int) ^ 18 = 262144 := rfl
  have q2 : (64 : Int) ^ 3 = 262144 := rfl
  have e0 : ((3 : Nat) : Int) = 3 := rfl
  have e1 : ((3 + 1 : Nat) : Int) = 4 := rfl
  have z0 : ((0 : Nat) : Int) = 0 := rfl
  have w5 : IntKind.i32.wrap (((b.toNat : Int) - 240) * 262144) = (b.toNat - 240) * 262144 := wrap_i32 (by omega) (by omega)
  rw [q2] at tl
  simp only [e0] at ht
  rw [q2]
  rcases x with ⟨v, _ | _⟩
  ·simp only [Bool.false_eq_true, if_false] at ht ⊢
   have w6 : IntKind.i32.wrap (((b.toNat : Int) - 240) * 262144 + 0) = (b.toNat - 240) * 262144 + 0 := wrap_i32 (by omega) (by omega)
   simp -implicitDefEqProofs only [A112, B112, sS, reduceCtorEq, seval, hx, wb, w0, wc, w2, w3, w4, w5, w6, q1, z0, a1, l1, m1, l2, m2, l3, m3, ht]
  ·simp only [if_true] at ht tl ⊢
   obtain ⟨r, hr⟩ : ∃ r, ((b.toNat : Int) - 240) * 262144 + v = r := ⟨_, rfl⟩
   have w6 : IntKind.i32.wrap (((b.toNat : Int) - 240) * 262144 + v) = r := by rw [wrap_i32 (by omega) (by omega), hr]
   rw [hr]
   have w7 : IntKind.i64.wrap 4 = 4 := rfl
   have es := fun h => scalar_ok r h
   by_cases g1 : r < 65536
   ·simp -implicitDefEqProofs only [A112, B112, sS, reduceCtorEq, seval, hx, wb, w0, wc, w2, w3, w4, w5, w6, w7, q1, e1, z0, a1, l1, m1, l2, m2, l3, m3, ht, g1]
   ·cases g2 : rScal r <;> rw [g2] at es <;>
     simp -implicitDefEqProofs only [A112, B112, sS, reduceCtorEq, seval, hx, wb, w0, wc, w2, w3, w4, w5, w6, w7, q1, e1, z0, a1, l1, m1, l2, m2, l3, m3, ht, g1, es]
 rw [if_neg (by omega), if_neg (by omega), if_neg (by omega)]
 have l1 : (192 : Int) ≤ b.toNat := by omega
 have l2 : (224 : Int) ≤ b.toNat := by omega
 have l3 : (240 : Int) ≤ b.toNat := by omega
 have z0 : ((0 : Nat) : Int) = 0 := rfl
 simp -implicitDefEqProofs only [A112, B112, sS, reduceCtorEq, seval, hx, wb, a1, l1, l2, l3, c1, c2, c3, z0]
end Go.Proofs.YtpemlmhggiaflaaGreatDoor.Codes
