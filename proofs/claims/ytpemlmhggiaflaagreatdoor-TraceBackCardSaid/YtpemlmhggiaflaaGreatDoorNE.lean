/-
  A quoted text is read, whole; a sign is read; A sign is read, whole; A token is read; The tokens of runes: the program's loop; The program's Lex; The document's Put, and its names
  Conditions: none.
-/
import Derived.Test.YtpemlmhggiaflaaGreatDoorND
set_option linter.unusedVariables false
set_option linter.unusedSimpArgs false
set_option maxRecDepth 100000
namespace Go.Proofs.YtpemlmhggiaflaaGreatDoor.Codes
open Go Go.Deepv
theorem text_ok {H : List Res} {id : Nat} {rs : List Rn} {k : Nat} {l c kind num tl tc : Int} {text : ByteArray} {q0 b0 : Res} (hid : id < H.length) (hsc : ∀ x ∈ rs, rScal x.r = true) (hsz : rs.length ≤ 100000) (hk : k ≤ rs.length) :
  ∃ fin, D env 75 [.ptr id 0, .ptr (H.length + 3) 0] (th H id (rd rs k 0 l c) q0 b0 ⟨#[]⟩ kind text num tl tc) = some (.val (.d (.tup [])) fin) ∧
   match qtK rs (rs.length + 1) (k + 1) ⟨#[]⟩ with
   | some (b, k') => fin = th H id (if 64 < b.size then rd rs k' 5 tl tc else rd rs k' 0 l c) q0 b0 b 4 text num tl tc
   | none => ∃ k' b, fin = th H id (rd rs k' 4 tl tc) q0 b0 b 4 text num tl tc := by
 obtain ⟨fin, g1, g2⟩ := loop66 (l := l) (c := c) (num := num) (tl := tl) (tc := tc) (text := text) (q0 := q0) (b0 := b0) hid hsc (rs.length + 1) (k + 1) ⟨#[]⟩ (by omega) (by omega) (by have : (⟨#[]⟩ : ByteArray).size = 0 := rfl; omega)
 refine ⟨fin, ?_, g2⟩
 have w1 : IntKind.i64.wrap ((k : Int) + 1) = ((k + 1 : Nat) : Int) := by rw [wrap_i64 (by omega) (by omega)]; simp
 have tk4 : fin.take (H.length + 4) = fin := by
  have : fin.length = H.length + 4 := by
   cases hq : qtK rs (rs.length + 1) (k + 1) ⟨#[]⟩ with
   | none =>
    rw [hq] at g2
    obtain ⟨k', b, rfl⟩ := g2
    simp [th]
   | some v =>
    rw [hq] at g2
    simp only at g2
    rw [g2]
    simp [th]
  exact List.take_of_length_le (by omega)
 rw [D_own (F := A75) rfl rfl rfl rfl]
 simp only [th, tk, rd, st66, List.replicate, List.cons_append, List.nil_append] at *
 simp -implicitDefEqProofs only [A75, B75, sS, reduceCtorEq, seval, s_id hid, s_set hid, s_at, s_at0, s_upd, s_take, s_len, g1, w1, putCells, tk4]
def signsB : ByteArray := ⟨#[40, 41, 44, 124, 61, 58, 43, 45, 42, 47, 37, 60, 95, 126]⟩
def isSign (c : Int) : Bool := signsB.data.toList.any fun b => ((b.toNat : Nat) : Int) == c
theorem signs_at : ∀ x : Fin 127, decide (Lib.indexByte signsB.data.toList ((x.val : Nat) : Int).toNat.toUInt8 < 0) = !isSign ((x.val : Nat) : Int) := by decide
theorem isSign_lt {c : Int} (h : isSign c = true) : 0 ≤ c ∧ c < 127 := by
 unfold isSign signsB at h
 simp at h
 omega
def signN (c d : Int) : Nat := if c = 45 ∧ d = 62 ∨ c = 60 ∧ d = 61 ∨ c = 61 ∧ d = 61 then 2 else if isSign c then 1 else 0
theorem encode_encB {w : Int} (hw : rScal w = true) : Utf8.encode w = encB w := by
 obtain ⟨h0, hv⟩ := (rScal_iff w).1 hw
 obtain ⟨c, rfl⟩ : ∃ c : Nat, w = c := ⟨w.toNat, (Int.toNat_of_nonneg h0).symm⟩
 have := encode_encL hv
 rw [Int.toNat_natCast] at this
 unfold encB encI
 rw [Int.toNat_natCast, ← this]
def st67 (id tid n i : Nat) : List DV := [.ptr id 0, .ptr tid 0] ++ List.replicate 46 (.d .undef) ++ [.d (.int .i64 n), .d (.int .i64 i)] ++ List.replicate 19 (.d .undef)
theorem loop67 {h : List Res} {id tid : Nat} {rs : List Rn} {k n : Nat} {l c num tl tc : Int} {b : DV} (W : Two h id tid) (hsz : rs.length ≤ 100000) (hn : k + n ≤ rs.length) (hsc : ∀ x ∈ rs, rScal x.r = true) :
  ∀ (j i : Nat), i + j = n → L env h.length true H76L10 X76L10 B76L10 (st67 id tid n i) (two h id tid (rd rs (k + i) 0 l c) (tk 6 (textR ((rs.drop k).take i)) num b tl tc)) =
   some (.exit 1, List.replicate 69 (.d .undef), two h id tid (rd rs (k + n) 0 l c) (tk 6 (textR ((rs.drop k).take n)) num b tl tc)) := by
 obtain ⟨K, hK⟩ : ∃ K, L env h.length true H76L10 X76L10 B76L10 = K := ⟨_, rfl⟩
 rw [hK]
 have wl := W.l1
 have wl2 := W.l2
 have tk0 : ∀ R T, (two h id tid R T).take h.length = two h id tid R T := fun R T => List.take_of_length_le (by rw [two_len]; exact Nat.le_refl _)
 intro j
 induction j with
 | zero =>
  intro i hi
  have : i = n := by omega
  subst this
  rw [L_round hK]
  simp -implicitDefEqProofs only [B76L10, st67, sS, reduceCtorEq, seval, tk0]
 | succ j ih =>
  intro i hi
  have hx : rs[k + i]? = some rs[k + i] := List.getElem?_eq_getElem _
  generalize rs[k + i] = x at hx
  have hs := hsc x (List.mem_of_getElem? hx)
  have htk : (rs.drop k).take (i + 1) = (rs.drop k).take i ++ [x] := by
   rw [List.take_add_one, List.getElem?_drop, hx]
   rfl
  have g1 : (i : Int) < n := by omega
  have e61 := fun T => peek_ok (two_id' (r := rd rs (k + i) 0 l c) (t := T) W) 0 (by omega)
  have hp : peekR rs (k + i + 0) = x.r := by simp [peekR, hx]
  have z0 : ((0 : Nat) : Int) = 0 := rfl
  rw [hp, z0] at e61
  have hsize := textR_size ((rs.drop k).take i)
  have hlen : ((rs.drop k).take i).length ≤ i := List.length_take_le ..
  have h5 : (encB x.r).size ≤ 4 := by rw [encB_size]; exact encL_le _
  have hadd : (textR ((rs.drop k).take i)).size + (encB x.r).size ≤ 9223372036854775807 := by omega
  have w1 : IntKind.i64.wrap ((i : Int) + 1) = ((i + 1 : Nat) : Int) := by rw [wrap_i64 (by omega) (by omega)]; simp
  have w2 : IntKind.i64.wrap (((k + i : Nat) : Int) + 1) = ((k + i + 1 : Nat) : Int) := by rw [wrap_i64 (by omega) (by omega)]; simp
  have ih := ih (i + 1) (by omega)
  rw [htk, textR_snoc, ← Nat.add_assoc] at ih
  have ee := encode_encB hs
  generalize textR ((rs.drop k).take i) = acc at *
  simp only [tk, rd, st67, List.replicate, List.cons_append, List.nil_append] at *
  rw [L_round hK]
  simp -implicitDefEqProofs only [B76L10, sS, reduceCtorEq, seval, tk0, two_len, two_id' W, two_tid' W, two_setid' W, two_settid' W, e61, g1, w1, w2, ee, hadd, ih, wl, wl2, putCells]
end Go.Proofs.YtpemlmhggiaflaaGreatDoor.Codes
namespace Go.Proofs.YtpemlmhggiaflaaGreatDoor.Codes
open Go Go.Deepv
set_option maxHeartbeats 2000000 in
theorem sign_ok {h : List Res} {id tid : Nat} {rs : List Rn} {k : Nat} {l c kind num tl tc : Int} {b : DV} (W : Two h id tid) (hsz : rs.length ≤ 100000) (hk : k < rs.length) (hsc : ∀ x ∈ rs, rScal x.r = true) :
  D env 76 [.ptr id 0, .ptr tid 0] (two h id tid (rd rs k 0 l c) (tk kind ⟨#[]⟩ num b tl tc)) =
   some (.val (.d (.tup [])) (if signN (peekR rs k) (peekR rs (k + 1)) = 0 then two h id tid (rd rs k 2 tl tc) (tk 6 ⟨#[]⟩ num b tl tc)
    else two h id tid (rd rs (k + signN (peekR rs k) (peekR rs (k + 1))) 0 l c) (tk 6 (textR ((rs.drop k).take (signN (peekR rs k) (peekR rs (k + 1))))) num b tl tc))) := by
 have e61 := fun T => peek_ok (two_id' (r := rd rs k 0 l c) (t := T) W) 0 (by omega)
 have e61b := fun T => peek_ok (two_id' (r := rd rs k 0 l c) (t := T) W) 1 (by omega)
 have z0 : ((0 : Nat) : Int) = 0 := rfl
 have z1 : ((1 : Nat) : Int) = 1 := rfl
 have z2 : ((2 : Nat) : Int) = 2 := rfl
 rw [Nat.add_zero, z0] at e61
 rw [z1] at e61b
 have hl := fun n (hn : k + n ≤ rs.length) => loop67 (n := n) (l := l) (c := c) (num := num) (tl := tl) (tc := tc) (b := b) W hsz hn hsc n 0 (by omega)
 have h0 : 0 ≤ peekR rs k := by
  have hx : rs[k]? = some rs[k] := List.getElem?_eq_getElem _
  have := hsc rs[k] (List.mem_of_getElem? hx)
  simp only [peekR, hx]
  exact ((rScal_iff _).1 this).1
 have hd : 0 ≤ peekR rs (k + 1) → k + 2 ≤ rs.length := fun hh => by
  rcases Nat.lt_or_ge (k + 1) rs.length with h | h
  ·omega
  ·have : rs[k + 1]? = none := by simp [h]
   simp [peekR, this] at hh
 have l1 := hl 1 (by omega)
 have l2 := fun hh => hl 2 (hd hh)
 have e35 := fail_ok (h := two h id tid (rd rs k 0 l c) (tk 6 ⟨#[]⟩ num b tl tc)) (two_id' W) 2 tl tc
 simp only [if_true, two_setid' W] at e35
 have e87 := fun h => indexByte_ok signsB (peekR rs k) h
 have wu : peekR rs k < 127 → IntKind.u8.wrap (peekR rs k) = peekR rs k := fun hh => wrap_u8 h0 (by omega)
 have hsn : ∀ hh : peekR rs k < 127, (Lib.indexByte signsB.data.toList (peekR rs k).toNat.toUInt8 < 0) ↔ isSign (peekR rs k) = false := fun hh => by
  have := signs_at ⟨(peekR rs k).toNat, by omega⟩
  simp only [Int.toNat_of_nonneg h0] at this
  rw [← decide_eq_true_iff (p := Lib.indexByte signsB.data.toList (peekR rs k).toNat.toUInt8 < 0), this]
  simp
 have t0 : textR ((rs.drop k).take 0) = ⟨#[]⟩ := rfl
 rw [Nat.add_zero, t0] at l1
 simp only [Nat.add_zero, t0] at l2
 have tk0 : ∀ R T, (two h id tid R T).take h.length = two h id tid R T := fun R T => List.take_of_length_le (by rw [two_len]; exact Nat.le_refl _)
 generalize hi : Lib.indexByte signsB.data.toList (peekR rs k).toNat.toUInt8 = ix at *
 simp only [tk, rd, st67, signsB, z0, z1, z2, List.replicate, List.cons_append, List.nil_append] at *
 rw [D_own (F := A76) rfl rfl rfl rfl]
 by_cases c1 : peekR rs k = 45 ∧ peekR rs (k + 1) = 62
 ·have hs : signN (peekR rs k) (peekR rs (k + 1)) = 2 := by rw [c1.1, c1.2]; decide
  have l2 := l2 (by omega)
  rw [hs, if_neg (by decide)]
  rw [c1.1] at e61
  rw [c1.2] at e61b
  simp -implicitDefEqProofs only [A76, B76, sS, reduceCtorEq, seval, two_len, two_id' W, two_tid' W, two_setid' W, two_settid' W, e61, e61b, tk0, putCells, l2]
 by_cases c2 : peekR rs k = 60 ∧ peekR rs (k + 1) = 61
 ·have hs : signN (peekR rs k) (peekR rs (k + 1)) = 2 := by rw [c2.1, c2.2]; decide
  have l2 := l2 (by omega)
  rw [hs, if_neg (by decide)]
  rw [c2.1] at e61
  rw [c2.2] at e61b
  simp -implicitDefEqProofs only [A76, B76, sS, reduceCtorEq, seval, two_len, two_id' W, two_tid' W, two_setid' W, two_settid' W, e61, e61b, tk0, putCells, l2]
 by_cases c3 : peekR rs k = 61 ∧ peekR rs (k + 1) = 61
 ·have hs : signN (peekR rs k) (peekR rs (k + 1)) = 2 := by rw [c3.1, c3.2]; decide
  have l2 := l2 (by omega)
  rw [hs, if_neg (by decide)]
  rw [c3.1] at e61
  rw [c3.2] at e61b
  simp -implicitDefEqProofs only [A76, B76, sS, reduceCtorEq, seval, two_len, two_id' W, two_tid' W, two_setid' W, two_settid' W, e61, e61b, tk0, putCells, l2]
 by_cases d1 : peekR rs k = 45
 ·have hb : (peekR rs (k + 1) == 62) = false := by simp; exact fun h => c1 ⟨d1, h⟩
  have hs : signN (peekR rs k) (peekR rs (k + 1)) = 1 := by
   have h1 : isSign 45 = true := by decide
   unfold signN
   rw [d1, if_neg (by have := c1; omega), if_pos h1]
  have hx : ¬ ix < 0 := by
   rw [hsn (by omega), d1]
   decide
  have wu := wu (by omega)
  rw [hs, if_neg (by decide)]
  rw [d1] at e61 e87 wu
  simp -implicitDefEqProofs only [A76, B76, sS, reduceCtorEq, seval, two_len, two_id' W, two_tid' W, two_setid' W, two_settid' W, e61, e61b, tk0, putCells, l1, hb, hx, wu, e87]
 by_cases d2 : peekR rs k = 60
 ·have hb : (peekR rs (k + 1) == 61) = false := by simp; exact fun h => c2 ⟨d2, h⟩
  have hs : signN (peekR rs k) (peekR rs (k + 1)) = 1 := by
   have h1 : isSign 60 = true := by decide
   unfold signN
   rw [d2, if_neg (by have := c2; omega), if_pos h1]
  have hx : ¬ ix < 0 := by
   rw [hsn (by omega), d2]
   decide
  have wu := wu (by omega)
  rw [hs, if_neg (by decide)]
  rw [d2] at e61 e87 wu
  simp -implicitDefEqProofs only [A76, B76, sS, reduceCtorEq, seval, two_len, two_id' W, two_tid' W, two_setid' W, two_settid' W, e61, e61b, tk0, putCells, l1, hb, hx, wu, e87]
 by_cases d3 : peekR rs k = 61
 ·have hb : (peekR rs (k + 1) == 61) = false := by simp; exact fun h => c3 ⟨d3, h⟩
  have hs : signN (peekR rs k) (peekR rs (k + 1)) = 1 := by
   have h1 : isSign 61 = true := by decide
   unfold signN
   rw [d3, if_neg (by have := c3; omega), if_pos h1]
  have hx : ¬ ix < 0 := by
   rw [hsn (by omega), d3]
   decide
  have wu := wu (by omega)
  rw [hs, if_neg (by decide)]
  rw [d3] at e61 e87 wu
  simp -implicitDefEqProofs only [A76, B76, sS, reduceCtorEq, seval, two_len, two_id' W, two_tid' W, two_setid' W, two_settid' W, e61, e61b, tk0, putCells, l1, hb, hx, wu, e87]
 have f1 : (peekR rs k == 45) = false := by simpa using d1
 have f2 : (peekR rs k == 60) = false := by simpa using d2
 have f3 : (peekR rs k == 61) = false := by simpa using d3
 have hs0 : signN (peekR rs k) (peekR rs (k + 1)) = if isSign (peekR rs k) then 1 else 0 := by
  unfold signN
  rw [if_neg (by omega)]
 cases hg : isSign (peekR rs k) with
 | true =>
  have hlt := (isSign_lt hg).2
  have hs : signN (peekR rs k) (peekR rs (k + 1)) = 1 := by rw [hs0, hg]; rfl
  have hx : ¬ ix < 0 := by
   rw [hsn hlt, hg]
   decide
  have g1 : ¬ 126 < peekR rs k := by omega
  have wu := wu hlt
  rw [hs, if_neg (by decide)]
  simp -implicitDefEqProofs only [A76, B76, sS, reduceCtorEq, seval, two_len, two_id' W, two_tid' W, two_setid' W, two_settid' W, e61, e61b, tk0, putCells, l1, f1, f2, f3, g1, hx, wu, e87]
 | false =>
  have hs : signN (peekR rs k) (peekR rs (k + 1)) = 0 := by rw [hs0, hg]; rfl
  rw [hs, if_pos rfl]
  by_cases g1 : 126 < peekR rs k
  ·simp -implicitDefEqProofs only [A76, B76, sS, reduceCtorEq, seval, two_len, two_id' W, two_tid' W, two_setid' W, two_settid' W, e61, e61b, tk0, putCells, f1, f2, f3, g1, e35]
  ·have hlt : peekR rs k < 127 := by omega
   have hx : ix < 0 := by
    rw [hsn hlt, hg]
   have wu := wu hlt
   simp -implicitDefEqProofs only [A76, B76, sS, reduceCtorEq, seval, two_len, two_id' W, two_tid' W, two_setid' W, two_settid' W, e61, e61b, tk0, putCells, f1, f2, f3, g1, e35, hx, wu, e87]
end Go.Proofs.YtpemlmhggiaflaaGreatDoor.Codes
namespace Go.Proofs.YtpemlmhggiaflaaGreatDoor.Codes
open Go Go.Deepv
structure Tk where
 kind : Int
 text : ByteArray
 num : Int
 bytes : ByteArray
def Tk.enc (t : Tk) (l c : Int) : List FV := [.int .i64 t.kind, .str t.text, .int .i64 t.num, .slice 1 (strCells t.bytes), .int .i64 l, .int .i64 c]
def tokK (rs : List Rn) (k : Nat) : Except Int (Tk × Nat) :=
 if rLow (peekR rs k) || rUp (peekR rs k) then
  if 24 < cnt rPart (rs.drop k) then .error 5
  else .ok (⟨nameKind (textR ((rs.drop k).take (cnt rPart (rs.drop k)))) (peekR rs k), textR ((rs.drop k).take (cnt rPart (rs.drop k))), 0, ⟨#[]⟩⟩, k + cnt rPart (rs.drop k))
 else if rDig (peekR rs k) then
  if (numF ((rs.drop k).take (cnt rDig (rs.drop k)))).1 then .error 3
  else .ok (⟨3, ⟨#[]⟩, (numF ((rs.drop k).take (cnt rDig (rs.drop k)))).2, ⟨#[]⟩⟩, k + cnt rDig (rs.drop k))
 else if peekR rs k = 34 then
  match qtK rs (rs.length + 1) (k + 1) ⟨#[]⟩ with
  | some (b, k') => if 64 < b.size then .error 5 else .ok (⟨4, ⟨#[]⟩, 0, b⟩, k')
  | none => .error 4
 else if signN (peekR rs k) (peekR rs (k + 1)) = 0 then .error 2
 else .ok (⟨6, textR ((rs.drop k).take (signN (peekR rs k) (peekR rs (k + 1)))), 0, ⟨#[]⟩⟩, k + signN (peekR rs k) (peekR rs (k + 1)))
theorem s_take0 {h : List Res} {id : Nat} {r : Res} (l : List Res) : (h.set id r ++ l).take h.length = h.set id r := by
 have := take_app0 (h.set id r) l
 rwa [s_len] at this
theorem two_struct (h : List Res) (id : Nat) (hid : id < h.length) (a b c d R T : Res) : two (h ++ [a, b, c, d]) id (h.length + 3) R T = h.set id R ++ [a, b, c, T] := by
 rw [two, app_set_lt hid]
 have := app_set (h.set id R) [a, b, c, d] 3 T
 rw [List.length_set] at this
 rw [this]
 rfl
theorem two_ok {h : List Res} {id : Nat} (hid : id < h.length) (a b c d : Res) : Two (h ++ [a, b, c, d]) id (h.length + 3) := ⟨by simp; omega, by simp, by omega⟩
theorem token_ok {h : List Res} {id : Nat} {rs : List Rn} {k : Nat} {l c : Int} {x : Rn} (hq : h[id]? = some (rd rs k 0 l c)) (hsz : rs.length ≤ 100000) (hx : rs[k]? = some x) (hsc : ∀ x ∈ rs, rScal x.r = true) :
  match tokK rs k with
  | .ok (v, k') => D env 50 [.ptr id 0] h = some (.val (.d (.agg (v.enc x.l x.c))) (h.set id (rd rs k' 0 l c)))
  | .error e => ∃ (v : Tk) (k' : Nat), D env 50 [.ptr id 0] h = some (.val (.d (.agg (v.enc x.l x.c))) (h.set id (rd rs k' e x.l x.c))) := by
 have hk : k < rs.length := (List.getElem?_eq_some_iff.1 hx).1
 have hid : id < h.length := (List.getElem?_eq_some_iff.1 hq).1
 have hp : peekR rs k = x.r := by simp [peekR, hx]
 have hx' := rmap_at (f := Rn.enc) hx
 have hself := set_self hq
 have z0 : ((0 : Nat) : Int) = 0 := rfl
 have e61 := fun L => peek_ok (h := h ++ L) (by rw [app_lt hid]; exact hq) 0 (by omega)
 rw [Nat.add_zero, z0, hp] at e61
 have e47 := fun h => low_ok x.r h
 have e46 := fun h => up_ok x.r h
 have e64 := fun h => digit_ok x.r h
 have run : ∀ (f : Nat), (f = 72 ∧ (rLow x.r || rUp x.r) = true ∨ f = 74 ∧ (rLow x.r || rUp x.r) = false ∧ rDig x.r = true ∨ f = 75 ∧ (rLow x.r || rUp x.r) = false ∧ rDig x.r = false ∧ x.r = 34 ∨ f = 76 ∧ (rLow x.r || rUp x.r) = false ∧ rDig x.r = false ∧ ¬ x.r = 34) →
   ∀ (kind num : Int) (text acc : ByteArray) (R : Res),
   D env f [.ptr id 0, .ptr (h.length + 3) 0] (h ++ [.nilrow, .box [.d (.int .i64 0), .d (.str ⟨#[]⟩), .d (.int .i64 0), .row 1 [] h.length, .d (.int .i64 0), .d (.int .i64 0)], .nilrow, tk 0 ⟨#[]⟩ 0 (.row 1 [] (h.length + 2)) x.l x.c]) =
    some (.val (.d (.tup [])) (h.set id R ++ [.nilrow, .box [.d (.int .i64 0), .d (.str ⟨#[]⟩), .d (.int .i64 0), .row 1 [] h.length, .d (.int .i64 0), .d (.int .i64 0)], rr 1 acc.size 5, tk kind text num (.row 1 (strCells acc) (h.length + 2)) x.l x.c])) →
   D env 50 [.ptr id 0] h = some (.val (.d (.agg (Tk.enc ⟨kind, text, num, acc⟩ x.l x.c))) (h.set id R)) := by
  intro f hf kind num text acc R hrun
  rw [D_own (F := A50) rfl rfl rfl rfl]
  have ln : (h.set id R).length = h.length := List.length_set
  have lt1 : h.length < h.length + 1 + 1 := by omega
  have lt2 : h.length + 2 < h.length + 3 + 1 := by omega
  have nlt : ¬ h.length + 2 < h.length + 1 + 1 := by omega
  have hq' := hq
  simp only [rd, tk, Tk.enc] at *
  rcases hf with ⟨rfl, f1⟩ | ⟨rfl, f1, f2⟩ | ⟨rfl, f1, f2, f3⟩ | ⟨rfl, f1, f2, f3⟩
  ·cases hl : rLow x.r with
   | true =>
    rw [hl] at e47
    simp -implicitDefEqProofs only [A50, B50, sS, reduceCtorEq, seval, hq', hx, hx', Rn.enc, e61, e47, e46, e64, hrun, app_lt hid, app_at, app_at0, app_set, s_at, s_at0, s_upd, s_take, s_take0, take_app0, ln, keepNil, putCells, lt1, lt2, nlt, Nat.add_assoc]
   | false =>
    have hu : rUp x.r = true := by rw [hl] at f1; simpa using f1
    rw [hl] at e47
    rw [hu] at e46
    simp -implicitDefEqProofs only [A50, B50, sS, reduceCtorEq, seval, hq', hx, hx', Rn.enc, e61, e47, e46, e64, hrun, app_lt hid, app_at, app_at0, app_set, s_at, s_at0, s_upd, s_take, s_take0, take_app0, ln, keepNil, putCells, lt1, lt2, nlt, Nat.add_assoc]
  all_goals
   have hl : rLow x.r = false := by cases h : rLow x.r <;> simp_all
   have hu : rUp x.r = false := by cases h : rUp x.r <;> simp_all
   rw [hl] at e47
   rw [hu] at e46
  ·rw [f2] at e64
   simp -implicitDefEqProofs only [A50, B50, sS, reduceCtorEq, seval, hq', hx, hx', Rn.enc, e61, e47, e46, e64, hrun, app_lt hid, app_at, app_at0, app_set, s_at, s_at0, s_upd, s_take, s_take0, take_app0, ln, keepNil, putCells, lt1, lt2, nlt, Nat.add_assoc]
  ·rw [f2] at e64
   rw [f3] at e61 e47 e46 e64
   simp -implicitDefEqProofs only [A50, B50, sS, reduceCtorEq, seval, hq', hx, hx', Rn.enc, e61, e47, e46, e64, hrun, app_lt hid, app_at, app_at0, app_set, s_at, s_at0, s_upd, s_take, s_take0, take_app0, ln, keepNil, putCells, lt1, lt2, nlt, Nat.add_assoc, f3]
  ·rw [f2] at e64
   have f4 : (x.r == 34) = false := by simpa using f3
   simp -implicitDefEqProofs only [A50, B50, sS, reduceCtorEq, seval, hq', hx, hx', Rn.enc, e61, e47, e46, e64, hrun, app_lt hid, app_at, app_at0, app_set, s_at, s_at0, s_upd, s_take, s_take0, take_app0, ln, keepNil, putCells, lt1, lt2, nlt, Nat.add_assoc, f4]
 have nil0 : ∀ T : Res, two (h ++ [.nilrow, .box [.d (.int .i64 0), .d (.str ⟨#[]⟩), .d (.int .i64 0), .row 1 [] h.length, .d (.int .i64 0), .d (.int .i64 0)], .nilrow, T]) id (h.length + 3) (rd rs k 0 l c) T =
   h ++ [.nilrow, .box [.d (.int .i64 0), .d (.str ⟨#[]⟩), .d (.int .i64 0), .row 1 [] h.length, .d (.int .i64 0), .d (.int .i64 0)], .nilrow, T] := fun T => by rw [two_struct h id hid, hself]
 have W := two_ok hid .nilrow (.box [.d (.int .i64 0), .d (.str ⟨#[]⟩), .d (.int .i64 0), .row 1 [] h.length, .d (.int .i64 0), .d (.int .i64 0)]) .nilrow (tk 0 ⟨#[]⟩ 0 (.row 1 [] (h.length + 2)) x.l x.c)
 unfold tokK
 rw [hp]
 have hdr : rs.drop k = x :: rs.drop (k + 1) := by
  have := (List.getElem?_eq_some_iff.1 hx).2
  rw [← this]
  simp
 cases f1 : rLow x.r || rUp x.r with
 | true =>
  have hpart : rPart x.r = true := by
   unfold rPart
   cases h1 : rLow x.r <;> simp_all
  have hm1 : 1 ≤ cnt rPart (rs.drop k) := by
   rw [hdr]
   simp only [cnt, hpart, if_true]
   omega
  have e := name_ok (l := l) (c := c) (kind := 0) (num := 0) (tl := x.l) (tc := x.c) (text := ⟨#[]⟩) (b := .row 1 [] (h.length + 2)) W hsz (Nat.le_of_lt hk) hsc hm1
  rw [nil0, two_struct h id hid, hp] at e
  have r := run 72 (.inl ⟨rfl, f1⟩) _ _ _ ⟨#[]⟩ _ e
  simp only [if_true]
  by_cases h24 : 24 < cnt rPart (rs.drop k)
  ·simp only [h24, if_true] at r ⊢
   exact ⟨_, _, r⟩
  ·simp only [h24, if_false] at r ⊢
   exact r
 | false =>
  simp only [Bool.false_eq_true, if_false]
  cases f2 : rDig x.r with
  | true =>
   have e := number_ok (l := l) (c := c) (kind := 0) (tl := x.l) (tc := x.c) (text := ⟨#[]⟩) (b := .row 1 [] (h.length + 2)) W hsz (Nat.le_of_lt hk)
   rw [nil0, two_struct h id hid] at e
   have r := run 74 (.inr (.inl ⟨rfl, f1, f2⟩)) _ _ _ ⟨#[]⟩ _ e
   simp only [if_true]
   cases hg : (numF ((rs.drop k).take (cnt rDig (rs.drop k)))).1 with
   | true =>
    rw [hg] at r
    simp only [if_true] at r ⊢
    exact ⟨_, _, r⟩
   | false =>
    rw [hg] at r
    simp only [Bool.false_eq_true, if_false] at r ⊢
    exact r
  | false =>
   simp only [Bool.false_eq_true, if_false]
   by_cases f3 : x.r = 34
   ·simp only [f3, if_true]
    obtain ⟨fin, g1, g2⟩ := text_ok (l := l) (c := c) (kind := 0) (num := 0) (tl := x.l) (tc := x.c) (text := ⟨#[]⟩) (q0 := .nilrow) (b0 := .box [.d (.int .i64 0), .d (.str ⟨#[]⟩), .d (.int .i64 0), .row 1 [] h.length, .d (.int .i64 0), .d (.int .i64 0)]) hid hsc hsz (Nat.le_of_lt hk)
    have g1' : D env 75 [.ptr id 0, .ptr (h.length + 3) 0] (h ++ [.nilrow, .box [.d (.int .i64 0), .d (.str ⟨#[]⟩), .d (.int .i64 0), .row 1 [] h.length, .d (.int .i64 0), .d (.int .i64 0)], .nilrow, tk 0 ⟨#[]⟩ 0 (.row 1 [] (h.length + 2)) x.l x.c]) = some (.val (.d (.tup [])) fin) := by
     rw [← g1, th, hself]
     rfl
    cases hq66 : qtK rs (rs.length + 1) (k + 1) ⟨#[]⟩ with
    | none =>
     rw [hq66] at g2
     obtain ⟨k', b, rfl⟩ := g2
     exact ⟨_, _, run 75 (.inr (.inr (.inl ⟨rfl, f1, f2, f3⟩))) _ _ _ b _ g1'⟩
    | some v =>
     obtain ⟨b, k'⟩ := v
     rw [hq66] at g2
     simp only at g2
     rw [g2] at g1'
     have r := run 75 (.inr (.inr (.inl ⟨rfl, f1, f2, f3⟩))) _ _ _ b _ g1'
     by_cases h64 : 64 < b.size
     ·simp only [h64, if_true] at r ⊢
      exact ⟨_, _, r⟩
     ·simp only [h64, if_false] at r ⊢
      exact r
   ·simp only [f3, if_false]
    have e := sign_ok (l := l) (c := c) (kind := 0) (num := 0) (tl := x.l) (tc := x.c) (b := .row 1 [] (h.length + 2)) W hsz hk hsc
    rw [hp] at e
    by_cases h0 : signN x.r (peekR rs (k + 1)) = 0
    ·simp only [h0, if_true] at e ⊢
     rw [nil0, two_struct h id hid] at e
     exact ⟨_, _, run 76 (.inr (.inr (.inr ⟨rfl, f1, f2, f3⟩))) _ _ _ ⟨#[]⟩ _ e⟩
    ·simp only [h0, if_false] at e ⊢
     rw [nil0, two_struct h id hid] at e
     exact run 76 (.inr (.inr (.inr ⟨rfl, f1, f2, f3⟩))) _ _ _ ⟨#[]⟩ _ e
end Go.Proofs.YtpemlmhggiaflaaGreatDoor.Codes
namespace Go.Proofs.YtpemlmhggiaflaaGreatDoor.Codes
open Go Go.Deepv
theorem peekR_lt {rs : List Rn} {k : Nat} (h : 0 ≤ peekR rs k) : k < rs.length := by
 rcases Nat.lt_or_ge k rs.length with h1 | h1
 ·exact h1
 ·have : rs[k]? = none := by simp [h1]
  simp [peekR, this] at h
theorem qtK_next (rs : List Rn) : ∀ (f k : Nat) (acc : ByteArray) (b : ByteArray) (k' : Nat), qtK rs f k acc = some (b, k') → k < k' ∧ k' ≤ rs.length := by
 intro f
 induction f with
 | zero => intro k acc b k' h; simp [qtK] at h
 | succ f ih =>
  intro k acc b k' h
  simp only [qtK] at h
  split at h
  ·cases h
  ·rename_i h0
   have hk := peekR_lt (show 0 ≤ peekR rs k by omega)
   split at h
   ·simp only [Option.some.injEq, Prod.mk.injEq] at h
    omega
   ·split at h
    ·split at h
     ·have := ih _ _ _ _ h
      omega
     ·cases h
    ·have := ih _ _ _ _ h
     omega
theorem signN_le (c d : Int) : signN c d ≤ 2 ∧ (signN c d = 2 → 0 ≤ d) := by
 unfold signN
 split
 ·omega
 ·split <;> simp
theorem tokK_next {rs : List Rn} {k k' : Nat} {v : Tk} (hk : k < rs.length) (h : tokK rs k = .ok (v, k')) : k < k' ∧ k' ≤ rs.length := by
 have hx : rs[k]? = some rs[k] := List.getElem?_eq_getElem _
 have hdr : rs.drop k = rs[k] :: rs.drop (k + 1) := by simp
 have hp : peekR rs k = rs[k].r := by simp [peekR, hx]
 have c1 := cnt_le rPart (rs.drop k)
 have c2 := cnt_le rDig (rs.drop k)
 rw [List.length_drop] at c1 c2
 unfold tokK at h
 split at h
 ·rename_i h0
  have hpart : rPart rs[k].r = true := by
   unfold rPart
   rw [hp] at h0
   cases h1 : rLow rs[k].r <;> simp_all
  have : 1 ≤ cnt rPart (rs.drop k) := by
   rw [hdr]
   simp only [cnt, hpart, if_true]
   omega
  split at h
  ·cases h
  ·simp only [Except.ok.injEq, Prod.mk.injEq] at h
   omega
 ·split at h
  ·rename_i h0 h1
   rw [hp] at h1
   have : 1 ≤ cnt rDig (rs.drop k) := by
    rw [hdr]
    simp only [cnt, h1, if_true]
    omega
   split at h
   ·cases h
   ·simp only [Except.ok.injEq, Prod.mk.injEq] at h
    omega
  ·split at h
   ·split at h
    ·rename_i b k'' hq
     have := qtK_next rs _ _ _ _ _ hq
     split at h
     ·cases h
     ·simp only [Except.ok.injEq, Prod.mk.injEq] at h
      omega
    ·cases h
   ·split at h
    ·cases h
    ·rename_i hs
     have h2 := signN_le (peekR rs k) (peekR rs (k + 1))
     simp only [Except.ok.injEq, Prod.mk.injEq] at h
     have h3 : signN (peekR rs k) (peekR rs (k + 1)) = 2 → k + 1 < rs.length := fun e => peekR_lt (h2.2 e)
     omega
theorem tokK_err {rs : List Rn} {k : Nat} {e : Int} (h : tokK rs k = .error e) : e = 2 ∨ e = 3 ∨ e = 4 ∨ e = 5 := by
 unfold tokK at h
 repeat' split at h
 all_goals first
  | cases h; done
  | (simp only [Except.error.injEq] at h; omega)
def skK (rs : List Rn) (k : Nat) : Nat := rs.length - (sk false (rs.drop k)).length
theorem skip_at {id : Nat} {rs : List Rn} {e l c : Int} (hsz : rs.length ≤ 100000) {t : List Res} {k : Nat} (hk : k ≤ rs.length) (hq : t[id]? = some (rd rs k e l c)) :
  k ≤ skK rs k ∧ skK rs k ≤ rs.length ∧ D env 48 [.ptr id 0] t = some (.val (.d (.tup [])) (t.set id (rd rs (skK rs k) e l c))) := by
 obtain ⟨k', h1, h2, h3, h4⟩ := skip_ok hsz hk hq
 have : skK rs k = k' := by
  unfold skK
  rw [← h3, List.length_drop]
  omega
 rw [this]
 exact ⟨h1, h2, h4⟩
def lexK (rs : List Rn) : Nat → Nat → Nat → List (Tk × Int × Int) × Option (Int × Int × Int)
 | 0, _, _ => ([], none)
 | f + 1, k, n => match rs[k]? with
  | none => ([], none)
  | some x => match tokK rs k with
   | .error e => ([], some (e, x.l, x.c))
   | .ok (v, k') => if n = 4096 then ([], some (27, x.l, x.c)) else ((v, x.l, x.c) :: (lexK rs f (skK rs k') (n + 1)).1, (lexK rs f (skK rs k') (n + 1)).2)
def encT (ts : List (Tk × Int × Int)) : List (List FV) := ts.map fun t => t.1.enc t.2.1 t.2.2
def st13 (s : ByteArray) (out : List (List FV)) : List DV := [.d (.str s), .d .undef, .d .undef, .ptr 0 0, .d .undef, .d .undef, .ptr 2 0, .row 6 out 3] ++ List.replicate 60 (.d .undef)
def ex13 (s : ByteArray) (v : FV) (out : List (List FV)) : List DV := [.d (.str s), .d .undef, .d v, .ptr 0 0, .d .undef, .d .undef, .d .undef, .row 6 out 3] ++ List.replicate 60 (.d .undef)
theorem loop13 (s : ByteArray) {rs : List Rn} (hsz : rs.length ≤ 100000) (hsc : ∀ x ∈ rs, rScal x.r = true) :
  ∀ (f k : Nat) (out : List (List FV)), rs.length < k + f → k ≤ rs.length → out.length ≤ 4096 →
   ∃ R, L env 4 true H32L7 X32L7 B32L7 (st13 s out) [faultB 0 0 0, faultB 0 0 0, rd rs k 0 0 0, rr 6 out.length] =
    match lexK rs f k out.length with
    | (ts, none) => some (.exit 0, ex13 s .undef (out ++ encT ts), [faultB 0 0 0, faultB 0 0 0, R, rr 6 (out ++ encT ts).length])
    | (ts, some (e, l, c)) => some (.ret, ex13 s (.slice 6 []) (out ++ encT ts), [faultB e l c, faultB 0 0 0, R, rr 6 (out ++ encT ts).length]) := by
 obtain ⟨K, hK⟩ : ∃ K, L env 4 true H32L7 X32L7 B32L7 = K := ⟨_, rfl⟩
 rw [hK]
 intro f
 induction f with
 | zero => intro k out h1 h2 h3; omega
 | succ f ih =>
  intro k out h1 h2 h3
  have eo := over_ok (h := [faultB 0 0 0, faultB 0 0 0, rd rs k 0 0 0, rr 6 out.length]) (id := 2) (rs := rs) (k := k) (e := 0) (l := 0) (c := 0) rfl
  cases hx : rs[k]? with
  | none =>
   have hlen : rs.length ≤ k := by simpa using hx
   refine ⟨rd rs k 0 0 0, ?_⟩
   rw [decide_eq_true hlen] at eo
   simp only [lexK, hx, encT, List.map_nil, List.append_nil]
   simp only [st13, ex13, faultB, rd] at *
   rw [L_round hK]
   simp -implicitDefEqProofs only [B32L7, sS, reduceCtorEq, seval, eo]
  | some x =>
   have hlt : k < rs.length := (List.getElem?_eq_some_iff.1 hx).1
   have hlen : ¬ rs.length ≤ k := by omega
   rw [decide_eq_false hlen] at eo
   have et := token_ok (h := [faultB 0 0 0, faultB 0 0 0, rd rs k 0 0 0, rr 6 out.length]) (id := 2) (rs := rs) (k := k) (l := 0) (c := 0) rfl hsz hx hsc
   cases htk : tokK rs k with
   | error e =>
    rw [htk] at et
    simp only at et
    obtain ⟨v, k', et⟩ := et
    have he : ¬ e = 0 := by have := tokK_err htk; omega
    have he' : (e != 0) = true := by simpa using he
    refine ⟨rd rs k' e x.l x.c, ?_⟩
    simp only [lexK, hx, htk, encT, List.map_nil, List.append_nil]
    have e35 := fun T1 T2 => fail_ok (h := [faultB 0 0 0, faultB 0 0 0, rd rs k' e x.l x.c, rr 6 out.length, T1, T2]) (id := 2) (rs := rs) (k := k') (e := e) (l := x.l) (c := x.c) rfl 27 x.l x.c
    simp only [he, if_false] at e35
    simp only [List.set_cons_succ, List.set_cons_zero] at et
    by_cases hn : out.length = 4096
    ·have hn' : ((out.length : Int) == 4096) = true := by simp; omega
     simp only [st13, ex13, faultB, rd, Tk.enc] at *
     rw [L_round hK]
     simp -implicitDefEqProofs only [B32L7, sS, reduceCtorEq, seval, eo, et, e35, he, he', hn', putCells]
    ·have hn' : ((out.length : Int) == 4096) = false := by simp; omega
     simp only [st13, ex13, faultB, rd, Tk.enc] at *
     rw [L_round hK]
     simp -implicitDefEqProofs only [B32L7, sS, reduceCtorEq, seval, eo, et, e35, he, he', hn', putCells]
   | ok vk =>
    obtain ⟨v, k'⟩ := vk
    rw [htk] at et
    simp only at et
    have hnx := tokK_next hlt htk
    by_cases hn : out.length = 4096
    ·refine ⟨rd rs k' 27 x.l x.c, ?_⟩
     have hlk : lexK rs (f + 1) k out.length = ([], some (27, x.l, x.c)) := by simp only [lexK, hx, htk, hn, if_true]
     rw [hlk]
     simp only [encT, List.map_nil, List.append_nil]
     have e35 := fun T1 T2 => fail_ok (h := [faultB 0 0 0, faultB 0 0 0, rd rs k' 0 0 0, rr 6 out.length, T1, T2]) (id := 2) (rs := rs) (k := k') (e := 0) (l := 0) (c := 0) rfl 27 x.l x.c
     simp only [if_true, List.set_cons_succ, List.set_cons_zero] at e35 et
     have hn' : ((out.length : Int) == 4096) = true := by simp; omega
     simp only [st13, ex13, faultB, rd, Tk.enc] at *
     rw [L_round hK]
     simp -implicitDefEqProofs only [B32L7, sS, reduceCtorEq, seval, eo, et, e35, hn', putCells]
    ·have hn' : ((out.length : Int) == 4096) = false := by simp; omega
     have es := skip_at (e := 0) (l := 0) (c := 0) hsz (t := [faultB 0 0 0, faultB 0 0 0, rd rs k' 0 0 0, rr 6 (out.length + 1), .nilrow, .box ((v.enc x.l x.c).map .d)]) (id := 2) hnx.2 rfl
     obtain ⟨s1, s2, es⟩ := es
     have len1 : (out ++ [v.enc x.l x.c]).length = out.length + 1 := by simp
     obtain ⟨R, ih⟩ := ih (skK rs k') (out ++ [v.enc x.l x.c]) (by omega) s2 (by omega)
     refine ⟨R, ?_⟩
     rw [len1] at ih
     have e5 : ∀ T1 T2 : Res, appRow 6 72 (.row 6 out 3) (some (6, [v.enc x.l x.c])) [faultB 0 0 0, faultB 0 0 0, rd rs k' 0 0 0, rr 6 out.length, T1, T2] = some (.val (.row 6 (out ++ [v.enc x.l x.c]) 3) ([faultB 0 0 0, faultB 0 0 0, rd rs k' 0 0 0, rr 6 out.length, T1, T2].set 3 (rr 6 (out.length + 1)))) := fun T1 T2 =>
      appRow_one rfl (by omega) (by decide) (by decide) 6 rfl
     have hlk : lexK rs (f + 1) k out.length = ((v, x.l, x.c) :: (lexK rs f (skK rs k') (out.length + 1)).1, (lexK rs f (skK rs k') (out.length + 1)).2) := by
      simp only [lexK, hx, htk, hn, if_false]
     rw [hlk]
     have fin : ∀ a h, K a h = (match lexK rs f (skK rs k') (out.length + 1) with
       | (ts, none) => some (.exit 0, ex13 s .undef (out ++ [v.enc x.l x.c] ++ encT ts), [faultB 0 0 0, faultB 0 0 0, R, rr 6 (out ++ [v.enc x.l x.c] ++ encT ts).length])
       | (ts, some (e, l, c)) => some (.ret, ex13 s (.slice 6 []) (out ++ [v.enc x.l x.c] ++ encT ts), [faultB e l c, faultB 0 0 0, R, rr 6 (out ++ [v.enc x.l x.c] ++ encT ts).length])) →
       K a h = (match (((v, x.l, x.c) :: (lexK rs f (skK rs k') (out.length + 1)).1, (lexK rs f (skK rs k') (out.length + 1)).2) : List (Tk × Int × Int) × Option (Int × Int × Int)) with
       | (ts, none) => some (.exit 0, ex13 s .undef (out ++ encT ts), [faultB 0 0 0, faultB 0 0 0, R, rr 6 (out ++ encT ts).length])
       | (ts, some (e, l, c)) => some (.ret, ex13 s (.slice 6 []) (out ++ encT ts), [faultB e l c, faultB 0 0 0, R, rr 6 (out ++ encT ts).length])) := fun a h hk => by
      rw [hk]
      generalize lexK rs f (skK rs k') (out.length + 1) = y
      rcases y with ⟨ts, _ | ⟨e, l, c⟩⟩ <;> simp only [encT, List.map_cons, List.append_assoc, List.cons_append, List.nil_append]
     have ih2 := fin _ _ ih
     generalize (match (((v, x.l, x.c) :: (lexK rs f (skK rs k') (out.length + 1)).1, (lexK rs f (skK rs k') (out.length + 1)).2) : List (Tk × Int × Int) × Option (Int × Int × Int)) with
       | (ts, none) => some (DExit.exit 0, ex13 s .undef (out ++ encT ts), [faultB 0 0 0, faultB 0 0 0, R, rr 6 (out ++ encT ts).length])
       | (ts, some (e, l, c)) => some (DExit.ret, ex13 s (.slice 6 []) (out ++ encT ts), [faultB e l c, faultB 0 0 0, R, rr 6 (out ++ encT ts).length])) = RHS at *
     simp only [List.set_cons_succ, List.set_cons_zero] at et e5 es
     simp only [st13, faultB, rd, Tk.enc, List.map_cons, List.map_nil, List.replicate, List.cons_append, List.nil_append] at *
     rw [L_round hK]
     simp -implicitDefEqProofs only [B32L7, sS, reduceCtorEq, seval, eo, et, e5, es, ih2, hn', putCells]
end Go.Proofs.YtpemlmhggiaflaaGreatDoor.Codes
namespace Go.Proofs.YtpemlmhggiaflaaGreatDoor.Codes
open Go Go.Deepv
def endT (l c : Int) : List FV := Tk.enc ⟨0, ⟨#[]⟩, 0, ⟨#[]⟩⟩ l c
def lexR (rs : List Rn) : List (Tk × Int × Int) × Option (Int × Int × Int) := lexK rs (rs.length + 1) (skK rs 0) 0
def lexV (s : ByteArray) : FV :=
 if s.size ≤ 16384 then match spl s s.size 0 1 1 with
  | (_, some (l, c)) => .tup [.slice 6 [], .agg [.int .i64 1, .int .i64 l, .int .i64 c]]
  | (rs, none) => match lexR rs with
   | (_, some (e, l, c)) => .tup [.slice 6 [], .agg [.int .i64 e, .int .i64 l, .int .i64 c]]
   | (ts, none) => if ts.length = 4096 then .tup [.slice 6 [], .agg [.int .i64 27, .int .i64 (advL 1 (rs.map Rn.r)), .int .i64 (advC 1 (rs.map Rn.r))]]
    else .tup [.slice 6 (encT ts ++ [endT (advL 1 (rs.map Rn.r)) (advC 1 (rs.map Rn.r))]), .agg [.int .i64 0, .int .i64 0, .int .i64 0]]
 else .tup [.slice 6 [], .agg [.int .i64 5, .int .i64 1, .int .i64 1]]
theorem lexK_len (rs : List Rn) : ∀ (f k n : Nat), n ≤ 4096 → (lexK rs f k n).1.length + n ≤ 4096 := by
 intro f
 induction f with
 | zero => intro k n h; simp [lexK]; exact h
 | succ f ih =>
  intro k n h
  simp only [lexK]
  split
  ·simp; exact h
  ·split
   ·simp; exact h
   ·split
    ·simp; exact h
    ·rename_i v k' he hn
     have := ih (skK rs k') (n + 1) (by omega)
     simp only [List.length_cons]
     omega
theorem encLs_size : ∀ ws : List Int, ws.length ≤ (encLs ws).length := by
 intro ws
 induction ws with
 | nil => simp
 | cons w ws ih =>
  have := encI_pos w
  simp only [encLs, List.length_cons, List.length_append]
  omega
theorem lex_ok (s : ByteArray) (h : List Res) : D env 32 [.d (.str s)] h = some (.val (.d (lexV s)) h) := by
 rw [D_dat (F := A32) rfl rfl rfl rfl]
 have e31 := fun h => split_ok s h
 unfold lexV
 unfold splitV at e31
 by_cases hs : s.size ≤ 16384
 ·simp only [hs, if_true] at e31 ⊢
  obtain ⟨ws, hsc, hB | ⟨t, ht, hB⟩⟩ := text_cases _ s.data.toList (Nat.le_refl _)
  ·rw [spl_all hsc hB] at e31 ⊢
   have hlen : s.data.toList.length = s.size := Array.length_toList
   have hws := encLs_size ws
   rw [hB] at hlen
   have hpl := place_len ws 0 1 1
   have hpr := place_r ws 0 1 1
   have hsc2 : ∀ x ∈ place ws 0 1 1, rScal x.r = true := fun x hx => hsc x.r (by rw [← hpr]; exact List.mem_map_of_mem hx)
   have e36 := fun h => place_ok s ws hs hsc hB h
   simp only [hpr] at e31 ⊢
   generalize place ws 0 1 1 = rs at *
   have es := skip_at (e := 0) (l := 0) (c := 0) (rs := rs) (by omega) (t := [faultB 0 0 0, faultB 0 0 0, rd rs 0 0 0 0, .nilrow]) (k := 0) (id := 2) (by omega) rfl
   obtain ⟨s1, s2, es⟩ := es
   obtain ⟨R, hl⟩ := loop13 s (by omega) hsc2 (rs.length + 1) (skK rs 0) [] (by omega) s2 (by simp)
   have r0 : rr 6 ([] : List (List FV)).length = .nilrow := rfl
   have l0 : ([] : List (List FV)).length = 0 := rfl
   have z0 : ((0 : Nat) : Int) = 0 := rfl
   have hll := lexK_len rs (rs.length + 1) (skK rs 0) 0 (by omega)
   rw [r0, l0] at hl
   unfold lexR
   generalize lexK rs (rs.length + 1) (skK rs 0) 0 = y at *
   simp only [List.nil_append, List.set_cons_succ, List.set_cons_zero] at hl es
   have hel : ∀ ts : List (Tk × Int × Int), (encT ts).length = ts.length := fun ts => by simp [encT]
   rcases y with ⟨ts, _ | ⟨e, l, c⟩⟩
   ·simp only at hl hll ⊢
    simp only [hel] at hl
    have ho := hel ts
    generalize encT ts = out at *
    by_cases hn : ts.length = 4096
    ·rw [if_pos hn]
     have hn' : ((out.length : Int) == 4096) = true := by simp; omega
     rw [← ho] at hl
     simp only [st13, ex13, faultB, rd, List.replicate, List.cons_append, List.nil_append, z0] at *
     simp -implicitDefEqProofs only [A32, B32, sS, reduceCtorEq, seval, e31, es, hl, e36, hn', putCells]
    ·rw [if_neg hn]
     have hn' : ((out.length : Int) == 4096) = false := by simp; omega
     rw [← ho] at hl
     generalize advL 1 ws = el at *
     generalize advC 1 ws = ec at *
     have e5 : ∀ T0 T1 T2 : Res, appRow 6 72 (.row 6 out 3) (some (6, [endT el ec])) [faultB 0 0 0, faultB 0 0 0, T0, rr 6 out.length, T1, T2] = some (.val (.row 6 (out ++ [endT el ec]) 3) ([faultB 0 0 0, faultB 0 0 0, T0, rr 6 out.length, T1, T2].set 3 (rr 6 (out.length + 1)))) := fun T0 T1 T2 =>
      appRow_one rfl (by omega) (by decide) (by decide) 6 rfl
     simp only [List.set_cons_succ, List.set_cons_zero] at e5
     simp only [st13, ex13, faultB, rd, endT, Tk.enc, cells_nil, List.replicate, List.cons_append, List.nil_append, z0] at *
     simp -implicitDefEqProofs only [A32, B32, sS, reduceCtorEq, seval, e31, es, hl, e36, hn', e5, putCells]
   ·simp only at hl hll ⊢
    simp only [st13, ex13, faultB, rd, List.replicate, List.cons_append, List.nil_append, z0] at *
    simp -implicitDefEqProofs only [A32, B32, sS, reduceCtorEq, seval, e31, es, hl, putCells]
  ·have e := spl_all_bad hsc ht hB
   generalize spl s s.size 0 1 1 = x at *
   rcases x with ⟨x1, x2⟩
   simp only at e
   subst e
   simp only at e31 ⊢
   simp -implicitDefEqProofs only [A32, B32, sS, reduceCtorEq, seval, e31, putCells]
 ·simp only [hs, if_false] at e31 ⊢
  simp -implicitDefEqProofs only [A32, B32, sS, reduceCtorEq, seval, e31, putCells]
end Go.Proofs.YtpemlmhggiaflaaGreatDoor.Codes
namespace Go.Proofs.YtpemlmhggiaflaaGreatDoor.Codes
open Go Go.Deepv
theorem tdiv_lit (c k : Nat) : ((c : Int).tdiv (k : Int)) = ((c / k : Nat) : Int) := by
 rw [Int.tdiv_eq_ediv_of_nonneg (by omega)]
 rfl
theorem tmod_lit (c k : Nat) : ((c : Int).tmod (k : Int)) = ((c % k : Nat) : Int) := by
 rw [Int.tmod_eq_emod_of_nonneg (by omega)]
 rfl
set_option maxHeartbeats 2000000 in
theorem rput_ok (w : Int) (hw : rScal w = true) (h : List Res) : D env 133 [.d (.int .i32 w)] h = some (.val (.d (.slice 1 (strCells (encB w)))) h) := by
 rw [D_dat (F := A133) rfl rfl rfl rfl]
 have e77 := fun h => scalar_ok w h
 rw [hw] at e77
 have hv := (rScal_iff w).1 hw
 obtain ⟨c, rfl⟩ : ∃ c : Nat, w = c := ⟨w.toNat, (Int.toNat_of_nonneg hv.1).symm⟩
 rw [Int.toNat_natCast, valid_iff] at hv
 rw [encB_cells]
 unfold encI encL
 rw [Int.toNat_natCast]
 have d6 : (c : Int).tdiv 64 = ((c / 64 : Nat) : Int) := tdiv_lit c 64
 have d12 : (c : Int).tdiv 4096 = ((c / 4096 : Nat) : Int) := tdiv_lit c 4096
 have d18 : (c : Int).tdiv 262144 = ((c / 262144 : Nat) : Int) := tdiv_lit c 262144
 have m0 : (c : Int).tmod 64 = ((c % 64 : Nat) : Int) := tmod_lit c 64
 have m6 : ((c / 64 : Nat) : Int).tmod 64 = ((c / 64 % 64 : Nat) : Int) := tmod_lit (c / 64) 64
 have m12 : ((c / 4096 : Nat) : Int).tmod 64 = ((c / 4096 % 64 : Nat) : Int) := tmod_lit (c / 4096) 64
 have v6 : IntKind.i32.wrap ((c / 64 : Nat) : Int) = ((c / 64 : Nat) : Int) := wrap_i32 (by omega) (by omega)
 have v12 : IntKind.i32.wrap ((c / 4096 : Nat) : Int) = ((c / 4096 : Nat) : Int) := wrap_i32 (by omega) (by omega)
 have v18 : IntKind.i32.wrap ((c / 262144 : Nat) : Int) = ((c / 262144 : Nat) : Int) := wrap_i32 (by omega) (by omega)
 have t0 : IntKind.i32.wrap (128 + ((c % 64 : Nat) : Int)) = ((128 + c % 64 : Nat) : Int) := by rw [wrap_i32 (by omega) (by omega)]; omega
 have t6 : IntKind.i32.wrap (128 + ((c / 64 % 64 : Nat) : Int)) = ((128 + c / 64 % 64 : Nat) : Int) := by rw [wrap_i32 (by omega) (by omega)]; omega
 have t12 : IntKind.i32.wrap (128 + ((c / 4096 % 64 : Nat) : Int)) = ((128 + c / 4096 % 64 : Nat) : Int) := by rw [wrap_i32 (by omega) (by omega)]; omega
 have u0 : IntKind.u8.wrap ((128 + c % 64 : Nat) : Int) = ((128 + c % 64 : Nat) : Int) := wrap_u8 (by omega) (by omega)
 have u6 : IntKind.u8.wrap ((128 + c / 64 % 64 : Nat) : Int) = ((128 + c / 64 % 64 : Nat) : Int) := wrap_u8 (by omega) (by omega)
 have u12 : IntKind.u8.wrap ((128 + c / 4096 % 64 : Nat) : Int) = ((128 + c / 4096 % 64 : Nat) : Int) := wrap_u8 (by omega) (by omega)
 have o0 : (UInt8.ofNat (128 + c % 64)).toNat = 128 + c % 64 := ofNat_toNat (by omega)
 have o6 : (UInt8.ofNat (128 + c / 64 % 64)).toNat = 128 + c / 64 % 64 := ofNat_toNat (by omega)
 have o12 : (UInt8.ofNat (128 + c / 4096 % 64)).toNat = 128 + c / 4096 % 64 := ofNat_toNat (by omega)
 by_cases c0 : c < 128
 ·rw [if_pos c0]
  have g1 : (c : Int) < 128 := by omega
  have uc : IntKind.u8.wrap (c : Int) = c := wrap_u8 (by omega) (by omega)
  have oh : (UInt8.ofNat c).toNat = c := ofNat_toNat (by omega)
  simp -implicitDefEqProofs only [A133, B133, sS, reduceCtorEq, seval, e77, g1, uc, oh]
 rw [if_neg c0]
 have g1 : ¬ (c : Int) < 128 := by omega
 by_cases c1 : c < 2048
 ·rw [if_pos c1]
  have g2 : (c : Int) < 2048 := by omega
  have th : IntKind.i32.wrap (192 + ((c / 64 : Nat) : Int)) = ((192 + c / 64 : Nat) : Int) := by rw [wrap_i32 (by omega) (by omega)]; omega
  have uh : IntKind.u8.wrap ((192 + c / 64 : Nat) : Int) = ((192 + c / 64 : Nat) : Int) := wrap_u8 (by omega) (by omega)
  have oh : (UInt8.ofNat (192 + c / 64)).toNat = 192 + c / 64 := ofNat_toNat (by omega)
  simp -implicitDefEqProofs only [A133, B133, sS, reduceCtorEq, seval, e77, g1, g2, d6, v6, th, uh, m0, t0, u0, oh, o0]
 rw [if_neg c1]
 have g2 : ¬ (c : Int) < 2048 := by omega
 by_cases c2 : c < 65536
 ·rw [if_pos c2]
  have g3 : (c : Int) < 65536 := by omega
  have th : IntKind.i32.wrap (224 + ((c / 4096 : Nat) : Int)) = ((224 + c / 4096 : Nat) : Int) := by rw [wrap_i32 (by omega) (by omega)]; omega
  have uh : IntKind.u8.wrap ((224 + c / 4096 : Nat) : Int) = ((224 + c / 4096 : Nat) : Int) := wrap_u8 (by omega) (by omega)
  have oh : (UInt8.ofNat (224 + c / 4096)).toNat = 224 + c / 4096 := ofNat_toNat (by omega)
  simp -implicitDefEqProofs only [A133, B133, sS, reduceCtorEq, seval, e77, g1, g2, g3, d6, d12, v6, v12, th, uh, m0, t0, u0, m6, t6, u6, oh, o0, o6]
 rw [if_neg c2]
 have g3 : ¬ (c : Int) < 65536 := by omega
 have th : IntKind.i32.wrap (240 + ((c / 262144 : Nat) : Int)) = ((240 + c / 262144 : Nat) : Int) := by rw [wrap_i32 (by omega) (by omega)]; omega
 have uh : IntKind.u8.wrap ((240 + c / 262144 : Nat) : Int) = ((240 + c / 262144 : Nat) : Int) := wrap_u8 (by omega) (by omega)
 have oh : (UInt8.ofNat (240 + c / 262144)).toNat = 240 + c / 262144 := ofNat_toNat (by omega)
 simp -implicitDefEqProofs only [A133, B133, sS, reduceCtorEq, seval, e77, g1, g2, g3, d6, d12, d18, v6, v12, v18, th, uh, m0, t0, u0, m6, t6, u6, m12, t12, u12, oh, o0, o6, o12]
def st69 (rs : List Rn) (acc : ByteArray) (n k : Nat) : List DV := [.d (.slice 4 (rs.map Rn.enc)), .d .undef, .d .undef, .d .undef, .d .undef, .d .undef, .d (.str acc), .d (.int .i64 n), .d (.int .i64 k)] ++ List.replicate 28 (.d .undef)
def ex69 (acc : ByteArray) (n : Nat) : List DV := [.d .undef, .d .undef, .d .undef, .d .undef, .d .undef, .d .undef, .d (.str acc), .d (.int .i64 n)] ++ List.replicate 29 (.d .undef)
theorem loop69 {rs : List Rn} (hsz : rs.length ≤ 100000) (hsc : ∀ x ∈ rs, rScal x.r = true) :
  ∀ (l : List Rn) (acc : ByteArray) (n k : Nat), rs.drop k = l → k ≤ rs.length → n ≤ k → acc.size ≤ 4 * k →
   L env 0 true H116L4 X116L4 B116L4 (st69 rs acc n k) [] = some (.exit 0, ex69 ((l.take (cnt rPart l)).foldl (fun a x => a ++ encB x.r) acc) (n + cnt rPart l), []) := by
 obtain ⟨K, hK⟩ : ∃ K, L env 0 true H116L4 X116L4 B116L4 = K := ⟨_, rfl⟩
 rw [hK]
 intro l
 induction l with
 | nil =>
  intro acc n k h1 h2 h3 h4
  have hk : ¬ (k : Int) < rs.length := by
   have := congrArg List.length h1
   rw [List.length_drop, List.length_nil] at this
   omega
  simp only [cnt, List.take_nil, List.foldl_nil, Nat.add_zero]
  rw [L_round hK]
  simp -implicitDefEqProofs only [B116L4, st69, ex69, sS, reduceCtorEq, seval, hk]
 | cons x l ih =>
  intro acc n k h1 h2 h3 h4
  have hx : rs[k]? = some x := by
   have := List.getElem?_drop (xs := rs) (i := k) (j := 0)
   rw [h1] at this
   simpa using this.symm
  have hlt := (List.getElem?_eq_some_iff.1 hx).1
  have hx' := rmap_at (f := Rn.enc) hx
  have hk : (k : Int) < rs.length := by omega
  have e49 := fun h => rpart_ok x.r h
  cases hp : rPart x.r with
  | false =>
   rw [hp] at e49
   simp only [cnt, hp, Bool.false_eq_true, if_false, List.take_zero, List.foldl_nil, Nat.add_zero]
   rw [L_round hK]
   simp -implicitDefEqProofs only [B116L4, st69, ex69, sS, reduceCtorEq, seval, hk, hx, hx', Rn.enc, e49]
  | true =>
   rw [hp] at e49
   have hw := hsc x (List.mem_of_getElem? hx)
   have e88 := fun h => rput_ok x.r hw h
   have h5 : (encB x.r).size ≤ 4 := by rw [encB_size]; exact encL_le _
   have hd : rs.drop (k + 1) = l := by rw [← List.drop_drop, h1]; rfl
   have ih := ih (acc ++ encB x.r) (n + 1) (k + 1) hd (by omega) (by omega) (by rw [ByteArray.size_append]; omega)
   have hadd : acc.size + (encB x.r).size ≤ 9223372036854775807 := by omega
   have w1 : IntKind.i64.wrap ((n : Int) + 1) = ((n + 1 : Nat) : Int) := by rw [wrap_i64 (by omega) (by omega)]; simp
   have w2 : IntKind.i64.wrap ((k : Int) + 1) = ((k + 1 : Nat) : Int) := by rw [wrap_i64 (by omega) (by omega)]; simp
   have hn : n + cnt rPart (x :: l) = n + 1 + cnt rPart l := by simp only [cnt, hp, if_true]; omega
   have hf : ((x :: l).take (cnt rPart (x :: l))).foldl (fun a x => a ++ encB x.r) acc = (l.take (cnt rPart l)).foldl (fun a x => a ++ encB x.r) (acc ++ encB x.r) := by
    simp only [cnt, hp, if_true, List.take_succ_cons, List.foldl_cons]
   rw [hn, hf]
   simp only [st69, List.replicate, List.cons_append, List.nil_append] at ih
   rw [L_round hK]
   simp -implicitDefEqProofs only [B116L4, st69, sS, reduceCtorEq, seval, hk, hx, hx', Rn.enc, e49, e88, nums_ok, strOf_ok, hadd, w1, w2, ih]
theorem rname_ok {rs : List Rn} (hsz : rs.length ≤ 100000) (hsc : ∀ x ∈ rs, rScal x.r = true) {k : Nat} (hk : k ≤ rs.length) (h : List Res) :
  D env 116 [.d (.slice 4 (rs.map Rn.enc)), .d (.int .i64 k)] h = some (.val (.d (.tup [.str (textR ((rs.drop k).take (cnt rPart (rs.drop k)))), .int .i64 (cnt rPart (rs.drop k))])) h) := by
 rw [D_dat (F := A116) rfl rfl rfl rfl]
 have hl := loop69 hsz hsc (rs.drop k) ⟨#[]⟩ 0 k rfl hk (by omega) (by have : (⟨#[]⟩ : ByteArray).size = 0 := rfl; omega)
 rw [Nat.zero_add, show ((rs.drop k).take (cnt rPart (rs.drop k))).foldl (fun a x => a ++ encB x.r) ⟨#[]⟩ = textR ((rs.drop k).take (cnt rPart (rs.drop k))) from rfl] at hl
 have z0 : ((0 : Nat) : Int) = 0 := rfl
 simp only [st69, ex69, List.replicate, List.cons_append, List.nil_append, z0] at hl
 simp -implicitDefEqProofs only [A116, B116, sS, reduceCtorEq, seval, hl]
end Go.Proofs.YtpemlmhggiaflaaGreatDoor.Codes
