/-
  A rune's bytes; a rune is written to a builder; The reader and the token under way in one heap; a name is read; A name is read; A number is read; The place of a rune among hex digits; bytes that stand behind a back-slash; What stands behind a back-slash; A quoted text is read
  Conditions: none.
-/
import Derived.Test.YtpemlmhggiaflaaGreatDoorNC
set_option linter.unusedVariables false
set_option linter.unusedSimpArgs false
set_option maxRecDepth 100000
namespace Go.Proofs.YtpemlmhggiaflaaGreatDoor.Codes
open Go Go.Deepv
theorem cells_nil : strCells ⟨#[]⟩ = [] := rfl
theorem empty_app (s : ByteArray) : (⟨#[]⟩ : ByteArray) ++ s = s := by
 have : (⟨#[]⟩ : ByteArray) = ByteArray.empty := rfl
 rw [this, ByteArray.empty_append]
theorem put_ok (w : Int) (hw : rScal w = true) (h : List Res) : D env 102 [.d (.int .i32 w)] h = some (.val (.d (.slice 1 (strCells (encB w)))) h) := by
 rw [D_dat (F := A102) rfl rfl rfl rfl]
 have e1 := fun h => validRune_ok w h
 rw [hw] at e1
 have e2 := append_ok (h := [.nilrow]) (ri := 0) (acc := ⟨#[]⟩) hw rfl (by decide)
 rw [empty_app] at e2
 simp only [cells_nil] at e2
 have e3 : Dc env (.fn 123) [.row 1 [] 0, .d (.int .i32 w)] [.nilrow] = some (.val (.row 1 (strCells (encB w)) 0) ([Res.nilrow].set 0 (rr 1 (encB w).size 5))) := e2
 simp -implicitDefEqProofs only [A102, B102, sS, reduceCtorEq, seval, e1, e3]
theorem D_ext {E : Env} {f : FuncId} {F : List DV → List Res → Option DOut} (he : E.ext f = some F) (args : List DV) (h : List Res) : D E f args h = F args h := by
 rw [D_eq]
 unfold dcallF
 rw [he]
theorem copyc_ok {h : List Res} {bi : Nat} {x y : DV} (hb : h[bi]? = some (.box [x, y] 86)) (hx : x = .d .nilp ∨ x = .ptr bi 0) : D env 61 [.ptr bi 0] h = some (.val (.d (.tup [])) (h.set bi (.box [.ptr bi 0, y] 86))) := by
 rw [D_ext (F := xCopy 86) rfl]
 rcases hx with rfl | rfl
 ·simp [xCopy, hb]
 ·simp [xCopy, hb]
  exact (set_self hb).symm
def bld (t : List Res) (x : DV) (acc : ByteArray) (l : List Res) : List Res := t ++ (rr 1 acc.size 5 :: .box [x, .row 1 (strCells acc) t.length] 86 :: l)
theorem writeRune_ok {t l : List Res} {x : DV} {acc : ByteArray} {w : Int} (hw : rScal w = true) (hx : x = .d .nilp ∨ x = .ptr (t.length + 1) 0) (hs : acc.size ≤ 1000000) :
  D env 99 [.ptr (t.length + 1) 0, .d (.int .i32 w)] (bld t x acc l) = some (.val (.d (.tup [.int .i64 (IntKind.i64.wrap (((acc ++ encB w).size : Nat) - (acc.size : Nat))), .nili])) (bld t (.ptr (t.length + 1) 0) (acc ++ encB w) l)) := by
 have e1 : D env 61 [.ptr (t.length + 1) 0] (bld t x acc l) = some (.val (.d (.tup [])) (bld t (.ptr (t.length + 1) 0) acc l)) := by
  have := copyc_ok (h := bld t x acc l) (bi := t.length + 1) (x := x) (y := .row 1 (strCells acc) t.length) (by rw [bld, app_at]; rfl) hx
  rw [this]
  simp only [bld, app_set, List.set_cons_succ, List.set_cons_zero]
 have e2 := append_ok (h := bld t (.ptr (t.length + 1) 0) acc l) (ri := t.length) (acc := acc) hw (by rw [bld, app_at0]; rfl) hs
 rw [D_own (F := A99) rfl rfl rfl rfl]
 simp only [bld, app_set0, List.set_cons_zero] at e1 e2
 have hsz : (acc ++ encB w).size = acc.size + (encB w).size := ByteArray.size_append
 have hlt : t.length < t.length + (l.length + 2) := by omega
 have hlt2 : t.length < t.length + 1 + 1 := by omega
 have tk : ∀ a b : Res, (t ++ a :: b :: l).take (t.length + (l.length + 1 + 1)) = t ++ a :: b :: l := fun a b => List.take_of_length_le (by simp)
 simp -implicitDefEqProofs only [A99, B99, sS, reduceCtorEq, seval, bld, e1, e2, app_at, app_at0, app_set, putCells, hlt, hlt2, tk, strCells_len]
theorem nums_ok (s : ByteArray) : numsOf (strCells s) = some (s.data.toList.map fun b => (b.toNat : Int)) := by
 unfold strCells
 generalize s.data.toList = l
 induction l with
 | nil => rfl
 | cons x l ih => simp only [numsOf, List.map_cons, List.mapM_cons] at ih ⊢; rw [ih]; rfl
theorem strOf_ok (s : ByteArray) : strOfNums (s.data.toList.map fun b => (b.toNat : Int)) = s := by
 unfold strOfNums
 rw [List.map_map]
 have : (s.data.toList.map ((fun n : Int => UInt8.ofNat n.toNat) ∘ fun b => (b.toNat : Int))) = s.data.toList := by
  conv => rhs; rw [← List.map_id s.data.toList]
  refine List.map_congr_left fun x _ => ?_
  simp
 rw [this]
theorem nums_in (s : ByteArray) : (s.data.toList.all fun b => decide ((b.toNat : Int) < 256)) = true := by
 rw [List.all_eq_true]
 intro x _
 have := x.toNat_lt
 simp
 omega
theorem string_ok {t l : List Res} {x : DV} {acc : ByteArray} (hne : acc.size ≠ 0) (hs : acc.size ≤ 140737488355328) :
  D env 43 [.ptr (t.length + 1) 0] (bld t x acc l) = some (.val (.d (.str acc)) (t ++ .dead :: .box [x, .row 1 (strCells acc) t.length] 86 :: l)) := by
 rw [D_own (F := A43) rfl rfl rfl rfl]
 have e1 : rr 1 acc.size 5 = .row 1 acc.size 5 := by simp [rr, hne]
 have e2 : 0 < acc.size := by omega
 have e3 : strCells acc ≠ [] := by
  intro h
  have := strCells_len acc
  rw [h] at this
  exact hne this.symm
 have e4 : acc.size ≤ 9223372036854775807 := by omega
 have tk : ∀ a b : Res, (t ++ a :: b :: l).take (t.length + (l.length + 1 + 1)) = t ++ a :: b :: l := fun a b => List.take_of_length_le (by simp)
 simp -implicitDefEqProofs only [A43, B43, sS, reduceCtorEq, seval, bld, e1, e2, e3, e4, nums_ok, strOf_ok, nums_in, strCells_len, app_at, app_at0, app_set0, tk]
end Go.Proofs.YtpemlmhggiaflaaGreatDoor.Codes
namespace Go.Proofs.YtpemlmhggiaflaaGreatDoor.Codes
open Go Go.Deepv
def two (h : List Res) (id tid : Nat) (r t : Res) : List Res := (h.set id r).set tid t
structure Two (h : List Res) (id tid : Nat) : Prop where
 l1 : id < h.length
 l2 : tid < h.length
 ne : id ≠ tid
section
variable {h : List Res} {id tid : Nat} {r t : Res}
theorem two_len : (two h id tid r t).length = h.length := by simp [two]
theorem two_id (w : Two h id tid) (l : List Res) : (two h id tid r t ++ l)[id]? = some r := by
 rw [List.getElem?_append_left (by rw [two_len]; exact w.l1), two, List.getElem?_set_ne (Ne.symm w.ne), List.getElem?_set_self w.l1]
theorem two_tid (w : Two h id tid) (l : List Res) : (two h id tid r t ++ l)[tid]? = some t := by
 rw [List.getElem?_append_left (by rw [two_len]; exact w.l2), two, List.getElem?_set_self (by simpa using w.l2)]
theorem two_setid (w : Two h id tid) (l : List Res) (x : Res) : (two h id tid r t ++ l).set id x = two h id tid x t ++ l := by
 rw [List.set_append_left _ _ (by rw [two_len]; exact w.l1), two, two, List.set_comm _ _ (Ne.symm w.ne), List.set_set]
theorem two_settid (w : Two h id tid) (l : List Res) (x : Res) : (two h id tid r t ++ l).set tid x = two h id tid r x ++ l := by
 rw [List.set_append_left _ _ (by rw [two_len]; exact w.l2), two, two, List.set_set]
theorem two_at (l : List Res) (i : Nat) : (two h id tid r t ++ l)[h.length + i]? = l[i]? := by
 have := app_at (two h id tid r t) l i
 rwa [two_len] at this
theorem two_at0 (l : List Res) : (two h id tid r t ++ l)[h.length]? = l[0]? := two_at l 0
theorem two_set (l : List Res) (i : Nat) (x : Res) : (two h id tid r t ++ l).set (h.length + i) x = two h id tid r t ++ l.set i x := by
 have := app_set (two h id tid r t) l i x
 rwa [two_len] at this
theorem two_set0 (l : List Res) (x : Res) : (two h id tid r t ++ l).set h.length x = two h id tid r t ++ l.set 0 x := two_set l 0 x
theorem two_take (l : List Res) (i : Nat) : (two h id tid r t ++ l).take (h.length + i) = two h id tid r t ++ l.take i := by
 have := take_appk (two h id tid r t) l i
 rwa [two_len] at this
theorem two_take0 (l : List Res) : (two h id tid r t ++ l).take h.length = two h id tid r t := by
 have := two_take (h := h) (id := id) (tid := tid) (r := r) (t := t) l 0
 simpa using this
theorem two_nil : two h id tid r t = two h id tid r t ++ [] := by simp
theorem two_self (h1 : h[id]? = some r) (h2 : h[tid]? = some t) : two h id tid r t = h := by
 rw [two, set_self h1, set_self h2]
end
def tk (kind : Int) (text : ByteArray) (num : Int) (b : DV) (l c : Int) : Res := .box [.d (.int .i64 kind), .d (.str text), .d (.int .i64 num), b, .d (.int .i64 l), .d (.int .i64 c)]
def textR (l : List Rn) : ByteArray := l.foldl (fun a x => a ++ encB x.r) ⟨#[]⟩
theorem textR_snoc (l : List Rn) (x : Rn) : textR (l ++ [x]) = textR l ++ encB x.r := by simp [textR]
theorem textR_size (l : List Rn) : l.length ≤ (textR l).size ∧ (textR l).size ≤ 4 * l.length := by
 suffices h : ∀ (l : List Rn) (a : ByteArray), a.size + l.length ≤ (l.foldl (fun a x => a ++ encB x.r) a).size ∧ (l.foldl (fun a x => a ++ encB x.r) a).size ≤ a.size + 4 * l.length by
  have := h l ⟨#[]⟩
  have z : (⟨#[]⟩ : ByteArray).size = 0 := rfl
  rw [z] at this
  unfold textR
  omega
 intro l
 induction l with
 | nil => intro a; simp
 | cons x l ih =>
  intro a
  have h1 := ih (a ++ encB x.r)
  have h2 := encI_pos x.r
  have h3 := encL_le x.r.toNat
  rw [ByteArray.size_append, encB_size] at h1
  have h4 : (encI x.r).length ≤ 4 := h3
  simp only [List.foldl_cons, List.length_cons]
  omega
def nameKind (txt : ByteArray) (r : Int) : Int := if isWord txt then 5 else if rUp r then 2 else 1
def nameLP (n0 : Nat) (st : LSt) : Res := .loop [18] N72R0 B72R0 ([.d .undef, .d .undef, .d .undef, .d .undef, .ptr (n0 + 1) 0, .ptr (n0 + 2) 0] ++ List.replicate 37 (.d .undef)) st
theorem name_round {T : List Res} {x : DV} {acc : ByteArray} {w : Int} {n id : Nat} (hw : rScal w = true) (hx : x = .d .nilp ∨ x = .ptr (T.length + 1) 0) (hs : acc.size ≤ 1000000) (hn : n ≤ 1000000) :
  Y env (T.length + 3 + 2) [.d (.int .i32 w)] (T ++ [rr 1 acc.size 5, .box [x, .row 1 (strCells acc) T.length] 86, .box [.d (.int .i64 n)]] ++ [.box [.ptr id 0], .box [.d (.func (.func 98) [] [])], nameLP T.length .ready]) =
   some (.val (.d (.bool true)) (T ++ [rr 1 (acc ++ encB w).size 5, .box [.ptr (T.length + 1) 0, .row 1 (strCells (acc ++ encB w)) T.length] 86, .box [.d (.int .i64 (n + 1 : Nat))]] ++ [.box [.ptr id 0], .box [.d (.func (.func 98) [] [])], nameLP T.length .ready])) := by
 have e1 := fun l => writeRune_ok (t := T) (l := l) (acc := acc) hw hx hs
 simp only [bld] at e1
 have w1 : IntKind.i64.wrap ((n : Int) + 1) = ((n + 1 : Nat) : Int) := by rw [wrap_i64 (by omega) (by omega)]; simp
 rw [Y_eq]
 simp -implicitDefEqProofs only [dyield, setAll, markLoop, endLoop, List.zip_cons_cons, List.zip_nil_right, List.foldl_cons, List.foldl_nil, nameLP, N72R0, B72R0, sS, reduceCtorEq, seval, app_at, app_at0, app_set, app_set0, take_appk, Nat.add_assoc, e1, w1, putCells]
end Go.Proofs.YtpemlmhggiaflaaGreatDoor.Codes
namespace Go.Proofs.YtpemlmhggiaflaaGreatDoor.Codes
open Go Go.Deepv
section
variable {h : List Res} {id tid : Nat} {r t : Res}
theorem two_id' (w : Two h id tid) : (two h id tid r t)[id]? = some r := by
 have := two_id (r := r) (t := t) w []
 simpa using this
theorem two_tid' (w : Two h id tid) : (two h id tid r t)[tid]? = some t := by
 have := two_tid (r := r) (t := t) w []
 simpa using this
theorem two_setid' (w : Two h id tid) (x : Res) : (two h id tid r t).set id x = two h id tid x t := by
 have := two_setid (r := r) (t := t) w [] x
 simpa using this
theorem two_settid' (w : Two h id tid) (x : Res) : (two h id tid r t).set tid x = two h id tid r x := by
 have := two_settid (r := r) (t := t) w [] x
 simpa using this
end
def nameTs (h : List Res) (id tid : Nat) (rs : List Rn) (k : Nat) (e l c : Int) (T0 : Res) (i : Nat) : List Res :=
 two h id tid (rd rs (k + i) e l c) T0 ++ [rr 1 (textR ((rs.drop k).take i)).size 5, .box [if i = 0 then .d .nilp else .ptr (h.length + 1) 0, .row 1 (strCells (textR ((rs.drop k).take i))) h.length] 86, .box [.d (.int .i64 i)]]
theorem name_range {h : List Res} {id tid : Nat} {rs : List Rn} {k : Nat} {e l c : Int} {T0 : Res} (W : Two h id tid) (hsz : rs.length ≤ 100000) (hk : k ≤ rs.length) (hsc : ∀ x ∈ rs, rScal x.r = true) :
  D env 96 [.yld (h.length + 3 + 2), .ptr (h.length + 3) 0, .ptr (h.length + 3 + 1) 0] (nameTs h id tid rs k e l c T0 0 ++ [.box [.ptr id 0], .box [.d (.func (.func 98) [] [])], nameLP h.length .ready]) =
   some (.val (.d (.tup [])) (nameTs h id tid rs k e l c T0 (cnt rPart (rs.drop k)) ++ [.box [.ptr id 0], .box [.d (.func (.func 98) [] [])], nameLP h.length .ready])) := by
 have hc := cnt_drop rPart rs k
 have hm := cnt_le rPart (rs.drop k)
 rw [List.length_drop] at hm
 refine rtake (cf := 98) (id := id) (e := e) (l := l) (c := c) (n0 := h.length + 3) (k := k) (m := cnt rPart (rs.drop k)) (Ts := nameTs h id tid rs k e l c T0) (by omega) (fun r t => part_ok r t) (fun i => two_id W _) (fun i => by simp [nameTs, two_len]) hc.1 hc.2 (fun i hi => ?_)
 obtain ⟨h1, h2⟩ := hc.1 i hi
 generalize hx : rs.getD (k + i) ⟨0, 0, 0, 0⟩ = x at *
 have hmem : x ∈ rs := List.mem_of_getElem? h1
 have htk : (rs.drop k).take (i + 1) = (rs.drop k).take i ++ [x] := by
  rw [List.take_add_one, List.getElem?_drop, h1]
  rfl
 have hsize := textR_size ((rs.drop k).take i)
 have hlen : ((rs.drop k).take i).length ≤ rs.length := by simp; omega
 have hr := name_round (T := two h id tid (rd rs (k + i + 1) e l c) T0) (x := if i = 0 then .d .nilp else .ptr (h.length + 1) 0) (acc := textR ((rs.drop k).take i)) (w := x.r) (n := i) (id := id) (hsc x hmem) (by
  rw [two_len]
  split
  ·exact .inl rfl
  ·exact .inr rfl) (by omega) (by omega)
 rw [two_len] at hr
 unfold nameTs
 rw [two_setid W, htk, textR_snoc]
 simpa [Nat.add_assoc] using hr
theorem name_ok {h : List Res} {id tid : Nat} {rs : List Rn} {k : Nat} {l c kind num tl tc : Int} {text : ByteArray} {b : DV} (W : Two h id tid) (hsz : rs.length ≤ 100000) (hk : k ≤ rs.length) (hsc : ∀ x ∈ rs, rScal x.r = true) (hm1 : 1 ≤ cnt rPart (rs.drop k)) :
  D env 72 [.ptr id 0, .ptr tid 0] (two h id tid (rd rs k 0 l c) (tk kind text num b tl tc)) =
   some (.val (.d (.tup [])) (two h id tid (if 24 < cnt rPart (rs.drop k) then rd rs (k + cnt rPart (rs.drop k)) 5 tl tc else rd rs (k + cnt rPart (rs.drop k)) 0 l c)
    (tk (nameKind (textR ((rs.drop k).take (cnt rPart (rs.drop k)))) (peekR rs k)) (textR ((rs.drop k).take (cnt rPart (rs.drop k)))) num b tl tc))) := by
 have hid : ∀ t, (two h id tid (rd rs k 0 l c) t)[id]? = some (rd rs k 0 l c) := fun t => two_id' W
 have e61 := fun t => peek_ok (hid t) 0 (by omega)
 have z0 : ((0 : Nat) : Int) = 0 := rfl
 rw [Nat.add_zero, z0] at e61
 have e46 := fun h => up_ok (peekR rs k) h
 have nr := fun T0 => name_range (e := 0) (l := l) (c := c) (T0 := T0) W hsz hk hsc
 have hm := cnt_le rPart (rs.drop k)
 rw [List.length_drop] at hm
 have hsize := textR_size ((rs.drop k).take (cnt rPart (rs.drop k)))
 have hlen : ((rs.drop k).take (cnt rPart (rs.drop k))).length = cnt rPart (rs.drop k) := by simp; omega
 rw [hlen] at hsize
 generalize cnt rPart (rs.drop k) = m at *
 have hm0 : ¬ m = 0 := by omega
 have hm0' : (m == 0) = false := by simpa using hm0
 have e28 := fun t l' => string_ok (t := two h id tid (rd rs (k + m) 0 l c) t) (l := l') (x := .ptr (h.length + 1) 0) (acc := textR ((rs.drop k).take m)) (by omega) (by omega)
 have e59 := fun t L => take_ok (id := id) (h := two h id tid (rd rs k 0 l c) t ++ L) (by rw [List.length_append, two_len]; have := W.l1; omega) 98
 have e18 := fun h => word_ok (textR ((rs.drop k).take m)) h
 have e35 := fun t L => fail_ok (h := two h id tid (rd rs (k + m) 0 l c) t ++ L) (two_id W L) 5 tl tc
 have hl0 : (rs.drop k).take 0 = [] := rfl
 have ht0 : textR [] = ⟨#[]⟩ := rfl
 have hr0 : rr 1 (⟨#[]⟩ : ByteArray).size 5 = .nilrow := rfl
 simp only [nameTs, nameLP, List.replicate, List.cons_append, List.nil_append, Nat.add_assoc, Nat.reduceAdd, hl0, ht0, hr0, cells_nil, if_true, hm0, if_false, Nat.add_zero, z0, List.append_assoc] at nr
 simp only [bld, two_len] at e28
 simp only [two_len, List.length_append, List.append_assoc] at e59
 simp only [if_true, two_setid W] at e35
 simp only [tk, rd] at *
 generalize textR ((rs.drop k).take m) = txt at *
 rw [D_own (F := A72) rfl rfl rfl rfl]
 unfold nameKind
 by_cases h24 : 24 < m
 ·have g24 : (24 : Int) < m := by omega
  rw [if_pos h24]
  cases hu : rUp (peekR rs k) <;> cases hw : isWord txt <;> rw [hu] at e46 <;> rw [hw] at e18 <;>
   simp -implicitDefEqProofs only [A72, B72, sS, reduceCtorEq, seval, two_len, two_id W, two_tid W, two_id' W, two_tid' W, two_setid W, two_settid W, two_setid' W, two_settid' W, two_at, two_at0, two_set, two_set0, two_take, two_take0, e61, e46, e59, nr, e28, e35, e18, g24, putCells, Nat.add_assoc]
 ·have g24 : ¬ (24 : Int) < m := by omega
  rw [if_neg h24]
  cases hu : rUp (peekR rs k) <;> cases hw : isWord txt <;> rw [hu] at e46 <;> rw [hw] at e18 <;>
   simp -implicitDefEqProofs only [A72, B72, sS, reduceCtorEq, seval, two_len, two_id W, two_tid W, two_id' W, two_tid' W, two_setid W, two_settid W, two_setid' W, two_settid' W, two_at, two_at0, two_set, two_set0, two_take, two_take0, e61, e46, e59, nr, e28, e35, e18, g24, putCells, Nat.add_assoc]
end Go.Proofs.YtpemlmhggiaflaaGreatDoor.Codes
namespace Go.Proofs.YtpemlmhggiaflaaGreatDoor.Codes
open Go Go.Deepv
def mostN : Int := 4611686018427387903
def numStep (s : Bool × Int) (r : Int) : Bool × Int := if s.1 then s else if mostN < s.2 * 10 + (r - 48) then (true, s.2) else (false, s.2 * 10 + (r - 48))
def numF (l : List Rn) : Bool × Int := l.foldl (fun s x => numStep s x.r) (false, 0)
theorem numF_snoc (l : List Rn) (x : Rn) : numF (l ++ [x]) = numStep (numF l) x.r := by simp [numF]
theorem numStep_in {s : Bool × Int} {r : Int} (h0 : 0 ≤ s.2) (h1 : s.2 ≤ mostN) (h2 : 48 ≤ r) : 0 ≤ (numStep s r).2 ∧ (numStep s r).2 ≤ mostN := by
 unfold numStep
 split
 ·exact ⟨h0, h1⟩
 ·split
  ·exact ⟨h0, h1⟩
  ·simp only
   omega
theorem numF_in (l : List Rn) (hd : ∀ x ∈ l, rDig x.r = true) : 0 ≤ (numF l).2 ∧ (numF l).2 ≤ mostN := by
 suffices h : ∀ (l : List Rn) (s : Bool × Int), (∀ x ∈ l, rDig x.r = true) → 0 ≤ s.2 → s.2 ≤ mostN → 0 ≤ (l.foldl (fun s x => numStep s x.r) s).2 ∧ (l.foldl (fun s x => numStep s x.r) s).2 ≤ mostN by
  exact h l (false, 0) hd (by simp) (by simp [mostN])
 intro l
 induction l with
 | nil => intro s _ h0 h1; exact ⟨h0, h1⟩
 | cons x l ih =>
  intro s hd h0 h1
  have hx := hd x List.mem_cons_self
  simp only [rDig, Bool.and_eq_true, decide_eq_true_eq] at hx
  have := numStep_in (r := x.r) h0 h1 hx.1
  exact ih _ (fun y hy => hd y (List.mem_cons_of_mem _ hy)) this.1 this.2
def numLP (n0 : Nat) (st : LSt) : Res := .loop [12] N74R0 B74R0 ([.d .undef, .d .undef, .d .undef, .ptr n0 0, .ptr (n0 + 1) 0] ++ List.replicate 41 (.d .undef)) st
theorem num_round {h : List Res} {id tid : Nat} {R : Res} {text : ByteArray} {b : DV} {v r tl tc : Int} {g : Bool} (W : Two h id tid) (hr : rDig r = true) (h0 : 0 ≤ v) (h1 : v ≤ mostN) :
  Y env (h.length + 2 + 2) [.d (.int .i32 r)] (two h id tid R (tk 3 text v b tl tc) ++ [.box [.ptr tid 0], .box [.d (.bool g)]] ++ [.box [.ptr id 0], .box [.d (.func (.func 73) [] [])], numLP h.length .ready]) =
   some (.val (.d (.bool true)) (two h id tid R (tk 3 text (numStep (g, v) r).2 b tl tc) ++ [.box [.ptr tid 0], .box [.d (.bool (numStep (g, v) r).1)]] ++ [.box [.ptr id 0], .box [.d (.func (.func 73) [] [])], numLP h.length .ready])) := by
 simp only [rDig, Bool.and_eq_true, decide_eq_true_eq] at hr
 unfold mostN at h1
 have w1 : IntKind.i32.wrap (r - 48) = r - 48 := wrap_i32 (by omega) (by omega)
 have w2 : IntKind.i64.wrap (r - 48) = r - 48 := wrap_i64 (by omega) (by omega)
 have w3 : IntKind.i64.wrap (4611686018427387903 - (r - 48)) = 4611686018427387903 - (r - 48) := wrap_i64 (by omega) (by omega)
 have w4 : (4611686018427387903 - (r - 48)).tdiv 10 = (4611686018427387903 - (r - 48)) / 10 := Int.tdiv_eq_ediv_of_nonneg (by omega)
 have w5 : IntKind.i64.wrap ((4611686018427387903 - (r - 48)) / 10) = (4611686018427387903 - (r - 48)) / 10 := wrap_i64 (by omega) (by omega)
 have ten : (10 : Int) = 0 ↔ False := by simp
 rw [Y_eq]
 unfold numStep mostN
 cases g with
 | true =>
  simp -implicitDefEqProofs only [dyield, setAll, markLoop, endLoop, List.zip_cons_cons, List.zip_nil_right, List.foldl_cons, List.foldl_nil, numLP, N74R0, B74R0, tk, sS, reduceCtorEq, seval, two_len, two_id W, two_tid W, two_setid W, two_settid W, two_at, two_at0, two_set, two_set0, two_take, two_take0, Nat.add_assoc, w1, w2, w3, w4, w5, ten, putCells]
 | false =>
  by_cases hg : 4611686018427387903 < v * 10 + (r - 48)
  ·have g1 : (4611686018427387903 - (r - 48)) / 10 < v := by omega
   rw [if_neg (by simp), if_pos hg]
   simp -implicitDefEqProofs only [dyield, setAll, markLoop, endLoop, List.zip_cons_cons, List.zip_nil_right, List.foldl_cons, List.foldl_nil, numLP, N74R0, B74R0, tk, sS, reduceCtorEq, seval, two_len, two_id W, two_tid W, two_setid W, two_settid W, two_at, two_at0, two_set, two_set0, two_take, two_take0, Nat.add_assoc, w1, w2, w3, w4, w5, ten, g1, putCells]
  ·have g1 : ¬ (4611686018427387903 - (r - 48)) / 10 < v := by omega
   have w6 : IntKind.i64.wrap (v * 10) = v * 10 := wrap_i64 (by omega) (by omega)
   have w7 : IntKind.i64.wrap (v * 10 + (r - 48)) = v * 10 + (r - 48) := wrap_i64 (by omega) (by omega)
   rw [if_neg (by simp), if_neg hg]
   simp -implicitDefEqProofs only [dyield, setAll, markLoop, endLoop, List.zip_cons_cons, List.zip_nil_right, List.foldl_cons, List.foldl_nil, numLP, N74R0, B74R0, tk, sS, reduceCtorEq, seval, two_len, two_id W, two_tid W, two_setid W, two_settid W, two_at, two_at0, two_set, two_set0, two_take, two_take0, Nat.add_assoc, w1, w2, w3, w4, w5, w6, w7, ten, g1, putCells]
def numTs (h : List Res) (id tid : Nat) (rs : List Rn) (k : Nat) (e l c : Int) (text : ByteArray) (b : DV) (tl tc : Int) (i : Nat) : List Res :=
 two h id tid (rd rs (k + i) e l c) (tk 3 text (numF ((rs.drop k).take i)).2 b tl tc) ++ [.box [.ptr tid 0], .box [.d (.bool (numF ((rs.drop k).take i)).1)]]
theorem num_range {h : List Res} {id tid : Nat} {rs : List Rn} {k : Nat} {e l c tl tc : Int} {text : ByteArray} {b : DV} (W : Two h id tid) (hsz : rs.length ≤ 100000) (hk : k ≤ rs.length) :
  D env 96 [.yld (h.length + 2 + 2), .ptr (h.length + 2) 0, .ptr (h.length + 2 + 1) 0] (numTs h id tid rs k e l c text b tl tc 0 ++ [.box [.ptr id 0], .box [.d (.func (.func 73) [] [])], numLP h.length .ready]) =
   some (.val (.d (.tup [])) (numTs h id tid rs k e l c text b tl tc (cnt rDig (rs.drop k)) ++ [.box [.ptr id 0], .box [.d (.func (.func 73) [] [])], numLP h.length .ready])) := by
 have hc := cnt_drop rDig rs k
 have hm := cnt_le rDig (rs.drop k)
 rw [List.length_drop] at hm
 refine rtake (cf := 73) (id := id) (e := e) (l := l) (c := c) (n0 := h.length + 2) (k := k) (m := cnt rDig (rs.drop k)) (Ts := numTs h id tid rs k e l c text b tl tc) (by omega) (fun r t => digit_ok r t) (fun i => two_id W _) (fun i => by simp [numTs, two_len]) hc.1 hc.2 (fun i hi => ?_)
 obtain ⟨h1, h2⟩ := hc.1 i hi
 have hall : ∀ x ∈ (rs.drop k).take i, rDig x.r = true := fun x hx => by
  obtain ⟨j, hj⟩ := List.getElem?_of_mem hx
  rw [List.getElem?_take] at hj
  split at hj
  ·obtain ⟨y, y1, y2⟩ := cnt_at rDig _ j (show j < cnt rDig (rs.drop k) by omega)
   rw [hj] at y1
   exact (Option.some.inj y1) ▸ y2
  ·cases hj
 generalize hx : rs.getD (k + i) ⟨0, 0, 0, 0⟩ = x at *
 have htk : (rs.drop k).take (i + 1) = (rs.drop k).take i ++ [x] := by
  rw [List.take_add_one, List.getElem?_drop, h1]
  rfl
 have hin := numF_in _ hall
 have hr := num_round (R := rd rs (k + i + 1) e l c) (text := text) (b := b) (tl := tl) (tc := tc) (g := (numF ((rs.drop k).take i)).1) (v := (numF ((rs.drop k).take i)).2) W h2 hin.1 hin.2
 unfold numTs
 rw [two_setid W, htk, numF_snoc]
 simpa [Nat.add_assoc] using hr
theorem number_ok {h : List Res} {id tid : Nat} {rs : List Rn} {k : Nat} {l c kind tl tc : Int} {text : ByteArray} {b : DV} (W : Two h id tid) (hsz : rs.length ≤ 100000) (hk : k ≤ rs.length) :
  D env 74 [.ptr id 0, .ptr tid 0] (two h id tid (rd rs k 0 l c) (tk kind text 0 b tl tc)) =
   some (.val (.d (.tup [])) (two h id tid (if (numF ((rs.drop k).take (cnt rDig (rs.drop k)))).1 then rd rs (k + cnt rDig (rs.drop k)) 3 tl tc else rd rs (k + cnt rDig (rs.drop k)) 0 l c)
    (tk 3 text (numF ((rs.drop k).take (cnt rDig (rs.drop k)))).2 b tl tc))) := by
 have nr := num_range (e := 0) (l := l) (c := c) (text := text) (b := b) (tl := tl) (tc := tc) W hsz hk
 generalize cnt rDig (rs.drop k) = m at *
 have z0 : ((0 : Nat) : Int) = 0 := rfl
 have e59 := fun t L => take_ok (id := id) (h := two h id tid (rd rs k 0 l c) t ++ L) (by rw [List.length_append, two_len]; have := W.l1; omega) 73
 have e35 := fun t L => fail_ok (h := two h id tid (rd rs (k + m) 0 l c) t ++ L) (two_id W L) 3 tl tc
 have hl0 : (rs.drop k).take 0 = [] := rfl
 have hn0 : numF [] = (false, 0) := rfl
 have wt := W.l2
 have wt2 : tid < h.length + 1 := by omega
 simp only [numTs, numLP, List.replicate, List.cons_append, List.nil_append, Nat.add_assoc, Nat.reduceAdd, hl0, hn0, Nat.add_zero, z0, List.append_assoc] at nr
 simp only [two_len, List.length_append, List.append_assoc] at e59
 simp only [if_true, two_setid W] at e35
 simp only [tk, rd] at *
 generalize numF ((rs.drop k).take m) = q at *
 rcases q with ⟨g, v⟩
 rw [D_own (F := A74) rfl rfl rfl rfl]
 cases g <;>
  simp -implicitDefEqProofs only [A74, B74, sS, reduceCtorEq, seval, two_len, two_id W, two_tid W, two_id' W, two_tid' W, two_setid W, two_settid W, two_setid' W, two_settid' W, two_at, two_at0, two_set, two_set0, two_take, two_take0, e59, nr, e35, wt, wt2, putCells, Nat.add_assoc]
end Go.Proofs.YtpemlmhggiaflaaGreatDoor.Codes
namespace Go.Proofs.YtpemlmhggiaflaaGreatDoor.Codes
open Go Go.Deepv
def hexes : ByteArray := ⟨#[48, 49, 50, 51, 52, 53, 54, 55, 56, 57, 97, 98, 99, 100, 101, 102]⟩
theorem indexByte_ok (s : ByteArray) (c : Int) (h : List Res) : D env 103 [.d (.str s), .d (.int .u8 c)] h = some (.val (.d (.int .i64 (Lib.indexByte s.data.toList c.toNat.toUInt8))) h) := by
 have e97 : ∀ h, D env 125 [.d (.str s), .d (.int .u8 c)] h = some (.val (.d (.int .i64 (Lib.indexByte s.data.toList c.toNat.toUInt8))) h) := fun h => by
  rw [D_dat (F := A125) rfl rfl rfl rfl]
  simp -implicitDefEqProofs only [A125, B125, sS, reduceCtorEq, seval]
 rw [D_dat (F := A103) rfl rfl rfl rfl]
 simp -implicitDefEqProofs only [A103, B103, sS, reduceCtorEq, seval, e97]
theorem hexes_at : ∀ x : Fin 128, Lib.indexByte hexes.data.toList ((x.val : Nat) : Int).toNat.toUInt8 = hexOf ((x.val : Nat) : Int) := by decide
theorem hexes_dec : ∀ x : Fin 16, Utf8.decode hexes x.val = ((hexes.data.toList.getD x.val 0).toNat, 1) ∧ (hexes.data.toList.getD x.val 0).toNat < 128 := by decide
theorem hexes_size : hexes.size = 16 := rfl
def st96 (pos : Nat) : List DV := List.replicate 175 (.d .undef) ++ [.ptr 0 0] ++ List.replicate 11 (.d .undef)
theorem loop96 : ∀ (n pos : Nat), pos + n = 16 → ∃ I, L env 1 true H124L38 X124L38 B124L38 (st96 pos) [.iter hexes pos] = some (.exit 9, List.replicate 187 (.d .undef), [I]) := by
 obtain ⟨K, hK⟩ : ∃ K, L env 1 true H124L38 X124L38 B124L38 = K := ⟨_, rfl⟩
 rw [hK]
 intro n
 induction n with
 | zero =>
  intro pos hp
  refine ⟨.iter hexes pos, ?_⟩
  have h1 : ¬ pos < hexes.size := by rw [hexes_size]; omega
  rw [L_round hK]
  simp -implicitDefEqProofs only [B124L38, st96, sS, reduceCtorEq, seval, h1]
 | succ n ih =>
  intro pos hp
  obtain ⟨I, ih⟩ := ih (pos + 1) (by omega)
  refine ⟨I, ?_⟩
  have h1 : pos < hexes.size := by rw [hexes_size]; omega
  have hd := hexes_dec ⟨pos, by omega⟩
  simp only at hd
  have d1 : (Utf8.decode hexes pos).1 = (hexes.data.toList.getD pos 0).toNat := by rw [hd.1]
  have d2 : (Utf8.decode hexes pos).2 = 1 := by rw [hd.1]
  have hlt := hd.2
  generalize (hexes.data.toList.getD pos 0).toNat = r at *
  have hne : ((r : Int) == 65533) = false := by simp; omega
  simp only [st96, List.replicate, List.cons_append, List.nil_append] at ih
  rw [L_round hK]
  simp -implicitDefEqProofs only [B124L38, st96, sS, reduceCtorEq, seval, h1, d1, d2, hne, ih]
theorem enc_last {c : Nat} (h : Utf8.valid (c : Int) = true) (h0 : 128 ≤ c) : ∃ n, 2 ≤ n ∧ n ≤ 4 ∧ (Utf8.encode (c : Int)).size = n ∧ (Utf8.encode (c : Int))[n - 1]? = some (UInt8.ofNat (128 + c % 64)) := by
 have he := encode_encL h
 generalize Utf8.encode (c : Int) = E at *
 have hs : E.size = (encL c).length := by rw [← he]; exact Array.length_toList.symm
 have hg : ∀ k, E[k]? = (encL c)[k]? := fun k => by
  have := ba_get E 0 k
  rw [he, Nat.zero_add] at this
  exact this
 rw [hs]
 refine ⟨(encL c).length, ?_⟩
 rw [hg]
 unfold encL
 rw [if_neg (by omega)]
 split
 ·simp
 ·split <;> simp
theorem extr1 : ∀ x : Fin 128, Lib.indexByte (hexes.extract 2 16).data.toList (((128 + x.val : Nat) : Int).toNat.toUInt8) = -1 := by decide
theorem extr2 : ∀ x : Fin 128, Lib.indexByte (hexes.extract 3 16).data.toList (((128 + x.val : Nat) : Int).toNat.toUInt8) = -1 := by decide
theorem extr3 : ∀ x : Fin 128, Lib.indexByte (hexes.extract 4 16).data.toList (((128 + x.val : Nat) : Int).toNat.toUInt8) = -1 := by decide
def st96b (E : ByteArray) (m : Int) (r : Int) : List DV := [.d (.str hexes), .d .undef, .d .undef, .d .undef, .d .undef, .d .undef, .d .undef, .d (.str E), .d (.int .i64 m), .d (.int .i64 m)] ++ List.replicate 177 (.d .undef)
def ex96b : List DV := [.d .undef, .d .undef, .d .undef, .d .undef, .d (.int .i64 (-1))] ++ List.replicate 182 (.d .undef)
theorem round96_1 (E : ByteArray) (r : Int) {x : Fin 64} (h1 : E[1]? = some (UInt8.ofNat (128 + x.val))) : L env 0 true H124L5 X124L5 B124L5 (st96b E 1 r) [] = some (.ret, ex96b, []) := by
 obtain ⟨K, hK⟩ : ∃ K, L env 0 true H124L5 X124L5 B124L5 = K := ⟨_, rfl⟩
 have hb : (UInt8.ofNat (128 + x.val)).toNat = 128 + x.val := ofNat_toNat (by omega)
 have e87 := fun h => indexByte_ok (hexes.extract 2 hexes.size) ((128 + x.val : Nat) : Int) h
 rw [hexes_size, extr1 ⟨x.val, by omega⟩] at e87
 have hat : hexes[1]? = some 49 := rfl
 have hbb : (49 : UInt8).toNat = 49 := rfl
 have hne : ((49 : Int) != ((128 + x.val : Nat) : Int)) = true := by simp; omega
 have w1 : IntKind.i64.wrap (1 + 1) = 2 := rfl
 have w2 : IntKind.i64.wrap 2 = 2 := rfl
 have z16 : ((16 : Nat) : Int) = 16 := rfl
 have zb : (((49 : Nat)) : Int) = 49 := rfl
 rw [hK, L_round hK]
 simp -implicitDefEqProofs only [B124L5, st96b, ex96b, sS, reduceCtorEq, seval, hexes_size, z16, hat, hbb, zb, h1, hb, hne, w1, w2, e87]
theorem round96_2 (E : ByteArray) (r : Int) {x : Fin 64} (h1 : E[2]? = some (UInt8.ofNat (128 + x.val))) : L env 0 true H124L5 X124L5 B124L5 (st96b E 2 r) [] = some (.ret, ex96b, []) := by
 obtain ⟨K, hK⟩ : ∃ K, L env 0 true H124L5 X124L5 B124L5 = K := ⟨_, rfl⟩
 have hb : (UInt8.ofNat (128 + x.val)).toNat = 128 + x.val := ofNat_toNat (by omega)
 have e87 := fun h => indexByte_ok (hexes.extract 3 hexes.size) ((128 + x.val : Nat) : Int) h
 rw [hexes_size, extr2 ⟨x.val, by omega⟩] at e87
 have hat : hexes[2]? = some 50 := rfl
 have hbb : (50 : UInt8).toNat = 50 := rfl
 have hne : ((50 : Int) != ((128 + x.val : Nat) : Int)) = true := by simp; omega
 have w1 : IntKind.i64.wrap (2 + 1) = 3 := rfl
 have w2 : IntKind.i64.wrap 3 = 3 := rfl
 have z16 : ((16 : Nat) : Int) = 16 := rfl
 have zb : (((50 : Nat)) : Int) = 50 := rfl
 rw [hK, L_round hK]
 simp -implicitDefEqProofs only [B124L5, st96b, ex96b, sS, reduceCtorEq, seval, hexes_size, z16, hat, hbb, zb, h1, hb, hne, w1, w2, e87]
theorem round96_3 (E : ByteArray) (r : Int) {x : Fin 64} (h1 : E[3]? = some (UInt8.ofNat (128 + x.val))) : L env 0 true H124L5 X124L5 B124L5 (st96b E 3 r) [] = some (.ret, ex96b, []) := by
 obtain ⟨K, hK⟩ : ∃ K, L env 0 true H124L5 X124L5 B124L5 = K := ⟨_, rfl⟩
 have hb : (UInt8.ofNat (128 + x.val)).toNat = 128 + x.val := ofNat_toNat (by omega)
 have e87 := fun h => indexByte_ok (hexes.extract 4 hexes.size) ((128 + x.val : Nat) : Int) h
 rw [hexes_size, extr3 ⟨x.val, by omega⟩] at e87
 have hat : hexes[3]? = some 51 := rfl
 have hbb : (51 : UInt8).toNat = 51 := rfl
 have hne : ((51 : Int) != ((128 + x.val : Nat) : Int)) = true := by simp; omega
 have w1 : IntKind.i64.wrap (3 + 1) = 4 := rfl
 have w2 : IntKind.i64.wrap 4 = 4 := rfl
 have z16 : ((16 : Nat) : Int) = 16 := rfl
 have zb : (((51 : Nat)) : Int) = 51 := rfl
 rw [hK, L_round hK]
 simp -implicitDefEqProofs only [B124L5, st96b, ex96b, sS, reduceCtorEq, seval, hexes_size, z16, hat, hbb, zb, h1, hb, hne, w1, w2, e87]
theorem indexRune_ok (r : Int) (hr : r = -1 ∨ rScal r = true) (h : List Res) : D env 124 [.d (.str hexes), .d (.int .i32 r)] h = some (.val (.d (.int .i64 (hexOf r))) h) := by
 rw [D_dat (F := A124) rfl rfl rfl rfl]
 rcases hr with rfl | hr
 ·have e75 := fun h => validRune_ok (-1) h
  have hv : rScal (-1) = false := by decide
  have ho : hexOf (-1) = -1 := by decide
  rw [hv] at e75
  rw [ho]
  simp -implicitDefEqProofs only [A124, B124, sS, reduceCtorEq, seval, e75]
 ·obtain ⟨h0, hv⟩ := (rScal_iff r).1 hr
  obtain ⟨c, rfl⟩ : ∃ c : Nat, r = c := ⟨r.toNat, (Int.toNat_of_nonneg h0).symm⟩
  rw [Int.toNat_natCast] at hv
  by_cases h1 : c < 128
  ·have e87 := fun h => indexByte_ok hexes c h
   rw [hexes_at ⟨c, h1⟩] at e87
   have g1 : (c : Int) < 128 := by omega
   have wu : IntKind.u8.wrap (c : Int) = c := wrap_u8 (by omega) (by omega)
   simp -implicitDefEqProofs only [A124, B124, sS, reduceCtorEq, seval, h0, g1, wu, e87]
  ·have g1 : ¬ (c : Int) < 128 := by omega
   have ho : hexOf (c : Int) = -1 := by
    unfold hexOf
    rw [if_neg (by omega), if_neg (by omega)]
   rw [ho]
   by_cases h2 : c = 65533
   ·subst h2
    obtain ⟨I, hl⟩ := loop96 16 0 rfl
    have z : ((65533 : Nat) : Int) = 65533 := rfl
    simp only [st96, List.replicate, List.cons_append, List.nil_append] at hl
    simp only [z]
    simp -implicitDefEqProofs only [A124, B124, sS, reduceCtorEq, seval, hl]
   ·have g2 : ((c : Int) == 65533) = false := by simp; omega
    have e75 := fun h => validRune_ok c h
    rw [hr] at e75
    obtain ⟨n, n1, n2, n3, n4⟩ := enc_last hv (by omega)
    have hn : n = 2 ∨ n = 3 ∨ n = 4 := by omega
    rcases hn with rfl | rfl | rfl
    ·have hl := round96_1 (Utf8.encode (c : Int)) c (x := ⟨c % 64, by omega⟩) n4
     have z : ((2 : Nat) : Int) = 2 := rfl
     have w1 : IntKind.i64.wrap (2 - 1) = 1 := rfl
     have w2 : IntKind.i64.wrap 1 = 1 := rfl
     simp only [st96b, ex96b, hexes, List.replicate, List.cons_append, List.nil_append] at hl
     simp -implicitDefEqProofs only [A124, B124, sS, reduceCtorEq, seval, h0, g1, g2, e75, n3, z, w1, w2, hl, hexes]
    ·have hl := round96_2 (Utf8.encode (c : Int)) c (x := ⟨c % 64, by omega⟩) n4
     have z : ((3 : Nat) : Int) = 3 := rfl
     have w1 : IntKind.i64.wrap (3 - 1) = 2 := rfl
     have w2 : IntKind.i64.wrap 2 = 2 := rfl
     simp only [st96b, ex96b, hexes, List.replicate, List.cons_append, List.nil_append] at hl
     simp -implicitDefEqProofs only [A124, B124, sS, reduceCtorEq, seval, h0, g1, g2, e75, n3, z, w1, w2, hl, hexes]
    ·have hl := round96_3 (Utf8.encode (c : Int)) c (x := ⟨c % 64, by omega⟩) n4
     have z : ((4 : Nat) : Int) = 4 := rfl
     have w1 : IntKind.i64.wrap (4 - 1) = 3 := rfl
     have w2 : IntKind.i64.wrap 3 = 3 := rfl
     simp only [st96b, ex96b, hexes, List.replicate, List.cons_append, List.nil_append] at hl
     simp -implicitDefEqProofs only [A124, B124, sS, reduceCtorEq, seval, h0, g1, g2, e75, n3, z, w1, w2, hl, hexes]
end Go.Proofs.YtpemlmhggiaflaaGreatDoor.Codes
namespace Go.Proofs.YtpemlmhggiaflaaGreatDoor.Codes
open Go Go.Deepv
def escB (hi lo : Int) : Int := IntKind.u8.wrap (IntKind.i64.wrap ((BitVec.ofInt IntKind.i64.bits (IntKind.i64.wrap (hi * 16)) ||| BitVec.ofInt IntKind.i64.bits (IntKind.i64.wrap ((BitVec.ofInt IntKind.i64.bits lo &&& BitVec.ofInt IntKind.i64.bits 15).toNat : Nat))).toNat : Nat))
theorem escB_in : ∀ x y : Fin 16, escB (x.val : Nat) (y.val : Nat) = ((16 * x.val + y.val : Nat) : Int) := by decide
theorem hexOf_in (r : Int) : hexOf r = -1 ∨ 0 ≤ hexOf r ∧ hexOf r < 16 := by
 unfold hexOf
 split
 ·omega
 ·split
  ·omega
  ·exact .inl rfl
theorem escB_eq {a b : Int} (h1 : 0 ≤ hexOf a) (h2 : 0 ≤ hexOf b) : escB (hexOf a) (hexOf b) = 16 * hexOf a + hexOf b := by
 have h3 := hexOf_in a
 have h4 := hexOf_in b
 obtain ⟨x, hx⟩ : ∃ x : Nat, hexOf a = x := ⟨(hexOf a).toNat, (Int.toNat_of_nonneg h1).symm⟩
 obtain ⟨y, hy⟩ : ∃ y : Nat, hexOf b = y := ⟨(hexOf b).toNat, (Int.toNat_of_nonneg h2).symm⟩
 have hx1 : x < 16 := by omega
 have hy1 : y < 16 := by omega
 rw [hx, hy]
 have := escB_in ⟨x, hx1⟩ ⟨y, hy1⟩
 simp only at this
 rw [this]
 simp
def escV (rs : List Rn) (k : Nat) : Int × Bool × Nat :=
 if peekR rs k = 110 then (10, true, 1) else if peekR rs k = 116 then (9, true, 1) else if peekR rs k = 34 then (34, true, 1) else if peekR rs k = 92 then (92, true, 1)
 else if peekR rs k = 120 then (escB (hexOf (peekR rs (k + 1))) (hexOf (peekR rs (k + 2))), decide (0 ≤ hexOf (peekR rs (k + 1))) && decide (0 ≤ hexOf (peekR rs (k + 2))), 3)
 else (0, false, 1)
theorem peekR_sc {rs : List Rn} (hsc : ∀ x ∈ rs, rScal x.r = true) (k : Nat) : peekR rs k = -1 ∨ rScal (peekR rs k) = true := by
 unfold peekR
 split
 ·rename_i x hx
  exact .inr (hsc x (List.mem_of_getElem? hx))
 ·exact .inl rfl
theorem escape_ok {h : List Res} {id : Nat} {rs : List Rn} {k : Nat} {e l c : Int} (hq : h[id]? = some (rd rs k e l c)) (hk : k ≤ 1000000) (hsc : ∀ x ∈ rs, rScal x.r = true) :
  D env 101 [.ptr id 0] h = some (.val (.d (.tup [.int .u8 (escV rs k).1, .bool (escV rs k).2.1])) (h.set id (rd rs (k + (escV rs k).2.2) e l c))) := by
 have hid : id < h.length := (List.getElem?_eq_some_iff.1 hq).1
 have e61 := peek_ok hq 0 (by omega)
 have z0 : ((0 : Nat) : Int) = 0 := rfl
 rw [Nat.add_zero, z0] at e61
 have w1 : IntKind.i64.wrap ((k : Int) + 1) = ((k + 1 : Nat) : Int) := by rw [wrap_i64 (by omega) (by omega)]; simp
 rw [D_own (F := A101) rfl rfl rfl rfl]
 have hq' := hq
 simp only [rd] at hq'
 unfold escV
 by_cases c1 : peekR rs k = 110
 ·rw [if_pos c1]
  rw [c1] at e61
  simp -implicitDefEqProofs only [A101, B101, sS, reduceCtorEq, seval, rd, e61, hq', w1, putCells, take_set]
 rw [if_neg c1]
 have d1 : (peekR rs k == 110) = false := by simpa using c1
 by_cases c2 : peekR rs k = 116
 ·rw [if_pos c2]
  rw [c2] at e61
  simp -implicitDefEqProofs only [A101, B101, sS, reduceCtorEq, seval, rd, e61, hq', w1, putCells, take_set]
 rw [if_neg c2]
 have d2 : (peekR rs k == 116) = false := by simpa using c2
 by_cases c3 : peekR rs k = 34
 ·rw [if_pos c3]
  rw [c3] at e61
  have wu : IntKind.u8.wrap 34 = 34 := rfl
  simp -implicitDefEqProofs only [A101, B101, sS, reduceCtorEq, seval, rd, e61, hq', w1, wu, putCells, take_set]
 rw [if_neg c3]
 have d3 : (peekR rs k == 34) = false := by simpa using c3
 by_cases c4 : peekR rs k = 92
 ·rw [if_pos c4]
  rw [c4] at e61
  have wu : IntKind.u8.wrap 92 = 92 := rfl
  simp -implicitDefEqProofs only [A101, B101, sS, reduceCtorEq, seval, rd, e61, hq', w1, wu, putCells, take_set]
 rw [if_neg c4]
 have d4 : (peekR rs k == 92) = false := by simpa using c4
 by_cases c5 : peekR rs k = 120
 ·rw [if_pos c5]
  rw [c5] at e61
  have hq2 : (h.set id (rd rs (k + 1) e l c))[id]? = some (rd rs (k + 1) e l c) := get_set hid _
  have e61a := peek_ok hq2 0 (by omega)
  have e61b := peek_ok hq2 1 (by omega)
  have z1 : ((1 : Nat) : Int) = 1 := rfl
  rw [Nat.add_zero, z0] at e61a
  rw [z1] at e61b
  have e96a := fun h => indexRune_ok (peekR rs (k + 1)) (peekR_sc hsc _) h
  have e96b := fun h => indexRune_ok (peekR rs (k + 1 + 1)) (peekR_sc hsc _) h
  have w2 : IntKind.i64.wrap (((k + 1 : Nat) : Int) + 2) = ((k + 3 : Nat) : Int) := by rw [wrap_i64 (by omega) (by omega)]; omega
  have m4 : min 4 IntKind.i64.bits = 4 := rfl
  have p4 : (2 : Int) ^ 4 = 16 := rfl
  have k2 : k + 1 + 1 = k + 2 := rfl
  rw [k2] at e61b e96b
  simp only [rd, hexes] at hq2 e61a e61b e96a e96b
  generalize hexOf (peekR rs (k + 1)) = hi at *
  generalize hexOf (peekR rs (k + 2)) = lo at *
  unfold escB
  by_cases g1 : 0 ≤ hi
  ·simp -implicitDefEqProofs only [A101, B101, sS, reduceCtorEq, seval, rd, e61, hq', hq2, e61a, e61b, e96a, e96b, w1, w2, m4, p4, g1, d1, d2, d3, d4, putCells, take_set]
  ·simp -implicitDefEqProofs only [A101, B101, sS, reduceCtorEq, seval, rd, e61, hq', hq2, e61a, e61b, e96a, e96b, w1, w2, m4, p4, g1, d1, d2, d3, d4, putCells, take_set]
 ·rw [if_neg c5]
  have d5 : (peekR rs k == 120) = false := by simpa using c5
  simp -implicitDefEqProofs only [A101, B101, sS, reduceCtorEq, seval, rd, e61, hq', w1, d1, d2, d3, d4, d5, putCells, take_set]
end Go.Proofs.YtpemlmhggiaflaaGreatDoor.Codes
namespace Go.Proofs.YtpemlmhggiaflaaGreatDoor.Codes
open Go Go.Deepv
section
variable {h : List Res} {id : Nat} {r : Res}
theorem s_len : (h.set id r).length = h.length := List.length_set
theorem s_id (w : id < h.length) (l : List Res) : (h.set id r ++ l)[id]? = some r := by rw [app_lt (by simpa using w), get_set w]
theorem s_set (w : id < h.length) (l : List Res) (x : Res) : (h.set id r ++ l).set id x = h.set id x ++ l := by rw [app_set_lt (by simpa using w), List.set_set]
theorem s_at (l : List Res) (i : Nat) : (h.set id r ++ l)[h.length + i]? = l[i]? := by
 have := app_at (h.set id r) l i
 rwa [s_len] at this
theorem s_upd (l : List Res) (i : Nat) (x : Res) : (h.set id r ++ l).set (h.length + i) x = h.set id r ++ l.set i x := by
 have := app_set (h.set id r) l i x
 rwa [s_len] at this
theorem s_at0 (l : List Res) : (h.set id r ++ l)[h.length]? = l[0]? := s_at l 0
theorem s_upd0 (l : List Res) (x : Res) : (h.set id r ++ l).set h.length x = h.set id r ++ l.set 0 x := s_upd l 0 x
theorem s_take (l : List Res) (i : Nat) : (h.set id r ++ l).take (h.length + i) = h.set id r ++ l.take i := by
 have := take_appk (h.set id r) l i
 rwa [s_len] at this
end
def byteB (v : Int) : ByteArray := ⟨#[UInt8.ofNat v.toNat]⟩
theorem byteB_cells {v : Int} (h0 : 0 ≤ v) (h1 : v < 256) : strCells (byteB v) = [[.int .u8 v]] := by
 have : ((UInt8.ofNat v.toNat).toNat : Int) = v := by rw [ofNat_toNat (by omega)]; omega
 show [[FV.int .u8 ((UInt8.ofNat v.toNat).toNat : Int)]] = _
 rw [this]
theorem byteB_size (v : Int) : (byteB v).size = 1 := rfl
theorem escV_in {rs : List Rn} {k : Nat} (h : (escV rs k).2.1 = true) : 0 ≤ (escV rs k).1 ∧ (escV rs k).1 < 256 := by
 have hv : ∀ a b : Int, decide (0 ≤ hexOf a) && decide (0 ≤ hexOf b) = true → 0 ≤ escB (hexOf a) (hexOf b) ∧ escB (hexOf a) (hexOf b) < 256 := fun a b hab => by
  simp only [Bool.and_eq_true, decide_eq_true_eq] at hab
  rw [escB_eq hab.1 hab.2]
  have h3 := hexOf_in a
  have h4 := hexOf_in b
  omega
 unfold escV at h ⊢
 repeat' split
 all_goals simp_all
theorem escV_n (rs : List Rn) (k : Nat) : (escV rs k).2.2 ≤ 3 := by
 unfold escV
 repeat' split
 all_goals simp
def qtK (rs : List Rn) : Nat → Nat → ByteArray → Option (ByteArray × Nat)
 | 0, _, _ => none
 | f + 1, k, acc =>
  if peekR rs k < 0 ∨ peekR rs k = 10 then none
  else if peekR rs k = 34 then some (acc, k + 1)
  else if peekR rs k = 92 then (if (escV rs (k + 1)).2.1 = true then qtK rs f (k + 1 + (escV rs (k + 1)).2.2) (acc ++ byteB (escV rs (k + 1)).1) else none)
  else qtK rs f (k + 1) (acc ++ encB (peekR rs k))
def th (H : List Res) (id : Nat) (R q0 b0 : Res) (acc : ByteArray) (kind : Int) (text : ByteArray) (num tl tc : Int) : List Res :=
 H.set id R ++ [q0, b0, rr 1 acc.size 5, tk kind text num (.row 1 (strCells acc) (H.length + 2)) tl tc]
def st66 (id tid : Nat) : List DV := [.ptr id 0, .ptr tid 0] ++ List.replicate 86 (.d .undef)
theorem loop66 {H : List Res} {id : Nat} {rs : List Rn} {l c num tl tc : Int} {text : ByteArray} {q0 b0 : Res} (hid : id < H.length) (hsc : ∀ x ∈ rs, rScal x.r = true) :
  ∀ (f k : Nat) (acc : ByteArray), rs.length < k + f → k + 4 * f ≤ 1000000 → acc.size + 4 * f ≤ 1000000 →
   ∃ fin, L env (H.length + 4) true H75L2 X75L2 B75L2 (st66 id (H.length + 3)) (th H id (rd rs k 0 l c) q0 b0 acc 4 text num tl tc) = some (.ret, List.replicate 88 (.d .undef), fin) ∧
    match qtK rs f k acc with
    | some (b, k') => fin = th H id (if 64 < b.size then rd rs k' 5 tl tc else rd rs k' 0 l c) q0 b0 b 4 text num tl tc
    | none => ∃ k' b, fin = th H id (rd rs k' 4 tl tc) q0 b0 b 4 text num tl tc := by
 obtain ⟨K, hK⟩ : ∃ K, L env (H.length + 4) true H75L2 X75L2 B75L2 = K := ⟨_, rfl⟩
 rw [hK]
 have bad : ∀ (k : Nat) (acc : ByteArray), k ≤ 1000000 → (peekR rs k < 0 ∨ peekR rs k = 10) →
   K (st66 id (H.length + 3)) (th H id (rd rs k 0 l c) q0 b0 acc 4 text num tl tc) = some (.ret, List.replicate 88 (.d .undef), th H id (rd rs k 4 tl tc) q0 b0 acc 4 text num tl tc) := fun k acc hk hb => by
  have e61 := fun L => peek_ok (s_id (r := rd rs k 0 l c) hid L) 0 (by omega)
  have z0 : ((0 : Nat) : Int) = 0 := rfl
  rw [Nat.add_zero, z0] at e61
  have e35 := fun L => fail_ok (s_id (r := rd rs k 0 l c) hid L) 4 tl tc
  simp only [if_true, s_set hid] at e35
  simp only [th, tk, rd] at *
  rw [L_round hK]
  by_cases h0 : peekR rs k < 0
  ·simp -implicitDefEqProofs only [B75L2, st66, sS, reduceCtorEq, seval, s_id hid, s_set hid, s_at, s_at0, s_upd, s_take, s_len, e61, e35, h0, hid]
  ·have h1 : peekR rs k = 10 := by omega
   rw [h1] at e61
   simp -implicitDefEqProofs only [B75L2, st66, sS, reduceCtorEq, seval, s_id hid, s_set hid, s_at, s_at0, s_upd, s_take, s_len, e61, e35, hid]
 intro f
 induction f with
 | zero =>
  intro k acc h1 h2 h3
  have hp : peekR rs k = -1 := by
   have : rs[k]? = none := by simp; omega
   simp [peekR, this]
  exact ⟨_, bad k acc (by omega) (.inl (by omega)), ⟨k, acc, rfl⟩⟩
 | succ f ih =>
  intro k acc h1 h2 h3
  by_cases hb : peekR rs k < 0 ∨ peekR rs k = 10
  ·refine ⟨_, bad k acc (by omega) hb, ?_⟩
   simp only [qtK, hb, if_true]
   exact ⟨k, acc, rfl⟩
  ·have n0 : ¬ peekR rs k < 0 := fun h => hb (.inl h)
   have n1 : (peekR rs k == 10) = false := by simp; exact fun h => hb (.inr h)
   have hlt : k < rs.length := by
    rcases Nat.lt_or_ge k rs.length with h | h
    ·exact h
    ·have : rs[k]? = none := by simp [h]
     simp [peekR, this] at n0
   have e61 := fun L => peek_ok (s_id (r := rd rs k 0 l c) hid L) 0 (by omega)
   have z0 : ((0 : Nat) : Int) = 0 := rfl
   rw [Nat.add_zero, z0] at e61
   have w1 : IntKind.i64.wrap ((k : Int) + 1) = ((k + 1 : Nat) : Int) := by rw [wrap_i64 (by omega) (by omega)]; simp
   have q1 : qtK rs (f + 1) k acc = if peekR rs k = 34 then some (acc, k + 1)
     else if peekR rs k = 92 then (if (escV rs (k + 1)).2.1 = true then qtK rs f (k + 1 + (escV rs (k + 1)).2.2) (acc ++ byteB (escV rs (k + 1)).1) else none)
     else qtK rs f (k + 1) (acc ++ encB (peekR rs k)) := by simp only [qtK, hb, if_false]
   rw [q1]
   by_cases c1 : peekR rs k = 34
   ·rw [if_pos c1]
    refine ⟨_, ?_, rfl⟩
    rw [c1] at e61
    have e35 := fun L => fail_ok (s_id (r := rd rs (k + 1) 0 l c) hid L) 5 tl tc
    simp only [if_true, s_set hid] at e35
    simp only [th, tk, rd] at *
    rw [L_round hK]
    by_cases h64 : 64 < acc.size
    ·have g64 : (64 : Int) < acc.size := by omega
     rw [if_pos h64]
     simp -implicitDefEqProofs only [B75L2, st66, sS, reduceCtorEq, seval, s_id hid, s_set hid, s_at, s_at0, s_upd, s_take, s_len, e61, e35, w1, g64, strCells_len, putCells, hid]
    ·have g64 : ¬ (64 : Int) < acc.size := by omega
     rw [if_neg h64]
     simp -implicitDefEqProofs only [B75L2, st66, sS, reduceCtorEq, seval, s_id hid, s_set hid, s_at, s_at0, s_upd, s_take, s_len, e61, e35, w1, g64, strCells_len, putCells, hid]
   ·rw [if_neg c1]
    have d1 : (peekR rs k == 34) = false := by simpa using c1
    have ap : ∀ (R : Res) (bs : ByteArray) (T : Res), bs.size ≤ 10 → appRow 1 1 (.row 1 (strCells acc) (H.length + 2)) (some (1, strCells bs)) (H.set id R ++ [q0, b0, rr 1 acc.size 5, T]) 5 =
      some (.val (.row 1 (strCells (acc ++ bs)) (H.length + 2)) (H.set id R ++ [q0, b0, rr 1 (acc ++ bs).size 5, T])) := fun R bs T hbs => by
     have := appRow_any (sz := 1) (bytes := 1) (et := 5) (l := strCells acc) (new := strCells bs) (t := H.length + 2) (h := H.set id R ++ [q0, b0, rr 1 acc.size 5, T]) (by rw [s_at, strCells_len]; rfl) (by rw [strCells_len, strCells_len]; omega) (by decide) (by decide) 1 rfl
     rw [this, s_upd, strCells_app, strCells_len, strCells_len, ByteArray.size_append]
     rfl
    by_cases c2 : peekR rs k = 92
    ·rw [if_pos c2]
     rw [c2] at e61
     have e85 := fun L => escape_ok (s_id (r := rd rs (k + 1) 0 l c) hid L) (by omega) hsc
     simp only [s_set hid] at e85
     have hn := escV_n rs (k + 1)
     by_cases hok : (escV rs (k + 1)).2.1 = true
     ·rw [if_pos hok]
      have hin := escV_in hok
      rw [hok] at e85
      obtain ⟨fin, g1, g2⟩ := ih (k + 1 + (escV rs (k + 1)).2.2) (acc ++ byteB (escV rs (k + 1)).1) (by omega) (by omega) (by rw [ByteArray.size_append, byteB_size]; omega)
      refine ⟨fin, ?_, g2⟩
      have ap' := fun R T => ap R (byteB (escV rs (k + 1)).1) T (by rw [byteB_size]; decide)
      rw [byteB_cells hin.1 hin.2] at ap'
      generalize (escV rs (k + 1)).2.2 = m at *
      generalize (escV rs (k + 1)).1 = v at *
      simp only [th, tk, rd, st66, List.replicate, List.cons_append, List.nil_append] at *
      have lw : H.length + 2 < H.length + 3 + 1 := by omega
      have lx : id < H.length + 4 := by omega
      have ly : H.length + 3 < H.length + 4 := by omega
      rw [L_round hK]
      simp -implicitDefEqProofs only [B75L2, sS, reduceCtorEq, seval, s_id hid, s_set hid, s_at, s_at0, s_upd, s_take, s_len, e61, e85, n1, d1, w1, ap', g1, putCells, hid, lw, lx, ly]
     ·rw [if_neg hok]
      have hok' : (escV rs (k + 1)).2.1 = false := by simpa using hok
      rw [hok'] at e85
      refine ⟨_, ?_, ⟨k + 1 + (escV rs (k + 1)).2.2, acc, rfl⟩⟩
      have e35 := fun L => fail_ok (s_id (r := rd rs (k + 1 + (escV rs (k + 1)).2.2) 0 l c) hid L) 4 tl tc
      simp only [if_true, s_set hid] at e35
      simp only [th, tk, rd] at *
      rw [L_round hK]
      simp -implicitDefEqProofs only [B75L2, st66, sS, reduceCtorEq, seval, s_id hid, s_set hid, s_at, s_at0, s_upd, s_take, s_len, e61, e85, e35, n1, d1, w1, putCells, hid]
    ·rw [if_neg c2]
     have d2 : (peekR rs k == 92) = false := by simpa using c2
     obtain ⟨fin, g1, g2⟩ := ih (k + 1) (acc ++ encB (peekR rs k)) (by omega) (by omega) (by
      rw [ByteArray.size_append, encB_size]
      have : (encI (peekR rs k)).length ≤ 4 := encL_le _
      omega)
     refine ⟨fin, ?_, g2⟩
     have hw : rScal (peekR rs k) = true := by
      rcases peekR_sc hsc k with h | h
      ·omega
      ·exact h
     have e86 := fun h => put_ok (peekR rs k) hw h
     have ap' := fun R T => ap R (encB (peekR rs k)) T (by
      rw [encB_size]
      have : (encI (peekR rs k)).length ≤ 4 := encL_le _
      omega)
     generalize peekR rs k = w at *
     simp only [th, tk, rd, st66, List.replicate, List.cons_append, List.nil_append] at *
     have lw : H.length + 2 < H.length + 3 + 1 := by omega
     have lx : id < H.length + 4 := by omega
     have ly : H.length + 3 < H.length + 4 := by omega
     rw [L_round hK]
     simp -implicitDefEqProofs only [B75L2, sS, reduceCtorEq, seval, s_id hid, s_set hid, s_at, s_at0, s_upd, s_take, s_len, e61, e86, n0, n1, d1, d2, w1, ap', g1, putCells, hid, lw, lx, ly]
end Go.Proofs.YtpemlmhggiaflaaGreatDoor.Codes
