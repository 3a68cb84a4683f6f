/-
  The document's signs; The document's quoted texts; The document's token: quoted texts and numbers, whole; The document's token; The document's Lex: the loop; The document's Lex: the same as the program's
  Conditions: none.
-/
import Derived.Test.YtpemlmhggiaflaaGreatDoorNE
set_option linter.unusedVariables false
set_option linter.unusedSimpArgs false
set_option maxRecDepth 100000
namespace Go.Proofs.YtpemlmhggiaflaaGreatDoor.Codes
open Go Go.Deepv
theorem ba_ext {a b : ByteArray} (h : a.data.toList = b.data.toList) : a = b := by
 cases a
 cases b
 simp only at h
 rw [Array.toList_inj.1 h]
theorem encB_byteB {w : Int} (h0 : 0 ≤ w) (h1 : w < 128) : encB w = byteB w := by
 unfold encB encI encL byteB
 rw [if_pos (by omega)]
theorem signs_ex : ∀ x : Fin 14, (signsB.extract x.val (x.val + 1)).data.toList = [signsB.data.toList.getD x.val 0] ∧ signsB[x.val]? = some (signsB.data.toList.getD x.val 0) ∧ (signsB.data.toList.getD x.val 0).toNat < 128 := by decide
theorem signs_size : signsB.size = 14 := rfl
def st72 (c : Int) (k : Nat) : List DV := [.d .undef, .d .undef, .d .undef, .d .undef, .d .undef, .d (.int .i32 c), .d .undef, .d (.str signsB), .d (.int .i64 k)] ++ List.replicate 54 (.d .undef)
def ex72 (v : FV) : List DV := [.d .undef, .d .undef, .d .undef, .d .undef, .d v] ++ List.replicate 58 (.d .undef)
theorem loop72 (c : Int) : ∀ (n k : Nat), k + n = 14 → L env 0 true H120L13 X120L13 B120L13 (st72 c k) [] =
  if ((signsB.data.toList.drop k).any fun b => ((b.toNat : Nat) : Int) == c) = true then some (.ret, ex72 (.str (byteB c)), []) else some (.exit 1, ex72 .undef, []) := by
 obtain ⟨K, hK⟩ : ∃ K, L env 0 true H120L13 X120L13 B120L13 = K := ⟨_, rfl⟩
 rw [hK]
 intro n
 induction n with
 | zero =>
  intro k hk
  have : k = 14 := by omega
  subst this
  have hd : signsB.data.toList.drop 14 = [] := rfl
  have z14 : ((14 : Nat) : Int) = 14 := rfl
  rw [hd, if_neg (by simp), L_round hK]
  simp -implicitDefEqProofs only [B120L13, st72, ex72, sS, reduceCtorEq, seval, signs_size, z14]
 | succ n ih =>
  intro k hk
  obtain ⟨s1, s2, s3⟩ := signs_ex ⟨k, by omega⟩
  simp only at s1 s2 s3
  have hlen : signsB.data.toList.length = 14 := rfl
  have hd : signsB.data.toList.drop k = signsB.data.toList.getD k 0 :: signsB.data.toList.drop (k + 1) := by
   rw [List.getD_eq_getElem?_getD, List.getElem?_eq_getElem (by rw [hlen]; omega), Option.getD_some, ← List.drop_eq_getElem_cons]
  rw [hd, List.any_cons]
  have z14 : ((14 : Nat) : Int) = 14 := rfl
  have g1 : (k : Int) < 14 := by omega
  have g2 : (k : Int) + 1 ≤ 14 := by omega
  have w1 : IntKind.i64.wrap ((k : Int) + 1) = ((k + 1 : Nat) : Int) := by rw [wrap_i64 (by omega) (by omega)]; simp
  have ih := ih (k + 1) (by omega)
  generalize signsB.data.toList.getD k 0 = b at *
  have wb : IntKind.i32.wrap (b.toNat : Int) = b.toNat := wrap_i32 (by omega) (by omega)
  have g3 : ((k + 1 : Nat) : Int) ≤ 14 := by omega
  have g4 : (k : Int) ≤ ((k + 1 : Nat) : Int) := by omega
  have g5 : (0 : Int) ≤ ((k + 1 : Nat) : Int) := by omega
  by_cases hc : ((b.toNat : Nat) : Int) = c
  ·have hc' : (((b.toNat : Nat) : Int) == c) = true := by simpa using hc
   rw [if_pos (by rw [hc', Bool.true_or])]
   have hex : signsB.extract k (k + 1) = byteB c := by
    apply ba_ext
    rw [s1, ← hc]
    unfold byteB
    simp
   have wc : IntKind.i32.wrap c = c := wrap_i32 (by omega) (by omega)
   rw [L_round hK]
   simp -implicitDefEqProofs only [B120L13, st72, ex72, sS, reduceCtorEq, seval, signs_size, z14, g1, g3, g4, g5, s2, wb, wc, hc', hc, w1, hex]
  ·have hc' : (((b.toNat : Nat) : Int) == c) = false := by simpa using hc
   rw [hc', Bool.false_or]
   simp only [st72, List.replicate, List.cons_append, List.nil_append] at ih
   rw [L_round hK]
   simp -implicitDefEqProofs only [B120L13, st72, sS, reduceCtorEq, seval, signs_size, z14, g1, s2, wb, hc', hc, w1, ih]
theorem rsign_ok {rs : List Rn} (hsz : rs.length ≤ 100000) (hsc : ∀ x ∈ rs, rScal x.r = true) {k : Nat} (hk : k < rs.length) (h : List Res) :
  D env 120 [.d (.slice 4 (rs.map Rn.enc)), .d (.int .i64 k)] h = some (.val (.d (.str (textR ((rs.drop k).take (signN (peekR rs k) (peekR rs (k + 1))))))) h) := by
 rw [D_dat (F := A120) rfl rfl rfl rfl]
 have hx : rs[k]? = some rs[k] := List.getElem?_eq_getElem _
 generalize rs[k] = x at hx
 have hx' := rmap_at (f := Rn.enc) hx
 have hp : peekR rs k = x.r := by simp [peekR, hx]
 have h0 := ((rScal_iff _).1 (hsc x (List.mem_of_getElem? hx))).1
 have hdr : rs.drop k = x :: rs.drop (k + 1) := by
  have := (List.getElem?_eq_some_iff.1 hx).2
  rw [← this]
  simp
 have w1 : IntKind.i64.wrap ((k : Int) + 1) = ((k + 1 : Nat) : Int) := by rw [wrap_i64 (by omega) (by omega)]; simp
 have hl := loop72 x.r 14 0 rfl
 rw [List.drop_zero, show (signsB.data.toList.any fun b => ((b.toNat : Nat) : Int) == x.r) = isSign x.r from rfl] at hl
 have t1 : textR [x] = encB x.r := by
  unfold textR
  rw [List.foldl_cons, List.foldl_nil, empty_app]
 rw [hp, hdr]
 have z0 : ((0 : Nat) : Int) = 0 := rfl
 simp only [st72, ex72, List.replicate, List.cons_append, List.nil_append, signsB, z0] at hl
 have main : ∀ d : Int, (x.r = 45 ∧ d = 62 → False) → (x.r = 60 ∧ d = 61 → False) → (x.r = 61 ∧ d = 61 → False) → (((k + 1 : Nat) : Int) < rs.length ∧ (∃ y, rs[k + 1]? = some y ∧ y.r = d) ∨ ¬ ((k + 1 : Nat) : Int) < rs.length ∧ d = 0) →
   (dbody (Dc env) (L env) A120 [.d (.slice 4 (rs.map Rn.enc)), .d (.int .i64 k)] []).map (withHeap h) = some (.val (.d (.str (if isSign x.r then byteB x.r else ⟨#[]⟩))) h) := fun d n1 n2 n3 hd => by
  have f1 : x.r = 45 → (d == 62) = false := fun e => by simp; exact fun h => n1 ⟨e, h⟩
  have f2 : x.r = 60 → (d == 61) = false := fun e => by simp; exact fun h => n2 ⟨e, h⟩
  have f3 : x.r = 61 → (d == 61) = false := fun e => by simp; exact fun h => n3 ⟨e, h⟩
  by_cases c1 : x.r = 45
  ·have f1 := f1 c1
   have hs : isSign 45 = true := by decide
   rw [c1, hs] at hl
   rw [c1, hs]
   simp only [if_true] at hl ⊢
   rcases hd with ⟨g, y, hy, rfl⟩ | ⟨g, rfl⟩
   ·have hy' := rmap_at (f := Rn.enc) hy
    simp -implicitDefEqProofs only [A120, B120, sS, reduceCtorEq, seval, hx, hx', Rn.enc, w1, g, hl, hy, hy', c1, f1]
   ·simp -implicitDefEqProofs only [A120, B120, sS, reduceCtorEq, seval, hx, hx', Rn.enc, w1, g, hl, c1, f1]
  by_cases c2 : x.r = 60
  ·have f2 := f2 c2
   have hs : isSign 60 = true := by decide
   rw [c2, hs] at hl
   rw [c2, hs]
   simp only [if_true] at hl ⊢
   rcases hd with ⟨g, y, hy, rfl⟩ | ⟨g, rfl⟩
   ·have hy' := rmap_at (f := Rn.enc) hy
    simp -implicitDefEqProofs only [A120, B120, sS, reduceCtorEq, seval, hx, hx', Rn.enc, w1, g, hl, hy, hy', c2, f2]
   ·simp -implicitDefEqProofs only [A120, B120, sS, reduceCtorEq, seval, hx, hx', Rn.enc, w1, g, hl, c2, f2]
  by_cases c3 : x.r = 61
  ·have f3 := f3 c3
   have hs : isSign 61 = true := by decide
   rw [c3, hs] at hl
   rw [c3, hs]
   simp only [if_true] at hl ⊢
   rcases hd with ⟨g, y, hy, rfl⟩ | ⟨g, rfl⟩
   ·have hy' := rmap_at (f := Rn.enc) hy
    simp -implicitDefEqProofs only [A120, B120, sS, reduceCtorEq, seval, hx, hx', Rn.enc, w1, g, hl, hy, hy', c3, f3]
   ·simp -implicitDefEqProofs only [A120, B120, sS, reduceCtorEq, seval, hx, hx', Rn.enc, w1, g, hl, c3, f3]
  have d1 : (x.r == 45) = false := by simpa using c1
  have d2 : (x.r == 60) = false := by simpa using c2
  have d3 : (x.r == 61) = false := by simpa using c3
  cases hs : isSign x.r with
  | true =>
   rw [hs] at hl
   simp only [if_true] at hl ⊢
   rcases hd with ⟨g, y, hy, rfl⟩ | ⟨g, rfl⟩
   ·have hy' := rmap_at (f := Rn.enc) hy
    simp -implicitDefEqProofs only [A120, B120, sS, reduceCtorEq, seval, hx, hx', Rn.enc, w1, g, hl, hy, hy', d1, d2, d3]
   ·simp -implicitDefEqProofs only [A120, B120, sS, reduceCtorEq, seval, hx, hx', Rn.enc, w1, g, hl, d1, d2, d3]
  | false =>
   rw [hs] at hl
   simp only [Bool.false_eq_true, if_false] at hl ⊢
   rcases hd with ⟨g, y, hy, rfl⟩ | ⟨g, rfl⟩
   ·have hy' := rmap_at (f := Rn.enc) hy
    simp -implicitDefEqProofs only [A120, B120, sS, reduceCtorEq, seval, hx, hx', Rn.enc, w1, g, hl, hy, hy', d1, d2, d3]
   ·simp -implicitDefEqProofs only [A120, B120, sS, reduceCtorEq, seval, hx, hx', Rn.enc, w1, g, hl, d1, d2, d3]
 have one1 : signN x.r (peekR rs (k + 1)) = (if isSign x.r then 1 else 0) → some (DOut.val (.d (.str (if isSign x.r then byteB x.r else ⟨#[]⟩))) h) = some (.val (.d (.str (textR ((x :: rs.drop (k + 1)).take (signN x.r (peekR rs (k + 1))))))) h) := fun e => by
  rw [e]
  cases hs : isSign x.r with
  | true =>
   have hlt := (isSign_lt hs).2
   have : x.r < 128 := by omega
   simp only [if_true, List.take_succ_cons, List.take_zero]
   rw [t1, encB_byteB h0 this]
  | false => rfl
 by_cases hk1 : k + 1 < rs.length
 ·have g : ((k + 1 : Nat) : Int) < rs.length := by omega
  have hy : rs[k + 1]? = some rs[k + 1] := List.getElem?_eq_getElem _
  have hdr2 : rs.drop (k + 1) = rs[k + 1] :: rs.drop (k + 1 + 1) := by simp
  generalize rs[k + 1] = y at hy hdr2
  have hq : peekR rs (k + 1) = y.r := by simp [peekR, hy]
  have hy' := rmap_at (f := Rn.enc) hy
  have t2 : textR [x, y] = encB x.r ++ encB y.r := by
   unfold textR
   rw [List.foldl_cons, List.foldl_cons, List.foldl_nil, empty_app]
  by_cases p1 : x.r = 45 ∧ y.r = 62
  ·obtain ⟨q1, q2⟩ := p1
   have hs : signN x.r (peekR rs (k + 1)) = 2 := by rw [hq, q1, q2]; decide
   have ht : textR [x, y] = ⟨#[45, 62]⟩ := by rw [t2, q1, q2]; rfl
   rw [hs, hdr2, List.take_succ_cons, List.take_succ_cons, List.take_zero, ht]
   simp -implicitDefEqProofs only [A120, B120, sS, reduceCtorEq, seval, hx, hx', Rn.enc, w1, g, hy, hy', q1, q2]
  by_cases p2 : x.r = 60 ∧ y.r = 61
  ·obtain ⟨q1, q2⟩ := p2
   have hs : signN x.r (peekR rs (k + 1)) = 2 := by rw [hq, q1, q2]; decide
   have ht : textR [x, y] = ⟨#[60, 61]⟩ := by rw [t2, q1, q2]; rfl
   rw [hs, hdr2, List.take_succ_cons, List.take_succ_cons, List.take_zero, ht]
   simp -implicitDefEqProofs only [A120, B120, sS, reduceCtorEq, seval, hx, hx', Rn.enc, w1, g, hy, hy', q1, q2]
  by_cases p3 : x.r = 61 ∧ y.r = 61
  ·obtain ⟨q1, q2⟩ := p3
   have hs : signN x.r (peekR rs (k + 1)) = 2 := by rw [hq, q1, q2]; decide
   have ht : textR [x, y] = ⟨#[61, 61]⟩ := by rw [t2, q1, q2]; rfl
   rw [hs, hdr2, List.take_succ_cons, List.take_succ_cons, List.take_zero, ht]
   simp -implicitDefEqProofs only [A120, B120, sS, reduceCtorEq, seval, hx, hx', Rn.enc, w1, g, hy, hy', q1, q2]
  rw [main y.r (fun h => p1 h) (fun h => p2 h) (fun h => p3 h) (.inl ⟨g, y, hy, rfl⟩)]
  exact one1 (by
   rw [hq]
   unfold signN
   rw [if_neg (fun h => h.elim p1 (fun h => h.elim p2 p3))])
 ·have g : ¬ ((k + 1 : Nat) : Int) < rs.length := by omega
  have hq : peekR rs (k + 1) = -1 := by
   have : rs[k + 1]? = none := by simp; omega
   simp [peekR, this]
  rw [main 0 (fun h => by omega) (fun h => by omega) (fun h => by omega) (.inr ⟨g, rfl⟩)]
  exact one1 (by
   rw [hq]
   unfold signN
   rw [if_neg (by omega)])
end Go.Proofs.YtpemlmhggiaflaaGreatDoor.Codes
namespace Go.Proofs.YtpemlmhggiaflaaGreatDoor.Codes
open Go Go.Deepv
def st71 (rs : List Rn) (fr : Int) (acc : ByteArray) (k : Nat) : List DV := [.d (.slice 4 (rs.map Rn.enc)), .d (.int .i64 fr), .d .undef, .d .undef, .d .undef, .d .undef, .d .undef, .row 1 (strCells acc) 0, .d (.int .i64 k)] ++ List.replicate 143 (.d .undef)
def ex71 (rs : List Rn) (fr : Int) (acc : ByteArray) (k : Nat) : List DV := [.d (.slice 4 (rs.map Rn.enc)), .d (.int .i64 fr), .d .undef, .d .undef, .d (.slice 1 []), .d (.int .i64 0), .d (.int .i64 4), .row 1 (strCells acc) 0, .d (.int .i64 k)] ++ List.replicate 143 (.d .undef)
def end71 (rs : List Rn) (fr : Int) (q : Option (ByteArray × Nat)) (o : Option (DExit × List DV × List Res)) : Prop :=
 match q with
 | some (b, k') => ∃ k, k' = k + 1 ∧ peekR rs k = 34 ∧ o = some (.exit 0, st71 rs fr b k, [rr 1 b.size 5])
 | none => (∃ b k, peekR rs k ≠ 34 ∧ k ≤ 1000000 ∧ b.size ≤ 1000000 ∧ o = some (.exit 0, st71 rs fr b k, [rr 1 b.size 5])) ∨ ∃ b k, o = some (.ret, ex71 rs fr b k, [rr 1 b.size 5])
set_option maxHeartbeats 2000000 in
theorem loop71 {rs : List Rn} {fr : Int} (hsz : rs.length ≤ 100000) (hsc : ∀ x ∈ rs, rScal x.r = true) :
  ∀ (f k : Nat) (acc : ByteArray), rs.length < k + f → k ≤ rs.length → acc.size ≤ 4 * k →
   end71 rs fr (qtK rs f k acc) (L env 1 true H119L3 X119L3 B119L3 (st71 rs fr acc k) [rr 1 acc.size 5]) := by
 obtain ⟨K, hK⟩ : ∃ K, L env 1 true H119L3 X119L3 B119L3 = K := ⟨_, rfl⟩
 rw [hK]
 intro f
 induction f with
 | zero => intro k acc h1 h2 h3; omega
 | succ f ih =>
  intro k acc h1 h2 h3
  by_cases hlt : k < rs.length
  ·have hx : rs[k]? = some rs[k] := List.getElem?_eq_getElem _
   generalize rs[k] = x at hx
   have hx' := rmap_at (f := Rn.enc) hx
   have hp : peekR rs k = x.r := by simp [peekR, hx]
   have hw := hsc x (List.mem_of_getElem? hx)
   have h0 := ((rScal_iff _).1 hw).1
   have hk : (k : Int) < rs.length := by omega
   have n0 : ¬ x.r < 0 := by omega
   by_cases c1 : x.r = 34
   ·have : qtK rs (f + 1) k acc = some (acc, k + 1) := by simp only [qtK, hp, c1]; rfl
    rw [this]
    refine ⟨k, rfl, by rw [hp, c1], ?_⟩
    rw [L_round hK]
    simp -implicitDefEqProofs only [B119L3, st71, sS, reduceCtorEq, seval, hk, hx, hx', Rn.enc, c1]
   have d1 : (x.r != 34) = true := by simpa using c1
   by_cases c2 : x.r = 10
   ·have : qtK rs (f + 1) k acc = none := by simp only [qtK, hp, c2]; rfl
    rw [this]
    refine .inl ⟨acc, k, by rw [hp]; exact c1, by omega, by omega, ?_⟩
    rw [L_round hK]
    simp -implicitDefEqProofs only [B119L3, st71, sS, reduceCtorEq, seval, hk, hx, hx', Rn.enc, c2]
   have d2 : (x.r != 10) = true := by simpa using c2
   have ap : ∀ bs : ByteArray, bs.size ≤ 10 → appRow 1 1 (.row 1 (strCells acc) 0) (some (1, strCells bs)) [rr 1 acc.size 5] 5 = some (.val (.row 1 (strCells (acc ++ bs)) 0) [rr 1 (acc ++ bs).size 5]) := fun bs hbs => by
    have := appRow_any (sz := 1) (bytes := 1) (et := 5) (l := strCells acc) (new := strCells bs) (t := 0) (h := [rr 1 acc.size 5]) (by rw [strCells_len]; rfl) (by rw [strCells_len, strCells_len]; omega) (by decide) (by decide) 1 rfl
    rw [this, strCells_app, strCells_len, strCells_len, ByteArray.size_append]
    rfl
   have w1 : IntKind.i64.wrap ((k : Int) + 1) = ((k + 1 : Nat) : Int) := by rw [wrap_i64 (by omega) (by omega)]; simp
   by_cases c3 : x.r = 92
   ·have q1 : qtK rs (f + 1) k acc = if (escV rs (k + 1)).2.1 = true then qtK rs f (k + 1 + (escV rs (k + 1)).2.2) (acc ++ byteB (escV rs (k + 1)).1) else none := by
     simp only [qtK, hp, c3]
     rfl
    by_cases hk1 : k + 1 < rs.length
    ·have g1 : ¬ (rs.length : Int) ≤ ((k + 1 : Nat) : Int) := by omega
     have g1' : ((k + 1 : Nat) : Int) < rs.length := by omega
     have hy : rs[k + 1]? = some rs[k + 1] := List.getElem?_eq_getElem _
     generalize rs[k + 1] = y at hy
     have hy' := rmap_at (f := Rn.enc) hy
     have hq : peekR rs (k + 1) = y.r := by simp [peekR, hy]
     have w2 : IntKind.i64.wrap ((k : Int) + 2) = ((k + 2 : Nat) : Int) := by rw [wrap_i64 (by omega) (by omega)]; simp
     have one : ∀ v : Int, 0 ≤ v → v < 256 → escV rs (k + 1) = (v, true, 1) → end71 rs fr (qtK rs (f + 1) k acc) (K (st71 rs fr (acc ++ byteB v) (k + 2)) [rr 1 (acc ++ byteB v).size 5]) := fun v v0 v1 he => by
      rw [q1, he]
      simp only [if_true]
      exact ih (k + 1 + 1) (acc ++ byteB v) (by omega) (by omega) (by rw [ByteArray.size_append, byteB_size]; omega)
     have ap1 : ∀ v : Int, 0 ≤ v → v < 256 → appRow 1 1 (.row 1 (strCells acc) 0) (some (1, [[FV.int .u8 v]])) [rr 1 acc.size 5] 5 = some (.val (.row 1 (strCells (acc ++ byteB v)) 0) [rr 1 (acc ++ byteB v).size 5]) := fun v v0 v1 => by
      have := ap (byteB v) (by rw [byteB_size]; decide)
      rwa [byteB_cells v0 v1] at this
     by_cases e1 : y.r = 110
     ·have o := one 10 (by decide) (by decide) (by unfold escV; rw [hq, if_pos e1])
      have a := ap1 10 (by decide) (by decide)
      generalize hR : K (st71 rs fr (acc ++ byteB 10) (k + 2)) [rr 1 (acc ++ byteB 10).size 5] = RR at *
      simp only [st71, List.replicate, List.cons_append, List.nil_append] at hR
      have : K (st71 rs fr acc k) [rr 1 acc.size 5] = RR := by
       rw [L_round hK]
       simp -implicitDefEqProofs only [B119L3, st71, sS, reduceCtorEq, seval, hk, hx, hx', Rn.enc, c3, w1, w2, g1, g1', hy, hy', e1, a, hR]
      rw [this]
      exact o
     by_cases e2 : y.r = 116
     ·have o := one 9 (by decide) (by decide) (by unfold escV; rw [hq, if_neg e1, if_pos e2])
      have a := ap1 9 (by decide) (by decide)
      generalize hR : K (st71 rs fr (acc ++ byteB 9) (k + 2)) [rr 1 (acc ++ byteB 9).size 5] = RR at *
      simp only [st71, List.replicate, List.cons_append, List.nil_append] at hR
      have : K (st71 rs fr acc k) [rr 1 acc.size 5] = RR := by
       rw [L_round hK]
       simp -implicitDefEqProofs only [B119L3, st71, sS, reduceCtorEq, seval, hk, hx, hx', Rn.enc, c3, w1, w2, g1, g1', hy, hy', e2, a, hR]
      rw [this]
      exact o
     by_cases e3 : y.r = 34
     ·have o := one 34 (by decide) (by decide) (by unfold escV; rw [hq, if_neg e1, if_neg e2, if_pos e3])
      have a := ap1 34 (by decide) (by decide)
      have wu : IntKind.u8.wrap 34 = 34 := rfl
      generalize hR : K (st71 rs fr (acc ++ byteB 34) (k + 2)) [rr 1 (acc ++ byteB 34).size 5] = RR at *
      simp only [st71, List.replicate, List.cons_append, List.nil_append] at hR
      have : K (st71 rs fr acc k) [rr 1 acc.size 5] = RR := by
       rw [L_round hK]
       simp -implicitDefEqProofs only [B119L3, st71, sS, reduceCtorEq, seval, hk, hx, hx', Rn.enc, c3, w1, w2, g1, g1', hy, hy', e3, a, wu, hR]
      rw [this]
      exact o
     by_cases e4 : y.r = 92
     ·have o := one 92 (by decide) (by decide) (by unfold escV; rw [hq, if_neg e1, if_neg e2, if_neg e3, if_pos e4])
      have a := ap1 92 (by decide) (by decide)
      have wu : IntKind.u8.wrap 92 = 92 := rfl
      generalize hR : K (st71 rs fr (acc ++ byteB 92) (k + 2)) [rr 1 (acc ++ byteB 92).size 5] = RR at *
      simp only [st71, List.replicate, List.cons_append, List.nil_append] at hR
      have : K (st71 rs fr acc k) [rr 1 acc.size 5] = RR := by
       rw [L_round hK]
       simp -implicitDefEqProofs only [B119L3, st71, sS, reduceCtorEq, seval, hk, hx, hx', Rn.enc, c3, w1, w2, g1, g1', hy, hy', e4, a, wu, hR]
      rw [this]
      exact o
     have f1 : (y.r == 110) = false := by simpa using e1
     have f2 : (y.r == 116) = false := by simpa using e2
     have f3 : (y.r == 34) = false := by simpa using e3
     have f4 : (y.r == 92) = false := by simpa using e4
     by_cases e5 : y.r = 120
     ·have he : escV rs (k + 1) = (escB (hexOf (peekR rs (k + 2))) (hexOf (peekR rs (k + 3))), decide (0 ≤ hexOf (peekR rs (k + 2))) && decide (0 ≤ hexOf (peekR rs (k + 3))), 3) := by
       unfold escV
       rw [hq, if_neg e1, if_neg e2, if_neg e3, if_neg e4, if_pos e5]
      have w3 : IntKind.i64.wrap ((k : Int) + 3) = ((k + 3 : Nat) : Int) := by rw [wrap_i64 (by omega) (by omega)]; simp
      by_cases hk3 : k + 3 < rs.length
      ·have g3 : ¬ (rs.length : Int) ≤ ((k + 3 : Nat) : Int) := by omega
       have g3' : ((k + 3 : Nat) : Int) < rs.length := by omega
       have g2' : ((k + 2 : Nat) : Int) < rs.length := by omega
       have ha : rs[k + 2]? = some rs[k + 2] := List.getElem?_eq_getElem _
       have hb : rs[k + 3]? = some rs[k + 3] := List.getElem?_eq_getElem _
       generalize rs[k + 2] = a at ha
       generalize rs[k + 3] = b at hb
       have ha' := rmap_at (f := Rn.enc) ha
       have hb' := rmap_at (f := Rn.enc) hb
       have hpa : peekR rs (k + 2) = a.r := by simp [peekR, ha]
       have hpb : peekR rs (k + 3) = b.r := by simp [peekR, hb]
       rw [hpa, hpb] at he
       have ea := fun h => hex_ok a.r h
       have eb := fun h => hex_ok b.r h
       have ia := hexOf_in a.r
       have ib := hexOf_in b.r
       by_cases l1 : hexOf a.r < 0
       ·have : qtK rs (f + 1) k acc = none := by
         rw [q1, he]
         simp
         intro hh
         omega
        rw [this]
        refine .inr ⟨acc, k, ?_⟩
        rw [L_round hK]
        simp -implicitDefEqProofs only [B119L3, st71, ex71, sS, reduceCtorEq, seval, hk, hx, hx', Rn.enc, c3, w1, w2, w3, g1, g1', g2', g3, g3', hy, hy', e5, ha, ha', hb, hb', ea, eb, l1]
       by_cases l2 : hexOf b.r < 0
       ·have : qtK rs (f + 1) k acc = none := by
         rw [q1, he]
         simp
         intro _ hh
         omega
        rw [this]
        refine .inr ⟨acc, k, ?_⟩
        rw [L_round hK]
        simp -implicitDefEqProofs only [B119L3, st71, ex71, sS, reduceCtorEq, seval, hk, hx, hx', Rn.enc, c3, w1, w2, w3, g1, g1', g2', g3, g3', hy, hy', e5, ha, ha', hb, hb', ea, eb, l1, l2]
       have hok : (decide (0 ≤ hexOf a.r) && decide (0 ≤ hexOf b.r)) = true := by simp; omega
       rw [escB_eq (by omega) (by omega), hok] at he
       have o : end71 rs fr (qtK rs (f + 1) k acc) (K (st71 rs fr (acc ++ byteB (16 * hexOf a.r + hexOf b.r)) (k + 4)) [rr 1 (acc ++ byteB (16 * hexOf a.r + hexOf b.r)).size 5]) := by
        rw [q1, he]
        simp only [if_true]
        exact ih (k + 1 + 3) (acc ++ byteB (16 * hexOf a.r + hexOf b.r)) (by omega) (by omega) (by rw [ByteArray.size_append, byteB_size]; omega)
       have a1 := ap1 (16 * hexOf a.r + hexOf b.r) (by omega) (by omega)
       have x1 : IntKind.i64.wrap (16 * hexOf a.r) = 16 * hexOf a.r := wrap_i64 (by omega) (by omega)
       obtain ⟨v, hv⟩ : ∃ v, 16 * hexOf a.r + hexOf b.r = v := ⟨_, rfl⟩
       have x2 : IntKind.i64.wrap (16 * hexOf a.r + hexOf b.r) = v := by rw [wrap_i64 (by omega) (by omega), hv]
       have x3 : IntKind.u8.wrap v = v := wrap_u8 (by omega) (by omega)
       rw [hv] at o a1
       have w4 : IntKind.i64.wrap (((k + 2 : Nat) : Int) + 2) = ((k + 4 : Nat) : Int) := by rw [wrap_i64 (by omega) (by omega)]; omega
       generalize hR : K (st71 rs fr (acc ++ byteB v) (k + 4)) [rr 1 (acc ++ byteB v).size 5] = RR at *
       simp only [st71, List.replicate, List.cons_append, List.nil_append] at hR
       have : K (st71 rs fr acc k) [rr 1 acc.size 5] = RR := by
        rw [L_round hK]
        simp -implicitDefEqProofs only [B119L3, st71, sS, reduceCtorEq, seval, hk, hx, hx', Rn.enc, c3, w1, w2, w3, w4, x1, x2, x3, g1, g1', g2', g3, g3', hy, hy', e5, ha, ha', hb, hb', ea, eb, l1, l2, a1, hR]
       rw [this]
       exact o
      ·have g3 : (rs.length : Int) ≤ ((k + 3 : Nat) : Int) := by omega
       have hpb : peekR rs (k + 3) = -1 := by
        have : rs[k + 3]? = none := by simp; omega
        simp [peekR, this]
       have : qtK rs (f + 1) k acc = none := by
        have hm : hexOf (-1) = -1 := by decide
        rw [q1, he, hpb, hm]
        simp
       rw [this]
       refine .inr ⟨acc, k, ?_⟩
       rw [L_round hK]
       simp -implicitDefEqProofs only [B119L3, st71, ex71, sS, reduceCtorEq, seval, hk, hx, hx', Rn.enc, c3, w1, w2, w3, g1, g1', g3, hy, hy', e5]
     ·have f5 : (y.r == 120) = false := by simpa using e5
      have : qtK rs (f + 1) k acc = none := by
       have he : escV rs (k + 1) = (0, false, 1) := by
        unfold escV
        rw [hq, if_neg e1, if_neg e2, if_neg e3, if_neg e4, if_neg e5]
       rw [q1, he]
       simp
      rw [this]
      refine .inr ⟨acc, k, ?_⟩
      rw [L_round hK]
      simp -implicitDefEqProofs only [B119L3, st71, ex71, sS, reduceCtorEq, seval, hk, hx, hx', Rn.enc, c3, w1, w2, g1, g1', hy, hy', f1, f2, f3, f4, f5]
    ·have g1 : (rs.length : Int) ≤ ((k + 1 : Nat) : Int) := by omega
     have hq : peekR rs (k + 1) = -1 := by
      have : rs[k + 1]? = none := by simp; omega
      simp [peekR, this]
     have : qtK rs (f + 1) k acc = none := by
      have he : escV rs (k + 1) = (0, false, 1) := by
       unfold escV
       rw [hq]
       rfl
      rw [q1, he]
      simp
     rw [this]
     refine .inr ⟨acc, k, ?_⟩
     rw [L_round hK]
     simp -implicitDefEqProofs only [B119L3, st71, ex71, sS, reduceCtorEq, seval, hk, hx, hx', Rn.enc, c3, w1, g1]
   ·have d3 : (x.r != 92) = true := by simpa using c3
    have q1 : qtK rs (f + 1) k acc = qtK rs f (k + 1) (acc ++ encB x.r) := by
     have : ¬ (x.r < 0 ∨ x.r = 10) := by omega
     simp only [qtK, hp, this, c1, c3, if_false]
    have h5 : (encB x.r).size ≤ 4 := by rw [encB_size]; exact encL_le _
    have o := ih (k + 1) (acc ++ encB x.r) (by omega) (by omega) (by rw [ByteArray.size_append]; omega)
    rw [q1]
    have a := ap (encB x.r) (by omega)
    have e88 := fun h => rput_ok x.r hw h
    generalize hR : K (st71 rs fr (acc ++ encB x.r) (k + 1)) [rr 1 (acc ++ encB x.r).size 5] = RR at *
    simp only [st71, List.replicate, List.cons_append, List.nil_append] at hR
    have : K (st71 rs fr acc k) [rr 1 acc.size 5] = RR := by
     rw [L_round hK]
     simp -implicitDefEqProofs only [B119L3, st71, sS, reduceCtorEq, seval, hk, hx, hx', Rn.enc, d1, d2, d3, w1, a, e88, hR]
    rw [this]
    exact o
  ·have hk : ¬ (k : Int) < rs.length := by omega
   have hp : peekR rs k = -1 := by
    have : rs[k]? = none := by simp; omega
    simp [peekR, this]
   have : qtK rs (f + 1) k acc = none := by simp only [qtK, hp]; rfl
   rw [this]
   refine .inl ⟨acc, k, by rw [hp]; decide, by omega, by omega, ?_⟩
   rw [L_round hK]
   simp -implicitDefEqProofs only [B119L3, st71, sS, reduceCtorEq, seval, hk]
end Go.Proofs.YtpemlmhggiaflaaGreatDoor.Codes
namespace Go.Proofs.YtpemlmhggiaflaaGreatDoor.Codes
open Go Go.Deepv
theorem rquoted_ok {rs : List Rn} (hsz : rs.length ≤ 100000) (hsc : ∀ x ∈ rs, rScal x.r = true) {k : Nat} (hk : k < rs.length) (h : List Res) :
  D env 119 [.d (.slice 4 (rs.map Rn.enc)), .d (.int .i64 k)] h = some (.val (.d (match qtK rs (rs.length + 1) (k + 1) ⟨#[]⟩ with
   | some (b, k') => if 64 < b.size then .tup [.slice 1 [], .int .i64 0, .int .i64 5] else .tup [.slice 1 (strCells b), .int .i64 (k' - k : Nat), .int .i64 0]
   | none => .tup [.slice 1 [], .int .i64 0, .int .i64 4])) h) := by
 rw [D_dat (F := A119) rfl rfl rfl rfl]
 have w1 : IntKind.i64.wrap ((k : Int) + 1) = ((k + 1 : Nat) : Int) := by rw [wrap_i64 (by omega) (by omega)]; simp
 have hl := loop71 (fr := k) hsz hsc (rs.length + 1) (k + 1) ⟨#[]⟩ (by omega) (by omega) (by have : (⟨#[]⟩ : ByteArray).size = 0 := rfl; omega)
 have r0 : rr 1 (⟨#[]⟩ : ByteArray).size 5 = .nilrow := rfl
 have hnx := qtK_next rs (rs.length + 1) (k + 1) ⟨#[]⟩
 rw [r0] at hl
 generalize qtK rs (rs.length + 1) (k + 1) ⟨#[]⟩ = q at *
 cases q with
 | some bk =>
  obtain ⟨b, k'⟩ := bk
  obtain ⟨k0, rfl, hp, hl⟩ := hl
  have hlt := peekR_lt (rs := rs) (k := k0) (by omega)
  have hx : rs[k0]? = some rs[k0] := List.getElem?_eq_getElem _
  generalize rs[k0] = x at hx
  have hx' := rmap_at (f := Rn.enc) hx
  have hr : x.r = 34 := by simpa [peekR, hx] using hp
  have g1 : ¬ (rs.length : Int) ≤ (k0 : Int) := by omega
  have hge := (hnx b (k0 + 1) rfl).1
  have w2 : IntKind.i64.wrap ((k0 : Int) + 1) = ((k0 + 1 : Nat) : Int) := by rw [wrap_i64 (by omega) (by omega)]; simp
  have w3 : IntKind.i64.wrap (((k0 + 1 : Nat) : Int) - (k : Int)) = ((k0 + 1 - k : Nat) : Int) := by rw [wrap_i64 (by omega) (by omega)]; omega
  simp only [st71, cells_nil, List.replicate, List.cons_append, List.nil_append] at hl
  by_cases h64 : 64 < b.size
  ·have g64 : (64 : Int) < b.size := by omega
   simp only [h64, if_true]
   simp -implicitDefEqProofs only [A119, B119, sS, reduceCtorEq, seval, w1, hl, g1, hx, hx', Rn.enc, hr, strCells_len, g64]
  ·have g64 : ¬ (64 : Int) < b.size := by omega
   simp only [h64, if_false]
   simp -implicitDefEqProofs only [A119, B119, sS, reduceCtorEq, seval, w1, hl, g1, hx, hx', Rn.enc, hr, strCells_len, g64, w2, w3]
 | none =>
  rcases hl with ⟨b, k0, hp, hk0, hb0, hl⟩ | ⟨b, k0, hl⟩
  ·simp only [st71, cells_nil, List.replicate, List.cons_append, List.nil_append] at hl
   by_cases hlt : k0 < rs.length
   ·have hx : rs[k0]? = some rs[k0] := List.getElem?_eq_getElem _
    generalize rs[k0] = x at hx
    have hx' := rmap_at (f := Rn.enc) hx
    have hr : (x.r != 34) = true := by
     have : ¬ x.r = 34 := by simpa [peekR, hx] using hp
     simpa using this
    have g1 : ¬ (rs.length : Int) ≤ (k0 : Int) := by omega
    simp -implicitDefEqProofs only [A119, B119, sS, reduceCtorEq, seval, w1, hl, g1, hx, hx', Rn.enc, hr]
   ·have g1 : (rs.length : Int) ≤ (k0 : Int) := by omega
    simp -implicitDefEqProofs only [A119, B119, sS, reduceCtorEq, seval, w1, hl, g1]
  ·simp only [st71, ex71, cells_nil, List.replicate, List.cons_append, List.nil_append] at hl
   simp -implicitDefEqProofs only [A119, B119, sS, reduceCtorEq, seval, w1, hl]
def tkd (kind : Int) (text : ByteArray) (num l c : Int) : Res := .box [.d (.int .i64 kind), .d (.str text), .d (.int .i64 num), .d (.slice 1 []), .d (.int .i64 l), .d (.int .i64 c)]
def tk0 : Res := .box [.d (.int .i64 0), .d (.str ⟨#[]⟩), .d (.int .i64 0), .row 1 [] 0, .d (.int .i64 0), .d (.int .i64 0)]
def st39 (rs : List Rn) (k n : Nat) : List DV := [.d (.slice 4 (rs.map Rn.enc)), .d (.int .i64 k), .d .undef, .d .undef, .ptr 1 0, .d .undef, .d .undef, .d .undef, .ptr 3 0, .d .undef, .d .undef, .d (.int .i64 n)] ++ List.replicate 113 (.d .undef)
def ex39 (a b : FV) (n : Nat) : List DV := [.d .undef, .d .undef, .d .undef, .d .undef, .ptr 1 0, .d a, .d b, .d .undef, .ptr 3 0, .d .undef, .d .undef, .d (.int .i64 n)] ++ List.replicate 113 (.d .undef)
theorem numF_sticky (l1 l2 : List Rn) (h : (numF l1).1 = true) : (numF (l1 ++ l2)).1 = true := by
 unfold numF at h ⊢
 rw [List.foldl_append]
 generalize l1.foldl (fun s x => numStep s x.r) (false, 0) = s at *
 induction l2 generalizing s with
 | nil => exact h
 | cons x l ih =>
  rw [List.foldl_cons]
  refine ih _ ?_
  unfold numStep
  rw [if_pos h]
  exact h
theorem loop39 {rs : List Rn} {k : Nat} {tl tc : Int} (hsz : rs.length ≤ 100000) (hk : k ≤ rs.length) :
  ∀ (j n : Nat), n + j = cnt rDig (rs.drop k) → (numF ((rs.drop k).take n)).1 = false → 0 ≤ (numF ((rs.drop k).take n)).2 → (numF ((rs.drop k).take n)).2 ≤ mostN →
   if (numF ((rs.drop k).take (cnt rDig (rs.drop k)))).1 = true then ∃ v n', L env 4 true H87L17 X87L17 B87L17 (st39 rs k n) [.nilrow, tk0, .nilrow, tkd 3 ⟨#[]⟩ (numF ((rs.drop k).take n)).2 tl tc] = some (.ret, ex39 (.int .i64 0) (.int .i64 3) n', [.nilrow, tkd 3 ⟨#[]⟩ v tl tc, .nilrow, tkd 3 ⟨#[]⟩ v tl tc])
   else L env 4 true H87L17 X87L17 B87L17 (st39 rs k n) [.nilrow, tk0, .nilrow, tkd 3 ⟨#[]⟩ (numF ((rs.drop k).take n)).2 tl tc] = some (.exit 0, ex39 .undef .undef (cnt rDig (rs.drop k)), [.nilrow, tk0, .nilrow, tkd 3 ⟨#[]⟩ (numF ((rs.drop k).take (cnt rDig (rs.drop k)))).2 tl tc]) := by
 obtain ⟨K, hK⟩ : ∃ K, L env 4 true H87L17 X87L17 B87L17 = K := ⟨_, rfl⟩
 rw [hK]
 have hm := cnt_le rDig (rs.drop k)
 rw [List.length_drop] at hm
 have hc := cnt_drop rDig rs k
 intro j
 induction j with
 | zero =>
  intro n hn h1 h2 h3
  have : n = cnt rDig (rs.drop k) := by omega
  rw [← this, h1, if_neg (by decide)]
  rw [← this] at hc
  generalize (numF ((rs.drop k).take n)).2 = v at *
  have w1 : IntKind.i64.wrap ((k : Int) + (n : Nat)) = ((k + n : Nat) : Int) := by rw [wrap_i64 (by omega) (by omega)]; simp
  rcases hc.2 with hl | ⟨y, hy, hy2⟩
  ·have g1 : ¬ ((k + n : Nat) : Int) < rs.length := by omega
   rw [L_round hK]
   simp -implicitDefEqProofs only [B87L17, st39, ex39, tk0, tkd, sS, reduceCtorEq, seval, w1, g1]
  ·have hlt := (List.getElem?_eq_some_iff.1 hy).1
   have g1 : ((k + n : Nat) : Int) < rs.length := by omega
   have hy' := rmap_at (f := Rn.enc) hy
   have e70 := fun h => rdigit_ok y.r h
   rw [hy2] at e70
   rw [L_round hK]
   simp -implicitDefEqProofs only [B87L17, st39, ex39, tk0, tkd, sS, reduceCtorEq, seval, w1, g1, hy, hy', Rn.enc, e70]
 | succ j ih =>
  intro n hn h1 h2 h3
  have hx := hc.1 n (by omega)
  obtain ⟨hx, hd⟩ := hx
  generalize rs.getD (k + n) ⟨0, 0, 0, 0⟩ = x at *
  have hx' := rmap_at (f := Rn.enc) hx
  have hlt := (List.getElem?_eq_some_iff.1 hx).1
  have g1 : ((k + n : Nat) : Int) < rs.length := by omega
  have e70 := fun h => rdigit_ok x.r h
  rw [hd] at e70
  have hd' := hd
  simp only [rDig, Bool.and_eq_true, decide_eq_true_eq] at hd'
  have htk : (rs.drop k).take (n + 1) = (rs.drop k).take n ++ [x] := by
   rw [List.take_add_one, List.getElem?_drop, hx]
   rfl
  have hsn : numF ((rs.drop k).take (n + 1)) = numStep (false, (numF ((rs.drop k).take n)).2) x.r := by
   rw [htk, numF_snoc]
   congr 1
   rw [← h1]
  have stick : (numF ((rs.drop k).take (n + 1))).1 = true → (numF ((rs.drop k).take (cnt rDig (rs.drop k)))).1 = true := fun hh => by
   have : (rs.drop k).take (cnt rDig (rs.drop k)) = (rs.drop k).take (n + 1) ++ ((rs.drop k).drop (n + 1)).take (cnt rDig (rs.drop k) - (n + 1)) := by
    have e : cnt rDig (rs.drop k) = n + 1 + (cnt rDig (rs.drop k) - (n + 1)) := by omega
    conv => lhs; rw [e, List.take_add]
   rw [this]
   exact numF_sticky _ _ hh
  have w1 : IntKind.i64.wrap ((k : Int) + (n : Nat)) = ((k + n : Nat) : Int) := by rw [wrap_i64 (by omega) (by omega)]; simp
  have w2 : IntKind.i32.wrap (x.r - 48) = x.r - 48 := wrap_i32 (by omega) (by omega)
  have w3 : IntKind.i64.wrap (x.r - 48) = x.r - 48 := wrap_i64 (by omega) (by omega)
  have w4 : IntKind.i64.wrap ((n : Int) + 1) = ((n + 1 : Nat) : Int) := by rw [wrap_i64 (by omega) (by omega)]; simp
  have ih := ih (n + 1) (by omega)
  have hin := numStep_in (s := (false, (numF ((rs.drop k).take n)).2)) h2 h3 hd'.1
  rw [← hsn] at hin
  have hex : (numF ((rs.drop k).take (n + 1))) = if mostN < (numF ((rs.drop k).take n)).2 * 10 + (x.r - 48) then (true, (numF ((rs.drop k).take n)).2) else (false, (numF ((rs.drop k).take n)).2 * 10 + (x.r - 48)) := by
   rw [hsn]
   unfold numStep
   rfl
  generalize (numF ((rs.drop k).take n)).2 = v at *
  unfold mostN at *
  by_cases c1 : 461168601842738790 < v
  ·rw [if_pos (by omega)] at hex
   rw [if_pos (stick (by rw [hex]))]
   refine ⟨v, n, ?_⟩
   rw [L_round hK]
   simp -implicitDefEqProofs only [B87L17, st39, ex39, tk0, tkd, sS, reduceCtorEq, seval, w1, w2, w3, w4, g1, hx, hx', Rn.enc, e70, c1, putCells]
  ·have w5 : IntKind.i64.wrap (v * 10) = v * 10 := wrap_i64 (by omega) (by omega)
   have w6 : IntKind.i64.wrap (v * 10 + (x.r - 48)) = v * 10 + (x.r - 48) := wrap_i64 (by omega) (by omega)
   by_cases c2 : 4611686018427387903 < v * 10 + (x.r - 48)
   ·rw [if_pos c2] at hex
    rw [if_pos (stick (by rw [hex]))]
    refine ⟨v * 10 + (x.r - 48), n, ?_⟩
    rw [L_round hK]
    simp -implicitDefEqProofs only [B87L17, st39, ex39, tk0, tkd, sS, reduceCtorEq, seval, w1, w2, w3, w4, w5, w6, g1, hx, hx', Rn.enc, e70, c1, c2, putCells]
   ·rw [if_neg c2] at hex
    rw [hex] at ih hin
    have ih := ih rfl hin.1 hin.2
    simp only at ih
    have step : K (st39 rs k n) [.nilrow, tk0, .nilrow, tkd 3 ⟨#[]⟩ v tl tc] = K (st39 rs k (n + 1)) [.nilrow, tk0, .nilrow, tkd 3 ⟨#[]⟩ (v * 10 + (x.r - 48)) tl tc] := by
     generalize hR : K (st39 rs k (n + 1)) [.nilrow, tk0, .nilrow, tkd 3 ⟨#[]⟩ (v * 10 + (x.r - 48)) tl tc] = RR
     simp only [st39, tk0, tkd, List.replicate, List.cons_append, List.nil_append] at hR
     rw [L_round hK]
     simp -implicitDefEqProofs only [B87L17, st39, tk0, tkd, sS, reduceCtorEq, seval, w1, w2, w3, w4, w5, w6, g1, hx, hx', Rn.enc, e70, c1, c2, putCells, hR]
    rw [step]
    exact ih
end Go.Proofs.YtpemlmhggiaflaaGreatDoor.Codes
namespace Go.Proofs.YtpemlmhggiaflaaGreatDoor.Codes
open Go Go.Deepv
theorem byteB_sz (v : Int) : (byteB v).size = 1 := rfl
theorem sign_size {rs : List Rn} {k : Nat} (hk : k < rs.length) (hsc : ∀ x ∈ rs, rScal x.r = true) : (textR ((rs.drop k).take (signN (peekR rs k) (peekR rs (k + 1))))).size = signN (peekR rs k) (peekR rs (k + 1)) := by
 have hx : rs[k]? = some rs[k] := List.getElem?_eq_getElem _
 have hp : peekR rs k = rs[k].r := by simp [peekR, hx]
 have hdr : rs.drop k = rs[k] :: rs.drop (k + 1) := by simp
 have h0 := ((rScal_iff _).1 (hsc rs[k] (List.mem_of_getElem? hx))).1
 have hl := signN_le (peekR rs k) (peekR rs (k + 1))
 generalize hs : signN (peekR rs k) (peekR rs (k + 1)) = n at *
 have hn : n = 0 ∨ n = 1 ∨ n = 2 := by omega
 rcases hn with rfl | rfl | rfl
 ·rfl
 ·have h1 : rs[k].r < 128 := by
   unfold signN at hs
   split at hs
   ·cases hs
   ·split at hs
    ·rename_i h
     rw [hp] at h
     have := (isSign_lt h).2
     omega
    ·cases hs
  rw [hdr]
  simp only [List.take_succ_cons, List.take_zero]
  unfold textR
  rw [List.foldl_cons, List.foldl_nil, empty_app, encB_byteB h0 h1]
  rfl
 ·have hd := hl.2 rfl
  have hlt := peekR_lt hd
  have hy : rs[k + 1]? = some rs[k + 1] := List.getElem?_eq_getElem _
  have hq : peekR rs (k + 1) = rs[k + 1].r := by simp [peekR, hy]
  have hdr2 : rs.drop (k + 1) = rs[k + 1] :: rs.drop (k + 1 + 1) := by simp
  have h1 : rs[k].r < 128 ∧ rs[k + 1].r < 128 := by
   unfold signN at hs
   split at hs
   ·rename_i h
    rw [hp, hq] at h
    omega
   ·split at hs <;> cases hs
  rw [hdr, hdr2]
  simp only [List.take_succ_cons, List.take_zero]
  unfold textR
  rw [List.foldl_cons, List.foldl_cons, List.foldl_nil, empty_app, encB_byteB h0 h1.1, encB_byteB (by rw [← hq]; exact hd) h1.2, ByteArray.size_append]
  rfl
set_option maxHeartbeats 2000000 in
theorem one_ok {rs : List Rn} (hsz : rs.length ≤ 100000) (hsc : ∀ x ∈ rs, rScal x.r = true) {k : Nat} {x : Rn} (hx : rs[k]? = some x) (h : List Res) :
  match tokK rs k with
  | .ok (v, k') => D env 87 [.d (.slice 4 (rs.map Rn.enc)), .d (.int .i64 k)] h = some (.val (.d (.tup [.agg (v.enc x.l x.c), .int .i64 (k' - k : Nat), .int .i64 0])) h)
  | .error e => ∃ (v : Tk) (n : Int), D env 87 [.d (.slice 4 (rs.map Rn.enc)), .d (.int .i64 k)] h = some (.val (.d (.tup [.agg (v.enc x.l x.c), .int .i64 n, .int .i64 e])) h) := by
 rw [D_dat (F := A87) rfl rfl rfl rfl]
 have hk : k < rs.length := (List.getElem?_eq_some_iff.1 hx).1
 have hp : peekR rs k = x.r := by simp [peekR, hx]
 have hx' := rmap_at (f := Rn.enc) hx
 have e51 := fun h => rlow_ok x.r h
 have e50 := fun h => rup_ok x.r h
 have e70 := fun h => rdigit_ok x.r h
 unfold tokK
 rw [hp]
 have z0 : ((0 : Nat) : Int) = 0 := rfl
 have hem : (⟨#[]⟩ : ByteArray).toList = [] := by rw [ByteArray.toList_eq]
 cases f1 : rLow x.r || rUp x.r with
 | true =>
  simp only [if_true]
  have e69 := fun h => rname_ok hsz hsc (Nat.le_of_lt hk) h
  have e19 := fun h => rword_ok (textR ((rs.drop k).take (cnt rPart (rs.drop k)))) h
  generalize textR ((rs.drop k).take (cnt rPart (rs.drop k))) = txt at *
  generalize cnt rPart (rs.drop k) = m at *
  by_cases h24 : 24 < m
  ·have g24 : (24 : Int) < m := by omega
   simp only [h24, if_true]
   refine ⟨⟨nameKind txt x.r, txt, 0, ⟨#[]⟩⟩, 0, ?_⟩
   simp only [Tk.enc, cells_nil]
   unfold nameKind
   cases hl : rLow x.r <;> cases hu : rUp x.r <;> cases hw : isWord txt <;> rw [hl] at e51 f1 <;> rw [hu] at e50 f1 <;> rw [hw] at e19 <;>
    first
    | (exact absurd f1 (by decide))
    | simp -implicitDefEqProofs only [A87, B87, sS, reduceCtorEq, seval, hx, hx', Rn.enc, e51, e50, e69, e19, g24, putCells]
  ·have g24 : ¬ (24 : Int) < m := by omega
   simp only [h24, if_false, Nat.add_sub_cancel_left]
   simp only [Tk.enc, cells_nil]
   unfold nameKind
   cases hl : rLow x.r <;> cases hu : rUp x.r <;> cases hw : isWord txt <;> rw [hl] at e51 f1 <;> rw [hu] at e50 f1 <;> rw [hw] at e19 <;>
    first
    | (exact absurd f1 (by decide))
    | simp -implicitDefEqProofs only [A87, B87, sS, reduceCtorEq, seval, hx, hx', Rn.enc, e51, e50, e69, e19, g24, putCells]
 | false =>
  have hl : rLow x.r = false := by cases h : rLow x.r <;> simp_all
  have hu : rUp x.r = false := by cases h : rUp x.r <;> simp_all
  rw [hl] at e51
  rw [hu] at e50
  simp only [Bool.false_eq_true, if_false]
  cases f2 : rDig x.r with
  | true =>
   rw [f2] at e70
   simp only [if_true]
   have hl39 := loop39 (tl := x.l) (tc := x.c) hsz (Nat.le_of_lt hk) (cnt rDig (rs.drop k)) 0 (by omega) rfl (Int.le_refl 0) (show (0 : Int) ≤ mostN by decide)
   have n0 : numF ((rs.drop k).take 0) = (false, 0) := rfl
   rw [n0] at hl39
   generalize numF ((rs.drop k).take (cnt rDig (rs.drop k))) = q at *
   generalize cnt rDig (rs.drop k) = m at *
   rcases q with ⟨g, v⟩
   cases g with
   | true =>
    simp only [if_true] at hl39 ⊢
    obtain ⟨v', n', hl39⟩ := hl39
    refine ⟨⟨3, ⟨#[]⟩, v', ⟨#[]⟩⟩, 0, ?_⟩
    simp only [st39, ex39, tk0, tkd, Tk.enc, cells_nil, z0, List.replicate, List.cons_append, List.nil_append] at *
    simp -implicitDefEqProofs only [A87, B87, sS, reduceCtorEq, seval, hx, hx', Rn.enc, e51, e50, e70, hl39, putCells]
   | false =>
    simp only [Bool.false_eq_true, if_false, Nat.add_sub_cancel_left] at hl39 ⊢
    simp only [st39, ex39, tk0, tkd, Tk.enc, cells_nil, z0, List.replicate, List.cons_append, List.nil_append] at *
    simp -implicitDefEqProofs only [A87, B87, sS, reduceCtorEq, seval, hx, hx', Rn.enc, e51, e50, e70, hl39, putCells]
  | false =>
   rw [f2] at e70
   simp only [Bool.false_eq_true, if_false]
   by_cases f3 : x.r = 34
   ·have f3' : (x.r == 34) = true := by simpa using f3
    simp only [f3, if_true]
    have e71 := fun h => rquoted_ok hsz hsc hk h
    cases hq : qtK rs (rs.length + 1) (k + 1) ⟨#[]⟩ with
    | none =>
     rw [hq] at e71
     simp only at e71 ⊢
     refine ⟨⟨4, ⟨#[]⟩, 0, ⟨#[]⟩⟩, 0, ?_⟩
     simp only [Tk.enc, cells_nil]
     simp -implicitDefEqProofs only [A87, B87, sS, reduceCtorEq, seval, hx, hx', Rn.enc, e51, e50, e70, f3', e71, putCells]
    | some v =>
     obtain ⟨b, k'⟩ := v
     rw [hq] at e71
     simp only at e71 ⊢
     by_cases h64 : 64 < b.size
     ·simp only [h64, if_true] at e71 ⊢
      refine ⟨⟨4, ⟨#[]⟩, 0, ⟨#[]⟩⟩, 0, ?_⟩
      simp only [Tk.enc, cells_nil]
      simp -implicitDefEqProofs only [A87, B87, sS, reduceCtorEq, seval, hx, hx', Rn.enc, e51, e50, e70, f3', e71, putCells]
     ·simp only [h64, if_false] at e71 ⊢
      simp only [Tk.enc]
      simp -implicitDefEqProofs only [A87, B87, sS, reduceCtorEq, seval, hx, hx', Rn.enc, e51, e50, e70, f3', e71, putCells]
   ·have f4 : (x.r == 34) = false := by simpa using f3
    simp only [f3, if_false]
    have e72 := fun h => rsign_ok hsz hsc hk h
    have hss := sign_size hk hsc
    rw [hp] at e72 hss
    by_cases h0 : signN x.r (peekR rs (k + 1)) = 0
    ·rw [h0] at e72 hss ⊢
     simp only [if_true]
     have t0 : textR ((rs.drop k).take 0) = ⟨#[]⟩ := rfl
     rw [t0] at e72
     refine ⟨⟨6, ⟨#[]⟩, 0, ⟨#[]⟩⟩, 0, ?_⟩
     simp only [Tk.enc, cells_nil]
     have he : ((⟨#[]⟩ : ByteArray).toList == (⟨#[]⟩ : ByteArray).toList) = true := by rw [hem]; rfl
     simp -implicitDefEqProofs only [A87, B87, sS, reduceCtorEq, seval, hx, hx', Rn.enc, e51, e50, e70, f4, e72, he, putCells]
    ·simp only [h0, if_false, Nat.add_sub_cancel_left]
     generalize textR ((rs.drop k).take (signN x.r (peekR rs (k + 1)))) = txt at *
     have he : (txt.toList == (⟨#[]⟩ : ByteArray).toList) = false := by
      rw [hem, ByteArray.toList_eq]
      cases ht : txt.data.toList with
      | nil =>
       have : txt.size = 0 := by
        have : txt.data.toList.length = txt.size := Array.length_toList
        rw [← this, ht]
        rfl
       omega
      | cons a b => rfl
     generalize signN x.r (peekR rs (k + 1)) = n at *
     simp only [Tk.enc, cells_nil]
     simp -implicitDefEqProofs only [A87, B87, sS, reduceCtorEq, seval, hx, hx', Rn.enc, e51, e50, e70, f4, e72, he, hss, putCells]
end Go.Proofs.YtpemlmhggiaflaaGreatDoor.Codes
namespace Go.Proofs.YtpemlmhggiaflaaGreatDoor.Codes
open Go Go.Deepv
theorem drop_at {rs : List Rn} {i : Nat} {x : Rn} (hx : rs[i]? = some x) : rs.drop i = x :: rs.drop (i + 1) := by
 have := (List.getElem?_eq_some_iff.1 hx).2
 rw [← this]
 simp
theorem skK_blank {rs : List Rn} {i : Nat} {x : Rn} (hx : rs[i]? = some x) (hb : rBlank x.r = true) : skK rs i = skK rs (i + 1) := by
 unfold skK
 rw [drop_at hx]
 simp only [sk, hb, if_true]
theorem skK_hash {rs : List Rn} {i : Nat} {x : Rn} (hx : rs[i]? = some x) (hb : x.r = 35) : skK rs i = skK rs (i + cnt notNl (rs.drop i)) := by
 unfold skK
 have h1 : sk false (rs.drop i) = sk true (rs.drop i) := by
  have b1 : rBlank 35 = false := by decide
  rw [drop_at hx]
  simp only [sk, hb, b1]
  simp
 rw [h1, sk_line, List.drop_drop]
theorem skK_tok {rs : List Rn} {i : Nat} {x : Rn} (hx : rs[i]? = some x) (hb : rBlank x.r = false) (h35 : ¬ x.r = 35) : skK rs i = i := by
 have hlt := (List.getElem?_eq_some_iff.1 hx).1
 unfold skK
 have h1 : sk false (rs.drop i) = rs.drop i := by
  rw [drop_at hx]
  simp [sk, hb, h35]
 rw [h1, List.length_drop]
 omega
theorem skK_end {rs : List Rn} {i : Nat} (h : rs.length ≤ i) : skK rs i = rs.length := by
 unfold skK
 rw [List.drop_eq_nil_of_le h]
 simp [sk]
def st14 (s : ByteArray) (rs : List Rn) (out : List (List FV)) (i : Nat) : List DV := [.d (.str s), .d .undef, .d .undef, .ptr 0 0, .d (.slice 4 (rs.map Rn.enc)), .d .undef, .row 6 out 2, .ptr 3 0, .d (.int .i64 i)] ++ List.replicate 93 (.d .undef)
def ex14 (s : ByteArray) (v : FV) (out : List (List FV)) : List DV := [.d (.str s), .d .undef, .d v, .ptr 0 0, .d .undef, .d .undef, .row 6 out 2, .ptr 3 0] ++ List.replicate 94 (.d .undef)
theorem loop14c (s : ByteArray) {rs : List Rn} (hsz : rs.length ≤ 100000) (out : List (List FV)) (H : List Res) (hH : H.length = 4) :
  ∀ (l : List Rn) (i : Nat), rs.drop i = l → i ≤ rs.length → L env 4 true H56L11 X56L11 B56L11 (st14 s rs out i) H = some (.exit 2, st14 s rs out (i + cnt notNl l), H) := by
 obtain ⟨K, hK⟩ : ∃ K, L env 4 true H56L11 X56L11 B56L11 = K := ⟨_, rfl⟩
 rw [hK]
 have ht : H.take 4 = H := List.take_of_length_le (by omega)
 intro l
 induction l with
 | nil =>
  intro i h1 h2
  have hk : ¬ (i : Int) < rs.length := by
   have := congrArg List.length h1
   rw [List.length_drop, List.length_nil] at this
   omega
  rw [L_round hK]
  simp -implicitDefEqProofs only [B56L11, st14, cnt, sS, reduceCtorEq, seval, hk, ht]
 | cons x l ih =>
  intro i h1 h2
  have hx : rs[i]? = some x := by
   have := List.getElem?_drop (xs := rs) (i := i) (j := 0)
   rw [h1] at this
   simpa using this.symm
  have hlt := (List.getElem?_eq_some_iff.1 hx).1
  have hx' := rmap_at (f := Rn.enc) hx
  have hk : (i : Int) < rs.length := by omega
  by_cases h10 : x.r = 10
  ·have hc : cnt notNl (x :: l) = 0 := by simp [cnt, notNl, h10]
   rw [hc, Nat.add_zero, L_round hK]
   simp -implicitDefEqProofs only [B56L11, st14, sS, reduceCtorEq, seval, hk, ht, hx, hx', Rn.enc, h10]
  ·have hn : (x.r != 10) = true := by simpa using h10
   have hc : i + cnt notNl (x :: l) = i + 1 + cnt notNl l := by
    simp only [cnt, notNl, h10, decide_false, Bool.not_false, if_true]
    omega
   have hd : rs.drop (i + 1) = l := by rw [← List.drop_drop, h1]; rfl
   have ih := ih (i + 1) hd (by omega)
   have w1 : IntKind.i64.wrap ((i : Int) + 1) = ((i + 1 : Nat) : Int) := by rw [wrap_i64 (by omega) (by omega)]; simp
   rw [hc]
   generalize hR : some (DExit.exit 2, st14 s rs out (i + 1 + cnt notNl l), H) = RR at *
   simp only [st14, List.replicate, List.cons_append, List.nil_append] at ih
   rw [L_round hK]
   simp -implicitDefEqProofs only [B56L11, st14, sS, reduceCtorEq, seval, hk, ht, hx, hx', Rn.enc, hn, w1, ih]
theorem cnt_pos {rs : List Rn} {i : Nat} {x : Rn} (hx : rs[i]? = some x) (hb : x.r = 35) : 1 ≤ cnt notNl (rs.drop i) := by
 rw [drop_at hx]
 have : notNl 35 = true := by decide
 simp only [cnt, hb, this, if_true]
 omega
theorem loop14 (s : ByteArray) {rs : List Rn} (hsz : rs.length ≤ 100000) (hsc : ∀ x ∈ rs, rScal x.r = true) :
  ∀ (n i f : Nat) (out : List (List FV)), rs.length - i < n → rs.length < i + f → i ≤ rs.length → out.length ≤ 4096 →
   L env 4 true H56L7 X56L7 B56L7 (st14 s rs out i) [faultB 0 0 0, faultB 0 0 0, rr 6 out.length, walkB 1 1] =
    match lexK rs f (skK rs i) out.length with
    | (ts, none) => some (.exit 0, ex14 s .undef (out ++ encT ts), [faultB 0 0 0, faultB 0 0 0, rr 6 (out ++ encT ts).length, walkB 1 1])
    | (ts, some (e, l, c)) => some (.ret, ex14 s (.slice 6 []) (out ++ encT ts), [faultB e l c, faultB 0 0 0, rr 6 (out ++ encT ts).length, walkB 1 1]) := by
 obtain ⟨K, hK⟩ : ∃ K, L env 4 true H56L7 X56L7 B56L7 = K := ⟨_, rfl⟩
 rw [hK]
 intro n
 induction n with
 | zero => intro i f out h1; omega
 | succ n ih =>
  intro i f out h1 h2 h3 h4
  by_cases hlt : i < rs.length
  ·have hx : rs[i]? = some rs[i] := List.getElem?_eq_getElem _
   generalize rs[i] = x at hx
   have hx' := rmap_at (f := Rn.enc) hx
   have hk : (i : Int) < rs.length := by omega
   have e38 := fun h => rblank_ok x.r h
   have w1 : IntKind.i64.wrap ((i : Int) + 1) = ((i + 1 : Nat) : Int) := by rw [wrap_i64 (by omega) (by omega)]; simp
   cases hb : rBlank x.r with
   | true =>
    rw [hb] at e38
    have ih := ih (i + 1) f out (by omega) (by omega) (by omega) h4
    rw [skK_blank hx hb]
    generalize (match lexK rs f (skK rs (i + 1)) out.length with
    | (ts, none) => some (DExit.exit 0, ex14 s .undef (out ++ encT ts), [faultB 0 0 0, faultB 0 0 0, rr 6 (out ++ encT ts).length, walkB 1 1])
    | (ts, some (e, l, c)) => some (DExit.ret, ex14 s (.slice 6 []) (out ++ encT ts), [faultB e l c, faultB 0 0 0, rr 6 (out ++ encT ts).length, walkB 1 1])) = RHS at *
    simp only [st14, faultB, walkB, List.replicate, List.cons_append, List.nil_append] at *
    rw [L_round hK]
    simp -implicitDefEqProofs only [B56L7, sS, reduceCtorEq, seval, hk, hx, hx', Rn.enc, e38, w1, ih]
   | false =>
    rw [hb] at e38
    by_cases h35 : x.r = 35
    ·have hc := cnt_pos hx h35
     have hcl := cnt_le notNl (rs.drop i)
     rw [List.length_drop] at hcl
     have ih := ih (i + cnt notNl (rs.drop i)) f out (by omega) (by omega) (by omega) h4
     have hin := loop14c s hsz out [faultB 0 0 0, faultB 0 0 0, rr 6 out.length, walkB 1 1] rfl (rs.drop i) i rfl h3
     rw [skK_hash hx h35]
     rw [h35] at e38
     generalize i + cnt notNl (rs.drop i) = i2 at *
     generalize (match lexK rs f (skK rs i2) out.length with
     | (ts, none) => some (DExit.exit 0, ex14 s .undef (out ++ encT ts), [faultB 0 0 0, faultB 0 0 0, rr 6 (out ++ encT ts).length, walkB 1 1])
     | (ts, some (e, l, c)) => some (DExit.ret, ex14 s (.slice 6 []) (out ++ encT ts), [faultB e l c, faultB 0 0 0, rr 6 (out ++ encT ts).length, walkB 1 1])) = RHS at *
     simp only [st14, faultB, walkB, List.replicate, List.cons_append, List.nil_append] at *
     rw [L_round hK]
     simp -implicitDefEqProofs only [B56L7, sS, reduceCtorEq, seval, hk, hx, hx', Rn.enc, e38, h35, hin, ih]
    ·have f35 : (x.r == 35) = false := by simpa using h35
     rw [skK_tok hx hb h35]
     match f, h2 with
     | 0, h2 => omega
     | f + 1, h2 =>
     have e39 := one_ok hsz hsc hx [faultB 0 0 0, faultB 0 0 0, rr 6 out.length, walkB 1 1]
     cases htk : tokK rs i with
     | error e =>
      rw [htk] at e39
      simp only at e39
      obtain ⟨v, m, e39⟩ := e39
      have he : ¬ e = 0 := by have := tokK_err htk; omega
      have he1 : (e == 0) = false := by simpa using he
      have he2 : (e != 0) = true := by simpa using he
      have hlk : lexK rs (f + 1) i out.length = ([], some (e, x.l, x.c)) := by simp only [lexK, hx, htk]
      rw [hlk]
      simp only [encT, List.map_nil, List.append_nil]
      simp only [st14, ex14, faultB, walkB, Tk.enc, List.replicate, List.cons_append, List.nil_append] at *
      rw [L_round hK]
      simp -implicitDefEqProofs only [B56L7, sS, reduceCtorEq, seval, hk, hx, hx', Rn.enc, e38, f35, e39, he, he1, he2, putCells]
     | ok vk =>
      obtain ⟨v, k'⟩ := vk
      rw [htk] at e39
      simp only at e39
      have hnx := tokK_next hlt htk
      by_cases hn : out.length = 4096
      ·have hlk : lexK rs (f + 1) i out.length = ([], some (27, x.l, x.c)) := by simp only [lexK, hx, htk, hn, if_true]
       have g1 : (4096 : Int) ≤ out.length := by omega
       rw [hlk]
       simp only [encT, List.map_nil, List.append_nil]
       simp only [st14, ex14, faultB, walkB, Tk.enc, List.replicate, List.cons_append, List.nil_append] at *
       rw [L_round hK]
       simp -implicitDefEqProofs only [B56L7, sS, reduceCtorEq, seval, hk, hx, hx', Rn.enc, e38, f35, e39, g1, putCells]
      ·have g1 : ¬ (4096 : Int) ≤ out.length := by omega
       have hlk : lexK rs (f + 1) i out.length = ((v, x.l, x.c) :: (lexK rs f (skK rs k') (out.length + 1)).1, (lexK rs f (skK rs k') (out.length + 1)).2) := by simp only [lexK, hx, htk, hn, if_false]
       have len1 : (out ++ [v.enc x.l x.c]).length = out.length + 1 := by simp
       have ih := ih k' f (out ++ [v.enc x.l x.c]) (by omega) (by omega) hnx.2 (by omega)
       rw [len1] at ih
       rw [hlk]
       have fin : ∀ a h, K a h = (match lexK rs f (skK rs k') (out.length + 1) with
         | (ts, none) => some (.exit 0, ex14 s .undef (out ++ [v.enc x.l x.c] ++ encT ts), [faultB 0 0 0, faultB 0 0 0, rr 6 (out ++ [v.enc x.l x.c] ++ encT ts).length, walkB 1 1])
         | (ts, some (e, l, c)) => some (.ret, ex14 s (.slice 6 []) (out ++ [v.enc x.l x.c] ++ encT ts), [faultB e l c, faultB 0 0 0, rr 6 (out ++ [v.enc x.l x.c] ++ encT ts).length, walkB 1 1])) →
         K a h = (match (((v, x.l, x.c) :: (lexK rs f (skK rs k') (out.length + 1)).1, (lexK rs f (skK rs k') (out.length + 1)).2) : List (Tk × Int × Int) × Option (Int × Int × Int)) with
         | (ts, none) => some (.exit 0, ex14 s .undef (out ++ encT ts), [faultB 0 0 0, faultB 0 0 0, rr 6 (out ++ encT ts).length, walkB 1 1])
         | (ts, some (e, l, c)) => some (.ret, ex14 s (.slice 6 []) (out ++ encT ts), [faultB e l c, faultB 0 0 0, rr 6 (out ++ encT ts).length, walkB 1 1])) := fun a h hk => by
        rw [hk]
        generalize lexK rs f (skK rs k') (out.length + 1) = y
        rcases y with ⟨ts, _ | ⟨e, l, c⟩⟩ <;> simp only [encT, List.map_cons, List.append_assoc, List.cons_append, List.nil_append]
       have ih2 := fin _ _ ih
       have e5 : ∀ T1 T2 : Res, appRow 6 72 (.row 6 out 2) (some (6, [v.enc x.l x.c])) [faultB 0 0 0, faultB 0 0 0, rr 6 out.length, walkB 1 1, T1, T2] = some (.val (.row 6 (out ++ [v.enc x.l x.c]) 2) ([faultB 0 0 0, faultB 0 0 0, rr 6 out.length, walkB 1 1, T1, T2].set 2 (rr 6 (out.length + 1)))) := fun T1 T2 =>
        appRow_one rfl (by omega) (by decide) (by decide) 6 rfl
       simp only [List.set_cons_succ, List.set_cons_zero] at e5
       have w2 : IntKind.i64.wrap ((i : Int) + ((k' - i : Nat) : Int)) = (k' : Int) := by rw [wrap_i64 (by omega) (by omega)]; omega
       generalize (match (((v, x.l, x.c) :: (lexK rs f (skK rs k') (out.length + 1)).1, (lexK rs f (skK rs k') (out.length + 1)).2) : List (Tk × Int × Int) × Option (Int × Int × Int)) with
         | (ts, none) => some (DExit.exit 0, ex14 s .undef (out ++ encT ts), [faultB 0 0 0, faultB 0 0 0, rr 6 (out ++ encT ts).length, walkB 1 1])
         | (ts, some (e, l, c)) => some (DExit.ret, ex14 s (.slice 6 []) (out ++ encT ts), [faultB e l c, faultB 0 0 0, rr 6 (out ++ encT ts).length, walkB 1 1])) = RHS at *
       simp only [st14, faultB, walkB, Tk.enc, List.replicate, List.cons_append, List.nil_append] at *
       rw [L_round hK]
       simp -implicitDefEqProofs only [B56L7, sS, reduceCtorEq, seval, hk, hx, hx', Rn.enc, e38, f35, e39, g1, e5, w2, ih2, putCells]
  ·have hk : ¬ (i : Int) < rs.length := by omega
   have hlk : lexK rs f (skK rs i) out.length = ([], none) := by
    rw [skK_end (by omega)]
    cases f with
    | zero => rfl
    | succ f => simp [lexK]
   rw [hlk]
   simp only [encT, List.map_nil, List.append_nil]
   rw [L_round hK]
   simp -implicitDefEqProofs only [B56L7, st14, ex14, faultB, walkB, sS, reduceCtorEq, seval, hk]
end Go.Proofs.YtpemlmhggiaflaaGreatDoor.Codes
namespace Go.Proofs.YtpemlmhggiaflaaGreatDoor.Codes
open Go Go.Deepv
theorem rlex_ok (s : ByteArray) (h : List Res) : D env 56 [.d (.str s)] h = some (.val (.d (lexV s)) h) := by
 rw [D_dat (F := A56) rfl rfl rfl rfl]
 have e37 := fun h => rsplit_ok s h
 unfold lexV
 unfold splitV at e37
 by_cases hs : s.size ≤ 16384
 ·simp only [hs, if_true] at e37 ⊢
  obtain ⟨ws, hsc, hB | ⟨t, ht, hB⟩⟩ := text_cases _ s.data.toList (Nat.le_refl _)
  ·rw [spl_all hsc hB] at e37 ⊢
   have hlen : s.data.toList.length = s.size := Array.length_toList
   have hws := encLs_size ws
   rw [hB] at hlen
   have hpl := place_len ws 0 1 1
   have hpr := place_r ws 0 1 1
   have hsc2 : ∀ x ∈ place ws 0 1 1, rScal x.r = true := fun x hx => hsc x.r (by rw [← hpr]; exact List.mem_map_of_mem hx)
   have e40 := fun h => rplace_ok s ws hs hsc hB h
   simp only [hpr] at e37 ⊢
   generalize place ws 0 1 1 = rs at *
   have hl := loop14 s (by omega) hsc2 (rs.length + 1) 0 (rs.length + 1) [] (by omega) (by omega) (by omega) (by simp)
   have r0 : rr 6 ([] : List (List FV)).length = .nilrow := rfl
   have l0 : ([] : List (List FV)).length = 0 := rfl
   have z0 : ((0 : Nat) : Int) = 0 := rfl
   have hll := lexK_len rs (rs.length + 1) (skK rs 0) 0 (by omega)
   rw [r0, l0] at hl
   unfold lexR
   generalize lexK rs (rs.length + 1) (skK rs 0) 0 = y at *
   simp only [List.nil_append, List.set_cons_succ, List.set_cons_zero] at hl
   have hel : ∀ ts : List (Tk × Int × Int), (encT ts).length = ts.length := fun ts => by simp [encT]
   have hpos : s.size = 0 → advL 1 ws = 1 ∧ advC 1 ws = 1 := fun h0 => by
    have : ws = [] := List.length_eq_zero_iff.1 (by omega)
    rw [this]
    exact ⟨rfl, rfl⟩
   rcases y with ⟨ts, _ | ⟨e, l, c⟩⟩
   ·simp only at hl hll ⊢
    simp only [hel] at hl
    have ho := hel ts
    generalize encT ts = out at *
    rw [← ho] at hl
    generalize advL 1 ws = el at *
    generalize advC 1 ws = ec at *
    have e5 : ∀ T0 : Res, appRow 6 72 (.row 6 out 2) (some (6, [endT el ec])) [faultB 0 0 0, faultB 0 0 0, rr 6 out.length, T0] = some (.val (.row 6 (out ++ [endT el ec]) 2) ([faultB 0 0 0, faultB 0 0 0, rr 6 out.length, T0].set 2 (rr 6 (out.length + 1)))) ∨ out.length = 4096 := fun T0 => by
     by_cases hn : out.length = 4096
     ·exact .inr hn
     ·exact .inl (appRow_one rfl (by omega) (by decide) (by decide) 6 rfl)
    by_cases hn : ts.length = 4096
    ·rw [if_pos hn]
     have hn' : (4096 : Int) ≤ out.length := by omega
     by_cases h0 : s.size = 0
     ·obtain ⟨rfl, rfl⟩ := hpos h0
      have g0 : ¬ (0 : Int) < s.size := by omega
      simp only [st14, ex14, faultB, walkB, List.replicate, List.cons_append, List.nil_append, z0] at *
      simp -implicitDefEqProofs only [A56, B56, sS, reduceCtorEq, seval, e37, hl, g0, hn', putCells]
     ·have g0 : (0 : Int) < s.size := by omega
      simp only [st14, ex14, faultB, walkB, List.replicate, List.cons_append, List.nil_append, z0] at *
      simp -implicitDefEqProofs only [A56, B56, sS, reduceCtorEq, seval, e37, hl, e40, g0, hn', putCells]
    ·rw [if_neg hn]
     have hn' : ¬ (4096 : Int) ≤ out.length := by omega
     have e5 := fun T0 => (e5 T0).resolve_right (by omega)
     simp only [List.set_cons_succ, List.set_cons_zero] at e5
     by_cases h0 : s.size = 0
     ·obtain ⟨rfl, rfl⟩ := hpos h0
      have g0 : ¬ (0 : Int) < s.size := by omega
      simp only [st14, ex14, faultB, walkB, endT, Tk.enc, cells_nil, List.replicate, List.cons_append, List.nil_append, z0] at *
      simp -implicitDefEqProofs only [A56, B56, sS, reduceCtorEq, seval, e37, hl, g0, hn', e5, putCells]
     ·have g0 : (0 : Int) < s.size := by omega
      simp only [st14, ex14, faultB, walkB, endT, Tk.enc, cells_nil, List.replicate, List.cons_append, List.nil_append, z0] at *
      simp -implicitDefEqProofs only [A56, B56, sS, reduceCtorEq, seval, e37, hl, e40, g0, hn', e5, putCells]
   ·simp only at hl hll ⊢
    simp only [st14, ex14, faultB, walkB, List.replicate, List.cons_append, List.nil_append, z0] at *
    simp -implicitDefEqProofs only [A56, B56, sS, reduceCtorEq, seval, e37, hl, putCells]
  ·have e := spl_all_bad hsc ht hB
   generalize spl s s.size 0 1 1 = x at *
   rcases x with ⟨x1, x2⟩
   simp only at e
   subst e
   simp only at e37 ⊢
   simp -implicitDefEqProofs only [A56, B56, sS, reduceCtorEq, seval, e37, putCells]
 ·simp only [hs, if_false] at e37 ⊢
  simp -implicitDefEqProofs only [A56, B56, sS, reduceCtorEq, seval, e37, putCells]
end Go.Proofs.YtpemlmhggiaflaaGreatDoor.Codes
