/-
  A token as a text, in both; A token as a text, the document's; A text's tokens as a list; The lexer over lists of runes, without places; Tokens, shown, are read back; Each token that is read can be shown and is read back; how long it is shown
  Conditions: none.
-/
import Derived.Test.YtpemlmhggiaflaaGreatDoorNF
set_option linter.unusedVariables false
set_option linter.unusedSimpArgs false
set_option maxRecDepth 100000
namespace Go.Proofs.YtpemlmhggiaflaaGreatDoor.Codes
open Go Go.Deepv
def hexD (n : Nat) : UInt8 := hexes.data.toList.getD n 0
def escShow (c : UInt8) : List UInt8 := if c.toNat = 34 ∨ c.toNat = 92 then [92, c] else if 32 ≤ c.toNat ∧ c.toNat ≤ 126 then [c] else [92, 120, hexD (c.toNat / 16), hexD (c.toNat % 16)]
def escA (c : UInt8) : ByteArray := ⟨(escShow c).toArray⟩
def quoteB (b : ByteArray) : ByteArray := b.data.toList.foldl (fun a c => a ++ escA c) ⟨#[34]⟩ ++ ⟨#[34]⟩
def digitsB (n : Int) : ByteArray := ⟨(Lib.itoa (max n 0)).toArray⟩
def showV (t : Tk) : ByteArray := if t.kind = 1 ∨ t.kind = 2 ∨ t.kind = 5 ∨ t.kind = 6 then t.text else if t.kind = 3 then digitsB t.num else if t.kind = 4 then quoteB t.bytes else ⟨#[]⟩
theorem hexes_get : ∀ x : Fin 16, hexes[x.val]? = some (hexD x.val) := by decide
theorem and15 (n : Nat) (h : n < 256) : IntKind.u8.wrap ((BitVec.ofInt IntKind.u8.bits (n : Int) &&& BitVec.ofInt IntKind.u8.bits 15).toNat : Nat) = ((n % 16 : Nat) : Int) := by
 have : ∀ x : Fin 256, IntKind.u8.wrap ((BitVec.ofInt IntKind.u8.bits ((x.val : Nat) : Int) &&& BitVec.ofInt IntKind.u8.bits 15).toNat : Nat) = ((x.val % 16 : Nat) : Int) := by decide
 exact this ⟨n, h⟩
theorem escA_size (c : UInt8) : (escA c).size ≤ 4 := by
 show (escShow c).toArray.size ≤ 4
 rw [List.size_toArray]
 unfold escShow
 repeat' split
 all_goals simp
def st16 (b acc : ByteArray) (i : Nat) : List DV := [.d .undef, .d .undef, .d .undef, .row 1 (strCells acc) 0] ++ List.replicate 21 (.d .undef) ++ [.d (.slice 1 (strCells b)), .d (.int .i64 b.size), .d (.int .i64 i)] ++ List.replicate 39 (.d .undef)
def ex16 (acc : ByteArray) : List DV := [.d .undef, .d .undef, .d .undef, .row 1 (strCells acc) 0] ++ List.replicate 63 (.d .undef)
theorem loop16 (b : ByteArray) (hb : b.size ≤ 100000) :
  ∀ (l : List UInt8) (i : Nat) (acc : ByteArray), b.data.toList.drop i = l → i ≤ b.size → acc.size ≤ 4 * i + 1 →
   L env 1 true H23L12 X23L12 B23L12 (st16 b acc i) [rr 1 acc.size 5] = some (.exit 1, ex16 (l.foldl (fun a c => a ++ escA c) acc), [rr 1 (l.foldl (fun a c => a ++ escA c) acc).size 5]) := by
 obtain ⟨K, hK⟩ : ∃ K, L env 1 true H23L12 X23L12 B23L12 = K := ⟨_, rfl⟩
 rw [hK]
 have hlen : b.data.toList.length = b.size := Array.length_toList
 intro l
 induction l with
 | nil =>
  intro i acc h1 h2 h3
  have hk : ¬ (i : Int) < b.size := by
   have := congrArg List.length h1
   rw [List.length_drop, List.length_nil] at this
   omega
  rw [List.foldl_nil, L_round hK]
  simp -implicitDefEqProofs only [B23L12, st16, ex16, sS, reduceCtorEq, seval, hk]
 | cons c l ih =>
  intro i acc h1 h2 h3
  have hx : b.data.toList[i]? = some c := by
   have := List.getElem?_drop (xs := b.data.toList) (i := i) (j := 0)
   rw [h1] at this
   simpa using this.symm
  have hlt := (List.getElem?_eq_some_iff.1 hx).1
  have hx' : (strCells b)[i]? = some [.int .u8 c.toNat] := by
   unfold strCells
   rw [List.getElem?_map, hx]
   rfl
  have hk : (i : Int) < b.size := by omega
  have hd : b.data.toList.drop (i + 1) = l := by rw [← List.drop_drop, h1]; rfl
  have hsz := escA_size c
  have ih := ih (i + 1) (acc ++ escA c) hd (by omega) (by rw [ByteArray.size_append]; omega)
  have w1 : IntKind.i64.wrap ((i : Int) + 1) = ((i + 1 : Nat) : Int) := by rw [wrap_i64 (by omega) (by omega)]; simp
  have ap : appRow 1 1 (.row 1 (strCells acc) 0) (some (1, strCells (escA c))) [rr 1 acc.size 5] 5 = some (.val (.row 1 (strCells (acc ++ escA c)) 0) [rr 1 (acc ++ escA c).size 5]) := by
   have := appRow_any (sz := 1) (bytes := 1) (et := 5) (l := strCells acc) (new := strCells (escA c)) (t := 0) (h := [rr 1 acc.size 5]) (by rw [strCells_len]; rfl) (by rw [strCells_len, strCells_len]; omega) (by decide) (by decide) 1 rfl
   rw [this, strCells_app, strCells_len, strCells_len, ByteArray.size_append]
   rfl
  have hc := c.toNat_lt
  rw [List.foldl_cons]
  generalize hR : some (DExit.exit 1, ex16 (l.foldl (fun a c => a ++ escA c) (acc ++ escA c)), [rr 1 (l.foldl (fun a c => a ++ escA c) (acc ++ escA c)).size 5]) = RR at *
  simp only [st16, List.replicate, List.cons_append, List.nil_append] at ih
  have cells : strCells (escA c) = (escShow c).map fun x => [FV.int .u8 x.toNat] := rfl
  generalize acc ++ escA c = acc2 at *
  rw [cells] at ap
  unfold escShow at ap
  rw [L_round hK]
  by_cases c1 : c.toNat = 34
  ·have e : ((c.toNat : Nat) : Int) = 34 := by omega
   have z92 : ((92 : UInt8).toNat : Int) = 92 := rfl
   rw [if_pos (.inl c1)] at ap
   rw [e] at hx'
   simp only [List.map_cons, List.map_nil, z92, e] at ap
   simp -implicitDefEqProofs only [B23L12, st16, sS, reduceCtorEq, seval, hk, hx', ap, w1, ih]
  have f1 : (((c.toNat : Nat) : Int) == 34) = false := by simp; omega
  by_cases c2 : c.toNat = 92
  ·have e : ((c.toNat : Nat) : Int) = 92 := by omega
   have z92 : ((92 : UInt8).toNat : Int) = 92 := rfl
   rw [if_pos (.inr c2)] at ap
   rw [e] at hx'
   simp only [List.map_cons, List.map_nil, z92, e] at ap
   simp -implicitDefEqProofs only [B23L12, st16, sS, reduceCtorEq, seval, hk, hx', ap, w1, ih]
  have f2 : (((c.toNat : Nat) : Int) == 92) = false := by simp; omega
  rw [if_neg (by omega)] at ap
  by_cases c3 : 32 ≤ c.toNat ∧ c.toNat ≤ 126
  ·have g1 : (32 : Int) ≤ c.toNat := by omega
   have g2 : (c.toNat : Int) ≤ 126 := by omega
   rw [if_pos c3] at ap
   simp only [List.map_cons, List.map_nil] at ap
   simp -implicitDefEqProofs only [B23L12, st16, sS, reduceCtorEq, seval, hk, hx', f1, f2, g1, g2, ap, w1, ih]
  ·rw [if_neg c3] at ap
   have z92 : ((92 : UInt8).toNat : Int) = 92 := rfl
   have z120 : ((120 : UInt8).toNat : Int) = 120 := rfl
   have m4 : (min 4 IntKind.u8.bits) = 4 := rfl
   have p4 : (2 : Int) ^ 4 = ((16 : Nat) : Int) := rfl
   have d4 : (c.toNat : Int).fdiv 16 = ((c.toNat / 16 : Nat) : Int) := fdiv_lit c.toNat 16
   have a15 := and15 c.toNat hc
   have h1 := hexes_get ⟨c.toNat / 16, by omega⟩
   have h2 := hexes_get ⟨c.toNat % 16, by omega⟩
   simp only [hexes] at h1 h2
   simp only [List.map_cons, List.map_nil, z92, z120] at ap
   by_cases g1 : (32 : Int) ≤ c.toNat
   ·have g2 : ¬ (c.toNat : Int) ≤ 126 := by omega
    simp -implicitDefEqProofs only [B23L12, st16, sS, reduceCtorEq, seval, hk, hx', f1, f2, g1, g2, m4, p4, d4, a15, h1, h2, ap, w1, ih]
   ·simp -implicitDefEqProofs only [B23L12, st16, sS, reduceCtorEq, seval, hk, hx', f1, f2, g1, m4, p4, d4, a15, h1, h2, ap, w1, ih]
theorem fold_size (l : List UInt8) (acc : ByteArray) : (l.foldl (fun a c => a ++ escA c) acc).size ≤ acc.size + 4 * l.length := by
 induction l generalizing acc with
 | nil => simp
 | cons c l ih =>
  have := ih (acc ++ escA c)
  have := escA_size c
  rw [ByteArray.size_append] at *
  simp only [List.foldl_cons, List.length_cons]
  omega
theorem itoa_in {n : Int} (h1 : n ≤ 9223372036854775807) : -9223372036854775808 ≤ max n 0 ∧ max n 0 ≤ 9223372036854775807 := by omega
theorem show_ok (t : Tk) (l c : Int) (hb : t.bytes.size ≤ 100000) (hn : t.num ≤ 9223372036854775807) (h : List Res) : D env 23 [.d (.agg (t.enc l c))] h = some (.val (.d (.str (showV t))) h) := by
 rw [D_dat (F := A23) rfl rfl rfl rfl]
 obtain ⟨k, tx, n, b⟩ := t
 simp only at hb hn
 unfold showV
 simp only [Tk.enc]
 by_cases k1 : k = 1
 ·subst k1
  rw [if_pos (by decide)]
  simp -implicitDefEqProofs only [A23, B23, sS, reduceCtorEq, seval]
 by_cases k2 : k = 2
 ·subst k2
  rw [if_pos (by decide)]
  simp -implicitDefEqProofs only [A23, B23, sS, reduceCtorEq, seval]
 by_cases k5 : k = 5
 ·subst k5
  rw [if_pos (by decide)]
  simp -implicitDefEqProofs only [A23, B23, sS, reduceCtorEq, seval]
 by_cases k6 : k = 6
 ·subst k6
  rw [if_pos (by decide)]
  simp -implicitDefEqProofs only [A23, B23, sS, reduceCtorEq, seval]
 rw [if_neg (by omega)]
 by_cases k3 : k = 3
 ·subst k3
  rw [if_pos rfl]
  have hmax : max n 0 = if n < 0 then 0 else n := by
   split <;> omega
  have e41 : ∀ h, D env 22 [.d (.int .i64 (if n < 0 then 0 else n)), .d (.int .i64 10)] h = some (.val (.d (.str (digitsB n))) h) := fun h => by
   rw [D_ext (F := xFormat) rfl]
   unfold digitsB
   rw [← hmax]
   have hi := itoa_in hn
   generalize max n 0 = m at *
   exact if_pos ⟨rfl, hi.1, hi.2⟩
  simp -implicitDefEqProofs only [A23, B23, sS, reduceCtorEq, seval, e41]
 rw [if_neg k3]
 have f1 : (k == 1) = false := by simpa using k1
 have f2 : (k == 2) = false := by simpa using k2
 have f3 : (k == 3) = false := by simpa using k3
 have f5 : (k == 5) = false := by simpa using k5
 have f6 : (k == 6) = false := by simpa using k6
 by_cases k4 : k = 4
 ·subst k4
  rw [if_pos rfl]
  have hlo := loop16 b hb b.data.toList 0 ⟨#[34]⟩ rfl (by omega) (by have : (⟨#[34]⟩ : ByteArray).size = 1 := rfl; omega)
  have hfs := fold_size b.data.toList ⟨#[34]⟩
  have hlen : b.data.toList.length = b.size := Array.length_toList
  have s34 : (⟨#[34]⟩ : ByteArray).size = 1 := rfl
  have r34 : rr 1 1 5 = .row 1 1 5 := rfl
  have c34 : strCells ⟨#[34]⟩ = [[.int .u8 34]] := rfl
  have z0 : ((0 : Nat) : Int) = 0 := rfl
  rw [s34, hlen] at hfs
  rw [s34, r34] at hlo
  unfold quoteB
  generalize b.data.toList.foldl (fun a c => a ++ escA c) ⟨#[34]⟩ = acc at *
  have ap : appRow 1 1 (.row 1 (strCells acc) 0) (some (1, [[.int .u8 34]])) [rr 1 acc.size 5] 5 = some (.val (.row 1 (strCells (acc ++ ⟨#[34]⟩)) 0) [rr 1 (acc ++ ⟨#[34]⟩).size 5]) := by
   have := appRow_any (sz := 1) (bytes := 1) (et := 5) (l := strCells acc) (new := [[.int .u8 34]]) (t := 0) (h := [rr 1 acc.size 5]) (by rw [strCells_len]; rfl) (by rw [strCells_len]; simp; omega) (by decide) (by decide) 1 rfl
   rw [this, ← c34, strCells_app, strCells_len, strCells_len, ByteArray.size_append]
   rfl
  simp only [st16, ex16, c34, List.replicate, List.cons_append, List.nil_append, z0] at hlo
  simp -implicitDefEqProofs only [A23, B23, sS, reduceCtorEq, seval, strCells_len, hlo, ap, nums_ok, strOf_ok]
 ·have f4 : (k == 4) = false := by simpa using k4
  rw [if_neg k4]
  simp -implicitDefEqProofs only [A23, B23, sS, reduceCtorEq, seval, f1, f2, f3, f4, f5, f6]
end Go.Proofs.YtpemlmhggiaflaaGreatDoor.Codes
namespace Go.Proofs.YtpemlmhggiaflaaGreatDoor.Codes
open Go Go.Deepv
def st42 (u : Nat) (s : ByteArray) : List DV := [.d (.int .i64 u), .d .undef, .d .undef, .d (.str s)] ++ List.replicate 20 (.d .undef)
theorem app_toList (a b : ByteArray) : (a ++ b).data.toList = a.data.toList ++ b.data.toList := by
 rw [ByteArray.data_append, Array.toList_append]
theorem loop42 : ∀ (u : Nat) (s : ByteArray), s.size + u ≤ 9223372036854775807 → (s.size = 0 ∨ 1 ≤ u) →
  ∃ (u' : Nat) (s' : ByteArray), u' ≤ 9 ∧ s'.size + 1 ≤ 9223372036854775807 ∧ byteB (48 + u' : Nat) ++ s' = ⟨(Lib.decDigits u).toArray⟩ ++ s ∧ L env 0 true H44L2 X44L2 B44L2 (st42 u s) [] = some (.exit 0, st42 u' s', []) := by
 obtain ⟨K, hK⟩ : ∃ K, L env 0 true H44L2 X44L2 B44L2 = K := ⟨_, rfl⟩
 rw [hK]
 intro u
 induction u using Nat.strongRecOn with
 | _ u ih =>
  intro s h1 h2
  by_cases hu : u < 10
  ·refine ⟨u, s, by omega, by omega, ?_, ?_⟩
   ·rw [Lib.decDigits, dif_pos hu]
    apply ba_ext
    rw [app_toList, app_toList]
    rfl
   ·have g1 : ¬ (9 : Int) < u := by omega
    rw [L_round hK]
    simp -implicitDefEqProofs only [B44L2, st42, sS, reduceCtorEq, seval, g1]
  ·have hsz : (byteB (48 + u % 10 : Nat) ++ s).size = s.size + 1 := by rw [ByteArray.size_append, byteB_size]; omega
   obtain ⟨u', s', g1, g2, g3, g4⟩ := ih (u / 10) (by omega) (byteB (48 + u % 10 : Nat) ++ s) (by omega) (by omega)
   refine ⟨u', s', g1, g2, ?_, ?_⟩
   ·rw [g3, Lib.decDigits.eq_def u, dif_neg hu]
    apply ba_ext
    rw [app_toList, app_toList, app_toList]
    show Lib.decDigits (u / 10) ++ ([UInt8.ofNat (((48 + u % 10 : Nat) : Int).toNat)] ++ s.data.toList) = Lib.decDigits (u / 10) ++ [UInt8.ofNat (48 + u % 10)] ++ s.data.toList
    rw [Int.toNat_natCast, List.append_assoc]
   ·have c1 : (9 : Int) < u := by omega
    have m1 : (u : Int).tmod 10 = ((u % 10 : Nat) : Int) := tmod_lit u 10
    have d1 : (u : Int).tdiv 10 = ((u / 10 : Nat) : Int) := tdiv_lit u 10
    have w1 : IntKind.i64.wrap (48 + ((u % 10 : Nat) : Int)) = ((48 + u % 10 : Nat) : Int) := by rw [wrap_i64 (by omega) (by omega)]; omega
    have w2 : IntKind.u8.wrap ((48 + u % 10 : Nat) : Int) = ((48 + u % 10 : Nat) : Int) := wrap_u8 (by omega) (by omega)
    have w3 : IntKind.i64.wrap ((u / 10 : Nat) : Int) = ((u / 10 : Nat) : Int) := wrap_i64 (by omega) (by omega)
    have hbs : numsOf [[FV.int .u8 ((48 + u % 10 : Nat) : Int)]] = some [((48 + u % 10 : Nat) : Int)] := rfl
    have hso : strOfNums [((48 + u % 10 : Nat) : Int)] = byteB (48 + u % 10 : Nat) := rfl
    have hadd : (byteB (48 + u % 10 : Nat)).size + s.size ≤ 9223372036854775807 := by rw [byteB_size]; omega
    have ten : (10 : Int) = 0 ↔ False := by simp
    generalize hR : some (DExit.exit 0, st42 u' s', ([] : List Res)) = RR at *
    simp only [st42, List.replicate, List.cons_append, List.nil_append] at g4
    rw [L_round hK]
    simp -implicitDefEqProofs only [B44L2, st42, sS, reduceCtorEq, seval, c1, m1, d1, w1, w2, w3, ten, hbs, hso, hadd, g4]
theorem digits_ok (n : Int) (hn : n ≤ 9223372036854775807) (h : List Res) : D env 44 [.d (.int .i64 n)] h = some (.val (.d (.str (digitsB n))) h) := by
 rw [D_dat (F := A44) rfl rfl rfl rfl]
 unfold digitsB Lib.itoa
 rw [if_neg (by omega)]
 by_cases h0 : n < 0
 ·have hl : L env 0 true H44L2 X44L2 B44L2 ([.d (.int .i64 n), .d .undef, .d .undef, .d (.str ⟨#[]⟩)] ++ List.replicate 20 (.d .undef)) [] = some (.exit 0, [.d (.int .i64 n), .d .undef, .d .undef, .d (.str ⟨#[]⟩)] ++ List.replicate 20 (.d .undef), []) := by
   obtain ⟨K, hK⟩ : ∃ K, L env 0 true H44L2 X44L2 B44L2 = K := ⟨_, rfl⟩
   have g1 : ¬ (9 : Int) < n := by omega
   rw [hK, L_round hK]
   simp -implicitDefEqProofs only [B44L2, sS, reduceCtorEq, seval, g1]
  have hm : max n 0 = 0 := by omega
  have w1 : IntKind.i64.wrap (48 + 0) = 48 := rfl
  have w1' : IntKind.i64.wrap 48 = 48 := rfl
  have w2 : IntKind.u8.wrap 48 = 48 := rfl
  have hbs : numsOf [[FV.int .u8 48]] = some [48] := rfl
  have hso : strOfNums [48] = ⟨#[48]⟩ := rfl
  have hadd : (⟨#[48]⟩ : ByteArray).size + (⟨#[]⟩ : ByteArray).size ≤ 9223372036854775807 := by decide
  have hap : (⟨#[48]⟩ : ByteArray) ++ ⟨#[]⟩ = ⟨#[48]⟩ := rfl
  have hd : (⟨(Lib.decDigits (Int.toNat 0)).toArray⟩ : ByteArray) = ⟨#[48]⟩ := by
   rw [Int.toNat_zero, Lib.decDigits, dif_pos (by decide)]
   rfl
  rw [hm, hd]
  simp only [List.replicate, List.cons_append, List.nil_append] at hl
  simp -implicitDefEqProofs only [A44, B44, sS, reduceCtorEq, seval, hl, h0, w1, w1', w2, hbs, hso, hadd, hap]
 ·obtain ⟨u, rfl⟩ : ∃ u : Nat, n = u := ⟨n.toNat, (Int.toNat_of_nonneg (by omega)).symm⟩
  have s0 : (⟨#[]⟩ : ByteArray).size = 0 := rfl
  obtain ⟨u', s', g1, g2, g3, g4⟩ := loop42 u ⟨#[]⟩ (by omega) (.inl s0)
  have hm : (max (u : Int) 0).toNat = u := by omega
  rw [hm]
  have ha : (⟨(Lib.decDigits u).toArray⟩ : ByteArray) ++ ⟨#[]⟩ = ⟨(Lib.decDigits u).toArray⟩ := by
   apply ba_ext
   rw [app_toList]
   simp
  rw [ha] at g3
  rw [← g3]
  have n0 : ¬ (u' : Int) < 0 := by omega
  have w1 : IntKind.i64.wrap (48 + (u' : Int)) = ((48 + u' : Nat) : Int) := by rw [wrap_i64 (by omega) (by omega)]; omega
  have w2 : IntKind.u8.wrap ((48 + u' : Nat) : Int) = ((48 + u' : Nat) : Int) := wrap_u8 (by omega) (by omega)
  have hbs : numsOf [[FV.int .u8 ((48 + u' : Nat) : Int)]] = some [((48 + u' : Nat) : Int)] := rfl
  have hso : strOfNums [((48 + u' : Nat) : Int)] = byteB (48 + u' : Nat) := rfl
  have hadd : (byteB (48 + u' : Nat)).size + s'.size ≤ 9223372036854775807 := by rw [byteB_size]; omega
  simp only [st42, List.replicate, List.cons_append, List.nil_append] at g4
  simp -implicitDefEqProofs only [A44, B44, sS, reduceCtorEq, seval, g4, n0, w1, w2, hbs, hso, hadd]
def rfl17 (t : List FV) : DV := .d (.ref t 0)
def st17 (t : List FV) (acc : ByteArray) (i : Nat) : List DV := [.d .undef, .d (.ref t 0), .d .undef, .d (.str hexes), .d (.str acc), .d (.int .i64 i)] ++ List.replicate 67 (.d .undef)
def ex17 (acc : ByteArray) : List DV := [.d .undef, .d .undef, .d .undef, .d .undef, .d (.str acc)] ++ List.replicate 68 (.d .undef)
theorem loop17 (k n l0 c0 : Int) (tx b : ByteArray) (hb : b.size ≤ 100000) :
  ∀ (l : List UInt8) (i : Nat) (acc : ByteArray), b.data.toList.drop i = l → i ≤ b.size → acc.size ≤ 4 * i + 1 →
   L env 0 true H27L13 X27L13 B27L13 (st17 [.int .i64 k, .str tx, .int .i64 n, .slice 1 (strCells b), .int .i64 l0, .int .i64 c0] acc i) [] = some (.exit 1, ex17 (l.foldl (fun a c => a ++ escA c) acc), []) := by
 obtain ⟨K, hK⟩ : ∃ K, L env 0 true H27L13 X27L13 B27L13 = K := ⟨_, rfl⟩
 rw [hK]
 have hlen : b.data.toList.length = b.size := Array.length_toList
 intro l
 induction l with
 | nil =>
  intro i acc h1 h2 h3
  have hk : ¬ (i : Int) < b.size := by
   have := congrArg List.length h1
   rw [List.length_drop, List.length_nil] at this
   omega
  rw [List.foldl_nil, L_round hK]
  simp -implicitDefEqProofs only [B27L13, st17, ex17, sS, reduceCtorEq, seval, strCells_len, hk]
 | cons c l ih =>
  intro i acc h1 h2 h3
  have hx : b.data.toList[i]? = some c := by
   have := List.getElem?_drop (xs := b.data.toList) (i := i) (j := 0)
   rw [h1] at this
   simpa using this.symm
  have hlt := (List.getElem?_eq_some_iff.1 hx).1
  have hx' : (strCells b)[i]? = some [.int .u8 c.toNat] := by
   unfold strCells
   rw [List.getElem?_map, hx]
   rfl
  have hk : (i : Int) < b.size := by omega
  have hd : b.data.toList.drop (i + 1) = l := by rw [← List.drop_drop, h1]; rfl
  have hsz := escA_size c
  have ih := ih (i + 1) (acc ++ escA c) hd (by omega) (by rw [ByteArray.size_append]; omega)
  have w1 : IntKind.i64.wrap ((i : Int) + 1) = ((i + 1 : Nat) : Int) := by rw [wrap_i64 (by omega) (by omega)]; simp
  have hadd : acc.size + (escA c).size ≤ 9223372036854775807 := by omega
  have hc := c.toNat_lt
  rw [List.foldl_cons]
  generalize hR : some (DExit.exit 1, ex17 (l.foldl (fun a c => a ++ escA c) (acc ++ escA c)), ([] : List Res)) = RR at *
  simp only [st17, hexes, List.replicate, List.cons_append, List.nil_append] at ih
  have hnum := nums_ok (escA c)
  have hstr := strOf_ok (escA c)
  have cells : strCells (escA c) = (escShow c).map fun x => [FV.int .u8 x.toNat] := rfl
  rw [cells] at hnum
  generalize (escA c).data.toList.map (fun b => (b.toNat : Int)) = ns at *
  generalize escA c = ec at *
  unfold escShow at hnum
  rw [L_round hK]
  by_cases c1 : c.toNat = 34
  ·have e : ((c.toNat : Nat) : Int) = 34 := by omega
   have z92 : ((92 : UInt8).toNat : Int) = 92 := rfl
   rw [if_pos (.inl c1)] at hnum
   rw [e] at hx'
   simp only [List.map_cons, List.map_nil, z92, e] at hnum
   simp -implicitDefEqProofs only [B27L13, st17, hexes, sS, reduceCtorEq, seval, strCells_len, hk, hx', hnum, hstr, hadd, w1, ih]
  have f1 : (((c.toNat : Nat) : Int) == 34) = false := by simp; omega
  by_cases c2 : c.toNat = 92
  ·have e : ((c.toNat : Nat) : Int) = 92 := by omega
   have z92 : ((92 : UInt8).toNat : Int) = 92 := rfl
   rw [if_pos (.inr c2)] at hnum
   rw [e] at hx'
   simp only [List.map_cons, List.map_nil, z92, e] at hnum
   simp -implicitDefEqProofs only [B27L13, st17, hexes, sS, reduceCtorEq, seval, strCells_len, hk, hx', hnum, hstr, hadd, w1, ih]
  have f2 : (((c.toNat : Nat) : Int) == 92) = false := by simp; omega
  rw [if_neg (by omega)] at hnum
  by_cases c3 : 32 ≤ c.toNat ∧ c.toNat ≤ 126
  ·have g1 : (32 : Int) ≤ c.toNat := by omega
   have g2 : (c.toNat : Int) ≤ 126 := by omega
   rw [if_pos c3] at hnum
   simp only [List.map_cons, List.map_nil] at hnum
   simp -implicitDefEqProofs only [B27L13, st17, hexes, sS, reduceCtorEq, seval, strCells_len, hk, hx', f1, f2, g1, g2, hnum, hstr, hadd, w1, ih]
  ·rw [if_neg c3] at hnum
   have z92 : ((92 : UInt8).toNat : Int) = 92 := rfl
   have z120 : ((120 : UInt8).toNat : Int) = 120 := rfl
   have d4 : (c.toNat : Int).tdiv 16 = ((c.toNat / 16 : Nat) : Int) := tdiv_lit c.toNat 16
   have m4 : (c.toNat : Int).tmod 16 = ((c.toNat % 16 : Nat) : Int) := tmod_lit c.toNat 16
   have w4 : IntKind.u8.wrap ((c.toNat / 16 : Nat) : Int) = ((c.toNat / 16 : Nat) : Int) := wrap_u8 (by omega) (by omega)
   have sixteen : (16 : Int) = 0 ↔ False := by simp
   have h1 := hexes_get ⟨c.toNat / 16, by omega⟩
   have h2 := hexes_get ⟨c.toNat % 16, by omega⟩
   simp only [hexes] at h1 h2
   simp only [List.map_cons, List.map_nil, z92, z120] at hnum
   by_cases g1 : (32 : Int) ≤ c.toNat
   ·have g2 : ¬ (c.toNat : Int) ≤ 126 := by omega
    simp -implicitDefEqProofs only [B27L13, st17, hexes, sS, reduceCtorEq, seval, strCells_len, hk, hx', f1, f2, g1, g2, d4, m4, w4, sixteen, h1, h2, hnum, hstr, hadd, w1, ih]
   ·simp -implicitDefEqProofs only [B27L13, st17, hexes, sS, reduceCtorEq, seval, strCells_len, hk, hx', f1, f2, g1, d4, m4, w4, sixteen, h1, h2, hnum, hstr, hadd, w1, ih]
theorem rshow_ok (t : Tk) (l c : Int) (hb : t.bytes.size ≤ 100000) (hn : t.num ≤ 9223372036854775807) (h : List Res) : D env 27 [.d (.agg (t.enc l c))] h = some (.val (.d (.str (showV t))) h) := by
 rw [D_dat (F := A27) rfl rfl rfl rfl]
 obtain ⟨k, tx, n, b⟩ := t
 simp only at hb hn
 unfold showV
 simp only [Tk.enc]
 by_cases k1 : k = 1
 ·subst k1
  rw [if_pos (by decide)]
  simp -implicitDefEqProofs only [A27, B27, sS, reduceCtorEq, seval]
 by_cases k2 : k = 2
 ·subst k2
  rw [if_pos (by decide)]
  simp -implicitDefEqProofs only [A27, B27, sS, reduceCtorEq, seval]
 by_cases k5 : k = 5
 ·subst k5
  rw [if_pos (by decide)]
  simp -implicitDefEqProofs only [A27, B27, sS, reduceCtorEq, seval]
 by_cases k6 : k = 6
 ·subst k6
  rw [if_pos (by decide)]
  simp -implicitDefEqProofs only [A27, B27, sS, reduceCtorEq, seval]
 rw [if_neg (by omega)]
 by_cases k3 : k = 3
 ·subst k3
  rw [if_pos rfl]
  have e42 := fun h => digits_ok n hn h
  simp -implicitDefEqProofs only [A27, B27, sS, reduceCtorEq, seval, e42]
 rw [if_neg k3]
 have f1 : (k == 1) = false := by simpa using k1
 have f2 : (k == 2) = false := by simpa using k2
 have f3 : (k == 3) = false := by simpa using k3
 have f5 : (k == 5) = false := by simpa using k5
 have f6 : (k == 6) = false := by simpa using k6
 by_cases k4 : k = 4
 ·subst k4
  rw [if_pos rfl]
  have hlo := loop17 4 n l c tx b hb b.data.toList 0 ⟨#[34]⟩ rfl (by omega) (by have : (⟨#[34]⟩ : ByteArray).size = 1 := rfl; omega)
  have hfs := fold_size b.data.toList ⟨#[34]⟩
  have hlen : b.data.toList.length = b.size := Array.length_toList
  have s34 : (⟨#[34]⟩ : ByteArray).size = 1 := rfl
  have z0 : ((0 : Nat) : Int) = 0 := rfl
  rw [s34, hlen] at hfs
  unfold quoteB
  generalize b.data.toList.foldl (fun a c => a ++ escA c) ⟨#[34]⟩ = acc at *
  have hadd : acc.size + (⟨#[34]⟩ : ByteArray).size ≤ 9223372036854775807 := by rw [s34]; omega
  simp only [st17, ex17, hexes, List.replicate, List.cons_append, List.nil_append, z0] at hlo
  simp -implicitDefEqProofs only [A27, B27, sS, reduceCtorEq, seval, strCells_len, hlo, hadd]
 ·have f4 : (k == 4) = false := by simpa using k4
  rw [if_neg k4]
  simp -implicitDefEqProofs only [A27, B27, sS, reduceCtorEq, seval, f1, f2, f3, f4, f5, f6]
end Go.Proofs.YtpemlmhggiaflaaGreatDoor.Codes
namespace Go.Proofs.YtpemlmhggiaflaaGreatDoor.Codes
open Go Go.Deepv
def endK : Tk := ⟨0, ⟨#[]⟩, 0, ⟨#[]⟩⟩
def lexP (s : ByteArray) : List (Tk × Int × Int) × Int × Int × Int :=
 if s.size ≤ 16384 then match spl s s.size 0 1 1 with
  | (_, some (l, c)) => ([], 1, l, c)
  | (rs, none) => match lexR rs with
   | (_, some (e, l, c)) => ([], e, l, c)
   | (ts, none) => if ts.length = 4096 then ([], 27, advL 1 (rs.map Rn.r), advC 1 (rs.map Rn.r)) else (ts ++ [(endK, advL 1 (rs.map Rn.r), advC 1 (rs.map Rn.r))], 0, 0, 0)
 else ([], 5, 1, 1)
theorem lexV_P (s : ByteArray) : lexV s = .tup [.slice 6 (encT (lexP s).1), .agg [.int .i64 (lexP s).2.1, .int .i64 (lexP s).2.2.1, .int .i64 (lexP s).2.2.2]] := by
 unfold lexV lexP
 by_cases hs : s.size ≤ 16384
 ·simp only [hs, if_true]
  generalize spl s s.size 0 1 1 = x
  rcases x with ⟨rs, _ | ⟨l, c⟩⟩
  ·simp only
   generalize lexR rs = y
   rcases y with ⟨ts, _ | ⟨e, l, c⟩⟩
   ·simp only
    by_cases hn : ts.length = 4096
    ·simp only [hn, if_true]
     rfl
    ·simp only [hn, if_false]
     simp only [encT, List.map_append, List.map_cons, List.map_nil]
     rfl
   ·rfl
  ·rfl
 ·simp only [hs, if_false]
  rfl
theorem lexP_len (s : ByteArray) : (lexP s).1.length ≤ 4096 := by
 unfold lexP
 split
 ·split
  ·simp
  ·rename_i rs _
   have := lexK_len rs (rs.length + 1) (skK rs 0) 0 (by omega)
   split
   ·simp
   ·rename_i ts hr
    have hr' : lexK rs (rs.length + 1) (skK rs 0) 0 = (ts, none) := hr
    rw [hr'] at this
    simp only at this
    split
    ·simp
    ·simp
     omega
 ·simp
end Go.Proofs.YtpemlmhggiaflaaGreatDoor.Codes
namespace Go.Proofs.YtpemlmhggiaflaaGreatDoor.Codes
open Go Go.Deepv
def pk (l : List Int) (i : Nat) : Int := l.getD i (-1)
def cntI (p : Int → Bool) : List Int → Nat
 | [] => 0
 | x :: t => if p x then cntI p t + 1 else 0
def textI (l : List Int) : ByteArray := l.foldl (fun a w => a ++ encB w) ⟨#[]⟩
def numI (l : List Int) : Bool × Int := l.foldl numStep (false, 0)
def escI (l : List Int) : Int × Bool × Nat :=
 if pk l 0 = 110 then (10, true, 1) else if pk l 0 = 116 then (9, true, 1) else if pk l 0 = 34 then (34, true, 1) else if pk l 0 = 92 then (92, true, 1)
 else if pk l 0 = 120 then (escB (hexOf (pk l 1)) (hexOf (pk l 2)), decide (0 ≤ hexOf (pk l 1)) && decide (0 ≤ hexOf (pk l 2)), 3)
 else (0, false, 1)
def qtI : Nat → List Int → ByteArray → Option (ByteArray × Nat)
 | 0, _, _ => none
 | f + 1, l, acc =>
  if pk l 0 < 0 ∨ pk l 0 = 10 then none
  else if pk l 0 = 34 then some (acc, 1)
  else if pk l 0 = 92 then (if (escI (l.drop 1)).2.1 = true then (qtI f (l.drop (1 + (escI (l.drop 1)).2.2)) (acc ++ byteB (escI (l.drop 1)).1)).map fun q => (q.1, 1 + (escI (l.drop 1)).2.2 + q.2) else none)
  else (qtI f (l.drop 1) (acc ++ encB (pk l 0))).map fun q => (q.1, 1 + q.2)
def tokF (F : Nat) (l : List Int) : Except Int (Tk × Nat) :=
 if rLow (pk l 0) || rUp (pk l 0) then
  if 24 < cntI rPart l then .error 5
  else .ok (⟨nameKind (textI (l.take (cntI rPart l))) (pk l 0), textI (l.take (cntI rPart l)), 0, ⟨#[]⟩⟩, cntI rPart l)
 else if rDig (pk l 0) then
  if (numI (l.take (cntI rDig l))).1 then .error 3
  else .ok (⟨3, ⟨#[]⟩, (numI (l.take (cntI rDig l))).2, ⟨#[]⟩⟩, cntI rDig l)
 else if pk l 0 = 34 then
  match qtI F (l.drop 1) ⟨#[]⟩ with
  | some (b, m) => if 64 < b.size then .error 5 else .ok (⟨4, ⟨#[]⟩, 0, b⟩, 1 + m)
  | none => .error 4
 else if signN (pk l 0) (pk l 1) = 0 then .error 2
 else .ok (⟨6, textI (l.take (signN (pk l 0) (pk l 1))), 0, ⟨#[]⟩⟩, signN (pk l 0) (pk l 1))
def tokI (l : List Int) : Except Int (Tk × Nat) := tokF (l.length + 1) l
def skI : Bool → List Int → List Int
 | _, [] => []
 | false, x :: t => if rBlank x then skI false t else if x = 35 then skI true t else x :: t
 | true, x :: t => if x = 10 then skI false t else skI true t
def lexI : Nat → List Int → Nat → List Tk × Option Int
 | 0, _, _ => ([], none)
 | _ + 1, [], _ => ([], none)
 | f + 1, x :: l, n => match tokI (x :: l) with
  | .error e => ([], some e)
  | .ok (v, m) => if n = 4096 then ([], some 27) else (v :: (lexI f (skI false ((x :: l).drop m)) (n + 1)).1, (lexI f (skI false ((x :: l).drop m)) (n + 1)).2)
def lexT (ws : List Int) : List Tk × Option Int := lexI (ws.length + 1) (skI false ws) 0
section
variable {rs : List Rn} {ws : List Int}
theorem peekR_pk (h : rs.map Rn.r = ws) (k i : Nat) : peekR rs (k + i) = pk (ws.drop k) i := by
 subst h
 unfold peekR pk
 rw [List.getD_eq_getElem?_getD, List.getElem?_drop, List.getElem?_map]
 cases rs[k + i]? <;> rfl
theorem peekR_pk0 (h : rs.map Rn.r = ws) (k : Nat) : peekR rs k = pk (ws.drop k) 0 := peekR_pk h k 0
theorem cnt_I (p : Int → Bool) (l : List Rn) : cnt p l = cntI p (l.map Rn.r) := by
 induction l with
 | nil => rfl
 | cons x l ih => simp only [cnt, List.map_cons, cntI, ih]
theorem textR_I (l : List Rn) : textR l = textI (l.map Rn.r) := by
 unfold textR textI
 rw [List.foldl_map]
theorem numF_I (l : List Rn) : numF l = numI (l.map Rn.r) := by
 unfold numF numI
 rw [List.foldl_map]
theorem escV_I (h : rs.map Rn.r = ws) (k : Nat) : escV rs k = escI (ws.drop k) := by
 unfold escV escI
 rw [peekR_pk0 h, peekR_pk h, peekR_pk h]
theorem qtK_I (h : rs.map Rn.r = ws) : ∀ (f k : Nat) (acc : ByteArray), qtK rs f k acc = (qtI f (ws.drop k) acc).map fun q => (q.1, k + q.2) := by
 intro f
 induction f with
 | zero => intro k acc; rfl
 | succ f ih =>
  intro k acc
  simp only [qtK, qtI]
  rw [peekR_pk0 h, escV_I h, List.drop_drop]
  split
  ·rfl
  ·split
   ·rfl
   ·split
    ·split
     ·rw [ih, List.drop_drop, Option.map_map, Nat.add_assoc]
      congr 1
      funext q
      simp only [Function.comp_apply, Nat.add_assoc]
     ·rfl
    ·rw [ih, Option.map_map]
     congr 1
     funext q
     simp only [Function.comp_apply, Nat.add_assoc]
theorem tokK_F (h : rs.map Rn.r = ws) (k : Nat) : tokK rs k = match tokF (rs.length + 1) (ws.drop k) with
  | .ok (v, m) => .ok (v, k + m)
  | .error e => .error e := by
 have hd : (rs.drop k).map Rn.r = ws.drop k := by rw [← h, List.map_drop]
 unfold tokK tokF
 rw [peekR_pk0 h, peekR_pk h, cnt_I, cnt_I, textR_I, textR_I, numF_I, List.map_take, List.map_take, List.map_take, hd, qtK_I h, List.drop_drop]
 generalize qtI (rs.length + 1) (ws.drop (k + 1)) ⟨#[]⟩ = q
 cases c1 : (rLow (pk (ws.drop k) 0) || rUp (pk (ws.drop k) 0)) with
 | true =>
  simp only [if_true]
  by_cases h : 24 < cntI rPart (ws.drop k)
  ·simp only [h, if_true]
  ·simp only [h, if_false]
 | false =>
  simp only [Bool.false_eq_true, if_false]
  cases c2 : rDig (pk (ws.drop k) 0) with
  | true =>
   simp only [if_true]
   cases h : (numI ((ws.drop k).take (cntI rDig (ws.drop k)))).1 with
   | true => simp only [if_true]
   | false => simp only [Bool.false_eq_true, if_false]
  | false =>
   simp only [Bool.false_eq_true, if_false]
   by_cases c3 : pk (ws.drop k) 0 = 34
   ·simp only [c3, if_true]
    cases q with
    | none => rfl
    | some v =>
     obtain ⟨b, m⟩ := v
     simp only [Option.map_some]
     by_cases h : 64 < b.size
     ·simp only [h, if_true]
     ·simp only [h, if_false, Nat.add_assoc]
   ·simp only [c3, if_false]
    by_cases h : signN (pk (ws.drop k) 0) (pk (ws.drop k) 1) = 0
    ·simp only [h, if_true]
    ·simp only [h, if_false]
end
theorem pk_nil (i : Nat) : pk [] i = -1 := by simp [pk]
theorem qtI_fuel : ∀ (f f' : Nat) (l : List Int) (acc : ByteArray), l.length < f → l.length < f' → qtI f l acc = qtI f' l acc := by
 intro f
 induction f with
 | zero => intro f' l acc h; omega
 | succ f ih =>
  intro f' l acc h h'
  match f', h' with
  | 0, h' => omega
  | f' + 1, h' =>
  cases l with
  | nil => simp [qtI, pk_nil]
  | cons x l =>
   simp only [qtI]
   simp only [List.length_cons] at h h'
   rw [ih f' ((x :: l).drop (1 + (escI ((x :: l).drop 1)).2.2)) _ (by simp; omega) (by simp; omega), ih f' ((x :: l).drop 1) _ (by simp; omega) (by simp; omega)]
theorem tokF_I (F : Nat) (l : List Int) (h : l.length < F) : tokF F l = tokI l := by
 unfold tokI tokF
 rw [qtI_fuel F (l.length + 1) (l.drop 1) _ (by simp; omega) (by simp; omega)]
theorem tokK_I {rs : List Rn} {ws : List Int} (h : rs.map Rn.r = ws) (k : Nat) : tokK rs k = match tokI (ws.drop k) with
  | .ok (v, m) => .ok (v, k + m)
  | .error e => .error e := by
 rw [tokK_F h, tokF_I]
 subst h
 simp
 omega
theorem sk_I (b : Bool) (l : List Rn) : (sk b l).map Rn.r = skI b (l.map Rn.r) := by
 induction l generalizing b with
 | nil => cases b <;> rfl
 | cons x l ih =>
  cases b with
  | false =>
   simp only [sk, skI, List.map_cons]
   split
   ·exact ih _
   ·split
    ·exact ih _
    ·rfl
  | true =>
   simp only [sk, skI, List.map_cons]
   split
   ·exact ih _
   ·exact ih _
theorem sk_suffix (b : Bool) (l : List Rn) : ∃ n, sk b l = l.drop n := by
 induction l generalizing b with
 | nil => exact ⟨0, by cases b <;> rfl⟩
 | cons x l ih =>
  cases b with
  | false =>
   simp only [sk]
   split
   ·obtain ⟨n, hn⟩ := ih false
    exact ⟨n + 1, by simpa using hn⟩
   ·split
    ·obtain ⟨n, hn⟩ := ih true
     exact ⟨n + 1, by simpa using hn⟩
    ·exact ⟨0, rfl⟩
  | true =>
   simp only [sk]
   split
   ·obtain ⟨n, hn⟩ := ih false
    exact ⟨n + 1, by simpa using hn⟩
   ·obtain ⟨n, hn⟩ := ih true
    exact ⟨n + 1, by simpa using hn⟩
theorem skK_drop {rs : List Rn} {ws : List Int} (h : rs.map Rn.r = ws) (k : Nat) : ws.drop (skK rs k) = skI false (ws.drop k) := by
 obtain ⟨n, hn⟩ := sk_suffix false (rs.drop k)
 have h1 : sk false (rs.drop k) = rs.drop (skK rs k) := by
  unfold skK
  rw [hn, List.drop_drop, List.length_drop]
  rcases Nat.lt_or_ge rs.length (k + n) with hlt | hge
  ·rw [List.drop_eq_nil_of_le (by omega), List.drop_eq_nil_of_le (by omega)]
  ·congr 1
   omega
 have h2 := sk_I false (rs.drop k)
 rw [h1, List.map_drop, List.map_drop, h] at h2
 exact h2
theorem lexK_I {rs : List Rn} {ws : List Int} (h : rs.map Rn.r = ws) : ∀ (f k n : Nat), (lexK rs f k n).1.map Prod.fst = (lexI f (ws.drop k) n).1 ∧ (lexK rs f k n).2.map Prod.fst = (lexI f (ws.drop k) n).2 := by
 intro f
 induction f with
 | zero => intro k n; exact ⟨rfl, rfl⟩
 | succ f ih =>
  intro k n
  simp only [lexK]
  cases hx : rs[k]? with
  | none =>
   have : ws.drop k = [] := by
    rw [List.drop_eq_nil_iff, ← h, List.length_map]
    simpa using hx
   rw [this]
   exact ⟨rfl, rfl⟩
  | some x =>
   have hdr : ws.drop k = x.r :: ws.drop (k + 1) := by
    rw [← h, ← List.map_drop, drop_at hx, List.map_cons, List.map_drop]
   have ht := tokK_I h k
   rw [hdr] at ht ⊢
   simp only [lexI]
   cases hv : tokI (x.r :: ws.drop (k + 1)) with
   | error e =>
    rw [hv] at ht
    simp only at ht
    rw [ht]
    exact ⟨rfl, rfl⟩
   | ok vm =>
    obtain ⟨v, m⟩ := vm
    rw [hv] at ht
    simp only at ht
    rw [ht]
    simp only
    by_cases hn : n = 4096
    ·simp only [hn, if_true]
     exact ⟨rfl, rfl⟩
    ·simp only [hn, if_false]
     have hs : (x.r :: ws.drop (k + 1)).drop m = ws.drop (k + m) := by rw [← hdr, List.drop_drop]
     obtain ⟨i1, i2⟩ := ih (skK rs (k + m)) (n + 1)
     rw [skK_drop h] at i1 i2
     rw [hs]
     exact ⟨by rw [List.map_cons, i1], i2⟩
theorem lexR_T {ws : List Int} {p : Nat} {l c : Int} : (lexR (place ws p l c)).1.map Prod.fst = (lexT ws).1 ∧ (lexR (place ws p l c)).2.map Prod.fst = (lexT ws).2 := by
 have h := place_r ws p l c
 have := lexK_I h ((place ws p l c).length + 1) (skK (place ws p l c) 0) 0
 rw [skK_drop h, place_len, List.drop_zero] at this
 unfold lexR lexT
 rw [place_len]
 exact this
theorem lexP_T {s : ByteArray} {ws : List Int} (hsz : s.size ≤ 16384) (hs : Sc ws) (hB : s.data.toList = encLs ws) :
  match lexT ws with
  | (_, some e) => (lexP s).1 = [] ∧ (lexP s).2.1 = e
  | (ts, none) => if ts.length = 4096 then (lexP s).1 = [] ∧ (lexP s).2.1 = 27 else (lexP s).1.map Prod.fst = ts ++ [endK] ∧ (lexP s).2.1 = 0 := by
 have hT := lexR_T (ws := ws) (p := 0) (l := 1) (c := 1)
 unfold lexP
 rw [if_pos hsz, spl_all hs hB]
 simp only
 generalize lexT ws = y at *
 generalize lexR (place ws 0 1 1) = x at *
 obtain ⟨a, b⟩ := x
 obtain ⟨ts, o⟩ := y
 simp only at hT
 obtain ⟨h1, h2⟩ := hT
 have hl : a.length = ts.length := by rw [← h1, List.length_map]
 cases b with
 | some v =>
  obtain ⟨e, l, c⟩ := v
  simp only [Option.map_some] at h2
  rw [← h2]
  exact ⟨rfl, rfl⟩
 | none =>
  simp only [Option.map_none] at h2
  rw [← h2]
  simp only
  rw [hl]
  by_cases hn : ts.length = 4096
  ·simp only [hn, if_true]
   exact ⟨trivial, trivial⟩
  ·simp only [hn, if_false]
   exact ⟨by rw [List.map_append, h1]; rfl, trivial⟩
theorem lexP_bad {s : ByteArray} {ws : List Int} {t : List UInt8} (hsz : s.size ≤ 16384) (hs : Sc ws) (ht : bad t) (hB : s.data.toList = encLs ws ++ t) : (lexP s).1 = [] ∧ (lexP s).2.1 = 1 := by
 have e := spl_all_bad hs ht hB
 unfold lexP
 rw [if_pos hsz]
 generalize spl s s.size 0 1 1 = x at *
 rcases x with ⟨x1, x2⟩
 simp only at e
 subst e
 exact ⟨rfl, rfl⟩
end Go.Proofs.YtpemlmhggiaflaaGreatDoor.Codes
namespace Go.Proofs.YtpemlmhggiaflaaGreatDoor.Codes
open Go Go.Deepv
theorem pk_cons0 (x : Int) (l : List Int) : pk (x :: l) 0 = x := rfl
theorem pk_cons (x : Int) (l : List Int) (i : Nat) : pk (x :: l) (i + 1) = pk l i := rfl
theorem cntI_le (p : Int → Bool) (l : List Int) : cntI p l ≤ l.length := by
 induction l with
 | nil => simp [cntI]
 | cons x t ih => simp only [cntI, List.length_cons]; split <;> omega
theorem cntI_take (p : Int → Bool) : ∀ (l : List Int), ∀ x ∈ l.take (cntI p l), p x = true := by
 intro l
 induction l with
 | nil => intro x hx; simp at hx
 | cons y t ih =>
  intro x hx
  simp only [cntI] at hx
  split at hx
  ·rename_i hp
   rw [List.take_succ_cons] at hx
   rcases List.mem_cons.1 hx with h | h
   ·exact h ▸ hp
   ·exact ih x h
  ·simp at hx
theorem cntI_all {p : Int → Bool} {c : Int} (hc : p c = false) (r : List Int) : ∀ (w : List Int), (∀ x ∈ w, p x = true) → cntI p (w ++ c :: r) = w.length := by
 intro w
 induction w with
 | nil => intro _; simp [cntI, hc]
 | cons x w ih =>
  intro h
  have hx := h x List.mem_cons_self
  simp only [List.cons_append, cntI, hx, if_true, List.length_cons]
  rw [ih fun y hy => h y (List.mem_cons_of_mem _ hy)]
theorem encLs_app (a b : List Int) : encLs (a ++ b) = encLs a ++ encLs b := by
 induction a with
 | nil => rfl
 | cons x a ih => simp only [List.cons_append, encLs, ih, List.append_assoc]
theorem textI_snoc (l : List Int) (x : Int) : textI (l ++ [x]) = textI l ++ encB x := by simp [textI]
theorem textI_enc (l : List Int) : (textI l).data.toList = encLs l := by
 suffices h : ∀ (l : List Int) (a : ByteArray), (l.foldl (fun a w => a ++ encB w) a).data.toList = a.data.toList ++ encLs l by
  have := h l ⟨#[]⟩
  simpa [textI] using this
 intro l
 induction l with
 | nil => intro a; simp [encLs]
 | cons x l ih =>
  intro a
  rw [List.foldl_cons, ih, app_toList]
  simp only [encLs, List.append_assoc]
  rfl
def wB (bs : List UInt8) : List Int := bs.map fun b => (b.toNat : Int)
theorem encI_byte {b : UInt8} (h : b.toNat < 128) : encI (b.toNat : Int) = [b] := by
 unfold encI encL
 rw [Int.toNat_natCast, if_pos h]
 simp
theorem wB_enc : ∀ (bs : List UInt8), (∀ b ∈ bs, b.toNat < 128) → encLs (wB bs) = bs ∧ Sc (wB bs) := by
 intro bs
 induction bs with
 | nil => intro _; exact ⟨rfl, fun x hx => by simp [wB] at hx⟩
 | cons b bs ih =>
  intro h
  obtain ⟨h1, h2⟩ := ih fun x hx => h x (List.mem_cons_of_mem _ hx)
  have hb := h b List.mem_cons_self
  refine ⟨?_, fun x hx => ?_⟩
  ·rw [show wB (b :: bs) = (b.toNat : Int) :: wB bs from rfl]
   simp only [encLs]
   rw [encI_byte hb, h1]
   rfl
  ·rw [show wB (b :: bs) = (b.toNat : Int) :: wB bs from rfl] at hx
   rcases List.mem_cons.1 hx with h | h
   ·subst h
    rw [rScal_iff, valid_iff]
    omega
   ·exact h2 x h
theorem wB_app (a b : List UInt8) : wB (a ++ b) = wB a ++ wB b := by simp [wB]
theorem wB_len (a : List UInt8) : (wB a).length = a.length := by simp [wB]
theorem numI_snoc (l : List Int) (x : Int) : numI (l ++ [x]) = numStep (numI l) x := by simp [numI]
theorem dd_ne (u : Nat) : Lib.decDigits u ≠ [] := by
 rw [Lib.decDigits]
 split <;> simp
theorem dd_dig : ∀ (u : Nat), ∀ b ∈ Lib.decDigits u, 48 ≤ b.toNat ∧ b.toNat ≤ 57 := by
 intro u
 induction u using Nat.strongRecOn with
 | _ u ih =>
  intro b hb
  rw [Lib.decDigits] at hb
  split at hb
  ·rename_i h
   simp only [List.mem_cons, List.not_mem_nil, or_false] at hb
   subst hb
   rw [ofNat_toNat (by omega)]
   omega
  ·rename_i h
   rcases List.mem_append.1 hb with h1 | h1
   ·exact ih (u / 10) (by omega) b h1
   ·simp only [List.mem_cons, List.not_mem_nil, or_false] at h1
    subst h1
    rw [ofNat_toNat (by omega)]
    omega
theorem dd_num : ∀ (u : Nat), (u : Int) ≤ mostN → numI (wB (Lib.decDigits u)) = (false, (u : Int)) := by
 intro u
 induction u using Nat.strongRecOn with
 | _ u ih =>
  intro hu
  unfold mostN at hu
  rw [Lib.decDigits]
  split
  ·rename_i h
   have e : wB [UInt8.ofNat (48 + u)] = [((48 + u : Nat) : Int)] := by
    simp only [wB, List.map_cons, List.map_nil]
    rw [ofNat_toNat (by omega)]
   rw [e]
   unfold numI numStep mostN
   simp only [List.foldl_cons, List.foldl_nil]
   rw [if_neg (by simp), if_neg (by omega)]
   simp only [Prod.mk.injEq, true_and]
   omega
  ·rename_i h
   have e : wB (Lib.decDigits (u / 10) ++ [UInt8.ofNat (48 + u % 10)]) = wB (Lib.decDigits (u / 10)) ++ [((48 + u % 10 : Nat) : Int)] := by
    rw [wB_app]
    congr 1
    simp only [wB, List.map_cons, List.map_nil]
    rw [ofNat_toNat (by omega)]
   rw [e, numI_snoc, ih (u / 10) (by omega) (by unfold mostN; omega)]
   unfold numStep mostN
   rw [if_neg (by simp), if_neg (by simp only; omega)]
   simp only [Prod.mk.injEq, true_and]
   omega
theorem numI_in (l : List Int) (hd : ∀ x ∈ l, rDig x = true) : 0 ≤ (numI l).2 ∧ (numI l).2 ≤ mostN := by
 suffices h : ∀ (l : List Int) (s : Bool × Int), (∀ x ∈ l, rDig x = true) → 0 ≤ s.2 → s.2 ≤ mostN → 0 ≤ (l.foldl numStep s).2 ∧ (l.foldl numStep s).2 ≤ mostN by
  exact h l (false, 0) hd (by simp) (by simp [mostN])
 intro l
 induction l with
 | nil => intro s _ h0 h1; exact ⟨h0, h1⟩
 | cons x l ih =>
  intro s hd h0 h1
  have hx := hd x List.mem_cons_self
  simp only [rDig, Bool.and_eq_true, decide_eq_true_eq] at hx
  have := numStep_in (r := x) h0 h1 hx.1
  exact ih _ (fun y hy => hd y (List.mem_cons_of_mem _ hy)) this.1 this.2
theorem hexOf_D : ∀ n : Fin 16, hexOf ((hexD n.val).toNat : Int) = ((n.val : Nat) : Int) ∧ (hexD n.val).toNat < 128 := by decide
theorem escShow_ascii (c : UInt8) : ∀ b ∈ escShow c, b.toNat < 128 := by
 have hc := c.toNat_lt
 intro b hb
 unfold escShow at hb
 split at hb
 ·rename_i h
  simp only [List.mem_cons, List.not_mem_nil, or_false] at hb
  rcases hb with rfl | rfl
  ·decide
  ·omega
 ·split at hb
  ·simp only [List.mem_cons, List.not_mem_nil, or_false] at hb
   subst hb
   omega
  ·simp only [List.mem_cons, List.not_mem_nil, or_false] at hb
   rcases hb with rfl | rfl | rfl | rfl
   ·decide
   ·decide
   ·exact (hexOf_D ⟨c.toNat / 16, by omega⟩).2
   ·exact (hexOf_D ⟨c.toNat % 16, by omega⟩).2
theorem byteB_of (b : UInt8) : byteB (b.toNat : Int) = ⟨#[b]⟩ := by
 unfold byteB
 rw [Int.toNat_natCast]
 simp
theorem app_bytes (acc : ByteArray) (b : UInt8) (bs : List UInt8) : acc ++ ⟨#[b]⟩ ++ ⟨bs.toArray⟩ = acc ++ ⟨(b :: bs).toArray⟩ := by
 apply ba_ext
 rw [app_toList, app_toList, app_toList]
 simp
theorem qt_shown : ∀ (bs : List UInt8) (f : Nat) (acc : ByteArray) (rest : List Int), (bs.flatMap escShow).length < f →
  qtI f (wB (bs.flatMap escShow) ++ 34 :: rest) acc = some (acc ++ ⟨bs.toArray⟩, (bs.flatMap escShow).length + 1) := by
 intro bs
 induction bs with
 | nil =>
  intro f acc rest h
  match f, h with
  | f + 1, _ =>
  have : acc ++ (⟨([] : List UInt8).toArray⟩ : ByteArray) = acc := by
   apply ba_ext
   rw [app_toList]
   simp
  rw [this]
  simp [qtI, pk_cons0, wB]
 | cons b bs ih =>
  intro f acc rest h
  have hb := b.toNat_lt
  rw [List.flatMap_cons, List.length_append] at h
  rw [List.flatMap_cons, wB_app, List.append_assoc, ← app_bytes]
  match f, h with
  | f + 1, h =>
  by_cases c1 : b.toNat = 34 ∨ b.toNat = 92
  ·have e : escShow b = [92, b] := by unfold escShow; rw [if_pos c1]
   rw [e] at h ⊢
   have e2 : wB [92, b] = [92, (b.toNat : Int)] := rfl
   rw [e2]
   have hesc : escI ((b.toNat : Int) :: (wB (bs.flatMap escShow) ++ 34 :: rest)) = ((b.toNat : Int), true, 1) := by
    unfold escI
    rw [pk_cons0, if_neg (by omega), if_neg (by omega)]
    rcases c1 with c1 | c1
    ·rw [if_pos (by omega), c1]; rfl
    ·rw [if_neg (by omega), if_pos (by omega), c1]; rfl
   simp only [List.cons_append, List.nil_append, qtI, pk_cons0, List.drop_succ_cons, List.drop_zero, hesc]
   rw [if_neg (by omega), if_neg (by omega), if_pos trivial, if_pos trivial]
   rw [ih f _ rest (by simp only [List.length_cons, List.length_nil] at h; omega), byteB_of]
   simp only [Option.map_some, List.length_append, List.length_cons, List.length_nil]
   congr 2
   omega
  ·by_cases c2 : 32 ≤ b.toNat ∧ b.toNat ≤ 126
   ·have e : escShow b = [b] := by unfold escShow; rw [if_neg c1, if_pos c2]
    rw [e] at h ⊢
    have e2 : wB [b] = [(b.toNat : Int)] := rfl
    rw [e2]
    simp only [List.cons_append, List.nil_append, qtI, pk_cons0, List.drop_succ_cons, List.drop_zero]
    rw [if_neg (by omega), if_neg (by omega), if_neg (by omega), ih f _ rest (by simp only [List.length_cons, List.length_nil] at h; omega), encB_byteB (by omega) (by omega), byteB_of]
    simp only [Option.map_some, List.length_append, List.length_cons, List.length_nil]
    congr 2
    omega
   ·have e : escShow b = [92, 120, hexD (b.toNat / 16), hexD (b.toNat % 16)] := by unfold escShow; rw [if_neg c1, if_neg c2]
    rw [e] at h ⊢
    obtain ⟨g1, _⟩ := hexOf_D ⟨b.toNat / 16, by omega⟩
    obtain ⟨g2, _⟩ := hexOf_D ⟨b.toNat % 16, by omega⟩
    simp only at g1 g2
    have e2 : wB [92, 120, hexD (b.toNat / 16), hexD (b.toNat % 16)] = [92, 120, ((hexD (b.toNat / 16)).toNat : Int), ((hexD (b.toNat % 16)).toNat : Int)] := rfl
    rw [e2]
    generalize ((hexD (b.toNat / 16)).toNat : Int) = h1 at *
    generalize ((hexD (b.toNat % 16)).toNat : Int) = h2 at *
    have hesc : escI (120 :: h1 :: h2 :: (wB (bs.flatMap escShow) ++ 34 :: rest)) = ((b.toNat : Int), true, 3) := by
     have p0 : pk (120 :: h1 :: h2 :: (wB (bs.flatMap escShow) ++ 34 :: rest)) 0 = 120 := rfl
     have p1 : pk (120 :: h1 :: h2 :: (wB (bs.flatMap escShow) ++ 34 :: rest)) 1 = h1 := rfl
     have p2 : pk (120 :: h1 :: h2 :: (wB (bs.flatMap escShow) ++ 34 :: rest)) 2 = h2 := rfl
     unfold escI
     rw [p0, p1, p2]
     rw [if_neg (by decide), if_neg (by decide), if_neg (by decide), if_neg (by decide), if_pos rfl]
     have e1 := escB_eq (a := h1) (b := h2) (by omega) (by omega)
     have d1 : decide (0 ≤ hexOf h1) = true := decide_eq_true (by omega)
     have d2 : decide (0 ≤ hexOf h2) = true := decide_eq_true (by omega)
     rw [e1, d1, d2]
     simp only [Bool.and_self, Prod.mk.injEq, and_true]
     omega
    simp only [List.cons_append, List.nil_append, qtI, pk_cons0, List.drop_succ_cons, List.drop_zero, hesc]
    rw [if_neg (by omega), if_neg (by omega), if_pos trivial, if_pos trivial]
    rw [ih f _ rest (by simp only [List.length_cons, List.length_nil] at h; omega), byteB_of]
    simp only [Option.map_some, List.length_append, List.length_cons, List.length_nil]
    congr 2
    omega
end Go.Proofs.YtpemlmhggiaflaaGreatDoor.Codes
namespace Go.Proofs.YtpemlmhggiaflaaGreatDoor.Codes
open Go Go.Deepv
structure BackW (x : Tk) (w : List Int) : Prop where
 sc : Sc w
 enc : (showV x).data.toList = encLs w
 ne : w ≠ []
 head : rBlank (pk w 0) = false ∧ pk w 0 ≠ 35
 tok : ∀ rest, tokI (w ++ 32 :: rest) = .ok (x, w.length)
theorem take_pk {l : List Int} {n : Nat} (h : 1 ≤ n) (hl : l ≠ []) : pk (l.take n) 0 = pk l 0 ∧ l.take n ≠ [] := by
 cases l with
 | nil => exact absurd rfl hl
 | cons x t =>
  match n, h with
  | n + 1, _ => exact ⟨rfl, by simp⟩
theorem app_pk {w : List Int} (h : w ≠ []) (r : List Int) : pk (w ++ r) 0 = pk w 0 := by
 cases w with
 | nil => exact absurd rfl h
 | cons x t => rfl
theorem sc_take {l : List Int} (h : Sc l) (n : Nat) : Sc (l.take n) := fun x hx => h x (List.mem_of_mem_take hx)
theorem sc_drop {l : List Int} (h : Sc l) (n : Nat) : Sc (l.drop n) := fun x hx => h x (List.mem_of_mem_drop hx)
theorem low_blank {r : Int} (h : rLow r = true ∨ rUp r = true ∨ rDig r = true) : rBlank r = false ∧ r ≠ 35 := by
 have : r ≠ 9 ∧ r ≠ 10 ∧ r ≠ 13 ∧ r ≠ 32 ∧ r ≠ 35 := by
  simp only [rLow, rUp, rDig, Bool.or_eq_true, Bool.and_eq_true, decide_eq_true_eq] at h
  omega
 unfold rBlank
 simp [this]
theorem dig_not {r : Int} (h : rDig r = true) : (rLow r || rUp r) = false := by
 simp only [rDig, Bool.and_eq_true, decide_eq_true_eq] at h
 have h1 : ¬ 97 ≤ r := by omega
 have h2 : ¬ 128 ≤ r := by omega
 have h3 : ¬ 65 ≤ r := by omega
 simp [rLow, rUp, h1, h2, h3]
theorem nameKind_in (t : ByteArray) (r : Int) : nameKind t r = 1 ∨ nameKind t r = 2 ∨ nameKind t r = 5 := by
 unfold nameKind
 split
 ·exact .inr (.inr rfl)
 ·split
  ·exact .inr (.inl rfl)
  ·exact .inl rfl
theorem back_of {l : List Int} {x : Tk} {m : Nat} (hs : Sc l) (hl : l ≠ []) (h : tokI l = .ok (x, m)) : ∃ w, BackW x w ∧ x.kind ≠ 0 := by
 unfold tokI tokF at h
 by_cases c1 : (rLow (pk l 0) || rUp (pk l 0)) = true
 ·simp only [c1, if_true] at h
  split at h
  ·cases h
  ·rename_i h24
   simp only [Except.ok.injEq, Prod.mk.injEq] at h
   obtain ⟨rfl, rfl⟩ := h
   have hpart : rPart (pk l 0) = true := by
    unfold rPart
    cases h1 : rLow (pk l 0) <;> simp_all
   have hpos : 1 ≤ cntI rPart l := by
    cases l with
    | nil => exact absurd rfl hl
    | cons y t =>
     rw [pk_cons0] at hpart
     simp only [cntI, hpart, if_true]
     omega
   obtain ⟨hp, hne⟩ := take_pk hpos hl
   have hall := cntI_take rPart l
   have hk := nameKind_in (textI (l.take (cntI rPart l))) (pk l 0)
   have hlen : (l.take (cntI rPart l)).length = cntI rPart l := by
    rw [List.length_take]
    have := cntI_le rPart l
    omega
   refine ⟨l.take (cntI rPart l), ⟨sc_take hs _, ?_, hne, ?_, fun rest => ?_⟩, by simp only; omega⟩
   ·unfold showV
    rw [if_pos (by simp only; omega)]
    exact textI_enc _
   ·rw [hp]
    refine low_blank ?_
    rcases Bool.or_eq_true_iff.1 c1 with h | h
    ·exact .inl h
    ·exact .inr (.inl h)
   ·generalize l.take (cntI rPart l) = w at *
    have hc := cntI_all (p := rPart) (c := 32) (by decide) rest w hall
    unfold tokI tokF
    rw [app_pk hne, hp, c1, if_pos rfl, hc, if_neg (by omega), List.take_left]
 ·have c1' : (rLow (pk l 0) || rUp (pk l 0)) = false := by simpa using c1
  simp only [c1', Bool.false_eq_true, if_false] at h
  by_cases c2 : rDig (pk l 0) = true
  ·simp only [c2, if_true] at h
   split at h
   ·cases h
   ·rename_i hg
    simp only [Except.ok.injEq, Prod.mk.injEq] at h
    obtain ⟨rfl, rfl⟩ := h
    have hin := numI_in (l.take (cntI rDig l)) (cntI_take rDig l)
    generalize (numI (l.take (cntI rDig l))).2 = v at *
    obtain ⟨u, rfl⟩ : ∃ u : Nat, v = u := ⟨v.toNat, (Int.toNat_of_nonneg hin.1).symm⟩
    have hdd := dd_dig u
    have hasc : ∀ b ∈ Lib.decDigits u, b.toNat < 128 := fun b hb => by have := hdd b hb; omega
    obtain ⟨e1, e2⟩ := wB_enc _ hasc
    have hall : ∀ y ∈ wB (Lib.decDigits u), rDig y = true := fun y hy => by
     unfold wB at hy
     obtain ⟨b, hb, rfl⟩ := List.mem_map.1 hy
     have := hdd b hb
     simp only [rDig, Bool.and_eq_true, decide_eq_true_eq]
     omega
    have hne : wB (Lib.decDigits u) ≠ [] := by
     intro hh
     exact dd_ne u (List.map_eq_nil_iff.1 hh)
    have hnum := dd_num u hin.2
    have hd0 : rDig (pk (wB (Lib.decDigits u)) 0) = true := by
     cases hw : wB (Lib.decDigits u) with
     | nil => exact absurd hw hne
     | cons y t => exact hall y (by rw [hw]; exact List.mem_cons_self)
    refine ⟨wB (Lib.decDigits u), ⟨e2, ?_, hne, low_blank (.inr (.inr hd0)), fun rest => ?_⟩, by simp⟩
    ·unfold showV digitsB Lib.itoa
     rw [if_neg (by simp), if_pos rfl]
     simp only
     rw [if_neg (by omega), show (max (u : Int) 0).toNat = u by omega, e1]
    ·generalize wB (Lib.decDigits u) = w at *
     have hc := cntI_all (p := rDig) (c := 32) (by decide) rest w hall
     unfold tokI tokF
     rw [app_pk hne, dig_not hd0, if_neg (by simp), hd0, if_pos rfl, hc, List.take_left, hnum]
     rfl
  ·have c2' : rDig (pk l 0) = false := by simpa using c2
   simp only [c2', Bool.false_eq_true, if_false] at h
   by_cases c3 : pk l 0 = 34
   ·simp only [c3, if_true] at h
    split at h
    ·rename_i b n hq
     split at h
     ·cases h
     ·rename_i h64
      simp only [Except.ok.injEq, Prod.mk.injEq] at h
      obtain ⟨rfl, rfl⟩ := h
      have hfa : ∀ b' ∈ (34 : UInt8) :: (b.data.toList.flatMap escShow ++ [34]), b'.toNat < 128 := fun b' hb' => by
       rcases List.mem_cons.1 hb' with rfl | hb'
       ·decide
       ·rcases List.mem_append.1 hb' with hb' | hb'
        ·obtain ⟨c, _, hc⟩ := List.mem_flatMap.1 hb'
         exact escShow_ascii c b' hc
        ·simp only [List.mem_cons, List.not_mem_nil, or_false] at hb'
         subst hb'
         decide
      obtain ⟨e1, e2⟩ := wB_enc _ hfa
      have hfold : ∀ (bs : List UInt8) (a : ByteArray), (bs.foldl (fun a c => a ++ escA c) a).data.toList = a.data.toList ++ bs.flatMap escShow := by
       intro bs
       induction bs with
       | nil => intro a; simp
       | cons c bs ih =>
        intro a
        rw [List.foldl_cons, ih, app_toList, List.flatMap_cons, List.append_assoc]
        rfl
      have hsplit : wB ((34 : UInt8) :: (b.data.toList.flatMap escShow ++ [34])) = 34 :: (wB (b.data.toList.flatMap escShow) ++ [34]) := by
       rw [show wB ((34 : UInt8) :: (b.data.toList.flatMap escShow ++ [34])) = 34 :: wB (b.data.toList.flatMap escShow ++ [34]) from rfl, wB_app]
       rfl
      refine ⟨wB ((34 : UInt8) :: (b.data.toList.flatMap escShow ++ [34])), ⟨e2, ?_, by simp [wB], ?_, fun rest => ?_⟩, by simp⟩
      ·rw [e1]
       unfold showV quoteB
       rw [if_neg (by simp), if_neg (by simp), if_pos rfl, app_toList, hfold]
       simp
      ·rw [hsplit, pk_cons0]
       decide
      ·have hb0 : (⟨#[]⟩ : ByteArray) ++ ⟨b.data.toList.toArray⟩ = b := by
        rw [empty_app]
       rw [hsplit]
       have happ : 34 :: (wB (b.data.toList.flatMap escShow) ++ [34]) ++ 32 :: rest = 34 :: (wB (b.data.toList.flatMap escShow) ++ 34 :: 32 :: rest) := by simp
       have hqt := qt_shown b.data.toList ((34 :: (wB (b.data.toList.flatMap escShow) ++ 34 :: 32 :: rest)).length + 1) ⟨#[]⟩ (32 :: rest) (by simp [wB_len]; omega)
       rw [happ]
       unfold tokI tokF
       have h34a : (rLow (34 : Int) || rUp (34 : Int)) = false := by decide
       have h34b : rDig (34 : Int) = false := by decide
       rw [pk_cons0, h34a, if_neg (by simp), h34b, if_neg (by simp), if_pos rfl, List.drop_succ_cons, List.drop_zero, hqt, hb0]
       simp only
       rw [if_neg h64]
       simp [wB_len]
       omega
    ·cases h
   ·simp only [c3, if_false] at h
    split at h
    ·cases h
    ·rename_i hn
     simp only [Except.ok.injEq, Prod.mk.injEq] at h
     obtain ⟨rfl, rfl⟩ := h
     have hle := signN_le (pk l 0) (pk l 1)
     have hsn : signN (pk l 0) (pk l 1) = signN (pk l 0) (pk l 1) := rfl
     generalize hns : signN (pk l 0) (pk l 1) = n at *
     have hnn : n = 1 ∨ n = 2 := by omega
     cases l with
     | nil => exact absurd rfl hl
     | cons c t =>
     rw [pk_cons0] at c1' c2' c3 hns
     have hcs : isSign c = true ∨ c = 45 ∨ c = 60 ∨ c = 61 := by
      unfold signN at hns
      split at hns
      ·omega
      ·split at hns
       ·rename_i h; exact .inl h
       ·omega
     have hcs' : isSign c = true := by
      rcases hcs with h | rfl | rfl | rfl
      ·exact h
      ·decide
      ·decide
      ·decide
     have hnb : rBlank c = false ∧ c ≠ 35 := by
      have : c ≠ 9 ∧ c ≠ 10 ∧ c ≠ 13 ∧ c ≠ 32 ∧ c ≠ 35 := by
       refine ⟨?_, ?_, ?_, ?_, ?_⟩ <;> (intro hh; rw [hh] at hcs'; revert hcs'; decide)
      unfold rBlank
      simp [this]
     rcases hnn with rfl | rfl
     ·refine ⟨[c], ⟨fun y hy => hs y (by simp at hy; simp [hy]), ?_, by simp, hnb, fun rest => ?_⟩, by simp⟩
      ·unfold showV
       rw [if_pos (by simp)]
       exact textI_enc _
      ·have h1 : signN c 32 = 1 := by
        unfold signN
        rw [if_neg (by omega), if_pos hcs']
       unfold tokI tokF
       rw [show [c] ++ 32 :: rest = c :: 32 :: rest from rfl, pk_cons0, pk_cons, pk_cons0, c1', if_neg (by simp), c2', if_neg (by simp), if_neg c3, h1, if_neg (by simp)]
       rfl
     ·cases t with
      | nil =>
       have := hle.2 rfl
       rw [pk_cons, pk_nil] at this
       omega
      | cons d t =>
      rw [pk_cons, pk_cons0] at hns
      refine ⟨[c, d], ⟨fun y hy => hs y (by simp at hy; simp; rcases hy with h | h <;> simp [h]), ?_, by simp, hnb, fun rest => ?_⟩, by simp⟩
      ·unfold showV
       rw [if_pos (by simp)]
       exact textI_enc _
      ·unfold tokI tokF
       rw [show [c, d] ++ 32 :: rest = c :: d :: 32 :: rest from rfl, pk_cons0, pk_cons, pk_cons0, c1', if_neg (by simp), c2', if_neg (by simp), if_neg c3, hns, if_neg (by simp)]
       rfl
end Go.Proofs.YtpemlmhggiaflaaGreatDoor.Codes
