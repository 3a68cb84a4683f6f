/-
  An operator of values: what the program tells of each operator but those of numbers; An operator of values: what the reference tells; An operator of values: what the reference tells is what the program tells; An operator of values: the law, as the deep machine says it
  Conditions: none.
-/
import Derived.Test.YtnklhhmfmopdnaaGreatDoorPB
import Derived.Test.YtnklhhmfmopdnaaGreatDoorPA
set_option linter.unusedVariables false
set_option linter.unusedSimpArgs false
set_option maxRecDepth 100000
namespace Go.Proofs.YtnklhhmfmopdnaaGreatDoor.Codes
open Go Go.Deepv
set_option maxHeartbeats 4000000 in
theorem do_ask5 (n m p : Int) (b c d : List Int) (s t u : ByteArray) (k q r : List V) (h : List Res) :
  D env 7 [.d (.int .i64 5), .d (.slice 5 (V.encs [V.mk 0 n b s k, V.mk 0 m c t q]))] h = some (.val (resV (truthV (askW 5 (w63 n) (w63 m))) true) h) := by
 have e := fun h => kinds_ok 5 h
 rw [show kindsV 5 = some [0, 0] from rfl] at e
 simp only [Option.getD_some, Option.isSome_some] at e
 have key := key7 5 [0, 0] [V.mk 0 n b s k, V.mk 0 m c t q] rfl (by simp)
 rw [if_pos (show fitsV [0, 0] [V.mk 0 n b s k, V.mk 0 m c t q] = true by simp [fitsV, fitV, kindV, bytesV, *])] at key
 have ea := fun a b h => asks_ok 5 a b h
 have et := fun x h => truth_ok x h
 simp only [truthV, V.enc, V.encs, List.map_nil] at et
 rw [D_dat (F := A7) rfl rfl rfl rfl]
 simp -implicitDefEqProofs only [st7, ex7, sS, reduceCtorEq, seval, List.cons_append, List.nil_append, V.encs, V.enc, List.length_cons, List.length_nil, ksF, List.map_cons, List.map_nil] at key e
 simp -implicitDefEqProofs only [A7, B7, sS, reduceCtorEq, seval, e, V.encs, V.enc, List.length_cons, List.length_nil, List.length_map, key, putCells, ea, et]
 rfl
set_option maxHeartbeats 4000000 in
theorem do_ask6 (n m p : Int) (b c d : List Int) (s t u : ByteArray) (k q r : List V) (h : List Res) :
  D env 7 [.d (.int .i64 6), .d (.slice 5 (V.encs [V.mk 0 n b s k, V.mk 0 m c t q]))] h = some (.val (resV (truthV (askW 6 (w63 n) (w63 m))) true) h) := by
 have e := fun h => kinds_ok 6 h
 rw [show kindsV 6 = some [0, 0] from rfl] at e
 simp only [Option.getD_some, Option.isSome_some] at e
 have key := key7 6 [0, 0] [V.mk 0 n b s k, V.mk 0 m c t q] rfl (by simp)
 rw [if_pos (show fitsV [0, 0] [V.mk 0 n b s k, V.mk 0 m c t q] = true by simp [fitsV, fitV, kindV, bytesV, *])] at key
 have ea := fun a b h => asks_ok 6 a b h
 have et := fun x h => truth_ok x h
 simp only [truthV, V.enc, V.encs, List.map_nil] at et
 rw [D_dat (F := A7) rfl rfl rfl rfl]
 simp -implicitDefEqProofs only [st7, ex7, sS, reduceCtorEq, seval, List.cons_append, List.nil_append, V.encs, V.enc, List.length_cons, List.length_nil, ksF, List.map_cons, List.map_nil] at key e
 simp -implicitDefEqProofs only [A7, B7, sS, reduceCtorEq, seval, e, V.encs, V.enc, List.length_cons, List.length_nil, List.length_map, key, putCells, ea, et]
 rfl
set_option maxHeartbeats 4000000 in
theorem do_ask7 (n m p : Int) (b c d : List Int) (s t u : ByteArray) (k q r : List V) (h : List Res) :
  D env 7 [.d (.int .i64 7), .d (.slice 5 (V.encs [V.mk 0 n b s k, V.mk 0 m c t q]))] h = some (.val (resV (truthV (askW 7 (w63 n) (w63 m))) true) h) := by
 have e := fun h => kinds_ok 7 h
 rw [show kindsV 7 = some [0, 0] from rfl] at e
 simp only [Option.getD_some, Option.isSome_some] at e
 have key := key7 7 [0, 0] [V.mk 0 n b s k, V.mk 0 m c t q] rfl (by simp)
 rw [if_pos (show fitsV [0, 0] [V.mk 0 n b s k, V.mk 0 m c t q] = true by simp [fitsV, fitV, kindV, bytesV, *])] at key
 have ea := fun a b h => asks_ok 7 a b h
 have et := fun x h => truth_ok x h
 simp only [truthV, V.enc, V.encs, List.map_nil] at et
 rw [D_dat (F := A7) rfl rfl rfl rfl]
 simp -implicitDefEqProofs only [st7, ex7, sS, reduceCtorEq, seval, List.cons_append, List.nil_append, V.encs, V.enc, List.length_cons, List.length_nil, ksF, List.map_cons, List.map_nil] at key e
 simp -implicitDefEqProofs only [A7, B7, sS, reduceCtorEq, seval, e, V.encs, V.enc, List.length_cons, List.length_nil, List.length_map, key, putCells, ea, et]
 rfl
set_option maxHeartbeats 4000000 in
theorem do_len (n m p : Int) (b c d : List Int) (s t u : ByteArray) (k q r : List V) (hb : b.length ≤ 64) (h : List Res) :
  D env 7 [.d (.int .i64 8), .d (.slice 5 (V.encs [V.mk 1 n b s k]))] h = some (.val (resV (numV b.length) true) h) := by
 have e := fun h => kinds_ok 8 h
 rw [show kindsV 8 = some [1] from rfl] at e
 simp only [Option.getD_some, Option.isSome_some] at e
 have key := key7 8 [1] [V.mk 1 n b s k] rfl (by simp)
 rw [if_pos (show fitsV [1] [V.mk 1 n b s k] = true by simp [fitsV, fitV, kindV, bytesV, *])] at key
 rw [D_dat (F := A7) rfl rfl rfl rfl]
 simp -implicitDefEqProofs only [st7, ex7, sS, reduceCtorEq, seval, List.cons_append, List.nil_append, V.encs, V.enc, List.length_cons, List.length_nil, ksF, List.map_cons, List.map_nil] at key e
 simp -implicitDefEqProofs only [A7, B7, sS, reduceCtorEq, seval, e, V.encs, V.enc, List.length_cons, List.length_nil, List.length_map, key, putCells]
 rfl
def atV (b : List Int) (i : Int) : Int := if i < 0 ∨ i ≥ b.length then -1 else IntKind.i64.wrap (b.getD i.toNat 0)
set_option maxHeartbeats 4000000 in
theorem do_at (n m p : Int) (b c d : List Int) (s t u : ByteArray) (k q r : List V) (hb : b.length ≤ 64) (h : List Res) :
  D env 7 [.d (.int .i64 9), .d (.slice 5 (V.encs [V.mk 1 n b s k, V.mk 0 m c t q]))] h = some (.val (resV (numV (atV b (w63 m))) true) h) := by
 have e := fun h => kinds_ok 9 h
 rw [show kindsV 9 = some [1, 0] from rfl] at e
 simp only [Option.getD_some, Option.isSome_some] at e
 have key := key7 9 [1, 0] [V.mk 1 n b s k, V.mk 0 m c t q] rfl (by simp)
 rw [if_pos (show fitsV [1, 0] [V.mk 1 n b s k, V.mk 0 m c t q] = true by simp [fitsV, fitV, kindV, bytesV, *])] at key
 have ew := fun n h => wrap_ok n h
 rw [D_dat (F := A7) rfl rfl rfl rfl]
 simp -implicitDefEqProofs only [st7, ex7, sS, reduceCtorEq, seval, List.cons_append, List.nil_append, V.encs, V.enc, List.length_cons, List.length_nil, ksF, List.map_cons, List.map_nil] at key e
 unfold atV
 by_cases h1 : w63 m < 0
 ·rw [if_pos (.inl h1)]
  simp -implicitDefEqProofs only [A7, B7, sS, reduceCtorEq, seval, e, V.encs, V.enc, List.length_cons, List.length_nil, List.length_map, key, putCells, ew, h1]
  rfl
 by_cases h2 : w63 m ≥ b.length
 ·rw [if_pos (.inr h2)]
  simp -implicitDefEqProofs only [A7, B7, sS, reduceCtorEq, seval, e, V.encs, V.enc, List.length_cons, List.length_nil, List.length_map, key, putCells, ew, h1, h2]
  rfl
 rw [if_neg (by omega)]
 obtain ⟨x, hx⟩ : ∃ x, b[(w63 m).toNat]? = some x := ⟨_, List.getElem?_eq_getElem (by omega)⟩
 have hx2 : (List.map (fun x => [FV.int .u8 x]) b)[(w63 m).toNat]? = some [.int .u8 x] := by simp [hx]
 have hx3 : b.getD (w63 m).toNat 0 = x := by simp [List.getD_eq_getElem?_getD, hx]
 have h3 : 0 ≤ w63 m := by omega
 rw [hx3]
 simp -implicitDefEqProofs only [A7, B7, sS, reduceCtorEq, seval, e, V.encs, V.enc, List.length_cons, List.length_nil, List.length_map, key, putCells, ew, h1, h2, h3, hx2]
 rfl
set_option maxHeartbeats 4000000 in
theorem do_cat (n m p : Int) (b c d : List Int) (s t u : ByteArray) (k q r : List V) (hb : b.length ≤ 64) (hc : c.length ≤ 64) (h : List Res) :
  D env 7 [.d (.int .i64 10), .d (.slice 5 (V.encs [V.mk 1 n b s k, V.mk 1 m c t q]))] h = some (.val (resV (textV ((b ++ c).take 64)) true) h) := by
 have e := fun h => kinds_ok 10 h
 rw [show kindsV 10 = some [1, 1] from rfl] at e
 simp only [Option.getD_some, Option.isSome_some] at e
 have key := key7 10 [1, 1] [V.mk 1 n b s k, V.mk 1 m c t q] rfl (by simp)
 rw [if_pos (show fitsV [1, 1] [V.mk 1 n b s k, V.mk 1 m c t q] = true by simp [fitsV, fitV, kindV, bytesV, *])] at key
 have ec := fun h => concat_ok (bF b) (bF c) (by simp; omega) (by simp; omega) h
 have et := fun h => text_ok ((b ++ c).take 64) h
 have em : List.map (fun x => [FV.int .u8 x]) ((b ++ c).take 64) = (List.map (fun x => [FV.int .u8 x]) b ++ List.map (fun x => [FV.int .u8 x]) c).take 64 := by simp [List.map_take]
 simp only [textV, V.enc, V.encs, bF, em] at et
 simp only [bF] at ec
 rw [D_dat (F := A7) rfl rfl rfl rfl]
 simp -implicitDefEqProofs only [st7, ex7, sS, reduceCtorEq, seval, List.cons_append, List.nil_append, V.encs, V.enc, List.length_cons, List.length_nil, ksF, List.map_cons, List.map_nil] at key e
 simp only [resV, textV, V.enc, V.encs, em]
 by_cases h64 : (64 : Int) < ((b.length + c.length : Nat) : Int)
 ·have q1 : (0 : Int) ≤ 64 ∧ (64 : Int) ≤ ((b.length + c.length : Nat) : Int) := ⟨by decide, by omega⟩
  simp -implicitDefEqProofs only [A7, B7, sS, reduceCtorEq, seval, e, V.encs, V.enc, List.length_cons, List.length_nil, List.length_map, List.length_append, key, putCells, ec, et, h64, q1]
 ·have q1 : (0 : Int) ≤ ((b.length + c.length : Nat) : Int) ∧ ((b.length + c.length : Nat) : Int) ≤ ((b.length + c.length : Nat) : Int) := ⟨by omega, by omega⟩
  have q2 : (List.map (fun x => [FV.int .u8 x]) b ++ List.map (fun x => [FV.int .u8 x]) c).take 64 = (List.map (fun x => [FV.int .u8 x]) b ++ List.map (fun x => [FV.int .u8 x]) c).take (b.length + c.length) := by rw [List.take_of_length_le (by simp; omega), List.take_of_length_le (by simp)]
  rw [q2] at ⊢
  simp only [q2] at et
  simp -implicitDefEqProofs only [A7, B7, sS, reduceCtorEq, seval, e, V.encs, V.enc, List.length_cons, List.length_nil, List.length_map, List.length_append, key, putCells, ec, et, h64, q1]
def cutP (b : List Int) (i n : Int) : List Int := (b.drop (clampV i b.length).toNat).take (clampV n ((b.drop (clampV i b.length).toNat).length)).toNat
theorem clampV_range (n m : Int) (hm : 0 ≤ m) : 0 ≤ clampV n m ∧ clampV n m ≤ m := by unfold clampV; omega
set_option maxHeartbeats 4000000 in
theorem do_cut (n m p : Int) (b c d : List Int) (s t u : ByteArray) (k q r : List V) (hb : b.length ≤ 64) (h : List Res) :
  D env 7 [.d (.int .i64 11), .d (.slice 5 (V.encs [V.mk 1 n b s k, V.mk 0 m c t q, V.mk 0 p d u r]))] h = some (.val (resV (textV (cutP b m p)) true) h) := by
 have e := fun h => kinds_ok 11 h
 rw [show kindsV 11 = some [1, 0, 0] from rfl] at e
 simp only [Option.getD_some, Option.isSome_some] at e
 have key := key7 11 [1, 0, 0] [V.mk 1 n b s k, V.mk 0 m c t q, V.mk 0 p d u r] rfl (by simp)
 rw [if_pos (show fitsV [1, 0, 0] [V.mk 1 n b s k, V.mk 0 m c t q, V.mk 0 p d u r] = true by simp [fitsV, fitV, kindV, bytesV, *])] at key
 obtain ⟨a1, a2⟩ := clampV_range m b.length (by omega)
 obtain ⟨a, ha⟩ : ∃ a : Nat, clampV m b.length = a := ⟨(clampV m b.length).toNat, by omega⟩
 have e1 := fun h => bounded_ok m b.length h
 rw [ha] at e1 a1 a2
 obtain ⟨z1, z2⟩ := clampV_range p ((b.drop a).length : Nat) (by omega)
 obtain ⟨z, hz⟩ : ∃ z : Nat, clampV p ((b.drop a).length : Nat) = z := ⟨(clampV p ((b.drop a).length : Nat)).toNat, by omega⟩
 have e2 := fun h => bounded_ok p ((b.drop a).length : Nat) h
 rw [hz] at e2 z1 z2
 have hcp : cutP b m p = (b.drop a).take z := by unfold cutP; rw [ha, Int.toNat_natCast, hz, Int.toNat_natCast]
 rw [hcp]
 have et := fun h => text_ok ((b.drop a).take z) h
 have em : List.map (fun x => [FV.int .u8 x]) ((b.drop a).take z) = ((List.map (fun x => [FV.int .u8 x]) b).drop a).take z := by simp [List.map_take, List.map_drop]
 have ecl : ∀ h, D env 20 [.d (.slice 1 (((List.map (fun x => [FV.int .u8 x]) b).drop a).take z))] h = some (.val (.d (.slice 1 (((List.map (fun x => [FV.int .u8 x]) b).drop a).take z))) h) := fun h => by
  rw [D_ext (F := xClone 1 1) rfl]
  simp [xClone, DV.coe, DV.elems]
  omega
 simp only [textV, V.enc, V.encs, bF, em] at et
 rw [D_dat (F := A7) rfl rfl rfl rfl]
 simp -implicitDefEqProofs only [st7, ex7, sS, reduceCtorEq, seval, List.cons_append, List.nil_append, V.encs, V.enc, List.length_cons, List.length_nil, ksF, List.map_cons, List.map_nil] at key e
 simp only [resV, textV, V.enc, V.encs, em]
 have q1 : (0 : Int) ≤ (a : Int) ∧ (a : Int) ≤ (b.length : Int) := ⟨a1, a2⟩
 have l1 : (b.drop a).length = b.length - a := by simp
 rw [l1] at e2 z2
 have q2 : (0 : Int) ≤ (z : Int) ∧ (z : Int) ≤ ((b.length - a : Nat) : Int) := ⟨z1, z2⟩
 have tk : (List.map (fun x => [FV.int .u8 x]) b).take b.length = List.map (fun x => [FV.int .u8 x]) b := by rw [List.take_of_length_le (by simp)]
 simp -implicitDefEqProofs only [A7, B7, sS, reduceCtorEq, seval, e, V.encs, V.enc, List.length_cons, List.length_nil, List.length_map, List.length_append, key, putCells, e1, e2, ecl, et, q1, q2, List.length_drop, tk, List.drop_zero]
end Go.Proofs.YtnklhhmfmopdnaaGreatDoor.Codes
namespace Go.Proofs.YtnklhhmfmopdnaaGreatDoor.Codes
open Go Go.Deepv
def tyF (k : Int) : List FV := [.int .i64 k, .str ⟨#[]⟩, .slice 3 []]
def tysF (ks : List Int) : List (List FV) := ks.map tyF
theorem ops_ok (op : Int) (ks : List Int) (hk : kindsV op = some ks) : ∃ (k : Int) (nm : ByteArray), ∀ h, D env 39 [.d (.int .i64 op)] h = some (.val (.d (.tup [.slice 3 (tysF ks), .agg [.int .i64 k, .str nm, .slice 3 []]])) h) := by
 have lit : ∀ (n : Int) (v : FV), D env 39 [.d (.int .i64 n)] [] = some (.val (.d v) []) → ∀ h, D env 39 [.d (.int .i64 n)] h = some (.val (.d v) h) := fun n v hq h => D_lift (F := A39) rfl rfl rfl rfl hq h
 by_cases h0 : op = 0
 ·subst h0
  obtain rfl := Option.some.inj (show some _ = some ks from hk)
  exact ⟨0, ⟨#[]⟩, lit _ _ (D_reckon 20 (by kernel_rfl))⟩
 by_cases h1 : op = 1
 ·subst h1
  obtain rfl := Option.some.inj (show some _ = some ks from hk)
  exact ⟨0, ⟨#[]⟩, lit _ _ (D_reckon 20 (by kernel_rfl))⟩
 by_cases h2 : op = 2
 ·subst h2
  obtain rfl := Option.some.inj (show some _ = some ks from hk)
  exact ⟨0, ⟨#[]⟩, lit _ _ (D_reckon 20 (by kernel_rfl))⟩
 by_cases h3 : op = 3
 ·subst h3
  obtain rfl := Option.some.inj (show some _ = some ks from hk)
  exact ⟨0, ⟨#[]⟩, lit _ _ (D_reckon 20 (by kernel_rfl))⟩
 by_cases h4 : op = 4
 ·subst h4
  obtain rfl := Option.some.inj (show some _ = some ks from hk)
  exact ⟨0, ⟨#[]⟩, lit _ _ (D_reckon 20 (by kernel_rfl))⟩
 by_cases h5 : op = 5
 ·subst h5
  obtain rfl := Option.some.inj (show some _ = some ks from hk)
  exact ⟨2, ⟨#[98, 111, 111, 108]⟩, lit _ _ (D_reckon 20 (by kernel_rfl))⟩
 by_cases h6 : op = 6
 ·subst h6
  obtain rfl := Option.some.inj (show some _ = some ks from hk)
  exact ⟨2, ⟨#[98, 111, 111, 108]⟩, lit _ _ (D_reckon 20 (by kernel_rfl))⟩
 by_cases h7 : op = 7
 ·subst h7
  obtain rfl := Option.some.inj (show some _ = some ks from hk)
  exact ⟨2, ⟨#[98, 111, 111, 108]⟩, lit _ _ (D_reckon 20 (by kernel_rfl))⟩
 by_cases h8 : op = 8
 ·subst h8
  obtain rfl := Option.some.inj (show some _ = some ks from hk)
  exact ⟨0, ⟨#[]⟩, lit _ _ (D_reckon 20 (by kernel_rfl))⟩
 by_cases h9 : op = 9
 ·subst h9
  obtain rfl := Option.some.inj (show some _ = some ks from hk)
  exact ⟨0, ⟨#[]⟩, lit _ _ (D_reckon 20 (by kernel_rfl))⟩
 by_cases h10 : op = 10
 ·subst h10
  obtain rfl := Option.some.inj (show some _ = some ks from hk)
  exact ⟨1, ⟨#[]⟩, lit _ _ (D_reckon 20 (by kernel_rfl))⟩
 by_cases h11 : op = 11
 ·subst h11
  obtain rfl := Option.some.inj (show some _ = some ks from hk)
  exact ⟨1, ⟨#[]⟩, lit _ _ (D_reckon 20 (by kernel_rfl))⟩
 simp [kindsV, h0, h1, h2, h3, h4, h5, h6, h7, h8, h9, h10, h11] at hk
theorem kinds_range (op : Int) : (kindsV op = none ↔ (op < 0 ∨ op ≥ 12)) ∧ ∀ ks, kindsV op = some ks → ∀ k ∈ ks, k = 0 ∨ k = 1 := by
 unfold kindsV
 constructor
 ·repeat' split
  all_goals simp
  all_goals omega
 ·intro ks
  repeat' split
  all_goals (intro hk; first | (cases hk; simp) | cases hk)
def st22 (ts c : List (List FV)) (i : Int) : List DV := [.d .undef, .d (.slice 5 c), .d .undef, .d .undef, .d .undef, .d (.slice 3 ts), .d .undef, .d (.int .i64 i)] ++ List.replicate 61 (.d .undef)
def ex22 (x : FV) : List DV := [.d .undef, .d .undef, .d .undef, .d .undef, .d x] ++ List.replicate 64 (.d .undef)
set_option maxHeartbeats 4000000 in
theorem loop22 (ks : List Int) (l : List V) (hl : ks.length = l.length) (hs : l.length ≤ 10) (h01 : ∀ k ∈ ks, k = 0 ∨ k = 1) (R : List Res) (hR : R.length = 2) :
  ∀ (r p : List V), l = p ++ r → L env 2 true H22L7 X22L7 B22L7 (st22 (tysF ks) (V.encs l) p.length) R =
   if fitsV (ks.drop p.length) r = true then some (.exit 0, ex22 .undef, R) else some (.ret, ex22 (.bool false), R) := by
 obtain ⟨K, hK⟩ : ∃ K, L env 2 true H22L7 X22L7 B22L7 = K := ⟨_, rfl⟩
 rw [hK]
 have hRt : R.take 2 = R := by rw [List.take_of_length_le (by omega)]
 intro r
 induction r with
 | nil =>
  intro p hp
  rw [L_round hK]
  simp at hp
  subst hp
  have hd : fitsV (ks.drop l.length) [] = true := by cases ks.drop l.length <;> rfl
  rw [hd, if_pos rfl]
  have e0 : ¬ (l.length : Int) < l.length := by omega
  simp -implicitDefEqProofs only [B22L7, st22, ex22, sS, reduceCtorEq, seval, encs_len, e0, hRt]
 | cons v r ihr =>
  intro p hp
  rw [L_round hK]
  have hlen : l.length = p.length + (r.length + 1) := by rw [hp]; simp
  have e1 : (p.length : Int) < l.length := by omega
  have e2 : (V.encs l)[p.length]? = some v.enc := by rw [encs_at, hp]; simp
  have e3 : IntKind.i64.wrap (p.length + 1) = p.length + 1 := wrap_i64 (by omega) (by omega)
  have hpk : p.length < ks.length := by omega
  obtain ⟨kp, hkp⟩ : ∃ kp, ks[p.length]? = some kp := ⟨_, List.getElem?_eq_getElem hpk⟩
  have h01p : kp = 0 ∨ kp = 1 := h01 _ (List.mem_of_getElem? hkp)
  have e4 : (tysF ks)[p.length]? = some [.int .i64 kp, .str ⟨#[]⟩, .slice 3 []] := by simp [tysF, tyF, hkp]
  have hdrop : ks.drop p.length = kp :: ks.drop (p.length + 1) := by
   rw [List.drop_eq_getElem_cons hpk]
   congr 1
   have := List.getElem?_eq_getElem (l := ks) (i := p.length) hpk
   rw [hkp] at this
   simpa using this.symm
  have hr := ihr (p ++ [v]) (by simp [hp])
  rw [List.length_append, List.length_singleton, Int.natCast_add, show ((1 : Nat) : Int) = 1 from rfl] at hr
  rw [hdrop]
  obtain ⟨k, n, b, s, kids⟩ := v
  rw [fitsV_cons]
  rcases h01p with rfl | rfl
  ·by_cases hk : k = 0
   ·subst hk
    have hv : fitV 0 (V.mk 0 n b s kids) = true := by simp [fitV, kindV]
    rw [hv, Bool.true_and]
    simp -implicitDefEqProofs only [B22L7, st22, ex22, sS, reduceCtorEq, seval, encs_len, e1, e2, e3, e4, V.enc, List.length_map, hRt]
    exact hr
   ·have hne : ¬ (0 : Int) = k := fun e => hk e.symm
    have hv : fitV 0 (V.mk k n b s kids) = false := by simp [fitV, kindV, hne]
    rw [hv, Bool.false_and, if_neg Bool.false_ne_true]
    have hk' : (k != 0) = true := by simpa using hk
    simp -implicitDefEqProofs only [B22L7, st22, ex22, sS, reduceCtorEq, seval, encs_len, e1, e2, e3, e4, V.enc, List.length_map, hk', hRt]
  ·by_cases hk : k = 1
   ·subst hk
    by_cases hb : b.length ≤ 64
    ·have hv : fitV 1 (V.mk 1 n b s kids) = true := by simp [fitV, kindV, bytesV, hb]
     rw [hv, Bool.true_and]
     have hb' : ¬ (b.length : Int) > 64 := by omega
     simp -implicitDefEqProofs only [B22L7, st22, ex22, sS, reduceCtorEq, seval, encs_len, e1, e2, e3, e4, V.enc, List.length_map, hb', hRt]
     exact hr
    ·have hv : fitV 1 (V.mk 1 n b s kids) = false := by simp only [fitV, kindV, bytesV]; simp [hb]
     rw [hv, Bool.false_and, if_neg Bool.false_ne_true]
     have hb' : (b.length : Int) > 64 := by omega
     simp -implicitDefEqProofs only [B22L7, st22, ex22, sS, reduceCtorEq, seval, encs_len, e1, e2, e3, e4, V.enc, List.length_map, hb', hRt]
   ·have hne : ¬ (1 : Int) = k := fun e => hk e.symm
    have hv : fitV 1 (V.mk k n b s kids) = false := by simp [fitV, kindV, hne]
    rw [hv, Bool.false_and, if_neg Bool.false_ne_true]
    have hk' : (k != 1) = true := by simpa using hk
    simp -implicitDefEqProofs only [B22L7, st22, ex22, sS, reduceCtorEq, seval, encs_len, e1, e2, e3, e4, V.enc, List.length_map, hk', hRt]
def suchV (op : Int) (l : List V) : Bool := match kindsV op with
 | none => false
 | some ks => decide (ks.length = l.length) && fitsV ks l
set_option maxHeartbeats 4000000 in
theorem such_ok (op : Int) (l : List V) (h : List Res) : D env 22 [.d (.int .i64 op), .d (.slice 5 (V.encs l))] h = some (.val (.d (.bool (suchV op l))) h) := by
 unfold suchV
 rw [D_dat (F := A22) rfl rfl rfl rfl]
 cases hk : kindsV op with
 | none =>
  have ho := (kinds_range op).1.1 hk
  by_cases h0 : op < 0
  ·simp -implicitDefEqProofs only [A22, B22, sS, reduceCtorEq, seval, h0]
  ·have h1 : op ≥ 12 := by omega
   simp -implicitDefEqProofs only [A22, B22, sS, reduceCtorEq, seval, h0, h1]
 | some ks =>
  have ho : ¬ (op < 0 ∨ op ≥ 12) := fun hh => by rw [(kinds_range op).1.2 hh] at hk; cases hk
  have h0 : ¬ op < 0 := fun hh => ho (.inl hh)
  have h1 : ¬ op ≥ 12 := fun hh => ho (.inr hh)
  obtain ⟨k, nm, e⟩ := ops_ok op ks hk
  have h01 := (kinds_range op).2 ks hk
  have hlt : (tysF ks).length = ks.length := by simp [tysF]
  by_cases hl : ks.length = l.length
  ·have hs : l.length ≤ 10 := by
    rw [← hl]
    revert hk
    unfold kindsV
    repeat' split
    all_goals (intro hk; first | (cases hk; simp) | cases hk)
   have key := loop22 ks l hl hs h01 [.nilrow, .box [.d (.int .i64 k), .d (.str nm), .d (.slice 3 [])]] rfl l [] rfl
   rw [List.length_nil, List.drop_zero, Int.natCast_zero] at key
   have e3 : ((l.length : Int) != l.length) = false := by simp
   simp only [hl, decide_true, Bool.true_and]
   cases hf : fitsV ks l with
   | true =>
    rw [hf, if_pos rfl] at key
    simp -implicitDefEqProofs only [st22, ex22, sS, reduceCtorEq, seval, List.cons_append, List.nil_append] at key
    simp -implicitDefEqProofs only [A22, B22, sS, reduceCtorEq, seval, h0, h1, e, encs_len, hlt, hl, e3, putCells, key]
   | false =>
    rw [hf, if_neg Bool.false_ne_true] at key
    simp -implicitDefEqProofs only [st22, ex22, sS, reduceCtorEq, seval, List.cons_append, List.nil_append] at key
    simp -implicitDefEqProofs only [A22, B22, sS, reduceCtorEq, seval, h0, h1, e, encs_len, hlt, hl, e3, putCells, key]
  ·have e2 : ((ks.length : Int) != l.length) = true := by simp; omega
   simp only [hl, decide_false, Bool.false_and]
   simp -implicitDefEqProofs only [A22, B22, sS, reduceCtorEq, seval, h0, h1, e, encs_len, hlt, e2, putCells]
end Go.Proofs.YtnklhhmfmopdnaaGreatDoor.Codes
namespace Go.Proofs.YtnklhhmfmopdnaaGreatDoor.Codes
open Go Go.Deepv
theorem D_coe {E : Env} {f : FuncId} {F : AFunc} {args : List DV} (he : E.ext f = none) (ha : E.af f = some F) (hc : F.coe = true) (hi : (args.map DV.coe).map DV.coe = args.map DV.coe) (h : List Res) : D E f args h = D E f (args.map DV.coe) h := by
 rw [D_eq, D_eq]
 unfold dcallF
 rw [he, ha]
 simp only [hc, if_true, hi]
theorem cutP_eq (b : List Int) (i n : Int) : cutP b i n = cutV b (w63 i) (w63 n) := by
 unfold cutP cutV clampV
 have e1 : b.drop (min (max (w63 i) 0) (b.length : Int)).toNat = b.drop (w63 i).toNat := by
  by_cases h : (w63 i).toNat ≤ b.length
  ·congr 1
   omega
  ·rw [List.drop_eq_nil_of_le (by omega), List.drop_eq_nil_of_le (by omega)]
 rw [e1]
 by_cases h : (w63 n).toNat ≤ (b.drop (w63 i).toNat).length
 ·congr 1
  omega
 ·rw [List.take_of_length_le (by omega), List.take_of_length_le (by omega)]
theorem rdo_unfit (op : Int) (l : List V) (hf : suchV op l = false) (h : List Res) : D env 8 [.d (.int .i64 op), .d (.slice 5 (V.encs l))] h = some (.val (resV zeroV false) h) := by
 have e := fun h => such_ok op l h
 rw [hf] at e
 rw [D_dat (F := A8) rfl rfl rfl rfl]
 simp -implicitDefEqProofs only [A8, B8, sS, reduceCtorEq, seval, e, putCells]
 rfl
set_option maxHeartbeats 4000000 in
theorem rdo_arith (op n m : Int) (b c : List Int) (s t : ByteArray) (k q : List V) (hk : suchV op [.mk 0 n b s k, .mk 0 m c t q] = true) (h5 : ¬ op = 5) (h6 : ¬ op = 6) (h7 : ¬ op = 7) (h8 : ¬ op = 8) (h9 : ¬ op = 9) (h10 : ¬ op = 10) (h11 : ¬ op = 11) (h : List Res) :
  D env 8 [.d (.int .i64 op), .d (.slice 5 (V.encs [.mk 0 n b s k, .mk 0 m c t q]))] h = some (.val (resV (numV (doW op (w63 n) (w63 m))) true) h) := by
 have e := fun h => such_ok op [.mk 0 n b s k, .mk 0 m c t q] h
 rw [hk] at e
 have ed := fun a b h => rdo_ok op a b h
 have en := fun n h => num_ok n h
 have f5 : (op == 5) = false := by simpa using h5
 have f6 : (op == 6) = false := by simpa using h6
 have f7 : (op == 7) = false := by simpa using h7
 have f8 : (op == 8) = false := by simpa using h8
 have f9 : (op == 9) = false := by simpa using h9
 have f10 : (op == 10) = false := by simpa using h10
 have f11 : (op == 11) = false := by simpa using h11
 simp only [numV, V.enc, V.encs, List.map_nil] at e en
 rw [D_dat (F := A8) rfl rfl rfl rfl]
 simp -implicitDefEqProofs only [A8, B8, sS, reduceCtorEq, seval, e, V.encs, V.enc, List.length_cons, List.length_nil, f5, f6, f7, f8, f9, f10, f11, ed, en, putCells]
 rfl
set_option maxHeartbeats 4000000 in
theorem rdo_ask5 (n m p : Int) (b c d : List Int) (s t u : ByteArray) (k q r : List V) (h : List Res) :
  D env 8 [.d (.int .i64 5), .d (.slice 5 (V.encs [V.mk 0 n b s k, V.mk 0 m c t q]))] h = some (.val (resV (truthV (askW 5 (w63 n) (w63 m))) true) h) := by
 have e := fun h => such_ok 5 [V.mk 0 n b s k, V.mk 0 m c t q] h
 rw [show suchV 5 [V.mk 0 n b s k, V.mk 0 m c t q] = true by simp [suchV, kindsV, fitsV, fitV, kindV, bytesV, *]] at e
 simp only [V.enc, V.encs] at e
 have ea := fun a b h => rasks_ok 5 a b h
 have et := fun x h => rtruth_ok x h
 simp only [truthV, V.enc, V.encs, List.map_nil] at et
 rw [D_dat (F := A8) rfl rfl rfl rfl]
 simp -implicitDefEqProofs only [A8, B8, sS, reduceCtorEq, seval, e, V.encs, V.enc, List.length_cons, List.length_nil, List.length_map, List.length_append, putCells, ea, et]
 rfl
set_option maxHeartbeats 4000000 in
theorem rdo_ask6 (n m p : Int) (b c d : List Int) (s t u : ByteArray) (k q r : List V) (h : List Res) :
  D env 8 [.d (.int .i64 6), .d (.slice 5 (V.encs [V.mk 0 n b s k, V.mk 0 m c t q]))] h = some (.val (resV (truthV (askW 6 (w63 n) (w63 m))) true) h) := by
 have e := fun h => such_ok 6 [V.mk 0 n b s k, V.mk 0 m c t q] h
 rw [show suchV 6 [V.mk 0 n b s k, V.mk 0 m c t q] = true by simp [suchV, kindsV, fitsV, fitV, kindV, bytesV, *]] at e
 simp only [V.enc, V.encs] at e
 have ea := fun a b h => rasks_ok 6 a b h
 have et := fun x h => rtruth_ok x h
 simp only [truthV, V.enc, V.encs, List.map_nil] at et
 rw [D_dat (F := A8) rfl rfl rfl rfl]
 simp -implicitDefEqProofs only [A8, B8, sS, reduceCtorEq, seval, e, V.encs, V.enc, List.length_cons, List.length_nil, List.length_map, List.length_append, putCells, ea, et]
 rfl
set_option maxHeartbeats 4000000 in
theorem rdo_ask7 (n m p : Int) (b c d : List Int) (s t u : ByteArray) (k q r : List V) (h : List Res) :
  D env 8 [.d (.int .i64 7), .d (.slice 5 (V.encs [V.mk 0 n b s k, V.mk 0 m c t q]))] h = some (.val (resV (truthV (askW 7 (w63 n) (w63 m))) true) h) := by
 have e := fun h => such_ok 7 [V.mk 0 n b s k, V.mk 0 m c t q] h
 rw [show suchV 7 [V.mk 0 n b s k, V.mk 0 m c t q] = true by simp [suchV, kindsV, fitsV, fitV, kindV, bytesV, *]] at e
 simp only [V.enc, V.encs] at e
 have ea := fun a b h => rasks_ok 7 a b h
 have et := fun x h => rtruth_ok x h
 simp only [truthV, V.enc, V.encs, List.map_nil] at et
 rw [D_dat (F := A8) rfl rfl rfl rfl]
 simp -implicitDefEqProofs only [A8, B8, sS, reduceCtorEq, seval, e, V.encs, V.enc, List.length_cons, List.length_nil, List.length_map, List.length_append, putCells, ea, et]
 rfl
set_option maxHeartbeats 4000000 in
theorem rdo_len (n m p : Int) (b c d : List Int) (s t u : ByteArray) (k q r : List V) (hb : b.length ≤ 64) (h : List Res) :
  D env 8 [.d (.int .i64 8), .d (.slice 5 (V.encs [V.mk 1 n b s k]))] h = some (.val (resV (numV b.length) true) h) := by
 have e := fun h => such_ok 8 [V.mk 1 n b s k] h
 rw [show suchV 8 [V.mk 1 n b s k] = true by simp [suchV, kindsV, fitsV, fitV, kindV, bytesV, *]] at e
 simp only [V.enc, V.encs] at e
 have en := fun n h => num_ok n h
 simp only [numV, V.enc, V.encs, List.map_nil] at en
 rw [D_dat (F := A8) rfl rfl rfl rfl]
 simp -implicitDefEqProofs only [A8, B8, sS, reduceCtorEq, seval, e, V.encs, V.enc, List.length_cons, List.length_nil, List.length_map, List.length_append, putCells, en]
 rfl
set_option maxHeartbeats 4000000 in
theorem rdo_at (n m p : Int) (b c d : List Int) (s t u : ByteArray) (k q r : List V) (hb : b.length ≤ 64) (h : List Res) :
  D env 8 [.d (.int .i64 9), .d (.slice 5 (V.encs [V.mk 1 n b s k, V.mk 0 m c t q]))] h = some (.val (resV (numV (atV b (w63 m))) true) h) := by
 have e := fun h => such_ok 9 [V.mk 1 n b s k, V.mk 0 m c t q] h
 rw [show suchV 9 [V.mk 1 n b s k, V.mk 0 m c t q] = true by simp [suchV, kindsV, fitsV, fitV, kindV, bytesV, *]] at e
 simp only [V.enc, V.encs] at e
 have ew := fun n h => rwrap_ok n h
 have en := fun n h => num_ok n h
 simp only [numV, V.enc, V.encs, List.map_nil] at en
 rw [D_dat (F := A8) rfl rfl rfl rfl]
 unfold atV
 by_cases h1 : w63 m < 0
 ·rw [if_pos (.inl h1)]
  simp -implicitDefEqProofs only [A8, B8, sS, reduceCtorEq, seval, e, V.encs, V.enc, List.length_cons, List.length_nil, List.length_map, List.length_append, putCells, ew, en, h1]
  rfl
 by_cases h2 : w63 m ≥ b.length
 ·rw [if_pos (.inr h2)]
  simp -implicitDefEqProofs only [A8, B8, sS, reduceCtorEq, seval, e, V.encs, V.enc, List.length_cons, List.length_nil, List.length_map, List.length_append, putCells, ew, en, h1, h2]
  rfl
 rw [if_neg (by omega)]
 obtain ⟨x, hx⟩ : ∃ x, b[(w63 m).toNat]? = some x := ⟨_, List.getElem?_eq_getElem (by omega)⟩
 have hx2 : (List.map (fun x => [FV.int .u8 x]) b)[(w63 m).toNat]? = some [.int .u8 x] := by simp [hx]
 have hx3 : b.getD (w63 m).toNat 0 = x := by simp [List.getD_eq_getElem?_getD, hx]
 have h3 : 0 ≤ w63 m := by omega
 rw [hx3]
 simp -implicitDefEqProofs only [A8, B8, sS, reduceCtorEq, seval, e, V.encs, V.enc, List.length_cons, List.length_nil, List.length_map, List.length_append, putCells, ew, en, h1, h2, h3, hx2]
 rfl
set_option maxHeartbeats 4000000 in
theorem rdo_cat (n m p : Int) (b c d : List Int) (s t u : ByteArray) (k q r : List V) (hb : b.length ≤ 64) (hc : c.length ≤ 64) (h : List Res) :
  D env 8 [.d (.int .i64 10), .d (.slice 5 (V.encs [V.mk 1 n b s k, V.mk 1 m c t q]))] h = some (.val (resV (textV ((b ++ c).take 64)) true) h) := by
 have e := fun h => such_ok 10 [V.mk 1 n b s k, V.mk 1 m c t q] h
 rw [show suchV 10 [V.mk 1 n b s k, V.mk 1 m c t q] = true by simp [suchV, kindsV, fitsV, fitV, kindV, bytesV, *]] at e
 simp only [V.enc, V.encs] at e
 have ec : ∀ (t : Nat) (h : List Res), D env 28 [.row 1 (List.map (fun x => [FV.int .u8 x]) b ++ List.map (fun x => [FV.int .u8 x]) c) t, .d (.int .i64 0), .d (.int .i64 64)] h = some (.val (.d (.slice 1 (List.map (fun x => [FV.int .u8 x]) ((b ++ c).take 64)))) h) := fun t h => by
  rw [D_coe (F := A28) rfl rfl rfl rfl]
  have := rcut_ok (b ++ c) 0 64 (by simp; omega) h
  simp only [bF, cutV, List.map_append] at this
  simpa [DV.coe] using this
 have et := fun h => rtext_ok ((b ++ c).take 64) h
 simp only [textV, V.enc, V.encs, bF] at et
 have a1 : appRow 1 1 (.row 1 [] 3) (some (1, List.map (fun x => [FV.int .u8 x]) b)) [.nilrow, .nilrow, .box [.d (.int .i64 0), .d (.int .i64 0), .row 1 [] 0, .d (.str ⟨#[]⟩), .row 5 [] 1], .nilrow] 5 = some (.val (.row 1 (List.map (fun x => [FV.int .u8 x]) b) 3) [.nilrow, .nilrow, .box [.d (.int .i64 0), .d (.int .i64 0), .row 1 [] 0, .d (.str ⟨#[]⟩), .row 5 [] 1], rr 1 b.length 5]) := by
  have := appRow_any (sz := 1) (bytes := 1) (et := 5) (l := []) (new := List.map (fun x => [FV.int .u8 x]) b) (t := 3) (h := [.nilrow, .nilrow, .box [.d (.int .i64 0), .d (.int .i64 0), .row 1 [] 0, .d (.str ⟨#[]⟩), .row 5 [] 1], .nilrow]) rfl (by simp; omega) (by decide) (by decide) 1 rfl
  simpa using this
 have a2 : appRow 1 1 (.row 1 (List.map (fun x => [FV.int .u8 x]) b) 3) (some (1, List.map (fun x => [FV.int .u8 x]) c)) [.nilrow, .nilrow, .box [.d (.int .i64 0), .d (.int .i64 0), .row 1 [] 0, .d (.str ⟨#[]⟩), .row 5 [] 1], rr 1 b.length 5] 5 = some (.val (.row 1 (List.map (fun x => [FV.int .u8 x]) b ++ List.map (fun x => [FV.int .u8 x]) c) 3) [.nilrow, .nilrow, .box [.d (.int .i64 0), .d (.int .i64 0), .row 1 [] 0, .d (.str ⟨#[]⟩), .row 5 [] 1], rr 1 (b.length + c.length) 5]) := by
  have := appRow_any (sz := 1) (bytes := 1) (et := 5) (l := List.map (fun x => [FV.int .u8 x]) b) (new := List.map (fun x => [FV.int .u8 x]) c) (t := 3) (h := [.nilrow, .nilrow, .box [.d (.int .i64 0), .d (.int .i64 0), .row 1 [] 0, .d (.str ⟨#[]⟩), .row 5 [] 1], rr 1 b.length 5]) (by simp) (by simp; omega) (by decide) (by decide) 1 rfl
  simpa using this
 rw [D_dat (F := A8) rfl rfl rfl rfl]
 simp -implicitDefEqProofs only [A8, B8, sS, reduceCtorEq, seval, e, V.encs, V.enc, List.length_cons, List.length_nil, List.length_map, List.length_append, putCells, ec, et, a1, a2]
 rfl
set_option maxHeartbeats 4000000 in
theorem rdo_cut (n m p : Int) (b c d : List Int) (s t u : ByteArray) (k q r : List V) (hb : b.length ≤ 64) (h : List Res) :
  D env 8 [.d (.int .i64 11), .d (.slice 5 (V.encs [V.mk 1 n b s k, V.mk 0 m c t q, V.mk 0 p d u r]))] h = some (.val (resV (textV (cutP b m p)) true) h) := by
 have e := fun h => such_ok 11 [V.mk 1 n b s k, V.mk 0 m c t q, V.mk 0 p d u r] h
 rw [show suchV 11 [V.mk 1 n b s k, V.mk 0 m c t q, V.mk 0 p d u r] = true by simp [suchV, kindsV, fitsV, fitV, kindV, bytesV, *]] at e
 simp only [V.enc, V.encs] at e
 rw [cutP_eq]
 have ew := fun n h => rwrap_ok n h
 have ec := fun h => rcut_ok b (w63 m) (w63 p) (by omega) h
 have et := fun h => rtext_ok (cutV b (w63 m) (w63 p)) h
 simp only [textV, V.enc, V.encs, bF] at et ec
 rw [D_dat (F := A8) rfl rfl rfl rfl]
 simp -implicitDefEqProofs only [A8, B8, sS, reduceCtorEq, seval, e, V.encs, V.enc, List.length_cons, List.length_nil, List.length_map, List.length_append, putCells, ew, ec, et]
 rfl
end Go.Proofs.YtnklhhmfmopdnaaGreatDoor.Codes
namespace Go.Proofs.YtnklhhmfmopdnaaGreatDoor.Codes
open Go Go.Deepv
theorem awake_any (h : List Res) : D env 6 [] h = some (.val (.d (.bool true)) h) := D_lift (F := A6) rfl rfl rfl rfl awake_ok h
theorem numV_oks (n : Int) : (numV n).ok := by simp [numV, V.ok, V.oks]
theorem textV_oks (b : List Int) : (textV b).ok := by simp [textV, V.ok, V.oks]
theorem truthV_oks (t : Bool) : (truthV t).ok := by simp [truthV, V.ok, V.oks]
theorem same_do (op : Int) (l : List V) : ∃ (v : V) (ok : Bool), v.ok ∧ (∀ h, D env 7 [.d (.int .i64 op), .d (.slice 5 (V.encs l))] h = some (.val (resV v ok) h)) ∧ (∀ h, D env 8 [.d (.int .i64 op), .d (.slice 5 (V.encs l))] h = some (.val (resV v ok) h)) := by
 cases hk : kindsV op with
 | none =>
  have hs : suchV op l = false := by simp [suchV, hk]
  exact ⟨zeroV, false, numV_oks 0, fun h => do_none op l hk h, fun h => rdo_unfit op l hs h⟩
 | some ks =>
  by_cases hl : ks.length = l.length
  ·have hsm : ks.length ≤ 3 := by
    revert hk
    unfold kindsV
    repeat' split
    all_goals (intro hk; first | (cases hk; simp) | cases hk)
   cases hf : fitsV ks l with
   | false =>
    have hs : suchV op l = false := by simp [suchV, hk, hf]
    exact ⟨zeroV, false, numV_oks 0, fun h => do_unfit op ks l hk hl (by omega) hf h, fun h => rdo_unfit op l hs h⟩
   | true =>
    have hs : suchV op l = true := by simp [suchV, hk, hf, hl]
    have two : ∀ (a b : Int), ks = [a, b] → ∃ u v, l = [u, v] ∧ fitV a u = true ∧ fitV b v = true := by
     rintro a b rfl
     match l, hl with
     | [u, v], _ => exact ⟨u, v, rfl, by simpa [fitsV] using hf⟩
    have int : ∀ v, fitV 0 v = true → ∃ n b s k, v = V.mk 0 n b s k := by
     rintro ⟨k, n, b, s, q⟩ h
     simp only [fitV, Bool.and_eq_true, decide_eq_true_eq] at h
     have hk0 : 0 = k := h.1
     subst hk0
     exact ⟨_, _, _, _, rfl⟩
    have txt : ∀ v, fitV 1 v = true → ∃ n b s k, v = V.mk 1 n b s k ∧ b.length ≤ 64 := by
     rintro ⟨k, n, b, s, q⟩ h
     simp only [fitV, Bool.and_eq_true, Bool.or_eq_true, decide_eq_true_eq] at h
     have hk0 : 1 = k := h.1
     subst hk0
     refine ⟨_, _, _, _, rfl, ?_⟩
     rcases h.2 with h2 | h2
     ·exact absurd rfl h2
     ·exact h2
    by_cases h5 : op = 5
    ·subst h5
     obtain ⟨u, v, rfl, f1, f2⟩ := two 0 0 (Option.some.inj (hk.symm.trans rfl))
     obtain ⟨n, b, s, k, rfl⟩ := int u f1
     obtain ⟨m, c, t, q, rfl⟩ := int v f2
     exact ⟨_, true, truthV_oks _, fun h => do_ask5 n m 0 b c [] s t s k q [] h, fun h => rdo_ask5 n m 0 b c [] s t s k q [] h⟩
    by_cases h6 : op = 6
    ·subst h6
     obtain ⟨u, v, rfl, f1, f2⟩ := two 0 0 (Option.some.inj (hk.symm.trans rfl))
     obtain ⟨n, b, s, k, rfl⟩ := int u f1
     obtain ⟨m, c, t, q, rfl⟩ := int v f2
     exact ⟨_, true, truthV_oks _, fun h => do_ask6 n m 0 b c [] s t s k q [] h, fun h => rdo_ask6 n m 0 b c [] s t s k q [] h⟩
    by_cases h7 : op = 7
    ·subst h7
     obtain ⟨u, v, rfl, f1, f2⟩ := two 0 0 (Option.some.inj (hk.symm.trans rfl))
     obtain ⟨n, b, s, k, rfl⟩ := int u f1
     obtain ⟨m, c, t, q, rfl⟩ := int v f2
     exact ⟨_, true, truthV_oks _, fun h => do_ask7 n m 0 b c [] s t s k q [] h, fun h => rdo_ask7 n m 0 b c [] s t s k q [] h⟩
    by_cases h8 : op = 8
    ·subst h8
     obtain rfl := Option.some.inj (hk.symm.trans (show kindsV 8 = some [1] from rfl))
     obtain ⟨u, rfl⟩ : ∃ u, l = [u] := by
      match l, hl with
      | [u], _ => exact ⟨u, rfl⟩
     obtain ⟨n, b, s, k, rfl, hb⟩ := txt u (by simpa [fitsV] using hf)
     exact ⟨_, true, numV_oks _, fun h => do_len n 0 0 b [] [] s s s k [] [] hb h, fun h => rdo_len n 0 0 b [] [] s s s k [] [] hb h⟩
    by_cases h9 : op = 9
    ·subst h9
     obtain ⟨u, v, rfl, f1, f2⟩ := two 1 0 (Option.some.inj (hk.symm.trans rfl))
     obtain ⟨n, b, s, k, rfl, hb⟩ := txt u f1
     obtain ⟨m, c, t, q, rfl⟩ := int v f2
     exact ⟨_, true, numV_oks _, fun h => do_at n m 0 b c [] s t s k q [] hb h, fun h => rdo_at n m 0 b c [] s t s k q [] hb h⟩
    by_cases h10 : op = 10
    ·subst h10
     obtain ⟨u, v, rfl, f1, f2⟩ := two 1 1 (Option.some.inj (hk.symm.trans rfl))
     obtain ⟨n, b, s, k, rfl, hb⟩ := txt u f1
     obtain ⟨m, c, t, q, rfl, hc⟩ := txt v f2
     exact ⟨_, true, textV_oks _, fun h => do_cat n m 0 b c [] s t s k q [] hb hc h, fun h => rdo_cat n m 0 b c [] s t s k q [] hb hc h⟩
    by_cases h11 : op = 11
    ·subst h11
     obtain rfl := Option.some.inj (hk.symm.trans (show kindsV 11 = some [1, 0, 0] from rfl))
     obtain ⟨u, v, w, rfl⟩ : ∃ u v w, l = [u, v, w] := by
      match l, hl with
      | [u, v, w], _ => exact ⟨u, v, w, rfl⟩
     have hf' : fitV 1 u = true ∧ fitV 0 v = true ∧ fitV 0 w = true := by simpa [fitsV] using hf
     obtain ⟨n, b, s, k, rfl, hb⟩ := txt u hf'.1
     obtain ⟨m, c, t, q, rfl⟩ := int v hf'.2.1
     obtain ⟨p, d, x, r, rfl⟩ := int w hf'.2.2
     exact ⟨_, true, textV_oks _, fun h => do_cut n m p b c d s t x k q r hb h, fun h => rdo_cut n m p b c d s t x k q r hb h⟩
    have hks : ks = [0, 0] := by
     have hk' := hk
     unfold kindsV at hk'
     simp only [h8, h9, h10, h11, if_false] at hk'
     split at hk'
     ·exact (Option.some.inj hk').symm
     ·cases hk'
    obtain ⟨u, v, rfl, f1, f2⟩ := two 0 0 hks
    obtain ⟨n, b, s, k, rfl⟩ := int u f1
    obtain ⟨m, c, t, q, rfl⟩ := int v f2
    rw [hks] at hk
    exact ⟨_, true, numV_oks _, fun h => do_arith op n m b c s t k q hk h5 h6 h7 h8 h9 h10 h11 h, fun h => rdo_arith op n m b c s t k q hs h5 h6 h7 h8 h9 h10 h11 h⟩
  ·have hs : suchV op l = false := by simp [suchV, hk, hl]
   exact ⟨zeroV, false, numV_oks 0, fun h => do_count op l ks hk hl h, fun h => rdo_unfit op l hs h⟩
def st5 (c : List (List FV)) (left i : Int) : List DV := [.d (.slice 5 c), .d .undef, .d .undef, .d (.int .i64 left), .d (.int .i64 i)] ++ List.replicate 23 (.d .undef)
def ex5 (c : List (List FV)) (left : Int) : List DV := [.d (.slice 5 c), .d .undef, .d .undef, .d (.int .i64 left)] ++ List.replicate 24 (.d .undef)
theorem loop5 (l : List V) :
  ∀ (r p : List V), l = p ++ r → ∀ (left : Int), left ≤ 3000 → (left < 0 ∨ p.length + left ≤ 3000) → p.length ≤ 3001 → L env 0 true H5L3 X5L3 B5L3 (st5 (V.encs l) left p.length) [] = some (.exit 0, ex5 (V.encs l) (V.lights r left), []) := by
 obtain ⟨K, hK⟩ : ∃ K, L env 0 true H5L3 X5L3 B5L3 = K := ⟨_, rfl⟩
 rw [hK]
 intro r
 induction r with
 | nil =>
  intro p hp left h1 h2 h3
  rw [L_round hK]
  simp at hp
  subst hp
  simp -implicitDefEqProofs only [B5L3, st5, sS, reduceCtorEq, seval, ex5, encs_len, V.lights]
 | cons v r ihr =>
  intro p hp left h1 h2 h3
  rw [L_round hK]
  have e1 : (p.length : Int) < (V.encs l).length := by rw [encs_len, hp]; simp; omega
  have e2 : l[p.length]? = some v := by rw [hp]; simp
  have e3 : IntKind.i64.wrap (p.length + 1) = p.length + 1 := wrap_i64 (by omega) (by omega)
  by_cases hl : left < 0
  ·have : ¬ 0 ≤ left := by omega
   have : ¬ left ≥ 0 := by omega
   simp -implicitDefEqProofs only [B5L3, st5, sS, reduceCtorEq, seval, ex5, e1, hl, this, V.lights]
  ·have hl' : left ≥ 0 := by omega
   have hc := light_ok v left (by omega) h1 []
   have hle := light_le v left
   have hr := ihr (p ++ [v]) (by simp [hp]) (v.light left) (by omega) (by simp; omega) (by simp; omega)
   simp [st5, ex5, List.replicate] at hr
   simp -implicitDefEqProofs only [B5L3, st5, sS, reduceCtorEq, seval, e1, hl, hl', encs_at, e2, e3, enc_len, take_d, hc, hr, V.lights, ex5]
theorem light5_ok (l : List V) (h : List Res) : ∃ b, D env 5 [.d (.slice 5 (V.encs l))] h = some (.val (.d (.bool b)) h) := by
 have key := loop5 l l [] rfl 3000 (by omega) (by simp) (by simp)
 rw [D_dat (F := A5) rfl rfl rfl rfl]
 simp -implicitDefEqProofs only [st5, ex5, sS, reduceCtorEq, seval, Int.natCast_zero, List.length_nil] at key
 by_cases hl : V.lights l 3000 ≥ 0
 ·refine ⟨decide ((l.length : Int) ≤ 10), ?_⟩
  simp -implicitDefEqProofs only [A5, B5, sS, reduceCtorEq, seval, key, hl, encs_len]
 ·refine ⟨false, ?_⟩
  simp -implicitDefEqProofs only [A5, B5, sS, reduceCtorEq, seval, key, hl]
set_option maxHeartbeats 4000000 in
theorem does_law (op : Int) (l : List V) : D env 3 [.d (.int .i64 op), .d (.slice 5 (V.encs l))] [] = some (.val (.d (.bool true)) []) := by
 obtain ⟨b, e5⟩ := light5_ok l []
 obtain ⟨v, ok, hv, e7, e8⟩ := same_do op l
 have e9 := fun h => same_ok v hv h
 have e6 := fun h => awake_any h
 rw [D_dat (F := A3) rfl rfl rfl rfl]
 obtain ⟨k, n, bb, s, q⟩ := v
 simp only [resV, V.enc] at e7 e8 e9
 cases b with
 | false => simp -implicitDefEqProofs only [A3, B3, sS, reduceCtorEq, seval, e5, e6]
 | true =>
  cases ok with
  | true => simp -implicitDefEqProofs only [A3, B3, sS, reduceCtorEq, seval, e5, e6, e7, e8, e9, putCells]
  | false => simp -implicitDefEqProofs only [A3, B3, sS, reduceCtorEq, seval, e5, e6, e7, e8, e9, putCells]
end Go.Proofs.YtnklhhmfmopdnaaGreatDoor.Codes
