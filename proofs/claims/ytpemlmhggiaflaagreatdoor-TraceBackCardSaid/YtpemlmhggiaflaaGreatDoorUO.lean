/-
  awake of the Trace laws (function 6), reckoned; What can be told, and what is told as a line, the program's (functions 16, 20, 9); What is told as a line, the program's (function 9); The parts of a line, the program's (functions 18, 34, 35); What a line's parts say, the program's (function 18); What a line says, the program's (functions 46, 31, 17, 7)
  Conditions: none.
-/
import Derived.Test.YtpemlmhggiaflaaGreatDoorCodes
import Derived.Test.YtpemlmhggiaflaaGreatDoorMF
import Derived.KernelRfl
import Derived.Test.YtpemlmhggiaflaaGreatDoorNG
import Derived.Lib.ItoaLen
set_option maxRecDepth 100000
namespace Go.Proofs.YtpemlmhggiaflaaGreatDoor.Codes
open Go Go.Deepv
theorem aw0 : D env 6 [] [] = some (.val (.d (.bool true)) []) := D_reckon 60 (by kernel_rfl)
end Go.Proofs.YtpemlmhggiaflaaGreatDoor.Codes
set_option linter.unusedVariables false
set_option linter.unusedSimpArgs false
namespace Go.Proofs.YtpemlmhggiaflaaGreatDoor.Codes
open Go Go.Deepv
structure Rs where
 k : Int
 s : Int
 n : Int
 b : ByteArray
def Rs.enc (x : Rs) : List FV := [.int .i64 x.k, .int .i64 x.s, .int .i64 x.n, .slice 1 (strCells x.b)]
structure Sh where
 w : ByteArray
 s : Bool
 n : Bool
 t : Bool
def Sh.enc (x : Sh) : List FV := [.str x.w, .bool x.s, .bool x.n, .bool x.t]
def shs : List Sh := [⟨⟨#[116, 97, 107, 101, 110]⟩, true, false, false⟩, ⟨⟨#[117, 110, 107, 110, 111, 119, 110]⟩, false, false, false⟩, ⟨⟨#[109, 97, 108, 102, 111, 114, 109, 101, 100]⟩, false, false, false⟩,
 ⟨⟨#[102, 117, 108, 108]⟩, false, false, false⟩, ⟨⟨#[102, 105, 114, 101, 100]⟩, true, true, false⟩, ⟨⟨#[115, 97, 105, 100]⟩, false, true, false⟩, ⟨⟨#[116, 111, 108, 100]⟩, false, false, true⟩,
 ⟨⟨#[110, 111, 32, 116, 105, 109, 101, 114]⟩, false, true, false⟩, ⟨⟨#[107, 101, 112, 116]⟩, false, false, false⟩, ⟨⟨#[100, 111, 110, 101]⟩, true, false, false⟩]
def sh0 : Sh := ⟨⟨#[]⟩, false, false, false⟩
def shK (k : Int) : Sh := if 0 ≤ k ∧ k ≤ 9 then shs.getD k.toNat sh0 else sh0
def okS (h : Sh) (x : Rs) : Bool := (if h.s then decide (1 ≤ x.s ∧ x.s ≤ 1099511627776) else decide (x.s = 0)) && decide (-4611686018427387904 ≤ x.n ∧ x.n < 4611686018427387904) && (h.n || decide (x.n = 0)) && decide ((x.b.size : Int) ≤ 64) && (h.t || decide ((x.b.size : Int) ≤ 0))
def canV (x : Rs) : Bool := decide (0 ≤ x.k ∧ x.k ≤ 9) && okS (shK x.k) x
theorem scells (b : ByteArray) : (strCells b).length = b.size := by simp [strCells]
theorem shapes_ok (h : List Res) : D env 16 [] h = some (.val (.d (.slice 4 (shs.map Sh.enc))) h) := by
 rw [D_dat (F := A16) rfl rfl rfl rfl]
 simp (maxSteps := 9999999) -implicitDefEqProofs only [A16, B16, sT, reduceCtorEq, seval, ↓joinK_t, ↓joinK_f, ↓reduceIte]
 rfl
theorem shs_at {k : Int} (h : 0 ≤ k ∧ k ≤ 9) : (shs.map Sh.enc)[k.toNat]? = some (shK k).enc := by
 obtain ⟨j, rfl⟩ : ∃ j : Nat, k = j := ⟨k.toNat, by omega⟩
 have hj : j < 10 := by omega
 have e : shK (j : Int) = shs.getD j sh0 := by
  unfold shK
  rw [if_pos h]
  simp
 rw [e, Int.toNat_natCast, List.getElem?_map, List.getElem?_eq_getElem (show j < shs.length from hj), List.getD_eq_getElem?_getD, List.getElem?_eq_getElem (show j < shs.length from hj)]
 rfl
set_option maxHeartbeats 4000000 in
theorem of_ok (x : Rs) (hb : x.b.size ≤ 100000) (h : List Res) : D env 20 [.d (.agg x.enc)] h = some (.val (.d (.tup [.agg (shK x.k).enc, .bool (canV x)])) h) := by
 have e16 := fun h => shapes_ok h
 have hl := scells x.b
 have hc : canV x = (decide (0 ≤ x.k ∧ x.k ≤ 9) && okS (shK x.k) x) := rfl
 rw [hc]
 by_cases hk : 0 ≤ x.k ∧ x.k ≤ 9
 ·have k1 : ¬ x.k < 0 := by omega
  have k2 : ¬ 9 < x.k := by omega
  have k3 : x.k < 10 := by omega
  have hg := shs_at hk
  have gl : (shs.map Sh.enc).length = 10 := rfl
  simp only [hk, and_self, decide_true, Bool.true_and]
  generalize shs.map Sh.enc = L at *
  rcases hs : shK x.k with ⟨w, s, n, t⟩
  rw [hs] at hg
  simp only [Sh.enc] at hg ⊢
  unfold okS
  cases s <;> cases n <;> cases t
  all_goals
   rw [D_dat (F := A20) rfl rfl rfl rfl]
   simp (maxSteps := 9999999) -implicitDefEqProofs only [A20, B20, Rs.enc, e16, k1, k2, k3, hk.1, hg, gl, hl, sT, reduceCtorEq, seval, ↓joinK_t, ↓joinK_f, ↓reduceIte]
   generalize (x.b.size : Int) = z
   repeat' split
   all_goals
    simp only [Option.some.injEq, DOut.val.injEq, DV.d.injEq, FV.tup.injEq, List.cons.injEq, FV.bool.injEq, and_true, true_and]
    simp
    try omega
 ·have hz : shK x.k = sh0 := if_neg hk
  rw [hz]
  by_cases k1 : x.k < 0
  ·have hf : decide (0 ≤ x.k ∧ x.k ≤ 9) = false := by simp; omega
   rw [D_dat (F := A20) rfl rfl rfl rfl]
   simp (maxSteps := 9999999) -implicitDefEqProofs only [A20, B20, Rs.enc, k1, hf, Bool.false_and, sh0, Sh.enc, sT, reduceCtorEq, seval, ↓joinK_t, ↓joinK_f, ↓reduceIte]
  ·have k2 : 9 < x.k := by omega
   have hf : decide (0 ≤ x.k ∧ x.k ≤ 9) = false := by simp; omega
   rw [D_dat (F := A20) rfl rfl rfl rfl]
   simp (maxSteps := 9999999) -implicitDefEqProofs only [A20, B20, Rs.enc, k1, k2, hf, Bool.false_and, sh0, Sh.enc, sT, reduceCtorEq, seval, ↓joinK_t, ↓joinK_f, ↓reduceIte]
end Go.Proofs.YtpemlmhggiaflaaGreatDoor.Codes
namespace Go.Proofs.YtpemlmhggiaflaaGreatDoor.Codes
open Go Go.Deepv
def itB (n : Int) : ByteArray := ⟨(Lib.itoa n).toArray⟩
def sp1 : ByteArray := ⟨#[32]⟩
def partsV (h : Sh) (x : Rs) : List ByteArray := h.w :: ((if h.s then [itB x.s] else []) ++ ((if h.n then [itB x.n] else []) ++ (if h.t then [quoteB x.b] else [])))
def lineV (x : Rs) : ByteArray := if canV x = true then joined (partsV (shK x.k) x) sp1 else ⟨#[]⟩
def strsF (l : List ByteArray) : List (List FV) := l.map fun x => [.str x]
theorem strs_map : ∀ l : List ByteArray, strs (strsF l) = some l
 | [] => rfl
 | x :: l => by simp only [strsF, List.map_cons, strs]; rw [show l.map (fun x => [FV.str x]) = strsF l from rfl, strs_map l]; rfl
theorem itoa_ok {n : Int} (h1 : -9223372036854775808 ≤ n) (h2 : n ≤ 9223372036854775807) (h : List Res) : D env 21 [.d (.int .i64 n)] h = some (.val (.d (.str (itB n))) h) := by
 rw [Go.Deepv.D_ext (F := xItoa) rfl]
 simp [xItoa, h1, h2, itB]
theorem format_ok {n : Int} (h1 : -9223372036854775808 ≤ n) (h2 : n ≤ 9223372036854775807) (h : List Res) : D env 22 [.d (.int .i64 n), .d (.int .i64 10)] h = some (.val (.d (.str (itB n))) h) := by
 rw [Go.Deepv.D_ext (F := xFormat) rfl]
 simp [xFormat, h1, h2, itB]
theorem join_ok (l : List ByteArray) (hs : (Lib.join (l.map (·.data.toList)) sp1.data.toList).length ≤ 140737488355328) (hl : l.length ≤ 140737488355328) (t : Nat) (h : List Res) : D env 24 [.row 1 (strsF l) t, .d (.str sp1)] h = some (.val (.d (.str (joined l sp1))) h) := by
 rw [Go.Deepv.D_ext (F := xJoin) rfl]
 simp only [xJoin, List.map_cons, List.map_nil, DV.coe, strs_map]
 rw [if_pos ⟨hs, hl⟩]
theorem shs_len : ∀ h ∈ shs, h.w.data.toList.length ≤ 9 := by decide
theorem shK_len (k : Int) : (shK k).w.data.toList.length ≤ 9 := by
 unfold shK
 split
 ·rename_i h
  rw [List.getD_eq_getElem?_getD]
  cases hx : shs[k.toNat]? with
  | none => decide
  | some y => exact shs_len y (List.mem_of_getElem? hx)
 ·decide
theorem quote_len (b : ByteArray) : (quoteB b).data.toList.length ≤ 4 * b.size + 2 := by
 have h1 := fold_size b.data.toList ⟨#[34]⟩
 have e : (quoteB b).data.toList.length = (quoteB b).size := by rw [Array.length_toList]; rfl
 rw [e]
 unfold quoteB
 have e2 : b.data.toList.length = b.size := by rw [Array.length_toList]; rfl
 rw [ByteArray.size_append]
 have e3 : (⟨#[34]⟩ : ByteArray).size = 1 := rfl
 rw [e3] at h1 ⊢
 omega
theorem can_range {x : Rs} (h : canV x = true) : (0 ≤ x.k ∧ x.k ≤ 9) ∧ okS (shK x.k) x = true := by
 unfold canV at h
 simpa using h
theorem okS_range {h : Sh} {x : Rs} (o : okS h x = true) : (0 ≤ x.s ∧ x.s ≤ 1099511627776) ∧ (-4611686018427387904 ≤ x.n ∧ x.n < 4611686018427387904) ∧ x.b.size ≤ 64 := by
 unfold okS at o
 simp only [Bool.and_eq_true, decide_eq_true_eq] at o
 obtain ⟨⟨⟨⟨o1, o2⟩, _⟩, o4⟩, _⟩ := o
 refine ⟨?_, o2, by omega⟩
 cases hs : h.s <;> simp [hs] at o1 <;> omega
set_option maxHeartbeats 4000000 in
theorem tshow_ok (x : Rs) (hb : x.b.size ≤ 100000) (h : List Res) : D env 9 [.d (.agg x.enc)] h = some (.val (.d (.str (lineV x))) h) := by
 have e20 := fun h => of_ok x hb h
 unfold lineV
 cases hc : canV x with
 | false =>
  rw [hc] at e20
  simp only [Rs.enc, Sh.enc] at e20
  rw [D_dat (F := A9) rfl rfl rfl rfl]
  simp (maxSteps := 9999999) -implicitDefEqProofs only [A9, B9, Rs.enc, e20, sT, reduceCtorEq, seval, ↓joinK_t, ↓joinK_f, ↓reduceIte]
 | true =>
  rw [hc] at e20
  obtain ⟨_, ho⟩ := can_range hc
  obtain ⟨⟨s1, s2⟩, ⟨n1, n2⟩, b1⟩ := okS_range ho
  have hw := shK_len x.k
  have ls : (Lib.itoa x.s).length ≤ 21 := Lib.itoa_length_le x.s (by omega) (by omega)
  have ln : (Lib.itoa x.n).length ≤ 21 := Lib.itoa_length_le x.n (by omega) (by omega)
  have lq := quote_len x.b
  have is := fun h => itoa_ok (n := x.s) (by omega) (by omega) h
  have iN := fun h => format_ok (n := x.n) (by omega) (by omega) h
  have e23 := fun h => show_ok ⟨4, ⟨#[]⟩, 0, x.b⟩ 0 0 (by simp; omega) (by simp) h
  have hq : showV ⟨4, ⟨#[]⟩, 0, x.b⟩ = quoteB x.b := by simp [showV]
  rw [hq] at e23
  simp only [Tk.enc] at e23
  simp only [Rs.enc, Sh.enc] at e20
  generalize shK x.k = g at *
  rcases g with ⟨w, s, n, t⟩
  simp only at hw e20 ⊢
  have jl : (Lib.join ((partsV ⟨w, s, n, t⟩ x).map (·.data.toList)) sp1.data.toList).length ≤ 1000 := by
   cases s <;> cases n <;> cases t <;> simp [partsV, Lib.join, List.intercalate, itB, sp1] at hw ls ln lq ⊢ <;> omega
  have jn : (partsV ⟨w, s, n, t⟩ x).length ≤ 1000 := by cases s <;> cases n <;> cases t <;> simp [partsV]
  have j := fun t' h => join_ok (partsV ⟨w, s, n, t⟩ x) (by omega) (by omega) t' h
  clear jl jn
  cases s <;> cases n <;> cases t
  all_goals
   simp only [partsV, Bool.false_eq_true, if_false, if_true, List.nil_append, List.append_nil, List.cons_append, strsF, List.map_cons, List.map_nil, sp1] at j ⊢
   rw [D_dat (F := A9) rfl rfl rfl rfl]
   simp (maxSteps := 9999999) -implicitDefEqProofs only [A9, B9, Rs.enc, e20, is, iN, e23, j, appRow, sT, reduceCtorEq, seval, ↓joinK_t, ↓joinK_f, ↓reduceIte]
end Go.Proofs.YtpemlmhggiaflaaGreatDoor.Codes
namespace Go.Proofs.YtpemlmhggiaflaaGreatDoor.Codes
open Go Go.Deepv
def parseV (x : ByteArray) : Int × Bool := match Lib.parseIntB 64 x.data.toList with
 | .ok v => (v, true)
 | .range => (Lib.intSat 64 x.data.toList, false)
 | _ => (0, false)
theorem parse_ok (x : ByteArray) (hx : x.size ≤ 281474976710656) : (∀ h : List Res, (parseV x).2 = true → D env 35 [.d (.str x), .d (.int .i64 10), .d (.int .i64 64)] h = some (.val (.d (.tup [.int .i64 (parseV x).1, .nili])) h)) ∧
  (∀ h : List Res, (parseV x).2 = false → D env 35 [.d (.str x), .d (.int .i64 10), .d (.int .i64 64)] h = some (.val (.d (.tup [.int .i64 (parseV x).1, .iface 130 .undef])) h)) := by
 have e : ∀ h, D env 35 [.d (.str x), .d (.int .i64 10), .d (.int .i64 64)] h = xParse 130 [.d (.str x), .d (.int .i64 10), .d (.int .i64 64)] h := fun h => by rw [Go.Deepv.D_ext (F := xParse 130) rfl]
 simp only [e]
 unfold parseV xParse
 simp only [and_self, if_true, if_pos hx]
 cases Lib.parseIntB 64 x.data.toList <;> simp
def tnextV : List ByteArray → Int × Bool
 | [] => (0, false)
 | x :: _ => parseV x
set_option maxHeartbeats 4000000 in
theorem tnext_ok {id : Nat} {h : List Res} {ws : List ByteArray} {t : Nat} (hq : h[id]? = some (.box [.d (.slice 1 (strsF ws))] t)) (hs : ∀ x ∈ ws, x.size ≤ 281474976710656) :
  D env 34 [.ptr id 0] h = some (.val (.d (.tup [.int .i64 (tnextV ws).1, .bool (tnextV ws).2])) (h.set id (.box [.d (.slice 1 (strsF ws.tail))] t))) := by
 have hl : (h.set id (.box [.d (.slice 1 (strsF ws.tail))] t)).length = h.length := List.length_set
 have ht : (h.set id (.box [.d (.slice 1 (strsF ws.tail))] t)).take h.length = h.set id (.box [.d (.slice 1 (strsF ws.tail))] t) := by rw [← hl, List.take_length]
 cases ws with
 | nil =>
  have hse : h.set id (.box [.d (.slice 1 (strsF []))] t) = h := set_self hq
  simp only [strsF, List.map_nil, List.tail_nil] at hq hse ⊢
  rw [D_own (F := A34) rfl rfl rfl rfl]
  rw [hse]
  simp (maxSteps := 9999999) -implicitDefEqProofs only [A34, B34, hq, List.take_length, tnextV, sT, reduceCtorEq, seval, ↓joinK_t, ↓joinK_f, ↓reduceIte]
 | cons x l =>
  have hp := parse_ok x (hs x (by simp))
  have hn : tnextV (x :: l) = parseV x := rfl
  rw [hn]
  have l1 : ¬ ((l.length + 1 : Nat) : Int) = 0 := by omega
  have l2 : (1 : Int) ≤ ((l.length + 1 : Nat) : Int) := by omega
  have tk : List.take l.length (List.map (fun x => [FV.str x]) l) = List.map (fun x => [FV.str x]) l := List.take_of_length_le (by simp)
  simp only [strsF, List.map_cons, List.tail_cons] at hq ht ⊢
  cases hv : (parseV x).2 with
  | true =>
   have e35 := fun h => hp.1 h hv
   rw [D_own (F := A34) rfl rfl rfl rfl]
   simp (maxSteps := 9999999) -implicitDefEqProofs only [A34, B34, hq, e35, ht, l1, l2, tk, List.drop_succ_cons, List.drop_zero, List.length_cons, List.length_map, sT, reduceCtorEq, seval, ↓joinK_t, ↓joinK_f, ↓reduceIte]
  | false =>
   have e35 := fun h => hp.2 h hv
   rw [D_own (F := A34) rfl rfl rfl rfl]
   simp (maxSteps := 9999999) -implicitDefEqProofs only [A34, B34, hq, e35, ht, l1, l2, tk, List.drop_succ_cons, List.drop_zero, List.length_cons, List.length_map, sT, reduceCtorEq, seval, ↓joinK_t, ↓joinK_f, ↓reduceIte]
end Go.Proofs.YtpemlmhggiaflaaGreatDoor.Codes
namespace Go.Proofs.YtpemlmhggiaflaaGreatDoor.Codes
open Go Go.Deepv
def tsplitV (s : ByteArray) : List ByteArray := Lib.splitB sp1 0 (Lib.countB s sp1) s
theorem tsplit_ok (s : ByteArray) (hs : s.size < 4294967281) (h : List Res) : D env 33 [.d (.str s), .d (.str ⟨#[32]⟩)] h = some (.val (.d (.slice 1 (strsF (tsplitV s)))) h) := by
 rw [Go.Deepv.D_ext (F := xSplit) rfl]
 simp only [xSplit]
 rw [if_pos ⟨hs, rfl⟩]
 rfl
theorem splitB_size (sep : ByteArray) : ∀ (k : Nat) (s : ByteArray), ∀ x ∈ Lib.splitB sep 0 k s, x.size ≤ s.size
 | 0, s, x, hx => by
  rw [Lib.splitB_zero, List.mem_singleton] at hx
  rw [hx]
  exact Nat.le_refl _
 | k + 1, s, x, hx => by
  unfold Lib.splitB at hx
  split at hx
  ·rw [List.mem_singleton] at hx
   rw [hx]
   exact Nat.le_refl _
  ·rcases List.mem_cons.1 hx with rfl | hx
   ·simp only [ByteArray.size_extract]; omega
   ·have := splitB_size sep k _ x hx
    simp only [ByteArray.size_extract] at this
    omega
def fillV (k : Int) (s n : Bool) (ws : List ByteArray) : Rs × Bool :=
 let a := if s then tnextV ws else (0, true)
 let w1 := if s then ws.tail else ws
 let b := if n then ((tnextV w1).1, a.2 && (tnextV w1).2) else (0, a.2)
 let w2 := if n then w1.tail else w1
 (⟨k, a.1, b.1, ⟨#[]⟩⟩, b.2 && w2.isEmpty)
def fillT (k : Int) (rest : ByteArray) : Rs × Bool := match (lexP rest).1, (lexP rest).2.1 with
 | [(t, _, _), _], 0 => if t.kind = 4 then (⟨k, 0, 0, t.bytes⟩, true) else (⟨k, 0, 0, ⟨#[]⟩⟩, false)
 | _, _ => (⟨k, 0, 0, ⟨#[]⟩⟩, false)
def filledV (k : Int) (h : Sh) (rest : ByteArray) : Rs × Bool := if h.t then fillT k rest else fillV k h.s h.n (tsplitV rest)
theorem len_strs (l : List ByteArray) : (strsF l).length = l.length := by simp [strsF]
theorem len0 (l : List ByteArray) : ((l.length : Int) == 0) = l.isEmpty := by
 cases l with
 | nil => rfl
 | cons x l => simp; omega
set_option maxHeartbeats 4000000 in
theorem filln_ok (k : Int) (w : ByteArray) (s n : Bool) (rest : ByteArray) (hr : rest.size ≤ 100000) (h : List Res) :
  D env 18 [.d (.int .i64 k), .d (.agg [.str w, .bool s, .bool n, .bool false]), .d (.str rest)] h = some (.val (.d (.tup [.agg (fillV k s n (tsplitV rest)).1.enc, .bool (fillV k s n (tsplitV rest)).2])) h) := by
 have e33 := fun h => tsplit_ok rest (by omega) h
 have hz : ∀ x ∈ tsplitV rest, x.size ≤ 281474976710656 := fun x hx => by have := splitB_size sp1 _ rest x hx; omega
 generalize tsplitV rest = ws at *
 have hz1 : ∀ x ∈ ws.tail, x.size ≤ 281474976710656 := fun x hx => hz x (List.mem_of_mem_tail hx)
 have e34 := fun (a0 a1 a2 a3 a4 : Res) => tnext_ok (id := 5) (h := [a0, a1, a2, a3, a4, .box [.d (.slice 1 (strsF ws))] 0]) rfl hz
 have e34b := fun (a0 a1 a2 a3 a4 : Res) => tnext_ok (id := 5) (h := [a0, a1, a2, a3, a4, .box [.d (.slice 1 (strsF ws.tail))] 0]) rfl hz1
 simp only [List.set] at e34 e34b
 have n0 := len_strs ws
 have n1 := len_strs ws.tail
 have n2 := len_strs ws.tail.tail
 have c0 : (strCells ⟨#[]⟩ : List (List FV)) = [] := rfl
 unfold fillV
 cases s <;> cases n
 ·rw [D_dat (F := A18) rfl rfl rfl rfl]
  simp (maxSteps := 9999999) -implicitDefEqProofs only [A18, B18, e33, e34, e34b, n0, n1, n2, len0, Rs.enc, c0, sT, reduceCtorEq, seval, ↓joinK_t, ↓joinK_f, ↓reduceIte]
 ·rw [D_dat (F := A18) rfl rfl rfl rfl]
  simp (maxSteps := 9999999) -implicitDefEqProofs only [A18, B18, e33, e34, e34b, n0, n1, n2, len0, Rs.enc, c0, sT, reduceCtorEq, seval, ↓joinK_t, ↓joinK_f, ↓reduceIte]
 ·rw [D_dat (F := A18) rfl rfl rfl rfl]
  simp (maxSteps := 9999999) -implicitDefEqProofs only [A18, B18, e33, e34, e34b, n0, n1, n2, len0, Rs.enc, c0, sT, reduceCtorEq, seval, ↓joinK_t, ↓joinK_f, ↓reduceIte]
 ·rw [D_dat (F := A18) rfl rfl rfl rfl]
  simp (maxSteps := 9999999) -implicitDefEqProofs only [A18, B18, e33, e34, e34b, n0, n1, n2, len0, Rs.enc, c0, sT, reduceCtorEq, seval, ↓joinK_t, ↓joinK_f, ↓reduceIte]
set_option maxHeartbeats 4000000 in
theorem fillt_ok (k : Int) (w : ByteArray) (s n : Bool) (rest : ByteArray) (h : List Res) :
  D env 18 [.d (.int .i64 k), .d (.agg [.str w, .bool s, .bool n, .bool true]), .d (.str rest)] h = some (.val (.d (.tup [.agg (fillT k rest).1.enc, .bool (fillT k rest).2])) h) := by
 have e32 := fun h => lex_ok rest h
 rw [lexV_P] at e32
 have c0 : (strCells ⟨#[]⟩ : List (List FV)) = [] := rfl
 unfold fillT
 rcases hl : lexP rest with ⟨ts, e, l, c⟩
 rw [hl] at e32
 simp only at e32 ⊢
 by_cases he : e = 0
 ·subst he
  match ts with
  | [] =>
   simp only [encT, List.map_nil] at e32
   rw [D_dat (F := A18) rfl rfl rfl rfl]
   simp (maxSteps := 9999999) -implicitDefEqProofs only [A18, B18, e32, Rs.enc, c0, sT, reduceCtorEq, seval, ↓joinK_t, ↓joinK_f, ↓reduceIte]
  | [a] =>
   simp only [encT, List.map_nil, List.map_cons] at e32
   rw [D_dat (F := A18) rfl rfl rfl rfl]
   simp (maxSteps := 9999999) -implicitDefEqProofs only [A18, B18, e32, Rs.enc, c0, sT, reduceCtorEq, seval, ↓joinK_t, ↓joinK_f, ↓reduceIte]
  | a :: b :: d :: r =>
   have l1 : ((((r.length + 1 + 1 + 1 : Nat) : Int)) != 2) = true := by simp; omega
   simp only [encT, List.map_cons] at e32
   rw [D_dat (F := A18) rfl rfl rfl rfl]
   simp (maxSteps := 9999999) -implicitDefEqProofs only [A18, B18, e32, Rs.enc, c0, List.length_cons, List.length_map, l1, Bool.or_true, sT, reduceCtorEq, seval, ↓joinK_t, ↓joinK_f, ↓reduceIte]
  | [(t, tl, tc), b] =>
   simp only [encT, List.map_nil, List.map_cons, Tk.enc] at e32
   by_cases h4 : t.kind = 4
   ·rw [D_dat (F := A18) rfl rfl rfl rfl]
    simp (maxSteps := 9999999) -implicitDefEqProofs only [A18, B18, e32, Rs.enc, c0, h4, sT, reduceCtorEq, seval, ↓joinK_t, ↓joinK_f, ↓reduceIte]
   ·rw [D_dat (F := A18) rfl rfl rfl rfl]
    simp (maxSteps := 9999999) -implicitDefEqProofs only [A18, B18, e32, Rs.enc, c0, h4, sT, reduceCtorEq, seval, ↓joinK_t, ↓joinK_f, ↓reduceIte]
 ·have hm : (match ts, e with
   | [(t, _, _), _], 0 => if t.kind = 4 then ((⟨k, 0, 0, t.bytes⟩ : Rs), true) else (⟨k, 0, 0, ⟨#[]⟩⟩, false)
   | _, _ => (⟨k, 0, 0, ⟨#[]⟩⟩, false)) = (⟨k, 0, 0, ⟨#[]⟩⟩, false) := by
   split
   ·exact absurd rfl he
   ·rfl
  rw [hm]
  have he' : (e != 0) = true := by simp [he]
  rw [D_dat (F := A18) rfl rfl rfl rfl]
  simp (maxSteps := 9999999) -implicitDefEqProofs only [A18, B18, e32, Rs.enc, c0, he', Bool.true_or, sT, reduceCtorEq, seval, ↓joinK_t, ↓joinK_f, ↓reduceIte]
theorem filled_ok (k : Int) (g : Sh) (rest : ByteArray) (hr : rest.size ≤ 100000) (h : List Res) :
  D env 18 [.d (.int .i64 k), .d (.agg g.enc), .d (.str rest)] h = some (.val (.d (.tup [.agg (filledV k g rest).1.enc, .bool (filledV k g rest).2])) h) := by
 rcases g with ⟨w, s, n, t⟩
 unfold filledV
 cases t with
 | true => exact fillt_ok k w s n rest h
 | false => exact filln_ok k w s n rest hr h
end Go.Proofs.YtpemlmhggiaflaaGreatDoor.Codes
namespace Go.Proofs.YtpemlmhggiaflaaGreatDoor.Codes
open Go Go.Deepv
theorem pre_ok (s p : ByteArray) (h : List Res) : D env 46 [.d (.str s), .d (.str p)] h = some (.val (.d (.bool (hasPre s p))) h) := by
 unfold hasPre
 by_cases h1 : p.size ≤ s.size
 ·have h2 : (p.size : Int) ≤ s.size := by omega
  rw [D_dat (F := A46) rfl rfl rfl rfl]
  simp (maxSteps := 9999999) -implicitDefEqProofs only [A46, B46, h1, h2, sT, reduceCtorEq, seval, ↓joinK_t, ↓joinK_f, ↓reduceIte]
 ·have h2 : ¬ (p.size : Int) ≤ s.size := by omega
  rw [D_dat (F := A46) rfl rfl rfl rfl]
  simp (maxSteps := 9999999) -implicitDefEqProofs only [A46, B46, h1, h2, sT, reduceCtorEq, seval, ↓joinK_t, ↓joinK_f, ↓reduceIte]
def cutV (s p : ByteArray) : ByteArray × Bool := if hasPre s p = true then (s.extract p.size s.size, true) else (s, false)
theorem cut_ok (s p : ByteArray) (h : List Res) : D env 17 [.d (.str s), .d (.str p)] h = some (.val (.d (.tup [.str (cutV s p).1, .bool (cutV s p).2])) h) := by
 have e46 := fun h => pre_ok s p h
 have e31 : ∀ h : List Res, D env 31 [.d (.str s), .d (.str p)] h = some (.val (.d (.tup [.str (cutV s p).1, .bool (cutV s p).2])) h) := fun h => by
  unfold cutV
  cases hp : hasPre s p with
  | false =>
   rw [hp] at e46
   rw [D_dat (F := A31) rfl rfl rfl rfl]
   simp (maxSteps := 9999999) -implicitDefEqProofs only [A31, B31, e46, sT, reduceCtorEq, seval, ↓joinK_t, ↓joinK_f, ↓reduceIte]
  | true =>
   rw [hp] at e46
   have h1 : p.size ≤ s.size := by unfold hasPre at hp; simp at hp; exact hp.1
   have h2 : (p.size : Int) ≤ s.size := by omega
   rw [D_dat (F := A31) rfl rfl rfl rfl]
   simp (maxSteps := 9999999) -implicitDefEqProofs only [A31, B31, e46, h1, h2, sT, reduceCtorEq, seval, ↓joinK_t, ↓joinK_f, ↓reduceIte]
 rw [D_dat (F := A17) rfl rfl rfl rfl]
 simp (maxSteps := 9999999) -implicitDefEqProofs only [A17, B17, e31, sT, reduceCtorEq, seval, ↓joinK_t, ↓joinK_f, ↓reduceIte]
def candV (k : Int) (g : Sh) (s : ByteArray) : Rs × Bool :=
 if (cutV s g.w).2 = false then (⟨k, 0, 0, ⟨#[]⟩⟩, false)
 else if g.s || (g.n || g.t) then (if (cutV (cutV s g.w).1 sp1).2 = false then (⟨k, 0, 0, ⟨#[]⟩⟩, false) else filledV k g (cutV (cutV s g.w).1 sp1).1)
 else (⟨k, 0, 0, ⟨#[]⟩⟩, true)
def tryV (k : Int) (g : Sh) (s : ByteArray) : Option Rs := if (candV k g s).2 && ((lineV (candV k g s).1).toList == s.toList) then some (candV k g s).1 else none
def firstV (s : ByteArray) : List Sh → Int → Option Rs
 | [], _ => none
 | g :: l, k => match tryV k g s with
  | some x => some x
  | none => firstV s l (k + 1)
def readV (s : ByteArray) : Option Rs := firstV s shs 0
def r0 : Rs := ⟨0, 0, 0, ⟨#[]⟩⟩
def readF (r : Option Rs) : FV := match r with
 | some x => .tup [.agg x.enc, .int .i64 0]
 | none => .tup [.agg r0.enc, .int .i64 19]
theorem cut_size (s p : ByteArray) : (cutV s p).1.size ≤ s.size := by
 unfold cutV
 split
 ·simp only [ByteArray.size_extract]; omega
 ·exact Nat.le_refl _
theorem fillV_b (k : Int) (s n : Bool) (ws : List ByteArray) : (fillV k s n ws).1.b.size = 0 := rfl
end Go.Proofs.YtpemlmhggiaflaaGreatDoor.Codes
