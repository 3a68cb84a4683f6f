/-
  Values, types and declarations as trees; what is said of their sizes, in plain words; What is left of a number behind a value's parts, a type's parts (functions 5, 6); The deep machine, reckoned: the same machine with a test for 'the other orders come to the same' that the kernel can run; what it comes to is what the machine comes to; What is left of a number behind a type's parts, behind declarations (functions 6, 10, 4); How many words a value has: counted, one by one, against a number (functions 28, 19, 18, 12, 8); How many words a value has: the walk of the count (functions 19, 18, 12, 8); What a value of a type is made of (functions 30, 29, 20, 22, 21, 13, 14); What a value of a type is made of (function 13); Whether a value is of a type (function 9): tasks that wait; awake of chapter 8's laws (function 7), reckoned in parts: texts as tokens; awake of chapter 8's laws (function 7); awake of chapter 8's laws (function 7); The law ValueParts: its walk (function 3); From what a law's arguments read as to deep values, and back behind the call; From what a type's deep values are to a Lean structure, type by type; a struct as an argument; Values, types and declarations as arguments; The contracts of the library's functions that the statements reach, as the deep machine takes them
  Conditions: none.
-/
import Derived.Test.YtnhpfocibedoeaaPC
import Derived.Test.YtnhpfocibedoeaaCodes
import Derived.KernelRfl
import Derived.ReadAgain
import Derived.ChangeStays
import Derived.ChangeOld
import Derived.ChangeShapes
import Derived.WideShapes
import Derived.WalkKit
import Derived.Test.YtnhpfocibedoeaaChecked
import Derived.Lib.Builder
set_option linter.unusedVariables false
set_option linter.unusedSimpArgs false
namespace Go.Proofs.Ytnhpfocibedoeaa.Codes
open Go Go.Deepv
inductive V where
 | mk (k n : Int) (bs : List (List FV)) (s : ByteArray) (l : List V)
mutual
def V.enc : V → List FV
 | .mk k n bs s l => [.int .i64 k, .int .i64 n, .slice 1 bs, .str s, .slice 5 (V.encs l)]
def V.encs : List V → List (List FV)
 | [] => []
 | x :: l => x.enc :: V.encs l
end
inductive Ty where
 | mk (k : Int) (s : ByteArray) (l : List Ty)
mutual
def Ty.enc : Ty → List FV
 | .mk k s l => [.int .i64 k, .str s, .slice 3 (Ty.encs l)]
def Ty.encs : List Ty → List (List FV)
 | [] => []
 | x :: l => x.enc :: Ty.encs l
end
structure Con where
 s : ByteArray
 l : List Ty
def Con.enc (c : Con) : List FV := [.str c.s, .slice 3 (Ty.encs c.l)]
structure Data where
 a : Int
 b : Int
 s : ByteArray
 l : List Con
def Data.enc (d : Data) : List FV := [.int .i64 d.a, .int .i64 d.b, .str d.s, .slice 2 (d.l.map Con.enc)]
theorem V.encs_map : ∀ l : List V, V.encs l = l.map V.enc
 | [] => rfl
 | x :: l => by rw [V.encs, V.encs_map l]; rfl
theorem Ty.encs_map : ∀ l : List Ty, Ty.encs l = l.map Ty.enc
 | [] => rfl
 | x :: l => by rw [Ty.encs, Ty.encs_map l]; rfl
theorem V.encs_len (l : List V) : (V.encs l).length = l.length := by rw [V.encs_map]; simp
theorem Ty.encs_len (l : List Ty) : (Ty.encs l).length = l.length := by rw [Ty.encs_map]; simp
def V.k : V → Int | .mk k _ _ _ _ => k
def V.n : V → Int | .mk _ n _ _ _ => n
def V.bs : V → List (List FV) | .mk _ _ b _ _ => b
def V.s : V → ByteArray | .mk _ _ _ s _ => s
def V.l : V → List V | .mk _ _ _ _ l => l
def Ty.k : Ty → Int | .mk k _ _ => k
def Ty.s : Ty → ByteArray | .mk _ s _ => s
def Ty.l : Ty → List Ty | .mk _ _ l => l
def cut1 (n : Int) (b s : Nat) : Int := n - 1 - (if (1048576 : Int) < b then 1048576 else (b : Int)) - (if (1048576 : Int) < s then 1048576 else (s : Int))
mutual
def lightV : V → Int → Int
 | .mk _ _ bs s l, n => lightL l (cut1 n bs.length s.size)
def lightL : List V → Int → Int
 | [], n => n
 | x :: l, n => if 0 ≤ n then lightL l (lightV x n) else n
end
mutual
def wt : V → Nat
 | .mk _ _ bs _ l => 1 + bs.length + wts l
def wts : List V → Nat
 | [] => 0
 | x :: l => wt x + wts l
end
mutual
def total : V → Nat
 | .mk k _ bs _ l => if k = 0 then 0 else if k = 2 ∧ l.length = 0 then 0 else if k = 1 then 2 + (bs.length + 7) / 8 else 2 + l.length + totals l
def totals : List V → Nat
 | [] => 0
 | x :: l => total x + totals l
end
mutual
theorem total_wt : ∀ v : V, total v + 1 ≤ 4 * wt v
 | .mk k n bs s l => by
  have := totals_wt l
  unfold total wt
  split
  ·omega
  ·split
   ·omega
   ·split <;> omega
theorem totals_wt : ∀ l : List V, totals l + l.length ≤ 4 * wts l
 | [] => by simp [totals, wts]
 | x :: l => by
  have := total_wt x
  have := totals_wt l
  simp only [totals, wts, List.length_cons]
  omega
end
theorem cut1_le (n : Int) (b s : Nat) : cut1 n b s ≤ n - 1 := by unfold cut1; split <;> split <;> omega
theorem cut1_ge (n : Int) (b s : Nat) : n - 2097153 ≤ cut1 n b s := by unfold cut1; split <;> split <;> omega
mutual
theorem lightV_le : ∀ (v : V) (n : Int), lightV v n ≤ n - 1
 | .mk _ _ bs s l, n => by
  have := lightL_le l (cut1 n bs.length s.size)
  have := cut1_le n bs.length s.size
  unfold lightV; omega
theorem lightL_le : ∀ (l : List V) (n : Int), lightL l n ≤ n
 | [], n => by unfold lightL; omega
 | x :: l, n => by
  have := lightV_le x n
  have := lightL_le l (lightV x n)
  unfold lightL; split <;> omega
end
mutual
theorem lightV_ge : ∀ (v : V) (n : Int), 0 ≤ n → -2097153 ≤ lightV v n
 | .mk _ _ bs s l, n, h => by
  have := lightL_ge l (cut1 n bs.length s.size) (by have := cut1_ge n bs.length s.size; omega)
  unfold lightV; omega
theorem lightL_ge : ∀ (l : List V) (n : Int), -2097153 ≤ n → -2097153 ≤ lightL l n
 | [], n, h => by unfold lightL; omega
 | x :: l, n, h => by
  unfold lightL; split
  ·rename_i h0
   exact lightL_ge l (lightV x n) (lightV_ge x n h0)
  ·omega
end
theorem cut1_sub {n : Int} {b s : Nat} (hn : n ≤ 1048576) : 0 ≤ cut1 n b s → cut1 n b s ≤ n - 1 - b := by unfold cut1; split <;> split <;> omega
mutual
theorem light_wt : ∀ (v : V) (n : Int), n ≤ 1048576 → 0 ≤ lightV v n → (wt v : Int) + lightV v n ≤ n
 | .mk _ _ bs s l, n, hn, h => by
  unfold lightV at h ⊢
  unfold wt
  have h1 := lightL_le l (cut1 n bs.length s.size)
  have h2 := cut1_sub (b := bs.length) (s := s.size) hn (by omega)
  have := lights_wt l (cut1 n bs.length s.size) (by omega) h
  omega
theorem lights_wt : ∀ (l : List V) (n : Int), n ≤ 1048576 → 0 ≤ lightL l n → (wts l : Int) + lightL l n ≤ n
 | [], n, hn, h => by unfold lightL wts; omega
 | x :: l, n, hn, h => by
  unfold lightL at h ⊢
  unfold wts
  split at h
  ·rename_i h0
   rw [if_pos h0]
   have h1 := lightL_le l (lightV x n)
   have h2 := light_wt x n hn (by omega)
   have h3 := lights_wt l (lightV x n) (by omega) h
   omega
  ·omega
end
def sizeV (v : V) (m : Int) : Int := if (total v : Int) ≤ m then (total v : Int) else m + 1
def two62 : Int := 4611686018427387904
def findD (l : List Data) (s : ByteArray) : Option Data := l.find? fun d => d.s.toList == s.toList
def findC (l : List Con) (s : ByteArray) : Option Con := l.find? fun c => c.s.toList == s.toList
def fieldsV (l : List Data) (v : V) (t : Ty) : Option (List Ty) :=
 if v.k = 0 ∧ t.k = 0 then (if -two62 ≤ v.n ∧ v.n < two62 then some [] else none)
 else if v.k = 1 ∧ t.k = 1 then (if v.bs.length ≤ 64 then some [] else none)
 else if v.k = 3 ∧ t.k = 3 then some t.l
 else if v.k = 2 ∧ t.k = 2 then (findD l t.s).bind fun d => (findC d.l v.s).map Con.l
 else none
def bareV (v : V) : Bool := (v.k == 0 || v.n == 0) && (v.k == 1 || (v.bs.length : Int) == 0) && (v.k == 2 || v.s.toList == (⟨#[]⟩ : ByteArray).toList)
mutual
def ofT (l : List Data) : V → Ty → Int → Bool
 | .mk k n bs s kids, t, deep => match fieldsV l (.mk k n bs s kids) t with
  | none => false
  | some f => decide (1 ≤ deep) && bareV (.mk k n bs s kids) && (f.length == kids.length) && ofTs l kids f (deep - 1)
def ofTs (l : List Data) : List V → List Ty → Int → Bool
 | x :: kids, t :: f, deep => ofT l x t deep && ofTs l kids f deep
 | _, _, _ => true
end
mutual
theorem ofT_mono (l : List Data) : ∀ (v : V) (t : Ty) (d e : Int), d ≤ e → ofT l v t d = true → ofT l v t e = true
 | .mk k n bs s kids, t, d, e, h, ho => by
  unfold ofT at ho ⊢
  split at ho
  ·cases ho
  ·rename_i f hf
   simp only [Bool.and_eq_true, decide_eq_true_eq] at ho ⊢
   exact ⟨⟨⟨by omega, ho.1.1.2⟩, ho.1.2⟩, ofTs_mono l kids f _ _ (by omega) ho.2⟩
theorem ofTs_mono (l : List Data) : ∀ (v : List V) (t : List Ty) (d e : Int), d ≤ e → ofTs l v t d = true → ofTs l v t e = true
 | [], t, d, e, h, ho => by simp [ofTs]
 | x :: v, [], d, e, h, ho => by simp [ofTs]
 | x :: v, t :: f, d, e, h, ho => by
  simp only [ofTs, Bool.and_eq_true] at ho ⊢
  exact ⟨ofT_mono l x t d e h ho.1, ofTs_mono l v f d e h ho.2⟩
end
end Go.Proofs.Ytnhpfocibedoeaa.Codes
set_option maxRecDepth 100000
namespace Go.Proofs.Ytnhpfocibedoeaa.Codes
open Go Go.Deepv
mutual
theorem V.indA {P : V → Prop} (h : ∀ k n bs s l, (∀ x ∈ l, P x) → P (.mk k n bs s l)) : ∀ v : V, P v
 | .mk k n bs s l => h k n bs s l (V.indB h l)
theorem V.indB {P : V → Prop} (h : ∀ k n bs s l, (∀ x ∈ l, P x) → P (.mk k n bs s l)) : ∀ l : List V, ∀ x ∈ l, P x
 | [], x, hx => by cases hx
 | y :: l, x, hx => by
  rcases List.mem_cons.1 hx with e | e
  ·rw [e]; exact V.indA h y
  ·exact V.indB h l x e
end
mutual
theorem Ty.indA {P : Ty → Prop} (h : ∀ k s l, (∀ x ∈ l, P x) → P (.mk k s l)) : ∀ v : Ty, P v
 | .mk k s l => h k s l (Ty.indB h l)
theorem Ty.indB {P : Ty → Prop} (h : ∀ k s l, (∀ x ∈ l, P x) → P (.mk k s l)) : ∀ l : List Ty, ∀ x ∈ l, P x
 | [], x, hx => by cases hx
 | y :: l, x, hx => by
  rcases List.mem_cons.1 hx with e | e
  ·rw [e]; exact Ty.indA h y
  ·exact Ty.indB h l x e
end
theorem drop_at {α : Type} {ls l : List α} {x : α} {i : Nat} (hl : ls.drop i = x :: l) : i < ls.length ∧ ls[i]? = some x ∧ ls.drop (i + 1) = l := by
 refine ⟨?_, ?_, ?_⟩
 ·rcases Nat.lt_or_ge i ls.length with h | h
  ·exact h
  ·rw [List.drop_eq_nil_of_le h] at hl; cases hl
 ·have := congrArg (fun l => l[0]?) hl
  simpa using this
 ·rw [← List.drop_drop, hl]; rfl
theorem encs_at {l : List V} {i : Nat} {x : V} (h : l[i]? = some x) : (V.encs l)[i]? = some x.enc := by rw [V.encs_map]; simp [h]
theorem tencs_at {l : List Ty} {i : Nat} {x : Ty} (h : l[i]? = some x) : (Ty.encs l)[i]? = some x.enc := by rw [Ty.encs_map]; simp [h]
theorem venc_len (v : V) : v.enc.length = 5 := by cases v; rfl
theorem tenc_len (v : Ty) : v.enc.length = 3 := by cases v; rfl
set_option maxHeartbeats 4000000 in
theorem loop5 (k m : Int) (bs : List (List FV)) (s : ByteArray) (ls : List V) (ih0 : ∀ x ∈ ls, ∀ n h, 0 ≤ n → n ≤ 3000 → D env 5 [.d (.agg x.enc), .d (.int .i64 n)] h = some (.val (.d (.int .i64 (lightV x n))) h)) :
  ∃ K, L env 0 true H5L3 X5L3 B5L3 = K ∧ ∀ (l : List V) (i : Nat) (n : Int), ls.drop i = l → i ≤ ls.length → n + i ≤ 3000 → -2097153 ≤ n →
  K (den 37 [(1, .d (.int .i64 n)), (2, .d (.ref [.int .i64 k, .int .i64 m, .slice 1 bs, .str s, .slice 5 (V.encs ls)] 0)), (5, .d (.int .i64 (i : Int)))]) [] = some (.exit 0, den 37 [(1, .d (.int .i64 (lightL l n)))], []) := by
 obtain ⟨K, hK⟩ : ∃ K, L env 0 true H5L3 X5L3 B5L3 = K := ⟨_, rfl⟩
 refine ⟨K, hK, ?_⟩
 intro l
 induction l with
 | nil =>
  intro i n hl hi h1 h2
  have : ls.length ≤ i := List.drop_eq_nil_iff.1 hl
  have e2 : ¬ (i : Int) < (ls.length : Int) := by omega
  rw [L_rnd hK]
  simp (maxSteps := 9999999) -implicitDefEqProofs only [B5L3, e2, V.encs_len, lightL, sT, reduceCtorEq, seval, ↓joinK_t, ↓joinK_f, ↓reduceIte]
 | cons x l ih =>
  intro i n hl hi h1 h2
  obtain ⟨hlt, hx, hd⟩ := drop_at hl
  have e2 : (i : Int) < (ls.length : Int) := by omega
  have gx := encs_at hx
  by_cases c : 0 ≤ n
  ·have w1 : IntKind.i64.wrap ((i : Int) + 1) = ((i + 1 : Nat) : Int) := by rw [wrap_i64 (by omega) (by omega)]; omega
   have e3 := fun h => ih0 x (List.mem_of_getElem? hx) n h c (by omega)
   have := lightV_le x n
   have := lightV_ge x n c
   have ih := ih (i + 1) (lightV x n) hd (by omega) (by omega) (by omega)
   have ge := take_d (venc_len x)
   rw [L_rnd hK]
   simp (maxSteps := 9999999) -implicitDefEqProofs only [B5L3, e2, gx, w1, c, e3, ih, ge, flat_map, venc_len, Nat.le_refl, V.encs_len, lightL, sT, reduceCtorEq, seval, ↓joinK_t, ↓joinK_f, ↓reduceIte]
  ·rw [L_rnd hK]
   simp (maxSteps := 9999999) -implicitDefEqProofs only [B5L3, e2, gx, c, V.encs_len, lightL, sT, reduceCtorEq, seval, ↓joinK_t, ↓joinK_f, ↓reduceIte]
theorem light_ok : ∀ (v : V) (n : Int) (h : List Res), 0 ≤ n → n ≤ 3000 → D env 5 [.d (.agg v.enc), .d (.int .i64 n)] h = some (.val (.d (.int .i64 (lightV v n))) h) := by
 apply V.indA
 intro k m bs s ls ih n h h1 h2
 obtain ⟨K, hK, hk⟩ := loop5 k m bs s ls ih
 have e := hk ls 0 (cut1 n bs.length s.size) rfl (by omega) (by have := cut1_le n bs.length s.size; omega) (by have := cut1_ge n bs.length s.size; omega)
 have w1 : IntKind.i64.wrap (n - 1) = n - 1 := wrap_i64 (by omega) (by omega)
 unfold cut1 at e
 unfold V.enc lightV cut1
 obtain ⟨a, ha, a1, a2⟩ : ∃ a, (if (1048576 : Int) < (bs.length : Int) then 1048576 else (bs.length : Int)) = a ∧ 0 ≤ a ∧ a ≤ 1048576 := ⟨_, rfl, by split <;> omega, by split <;> omega⟩
 obtain ⟨b, hb, b1, b2⟩ : ∃ a, (if (1048576 : Int) < (s.size : Int) then 1048576 else (s.size : Int)) = a ∧ 0 ≤ a ∧ a ≤ 1048576 := ⟨_, rfl, by split <;> omega, by split <;> omega⟩
 rw [ha, hb] at e ⊢
 simp only [Int.ofNat_zero] at e
 have w2 : IntKind.i64.wrap (n - 1 - a) = n - 1 - a := wrap_i64 (by omega) (by omega)
 have w3 : IntKind.i64.wrap (n - 1 - a - b) = n - 1 - a - b := wrap_i64 (by omega) (by omega)
 rw [D_dat (F := A5) rfl rfl rfl rfl]
 simp (maxSteps := 9999999) -implicitDefEqProofs only [A5, B5, hK, e, w1, w2, w3, ha, hb, sT, reduceCtorEq, seval, ↓joinK_t, ↓joinK_f, ↓reduceIte]
end Go.Proofs.Ytnhpfocibedoeaa.Codes
namespace Go.Deepv
mutual
def eqF : FV → FV → Bool
 | .int k a, .int l b => decide (k = l) && decide (a = b)
 | .bool a, .bool b => a == b
 | .str a, .str b => decide (a.data.toList = b.data.toList)
 | .slice s l, .slice t m => s == t && eqLL l m
 | .agg l, .agg m => eqL l m
 | .ref l o, .ref m p => eqL l m && o == p
 | .nilp, .nilp => true
 | .nili, .nili => true
 | .nilf, .nilf => true
 | .undef, .undef => true
 | .iface t v, .iface u w => decide (t = u) && eqF v w
 | .tup l, .tup m => eqL l m
 | .nils s, .nils t => s == t
 | .fulls s l, .fulls t m => s == t && eqLL l m
 | .nonn s, .nonn t => s == t
 | .nilm, .nilm => true
 | .nilx s, .nilx t => s == t
 | .func (.func f) p q, .func (.func g) p' q' => decide (f = g) && eqL p p' && eqL q q'
 | _, _ => false
def eqL : List FV → List FV → Bool
 | [], [] => true
 | x :: xs, y :: ys => eqF x y && eqL xs ys
 | _, _ => false
def eqLL : List (List FV) → List (List FV) → Bool
 | [], [] => true
 | x :: xs, y :: ys => eqL x y && eqLL xs ys
 | _, _ => false
end
mutual
theorem eqF_eq : ∀ {x y : FV}, eqF x y = true → x = y
 | .int k a, y, h => by cases y <;> simp_all [eqF]
 | .bool a, y, h => by cases y <;> simp_all [eqF]
 | .str a, y, h => by
  cases y <;> simp [eqF] at h
  congr 1
  exact ByteArray.ext h
 | .slice s l, y, h => by
  cases y <;> simp [eqF] at h
  rw [h.1, eqLL_eq h.2]
 | .agg l, y, h => by
  cases y <;> simp [eqF] at h
  rw [eqL_eq h]
 | .ref l o, y, h => by
  cases y <;> simp [eqF] at h
  rw [eqL_eq h.1, h.2]
 | .nilp, y, h => by cases y <;> simp_all [eqF]
 | .nili, y, h => by cases y <;> simp_all [eqF]
 | .nilf, y, h => by cases y <;> simp_all [eqF]
 | .undef, y, h => by cases y <;> simp_all [eqF]
 | .iface t v, y, h => by
  cases y <;> simp [eqF] at h
  rw [h.1, eqF_eq h.2]
 | .tup l, y, h => by
  cases y <;> simp [eqF] at h
  rw [eqL_eq h]
 | .nils s, y, h => by cases y <;> simp_all [eqF]
 | .fulls s l, y, h => by
  cases y <;> simp [eqF] at h
  rw [h.1, eqLL_eq h.2]
 | .nonn s, y, h => by cases y <;> simp_all [eqF]
 | .nilm, y, h => by cases y <;> simp_all [eqF]
 | .nilx s, y, h => by cases y <;> simp_all [eqF]
 | .func f p q, y, h => by
  cases f
  case func f =>
   cases y
   case func g p' q' =>
    cases g
    case func g =>
     simp [eqF] at h
     rw [h.1.1, eqL_eq h.1.2, eqL_eq h.2]
    all_goals simp [eqF] at h
   all_goals simp [eqF] at h
  all_goals (cases y <;> simp [eqF] at h)
theorem eqL_eq : ∀ {x y : List FV}, eqL x y = true → x = y
 | [], y, h => by cases y <;> simp_all [eqL]
 | x :: xs, y, h => by
  cases y <;> simp [eqL] at h
  rw [eqF_eq h.1, eqL_eq h.2]
theorem eqLL_eq : ∀ {x y : List (List FV)}, eqLL x y = true → x = y
 | [], y, h => by cases y <;> simp_all [eqLL]
 | x :: xs, y, h => by
  cases y <;> simp [eqLL] at h
  rw [eqL_eq h.1, eqLL_eq h.2]
end
mutual
def eqV : DV → DV → Bool
 | .d x, .d y => eqF x y
 | .ptr i o, .ptr j p => i == j && o == p
 | .row s l t, .row s' l' t' => s == s' && eqLL l l' && t == t'
 | .agg l, .agg m => eqVs l m
 | .tup l, .tup m => eqVs l m
 | .iface t v, .iface u w => decide (t = u) && eqV v w
 | .yld i, .yld j => i == j
 | .rptr l t, .rptr l' t' => eqLL l l' && t == t'
 | .bslc i o n, .bslc j p m => i == j && o == p && n == m
 | .vslc i g s o n, .vslc i' g' s' o' n' => i == i' && g == g' && s == s' && o == o' && n == n'
 | .eptr i g k o, .eptr i' g' k' o' => i == i' && g == g' && k == k' && o == o'
 | .mref i, .mref j => i == j
 | .clo (.func f) p q, .clo (.func g) p' q' => decide (f = g) && eqVs p p' && eqVs q q'
 | _, _ => false
def eqVs : List DV → List DV → Bool
 | [], [] => true
 | x :: xs, y :: ys => eqV x y && eqVs xs ys
 | _, _ => false
end
mutual
theorem eqV_eq : ∀ {x y : DV}, eqV x y = true → x = y
 | .d x, y, h => by
  cases y <;> simp [eqV] at h
  rw [eqF_eq h]
 | .ptr i o, y, h => by cases y <;> simp_all [eqV]
 | .row s l t, y, h => by
  cases y <;> simp [eqV] at h
  rw [h.1.1, eqLL_eq h.1.2, h.2]
 | .agg l, y, h => by
  cases y <;> simp [eqV] at h
  rw [eqVs_eq h]
 | .tup l, y, h => by
  cases y <;> simp [eqV] at h
  rw [eqVs_eq h]
 | .iface t v, y, h => by
  cases y <;> simp [eqV] at h
  rw [h.1, eqV_eq h.2]
 | .yld i, y, h => by cases y <;> simp_all [eqV]
 | .rptr l t, y, h => by
  cases y <;> simp [eqV] at h
  rw [eqLL_eq h.1, h.2]
 | .bslc i o n, y, h => by cases y <;> simp_all [eqV]
 | .vslc i g s o n, y, h => by cases y <;> simp_all [eqV]
 | .eptr i g k o, y, h => by cases y <;> simp_all [eqV]
 | .mref i, y, h => by cases y <;> simp_all [eqV]
 | .clo f p q, y, h => by
  cases f
  case func f =>
   cases y
   case clo g p' q' =>
    cases g
    case func g =>
     simp [eqV] at h
     rw [h.1.1, eqVs_eq h.1.2, eqVs_eq h.2]
    all_goals simp [eqV] at h
   all_goals simp [eqV] at h
  all_goals (cases y <;> simp [eqV] at h)
theorem eqVs_eq : ∀ {x y : List DV}, eqVs x y = true → x = y
 | [], y, h => by cases y <;> simp_all [eqVs]
 | x :: xs, y, h => by
  cases y <;> simp [eqVs] at h
  rw [eqV_eq h.1, eqVs_eq h.2]
end
def eqPs : List (FV × FV) → List (FV × FV) → Bool
 | [], [] => true
 | x :: xs, y :: ys => eqF x.1 y.1 && eqF x.2 y.2 && eqPs xs ys
 | _, _ => false
theorem eqPs_eq : ∀ {x y : List (FV × FV)}, eqPs x y = true → x = y
 | [], y, h => by cases y <;> simp_all [eqPs]
 | (a, b) :: xs, y, h => by
  rcases y with _ | ⟨⟨c, d⟩, ys⟩ <;> simp [eqPs] at h
  rw [eqF_eq h.1.1, eqF_eq h.1.2, eqPs_eq h.2]
def eqN (a b : Nat) : Bool := Nat.beq a b
theorem eqN_eq {a b : Nat} : eqN a b = true ↔ a = b := by simp [eqN, Nat.beq_eq]
def eqB (a b : Bool) : Bool := a == b
theorem eqB_eq {a b : Bool} : eqB a b = true ↔ a = b := by simp [eqB]
def eqK (a b : IntKind) : Bool := decide (a = b)
theorem eqK_eq {a b : IntKind} : eqK a b = true ↔ a = b := by simp [eqK]
def eqBin (a b : BinOp) : Bool := decide (a = b)
theorem eqBin_eq {a b : BinOp} : eqBin a b = true ↔ a = b := by simp [eqBin]
def eqUn (a b : UnOp) : Bool := decide (a = b)
theorem eqUn_eq {a b : UnOp} : eqUn a b = true ↔ a = b := by simp [eqUn]
def eqON : Option Nat → Option Nat → Bool
 | none, none => true
 | some a, some b => eqN a b
 | _, _ => false
theorem eqON_eq {a b : Option Nat} (h : eqON a b = true) : a = b := by cases a <;> cases b <;> simp_all [eqON, eqN_eq]
def eqNs : List Nat → List Nat → Bool
 | [], [] => true
 | a :: l, b :: m => eqN a b && eqNs l m
 | _, _ => false
theorem eqNs_eq : ∀ {a b : List Nat}, eqNs a b = true → a = b
 | [], b, h => by cases b <;> simp_all [eqNs]
 | a :: l, b, h => by
  cases b <;> simp [eqNs] at h
  rw [eqN_eq.1 h.1, eqNs_eq h.2]
def eqBs : List Bool → List Bool → Bool
 | [], [] => true
 | a :: l, b :: m => eqB a b && eqBs l m
 | _, _ => false
theorem eqBs_eq : ∀ {a b : List Bool}, eqBs a b = true → a = b
 | [], b, h => by cases b <;> simp_all [eqBs]
 | a :: l, b, h => by
  cases b <;> simp [eqBs] at h
  rw [eqB_eq.1 h.1, eqBs_eq h.2]
def eqFn : Fn → Fn → Bool
 | .func f, .func g => eqN f g
 | _, _ => false
theorem eqFn_eq {a b : Fn} (h : eqFn a b = true) : a = b := by
 cases a
 case func f =>
  cases b
  case func g => simp [eqFn, eqN_eq] at h; rw [h]
  all_goals cases h
 all_goals (cases b <;> cases h)
def eqO : Opd → Opd → Bool
 | .tmp a, .tmp b => eqN a b
 | .con v, .con w => eqF v w
 | .fn f, .fn g => eqN f g
 | _, _ => false
theorem eqO_eq {a b : Opd} (h : eqO a b = true) : a = b := by
 cases a <;> cases b <;> simp [eqO, eqN_eq] at h
 ·rw [h]
 ·rw [eqF_eq h]
 ·rw [h]
def eqOO : Option Opd → Option Opd → Bool
 | none, none => true
 | some a, some b => eqO a b
 | _, _ => false
theorem eqOO_eq {a b : Option Opd} (h : eqOO a b = true) : a = b := by
 cases a <;> cases b <;> simp [eqOO] at h
 ·rfl
 ·rw [eqO_eq h]
def eqOs : List Opd → List Opd → Bool
 | [], [] => true
 | a :: l, b :: m => eqO a b && eqOs l m
 | _, _ => false
theorem eqOs_eq : ∀ {a b : List Opd}, eqOs a b = true → a = b
 | [], b, h => by cases b <;> simp_all [eqOs]
 | a :: l, b, h => by
  cases b <;> simp [eqOs] at h
  rw [eqO_eq h.1, eqOs_eq h.2]
def eqZ : List (Except Nat FV) → List (Except Nat FV) → Bool
 | [], [] => true
 | .ok a :: l, .ok b :: m => eqF a b && eqZ l m
 | .error a :: l, .error b :: m => eqN a b && eqZ l m
 | _, _ => false
theorem eqZ_eq : ∀ {a b : List (Except Nat FV)}, eqZ a b = true → a = b
 | [], b, h => by cases b <;> simp_all [eqZ]
 | .ok a :: l, b, h => by
  rcases b with _ | ⟨b | b, m⟩ <;> simp [eqZ] at h
  rw [eqF_eq h.1, eqZ_eq h.2]
 | .error a :: l, b, h => by
  rcases b with _ | ⟨b | b, m⟩ <;> simp [eqZ] at h
  rw [eqN_eq.1 h.1, eqZ_eq h.2]
def eqNO : List (Nat × Opd) → List (Nat × Opd) → Bool
 | [], [] => true
 | a :: l, b :: m => eqN a.1 b.1 && eqO a.2 b.2 && eqNO l m
 | _, _ => false
theorem eqNO_eq : ∀ {a b : List (Nat × Opd)}, eqNO a b = true → a = b
 | [], b, h => by cases b <;> simp_all [eqNO]
 | (a, x) :: l, b, h => by
  rcases b with _ | ⟨⟨b, y⟩, m⟩ <;> simp [eqNO] at h
  rw [eqN_eq.1 h.1.1, eqO_eq h.1.2, eqNO_eq h.2]
def eqNNO : List (Nat × Nat × Opd) → List (Nat × Nat × Opd) → Bool
 | [], [] => true
 | a :: l, b :: m => eqN a.1 b.1 && eqN a.2.1 b.2.1 && eqO a.2.2 b.2.2 && eqNNO l m
 | _, _ => false
theorem eqNNO_eq : ∀ {a b : List (Nat × Nat × Opd)}, eqNNO a b = true → a = b
 | [], b, h => by cases b <;> simp_all [eqNNO]
 | (a, c, x) :: l, b, h => by
  rcases b with _ | ⟨⟨b, d, y⟩, m⟩ <;> simp [eqNNO] at h
  rw [eqN_eq.1 h.1.1.1, eqN_eq.1 h.1.1.2, eqO_eq h.1.2, eqNNO_eq h.2]
def eqOp : DOp → DOp → Bool
 | .mv a0, .mv b0 => eqO a0 b0
 | .nilrow a0, .nilrow b0 => eqN a0 b0
 | .pick a0 a1 a2, .pick b0 b1 b2 => eqO a0 b0 && eqO a1 b1 && eqO a2 b2
 | .box a0 a1, .box b0 b1 => eqB a0 b0 && eqO a1 b1
 | .alloc a0 a1, .alloc b0 b1 => eqZ a0 b0 && eqN a1 b1
 | .load a0 a1, .load b0 b1 => eqON a0 b0 && eqO a1 b1
 | .loadk a0 a1, .loadk b0 b1 => eqON a0 b0 && eqO a1 b1
 | .store a0 a1 a2, .store b0 b1 b2 => eqN a0 b0 && eqO a1 b1 && eqO a2 b2
 | .storen a0 a1 a2, .storen b0 b1 b2 => eqN a0 b0 && eqO a1 b1 && eqO a2 b2
 | .bin a0 a1 a2, .bin b0 b1 b2 => eqBin a0 b0 && eqO a1 b1 && eqO a2 b2
 | .eqb a0 a1 a2, .eqb b0 b1 b2 => eqB a0 b0 && eqO a1 b1 && eqO a2 b2
 | .isnil a0 a1 a2, .isnil b0 b1 b2 => eqN a0 b0 && eqB a1 b1 && eqO a2 b2
 | .un a0 a1, .un b0 b1 => eqUn a0 b0 && eqO a1 b1
 | .cvt a0 a1, .cvt b0 b1 => eqK a0 b0 && eqO a1 b1
 | .bstr a0, .bstr b0 => eqO a0 b0
 | .addOff a0 a1, .addOff b0 b1 => eqN a0 b0 && eqO a1 b1
 | .fld a0 a1 a2, .fld b0 b1 b2 => eqON a0 b0 && eqN a1 b1 && eqO a2 b2
 | .idxAddr a0 a1 a2, .idxAddr b0 b1 b2 => eqN a0 b0 && eqO a1 b1 && eqO a2 b2
 | .idxArr a0 a1 a2 a3, .idxArr b0 b1 b2 b3 => eqN a0 b0 && eqN a1 b1 && eqO a2 b2 && eqO a3 b3
 | .idxStr a0 a1, .idxStr b0 b1 => eqO a0 b0 && eqO a1 b1
 | .len a0 a1, .len b0 b1 => eqB a0 b0 && eqO a1 b1
 | .slcStr a0 a1 a2, .slcStr b0 b1 b2 => eqO a0 b0 && eqOO a1 b1 && eqOO a2 b2
 | .slc a0 a1 a2 a3, .slc b0 b1 b2 b3 => eqN a0 b0 && eqO a1 b1 && eqOO a2 b2 && eqOO a3 b3
 | .ext a0 a1, .ext b0 b1 => eqN a0 b0 && eqO a1 b1
 | .lit a0 a1 a2 a3 a4 a5, .lit b0 b1 b2 b3 b4 b5 => eqB a0 b0 && eqN a1 b1 && eqN a2 b2 && eqN a3 b3 && eqL a4 b4 && eqNO a5 b5
 | .build a0 a1, .build b0 b1 => eqL a0 b0 && eqNNO a1 b1
 | .app a0 a1 a2 a3 a4 a5, .app b0 b1 b2 b3 b4 b5 => eqB a0 b0 && eqN a1 b1 && eqN a2 b2 && eqN a3 b3 && eqO a4 b4 && eqO a5 b5
 | .eqs a0 a1 a2 a3, .eqs b0 b1 b2 b3 => eqB a0 b0 && eqNs a1 b1 && eqO a2 b2 && eqO a3 b3
 | .rng a0, .rng b0 => eqO a0 b0
 | .next a0, .next b0 => eqO a0 b0
 | .sbytes a0, .sbytes b0 => eqO a0 b0
 | .rstr a0, .rstr b0 => eqO a0 b0
 | .tass a0 a1 a2 a3, .tass b0 b1 b2 b3 => eqN a0 b0 && eqB a1 b1 && eqF a2 b2 && eqO a3 b3
 | .usd a0, .usd b0 => eqO a0 b0
 | .mark a0, .mark b0 => eqO a0 b0
 | .ustr a0 a1 a2, .ustr b0 b1 b2 => eqN a0 b0 && eqO a1 b1 && eqO a2 b2
 | .mnmx a0 a1, .mnmx b0 b1 => eqB a0 b0 && eqOs a1 b1
 | .call a0 a1, .call b0 b1 => eqO a0 b0 && eqOs a1 b1
 | .mkf a0 a1 a2, .mkf b0 b1 b2 => eqFn a0 b0 && eqOs a1 b1 && eqOs a2 b2
 | .nilchk a0, .nilchk b0 => eqO a0 b0
 | .mki a0 a1, .mki b0 b1 => eqN a0 b0 && eqO a1 b1
 | .panic a0, .panic b0 => eqO a0 b0
 | .calln a0 a1 a2, .calln b0 b1 b2 => eqN a0 b0 && eqO a1 b1 && eqOs a2 b2
 | .idxB a0 a1, .idxB b0 b1 => eqO a0 b0 && eqO a1 b1
 | .slcA a0 a1 a2 a3 a4, .slcA b0 b1 b2 b3 b4 => eqN a0 b0 && eqN a1 b1 && eqO a2 b2 && eqOO a3 b3 && eqOO a4 b4
 | .idxVal a0 a1 a2 a3 a4, .idxVal b0 b1 b2 b3 b4 => eqN a0 b0 && eqN a1 b1 && eqON a2 b2 && eqO a3 b3 && eqO a4 b4
 | .calld a0 a1, .calld b0 b1 => eqO a0 b0 && eqOs a1 b1
 | .vlit a0 a1 a2 a3 a4, .vlit b0 b1 b2 b3 b4 => eqN a0 b0 && eqN a1 b1 && eqN a2 b2 && eqL a3 b3 && eqNO a4 b4
 | .vmake a0 a1 a2 a3 a4 a5 a6, .vmake b0 b1 b2 b3 b4 b5 b6 => eqB a0 b0 && eqN a1 b1 && eqN a2 b2 && eqN a3 b3 && eqL a4 b4 && eqO a5 b5 && eqO a6 b6
 | .vapp a0 a1 a2 a3 a4, .vapp b0 b1 b2 b3 b4 => eqN a0 b0 && eqN a1 b1 && eqN a2 b2 && eqO a3 b3 && eqO a4 b4
 | .frz a0, .frz b0 => eqO a0 b0
 | .mkmap, .mkmap => true
 | .mlook a0 a1 a2 a3 a4, .mlook b0 b1 b2 b3 b4 => eqB a0 b0 && eqF a1 b1 && eqF a2 b2 && eqO a3 b3 && eqO a4 b4
 | .mupd a0 a1 a2 a3, .mupd b0 b1 b2 b3 => eqF a0 b0 && eqO a1 b1 && eqO a2 b2 && eqO a3 b3
 | .slc3 a0 a1 a2 a3 a4, .slc3 b0 b1 b2 b3 b4 => eqN a0 b0 && eqO a1 b1 && eqOO a2 b2 && eqO a3 b3 && eqO a4 b4
 | .slcn a0 a1 a2 a3, .slcn b0 b1 b2 b3 => eqN a0 b0 && eqO a1 b1 && eqOO a2 b2 && eqOO a3 b3
 | .capn a0, .capn b0 => eqO a0 b0
 | .boxn a0, .boxn b0 => eqO a0 b0
 | .lenm a0, .lenm b0 => eqO a0 b0
 | .vappn a0 a1 a2 a3 a4 a5, .vappn b0 b1 b2 b3 b4 b5 => eqN a0 b0 && eqN a1 b1 && eqN a2 b2 && eqL a3 b3 && eqO a4 b4 && eqO a5 b5
 | .stuck, .stuck => true
 | _, _ => false
theorem eqOp_eq {x y : DOp} (h : eqOp x y = true) : x = y := by
 cases x
 case mv a0 =>
  cases y
  case mv b0 =>
   simp only [eqOp, Bool.and_eq_true] at h
   have h0 := h
   rw [eqO_eq h0]
  all_goals cases h
 case nilrow a0 =>
  cases y
  case nilrow b0 =>
   simp only [eqOp, Bool.and_eq_true] at h
   have h0 := h
   rw [eqN_eq.1 h0]
  all_goals cases h
 case pick a0 a1 a2 =>
  cases y
  case pick b0 b1 b2 =>
   simp only [eqOp, Bool.and_eq_true] at h
   obtain ⟨⟨h0, h1⟩, h2⟩ := h
   rw [eqO_eq h0, eqO_eq h1, eqO_eq h2]
  all_goals cases h
 case box a0 a1 =>
  cases y
  case box b0 b1 =>
   simp only [eqOp, Bool.and_eq_true] at h
   obtain ⟨h0, h1⟩ := h
   rw [eqB_eq.1 h0, eqO_eq h1]
  all_goals cases h
 case alloc a0 a1 =>
  cases y
  case alloc b0 b1 =>
   simp only [eqOp, Bool.and_eq_true] at h
   obtain ⟨h0, h1⟩ := h
   rw [eqZ_eq h0, eqN_eq.1 h1]
  all_goals cases h
 case load a0 a1 =>
  cases y
  case load b0 b1 =>
   simp only [eqOp, Bool.and_eq_true] at h
   obtain ⟨h0, h1⟩ := h
   rw [eqON_eq h0, eqO_eq h1]
  all_goals cases h
 case loadk a0 a1 =>
  cases y
  case loadk b0 b1 =>
   simp only [eqOp, Bool.and_eq_true] at h
   obtain ⟨h0, h1⟩ := h
   rw [eqON_eq h0, eqO_eq h1]
  all_goals cases h
 case store a0 a1 a2 =>
  cases y
  case store b0 b1 b2 =>
   simp only [eqOp, Bool.and_eq_true] at h
   obtain ⟨⟨h0, h1⟩, h2⟩ := h
   rw [eqN_eq.1 h0, eqO_eq h1, eqO_eq h2]
  all_goals cases h
 case storen a0 a1 a2 =>
  cases y
  case storen b0 b1 b2 =>
   simp only [eqOp, Bool.and_eq_true] at h
   obtain ⟨⟨h0, h1⟩, h2⟩ := h
   rw [eqN_eq.1 h0, eqO_eq h1, eqO_eq h2]
  all_goals cases h
 case bin a0 a1 a2 =>
  cases y
  case bin b0 b1 b2 =>
   simp only [eqOp, Bool.and_eq_true] at h
   obtain ⟨⟨h0, h1⟩, h2⟩ := h
   rw [eqBin_eq.1 h0, eqO_eq h1, eqO_eq h2]
  all_goals cases h
 case eqb a0 a1 a2 =>
  cases y
  case eqb b0 b1 b2 =>
   simp only [eqOp, Bool.and_eq_true] at h
   obtain ⟨⟨h0, h1⟩, h2⟩ := h
   rw [eqB_eq.1 h0, eqO_eq h1, eqO_eq h2]
  all_goals cases h
 case isnil a0 a1 a2 =>
  cases y
  case isnil b0 b1 b2 =>
   simp only [eqOp, Bool.and_eq_true] at h
   obtain ⟨⟨h0, h1⟩, h2⟩ := h
   rw [eqN_eq.1 h0, eqB_eq.1 h1, eqO_eq h2]
  all_goals cases h
 case un a0 a1 =>
  cases y
  case un b0 b1 =>
   simp only [eqOp, Bool.and_eq_true] at h
   obtain ⟨h0, h1⟩ := h
   rw [eqUn_eq.1 h0, eqO_eq h1]
  all_goals cases h
 case cvt a0 a1 =>
  cases y
  case cvt b0 b1 =>
   simp only [eqOp, Bool.and_eq_true] at h
   obtain ⟨h0, h1⟩ := h
   rw [eqK_eq.1 h0, eqO_eq h1]
  all_goals cases h
 case bstr a0 =>
  cases y
  case bstr b0 =>
   simp only [eqOp, Bool.and_eq_true] at h
   have h0 := h
   rw [eqO_eq h0]
  all_goals cases h
 case addOff a0 a1 =>
  cases y
  case addOff b0 b1 =>
   simp only [eqOp, Bool.and_eq_true] at h
   obtain ⟨h0, h1⟩ := h
   rw [eqN_eq.1 h0, eqO_eq h1]
  all_goals cases h
 case fld a0 a1 a2 =>
  cases y
  case fld b0 b1 b2 =>
   simp only [eqOp, Bool.and_eq_true] at h
   obtain ⟨⟨h0, h1⟩, h2⟩ := h
   rw [eqON_eq h0, eqN_eq.1 h1, eqO_eq h2]
  all_goals cases h
 case idxAddr a0 a1 a2 =>
  cases y
  case idxAddr b0 b1 b2 =>
   simp only [eqOp, Bool.and_eq_true] at h
   obtain ⟨⟨h0, h1⟩, h2⟩ := h
   rw [eqN_eq.1 h0, eqO_eq h1, eqO_eq h2]
  all_goals cases h
 case idxArr a0 a1 a2 a3 =>
  cases y
  case idxArr b0 b1 b2 b3 =>
   simp only [eqOp, Bool.and_eq_true] at h
   obtain ⟨⟨⟨h0, h1⟩, h2⟩, h3⟩ := h
   rw [eqN_eq.1 h0, eqN_eq.1 h1, eqO_eq h2, eqO_eq h3]
  all_goals cases h
 case idxStr a0 a1 =>
  cases y
  case idxStr b0 b1 =>
   simp only [eqOp, Bool.and_eq_true] at h
   obtain ⟨h0, h1⟩ := h
   rw [eqO_eq h0, eqO_eq h1]
  all_goals cases h
 case len a0 a1 =>
  cases y
  case len b0 b1 =>
   simp only [eqOp, Bool.and_eq_true] at h
   obtain ⟨h0, h1⟩ := h
   rw [eqB_eq.1 h0, eqO_eq h1]
  all_goals cases h
 case slcStr a0 a1 a2 =>
  cases y
  case slcStr b0 b1 b2 =>
   simp only [eqOp, Bool.and_eq_true] at h
   obtain ⟨⟨h0, h1⟩, h2⟩ := h
   rw [eqO_eq h0, eqOO_eq h1, eqOO_eq h2]
  all_goals cases h
 case slc a0 a1 a2 a3 =>
  cases y
  case slc b0 b1 b2 b3 =>
   simp only [eqOp, Bool.and_eq_true] at h
   obtain ⟨⟨⟨h0, h1⟩, h2⟩, h3⟩ := h
   rw [eqN_eq.1 h0, eqO_eq h1, eqOO_eq h2, eqOO_eq h3]
  all_goals cases h
 case ext a0 a1 =>
  cases y
  case ext b0 b1 =>
   simp only [eqOp, Bool.and_eq_true] at h
   obtain ⟨h0, h1⟩ := h
   rw [eqN_eq.1 h0, eqO_eq h1]
  all_goals cases h
 case lit a0 a1 a2 a3 a4 a5 =>
  cases y
  case lit b0 b1 b2 b3 b4 b5 =>
   simp only [eqOp, Bool.and_eq_true] at h
   obtain ⟨⟨⟨⟨⟨h0, h1⟩, h2⟩, h3⟩, h4⟩, h5⟩ := h
   rw [eqB_eq.1 h0, eqN_eq.1 h1, eqN_eq.1 h2, eqN_eq.1 h3, eqL_eq h4, eqNO_eq h5]
  all_goals cases h
 case build a0 a1 =>
  cases y
  case build b0 b1 =>
   simp only [eqOp, Bool.and_eq_true] at h
   obtain ⟨h0, h1⟩ := h
   rw [eqL_eq h0, eqNNO_eq h1]
  all_goals cases h
 case app a0 a1 a2 a3 a4 a5 =>
  cases y
  case app b0 b1 b2 b3 b4 b5 =>
   simp only [eqOp, Bool.and_eq_true] at h
   obtain ⟨⟨⟨⟨⟨h0, h1⟩, h2⟩, h3⟩, h4⟩, h5⟩ := h
   rw [eqB_eq.1 h0, eqN_eq.1 h1, eqN_eq.1 h2, eqN_eq.1 h3, eqO_eq h4, eqO_eq h5]
  all_goals cases h
 case eqs a0 a1 a2 a3 =>
  cases y
  case eqs b0 b1 b2 b3 =>
   simp only [eqOp, Bool.and_eq_true] at h
   obtain ⟨⟨⟨h0, h1⟩, h2⟩, h3⟩ := h
   rw [eqB_eq.1 h0, eqNs_eq h1, eqO_eq h2, eqO_eq h3]
  all_goals cases h
 case rng a0 =>
  cases y
  case rng b0 =>
   simp only [eqOp, Bool.and_eq_true] at h
   have h0 := h
   rw [eqO_eq h0]
  all_goals cases h
 case next a0 =>
  cases y
  case next b0 =>
   simp only [eqOp, Bool.and_eq_true] at h
   have h0 := h
   rw [eqO_eq h0]
  all_goals cases h
 case sbytes a0 =>
  cases y
  case sbytes b0 =>
   simp only [eqOp, Bool.and_eq_true] at h
   have h0 := h
   rw [eqO_eq h0]
  all_goals cases h
 case rstr a0 =>
  cases y
  case rstr b0 =>
   simp only [eqOp, Bool.and_eq_true] at h
   have h0 := h
   rw [eqO_eq h0]
  all_goals cases h
 case tass a0 a1 a2 a3 =>
  cases y
  case tass b0 b1 b2 b3 =>
   simp only [eqOp, Bool.and_eq_true] at h
   obtain ⟨⟨⟨h0, h1⟩, h2⟩, h3⟩ := h
   rw [eqN_eq.1 h0, eqB_eq.1 h1, eqF_eq h2, eqO_eq h3]
  all_goals cases h
 case usd a0 =>
  cases y
  case usd b0 =>
   simp only [eqOp, Bool.and_eq_true] at h
   have h0 := h
   rw [eqO_eq h0]
  all_goals cases h
 case mark a0 =>
  cases y
  case mark b0 =>
   simp only [eqOp, Bool.and_eq_true] at h
   have h0 := h
   rw [eqO_eq h0]
  all_goals cases h
 case ustr a0 a1 a2 =>
  cases y
  case ustr b0 b1 b2 =>
   simp only [eqOp, Bool.and_eq_true] at h
   obtain ⟨⟨h0, h1⟩, h2⟩ := h
   rw [eqN_eq.1 h0, eqO_eq h1, eqO_eq h2]
  all_goals cases h
 case mnmx a0 a1 =>
  cases y
  case mnmx b0 b1 =>
   simp only [eqOp, Bool.and_eq_true] at h
   obtain ⟨h0, h1⟩ := h
   rw [eqB_eq.1 h0, eqOs_eq h1]
  all_goals cases h
 case call a0 a1 =>
  cases y
  case call b0 b1 =>
   simp only [eqOp, Bool.and_eq_true] at h
   obtain ⟨h0, h1⟩ := h
   rw [eqO_eq h0, eqOs_eq h1]
  all_goals cases h
 case mkf a0 a1 a2 =>
  cases y
  case mkf b0 b1 b2 =>
   simp only [eqOp, Bool.and_eq_true] at h
   obtain ⟨⟨h0, h1⟩, h2⟩ := h
   rw [eqFn_eq h0, eqOs_eq h1, eqOs_eq h2]
  all_goals cases h
 case nilchk a0 =>
  cases y
  case nilchk b0 =>
   simp only [eqOp, Bool.and_eq_true] at h
   have h0 := h
   rw [eqO_eq h0]
  all_goals cases h
 case mki a0 a1 =>
  cases y
  case mki b0 b1 =>
   simp only [eqOp, Bool.and_eq_true] at h
   obtain ⟨h0, h1⟩ := h
   rw [eqN_eq.1 h0, eqO_eq h1]
  all_goals cases h
 case panic a0 =>
  cases y
  case panic b0 =>
   simp only [eqOp, Bool.and_eq_true] at h
   have h0 := h
   rw [eqO_eq h0]
  all_goals cases h
 case calln a0 a1 a2 =>
  cases y
  case calln b0 b1 b2 =>
   simp only [eqOp, Bool.and_eq_true] at h
   obtain ⟨⟨h0, h1⟩, h2⟩ := h
   rw [eqN_eq.1 h0, eqO_eq h1, eqOs_eq h2]
  all_goals cases h
 case idxB a0 a1 =>
  cases y
  case idxB b0 b1 =>
   simp only [eqOp, Bool.and_eq_true] at h
   obtain ⟨h0, h1⟩ := h
   rw [eqO_eq h0, eqO_eq h1]
  all_goals cases h
 case slcA a0 a1 a2 a3 a4 =>
  cases y
  case slcA b0 b1 b2 b3 b4 =>
   simp only [eqOp, Bool.and_eq_true] at h
   obtain ⟨⟨⟨⟨h0, h1⟩, h2⟩, h3⟩, h4⟩ := h
   rw [eqN_eq.1 h0, eqN_eq.1 h1, eqO_eq h2, eqOO_eq h3, eqOO_eq h4]
  all_goals cases h
 case idxVal a0 a1 a2 a3 a4 =>
  cases y
  case idxVal b0 b1 b2 b3 b4 =>
   simp only [eqOp, Bool.and_eq_true] at h
   obtain ⟨⟨⟨⟨h0, h1⟩, h2⟩, h3⟩, h4⟩ := h
   rw [eqN_eq.1 h0, eqN_eq.1 h1, eqON_eq h2, eqO_eq h3, eqO_eq h4]
  all_goals cases h
 case calld a0 a1 =>
  cases y
  case calld b0 b1 =>
   simp only [eqOp, Bool.and_eq_true] at h
   obtain ⟨h0, h1⟩ := h
   rw [eqO_eq h0, eqOs_eq h1]
  all_goals cases h
 case vlit a0 a1 a2 a3 a4 =>
  cases y
  case vlit b0 b1 b2 b3 b4 =>
   simp only [eqOp, Bool.and_eq_true] at h
   obtain ⟨⟨⟨⟨h0, h1⟩, h2⟩, h3⟩, h4⟩ := h
   rw [eqN_eq.1 h0, eqN_eq.1 h1, eqN_eq.1 h2, eqL_eq h3, eqNO_eq h4]
  all_goals cases h
 case vmake a0 a1 a2 a3 a4 a5 a6 =>
  cases y
  case vmake b0 b1 b2 b3 b4 b5 b6 =>
   simp only [eqOp, Bool.and_eq_true] at h
   obtain ⟨⟨⟨⟨⟨⟨h0, h1⟩, h2⟩, h3⟩, h4⟩, h5⟩, h6⟩ := h
   rw [eqB_eq.1 h0, eqN_eq.1 h1, eqN_eq.1 h2, eqN_eq.1 h3, eqL_eq h4, eqO_eq h5, eqO_eq h6]
  all_goals cases h
 case vapp a0 a1 a2 a3 a4 =>
  cases y
  case vapp b0 b1 b2 b3 b4 =>
   simp only [eqOp, Bool.and_eq_true] at h
   obtain ⟨⟨⟨⟨h0, h1⟩, h2⟩, h3⟩, h4⟩ := h
   rw [eqN_eq.1 h0, eqN_eq.1 h1, eqN_eq.1 h2, eqO_eq h3, eqO_eq h4]
  all_goals cases h
 case frz a0 =>
  cases y
  case frz b0 =>
   simp only [eqOp, Bool.and_eq_true] at h
   have h0 := h
   rw [eqO_eq h0]
  all_goals cases h
 case mkmap =>
  cases y
  case mkmap => rfl
  all_goals cases h
 case mlook a0 a1 a2 a3 a4 =>
  cases y
  case mlook b0 b1 b2 b3 b4 =>
   simp only [eqOp, Bool.and_eq_true] at h
   obtain ⟨⟨⟨⟨h0, h1⟩, h2⟩, h3⟩, h4⟩ := h
   rw [eqB_eq.1 h0, eqF_eq h1, eqF_eq h2, eqO_eq h3, eqO_eq h4]
  all_goals cases h
 case mupd a0 a1 a2 a3 =>
  cases y
  case mupd b0 b1 b2 b3 =>
   simp only [eqOp, Bool.and_eq_true] at h
   obtain ⟨⟨⟨h0, h1⟩, h2⟩, h3⟩ := h
   rw [eqF_eq h0, eqO_eq h1, eqO_eq h2, eqO_eq h3]
  all_goals cases h
 case slc3 a0 a1 a2 a3 a4 =>
  cases y
  case slc3 b0 b1 b2 b3 b4 =>
   simp only [eqOp, Bool.and_eq_true] at h
   obtain ⟨⟨⟨⟨h0, h1⟩, h2⟩, h3⟩, h4⟩ := h
   rw [eqN_eq.1 h0, eqO_eq h1, eqOO_eq h2, eqO_eq h3, eqO_eq h4]
  all_goals cases h
 case slcn a0 a1 a2 a3 =>
  cases y
  case slcn b0 b1 b2 b3 =>
   simp only [eqOp, Bool.and_eq_true] at h
   obtain ⟨⟨⟨h0, h1⟩, h2⟩, h3⟩ := h
   rw [eqN_eq.1 h0, eqO_eq h1, eqOO_eq h2, eqOO_eq h3]
  all_goals cases h
 case capn a0 =>
  cases y
  case capn b0 =>
   simp only [eqOp, Bool.and_eq_true] at h
   have h0 := h
   rw [eqO_eq h0]
  all_goals cases h
 case boxn a0 =>
  cases y
  case boxn b0 =>
   simp only [eqOp, Bool.and_eq_true] at h
   have h0 := h
   rw [eqO_eq h0]
  all_goals cases h
 case lenm a0 =>
  cases y
  case lenm b0 =>
   simp only [eqOp, Bool.and_eq_true] at h
   have h0 := h
   rw [eqO_eq h0]
  all_goals cases h
 case vappn a0 a1 a2 a3 a4 a5 =>
  cases y
  case vappn b0 b1 b2 b3 b4 b5 =>
   simp only [eqOp, Bool.and_eq_true] at h
   obtain ⟨⟨⟨⟨⟨h0, h1⟩, h2⟩, h3⟩, h4⟩, h5⟩ := h
   rw [eqN_eq.1 h0, eqN_eq.1 h1, eqN_eq.1 h2, eqL_eq h3, eqO_eq h4, eqO_eq h5]
  all_goals cases h
 case stuck =>
  cases y
  case stuck => rfl
  all_goals cases h
def eqOper (x y : DOper) : Bool := eqON x.dst y.dst && eqOp x.op y.op && (match x.guard, y.guard with
 | none, none => true
 | some (a, b), some (c, d) => eqN a c && eqB b d
 | _, _ => false)
theorem eqOper_eq {x y : DOper} (h : eqOper x y = true) : x = y := by
 obtain ⟨d, o, g⟩ := x
 obtain ⟨d', o', g'⟩ := y
 simp only [eqOper, Bool.and_eq_true] at h
 obtain ⟨⟨h1, h2⟩, h3⟩ := h
 rw [eqON_eq h1, eqOp_eq h2]
 rcases g with _ | ⟨a, b⟩ <;> rcases g' with _ | ⟨c, d⟩ <;> simp [eqN_eq, eqB_eq] at h3
 ·rfl
 ·rw [h3.1, h3.2]
def eqOpers : List DOper → List DOper → Bool
 | [], [] => true
 | a :: l, b :: m => eqOper a b && eqOpers l m
 | _, _ => false
theorem eqOpers_eq : ∀ {a b : List DOper}, eqOpers a b = true → a = b
 | [], b, h => by cases b <;> simp_all [eqOpers]
 | a :: l, b, h => by
  cases b <;> simp [eqOpers] at h
  rw [eqOper_eq h.1, eqOpers_eq h.2]
def eqAlts : List (List DOper) → List (List DOper) → Bool
 | [], [] => true
 | a :: l, b :: m => eqOpers a b && eqAlts l m
 | _, _ => false
theorem eqAlts_eq : ∀ {a b : List (List DOper)}, eqAlts a b = true → a = b
 | [], b, h => by cases b <;> simp_all [eqAlts]
 | a :: l, b, h => by
  cases b <;> simp [eqAlts] at h
  rw [eqOpers_eq h.1, eqAlts_eq h.2]
def eqCode : ACode → ACode → Bool
 | .skip, .skip => true
 | .region a, .region b => eqOpers a b
 | .draw a b, .draw c d => eqOpers a c && eqAlts b d
 | .seq a b, .seq c d => eqCode a c && eqCode b d
 | .cond k a b, .cond l c d => eqO k l && eqCode a c && eqCode b d
 | .block i a, .block j b => eqN i j && eqCode a b
 | .loop c x y a, .loop d z w b => eqB c d && eqBs x z && eqBs y w && eqCode a b
 | .rangeFn f p s a b, .rangeFn g q t c d => eqO f g && eqNs p q && eqBs s t && eqCode a c && eqCode b d
 | .exit i, .exit j => eqN i j
 | .ret, .ret => true
 | .stuck, .stuck => true
 | _, _ => false
theorem eqCode_eq : ∀ {x y : ACode}, eqCode x y = true → x = y := by
 intro x
 induction x with
 | skip => intro y h; cases y <;> first | rfl | cases h
 | region a =>
  intro y h
  cases y <;> simp [eqCode] at h
  rw [eqOpers_eq h]
 | draw a b =>
  intro y h
  cases y <;> simp [eqCode] at h
  rw [eqOpers_eq h.1, eqAlts_eq h.2]
 | seq a b iha ihb =>
  intro y h
  cases y <;> simp [eqCode] at h
  rw [iha h.1, ihb h.2]
 | cond k a b iha ihb =>
  intro y h
  cases y <;> simp [eqCode] at h
  rw [eqO_eq h.1.1, iha h.1.2, ihb h.2]
 | block i a ih =>
  intro y h
  cases y <;> simp [eqCode] at h
  rw [eqN_eq.1 h.1, ih h.2]
 | loop c x z a ih =>
  intro y h
  cases y <;> simp [eqCode] at h
  rw [eqB_eq.1 h.1.1.1, eqBs_eq h.1.1.2, eqBs_eq h.1.2, ih h.2]
 | rangeFn f p s a b iha ihb =>
  intro y h
  cases y <;> simp [eqCode] at h
  rw [eqO_eq h.1.1.1.1, eqNs_eq h.1.1.1.2, eqBs_eq h.1.1.2, iha h.1.2, ihb h.2]
 | exit i =>
  intro y h
  cases y <;> simp [eqCode] at h
  rw [eqN_eq.1 h]
 | ret => intro y h; cases y <;> first | rfl | cases h
 | stuck => intro y h; cases y <;> first | rfl | cases h
def eqSt : LSt → LSt → Bool
 | .ready, .ready => true
 | .busy, .busy => true
 | .done a, .done b => eqON a b
 | _, _ => false
theorem eqSt_eq {a b : LSt} (h : eqSt a b = true) : a = b := by
 cases a <;> cases b <;> simp [eqSt] at h
 ·rfl
 ·rfl
 ·rw [eqON_eq h]
def eqR : Res → Res → Bool
 | .vec s l f e, .vec s' l' f' e' => s == s' && eqLL l l' && f == f' && e == e'
 | .map l, .map m => eqPs l m
 | .box l t, .box m u => eqVs l m && t == u
 | .nilrow, .nilrow => true
 | .row a b c, .row d e f => a == d && b == e && c == f
 | .iter s p, .iter t q => decide (s.data.toList = t.data.toList) && p == q
 | .dead, .dead => true
 | .loop p a b s t, .loop q c d u v => eqNs p q && eqCode a c && eqCode b d && eqVs s u && eqSt t v
 | _, _ => false
theorem eqR_eq : ∀ {x y : Res}, eqR x y = true → x = y
 | .vec s l f e, y, h => by
  cases y <;> simp [eqR] at h
  rw [h.1.1.1, eqLL_eq h.1.1.2, h.1.2, h.2]
 | .map l, y, h => by
  cases y <;> simp [eqR] at h
  rw [eqPs_eq h]
 | .box l t, y, h => by
  cases y <;> simp [eqR] at h
  rw [eqVs_eq h.1, h.2]
 | .nilrow, y, h => by cases y <;> simp_all [eqR]
 | .row .., y, h => by cases y <;> simp_all [eqR]
 | .iter s p, y, h => by
  cases y <;> simp [eqR] at h
  rw [h.2]
  congr 1
  exact ByteArray.ext h.1
 | .dead, y, h => by cases y <;> simp_all [eqR]
 | .loop p a b s t, y, h => by
  cases y <;> simp [eqR] at h
  rw [eqNs_eq h.1.1.1.1, eqCode_eq h.1.1.1.2, eqCode_eq h.1.1.2, eqVs_eq h.1.2, eqSt_eq h.2]
def eqRs : List Res → List Res → Bool
 | [], [] => true
 | x :: xs, y :: ys => eqR x y && eqRs xs ys
 | _, _ => false
theorem eqRs_eq : ∀ {x y : List Res}, eqRs x y = true → x = y
 | [], y, h => by cases y <;> simp_all [eqRs]
 | x :: xs, y, h => by
  cases y <;> simp [eqRs] at h
  rw [eqR_eq h.1, eqRs_eq h.2]
def sameB (call : Cle → List DV → List Res → Option DOut) (alts : List (List DOper)) (a : List DV) (h : List Res) (a' : List DV) (h' : List Res) : Bool := alts.all fun l => match dops call l a h with
 | some (.normal, a1, h1) => eqVs a1 a' && eqRs h1 h'
 | _ => false
theorem sameB_eq {call : Cle → List DV → List Res → Option DOut} {alts : List (List DOper)} {a : List DV} {h : List Res} {a' : List DV} {h' : List Res} (hs : sameB call alts a h a' h' = true) : same call alts a h (.normal, a', h') = true := by
 simp only [sameB, List.all_eq_true] at hs
 simp only [same, decide_eq_true_eq]
 intro l hl
 have := hs l hl
 split at this
 ·rename_i a1 h1 hd
  simp only [Bool.and_eq_true] at this
  rw [hd, eqVs_eq this.1, eqRs_eq this.2]
 ·cases this
section
variable (call : Cle → List DV → List Res → Option DOut) (loop : LoopF)
def cexec : ACode → List DV → List Res → Option DRun
 | .skip, a, h => some (.normal, a, h)
 | .region ops, a, h => dops call ops a h
 | .draw ops alts, a, h => match dops call ops a h with
  | some (.normal, a', h') => if sameB call alts a h a' h' then some (.normal, a', h') else none
  | _ => none
 | .seq c d, a, h => match cexec c a h with
  | some (.normal, a', h') => cexec d a' h'
  | r => r
 | .cond c t e, a, h => match ev a c with
  | .d (.bool b) => if b then cexec t a h else cexec e a h
  | _ => none
 | .block id c, a, h => match cexec c a h with
  | some (.exit i, a', h') => if i = id then some (.normal, a', h') else some (.exit i, a', h')
  | r => r
 | .loop cut hd ex c, a, h => loop h.length cut hd ex c (mask hd a) h
 | .rangeFn f ps sn as_ bd, a, h => match ev a f with
  | .yld _ => none
  | fv => match dcallV call fv [.yld h.length] (h ++ [.loop ps as_ bd (mask sn a) .ready]) with
   | some (.val _ h') => match h'[h.length]? with
    | some (.loop _ _ _ _ .ready) => some (.normal, a, h'.take h.length)
    | some (.loop _ _ _ _ (.done (some i))) => some (.exit i, a, h'.take h.length)
    | some (.loop _ _ _ _ (.done none)) => some (.ret, a, h'.take h.length)
    | _ => none
   | _ => none
 | .exit id, a, h => some (.exit id, a, h)
 | .ret, a, h => some (.ret, a, h)
 | .stuck, _, _ => none
theorem cexec_eq : ∀ {A : ACode} {a : List DV} {h : List Res} {r : DRun}, cexec call loop A a h = some r → dexec call loop A a h = some r := by
 intro A
 induction A with
 | skip => intro a h r hr; exact hr
 | region ops => intro a h r hr; exact hr
 | draw ops alts =>
  intro a h r hr
  simp only [cexec, dexec] at hr ⊢
  split at hr
  ·rename_i a1 h1 hm
   split at hr
   ·rename_i hs
    rw [hm]
    simp only
    rw [if_pos (sameB_eq hs)]
    exact hr
   ·cases hr
  ·cases hr
 | seq x y ihx ihy =>
  intro a h r hr
  simp only [cexec, dexec] at hr ⊢
  cases hx : cexec call loop x a h with
  | none => rw [hx] at hr; cases hr
  | some q =>
   rw [hx] at hr
   rw [ihx hx]
   obtain ⟨e, a1, h1⟩ := q
   cases e with
   | normal => exact ihy hr
   | _ => exact hr
 | cond k x y ihx ihy =>
  intro a h r hr
  simp only [cexec, dexec] at hr ⊢
  split at hr
  ·rename_i b eb
   rw [eb]
   cases b with
   | true => exact ihx (by simpa using hr)
   | false => exact ihy (by simpa using hr)
  ·cases hr
 | block id b ih =>
  intro a h r hr
  simp only [cexec, dexec] at hr ⊢
  cases hx : cexec call loop b a h with
  | none => rw [hx] at hr; cases hr
  | some q =>
   rw [hx] at hr
   rw [ih hx]
   exact hr
 | loop cut hd ex b ih => intro a h r hr; exact hr
 | rangeFn f ps sn as_ bd _ _ => intro a h r hr; exact hr
 | exit id => intro a h r hr; exact hr
 | ret => intro a h r hr; exact hr
 | stuck => intro a h r hr; cases hr
def cyield (id : Nat) (args : List DV) (h : List Res) : Option DOut :=
 match h[id]? with
 | some (.loop ps as_ bd snap .ready) =>
  if args.length = ps.length then
   match cexec call loop as_ (setAll snap ps args) h with
   | some (.normal, a1, h1) => match h1[id]? with
    | some (.loop _ _ _ _ .ready) => match markLoop id .busy h1 with
     | some h1 => match cexec call loop bd a1 h1 with
      | some (.normal, _, h2) => endLoop id h.length .ready h2
      | some (.exit i, _, h2) => endLoop id h.length (.done (some i)) h2
      | some (.ret, _, h2) => endLoop id h.length (.done none) h2
      | _ => none
     | none => none
    | _ => none
   | _ => none
  else none
 | _ => none
theorem cyield_eq {id : Nat} {args : List DV} {h : List Res} {r : DOut} (hr : cyield call loop id args h = some r) : dyield call loop id args h = some r := by
 unfold cyield at hr
 unfold dyield
 split at hr
 ·rename_i ps A B snap hh
  split at hr
  ·rename_i hl
   rw [hh]
   simp only
   rw [if_pos hl]
   split at hr
   ·rename_i a1 h1 hA
    rw [cexec_eq call loop hA]
    simp only
    split at hr
    ·rename_i hrd
     rw [hrd]
     simp only
     split at hr
     ·rename_i h2 hm
      rw [hm]
      simp only
      cases hB : cexec call loop B a1 h2 with
      | none => rw [hB] at hr; cases hr
      | some q => rw [hB] at hr; rw [cexec_eq call loop hB]; exact hr
     ·cases hr
    ·cases hr
   ·cases hr
  ·cases hr
 ·cases hr
def cround (n0 : Nat) (cut : Bool) (hd ex : List Bool) (c : ACode) (a : List DV) (h : List Res) : Option DRun :=
 match cexec call loop c a h with
 | some (.normal, a', h') => if trims cut n0 (mask hd a') then loop n0 cut hd ex c (mask hd a') (trim cut n0 h') else none
 | some (.pan v, a', h') => some (.pan v, a', h')
 | some (e, a', h') => if trims cut n0 (mask ex a') then some (e, mask ex a', trim cut n0 h') else none
 | none => none
theorem cround_eq {n0 : Nat} {cut : Bool} {hd ex : List Bool} {c : ACode} {a : List DV} {h : List Res} {r : DRun} (hr : cround call loop n0 cut hd ex c a h = some r) : dround call loop n0 cut hd ex c a h = some r := by
 unfold cround at hr
 unfold dround
 cases hx : cexec call loop c a h with
 | none => rw [hx] at hr; cases hr
 | some q =>
  rw [hx] at hr
  rw [cexec_eq call loop hx]
  exact hr
def cpre : List ACode → List DV → List Res → Option DRun
 | [], a, h => some (.normal, a, h)
 | c :: cs, a, h => match cexec call loop c a h with
  | some (.normal, a', h') => cpre cs a' h'
  | r => r
theorem cpre_eq : ∀ {A : List ACode} {a : List DV} {h : List Res} {r : DRun}, cpre call loop A a h = some r → dpre call loop A a h = some r
 | [], a, h, r, hr => hr
 | x :: xs, a, h, r, hr => by
  simp only [cpre] at hr
  simp only [dpre]
  cases hx : cexec call loop x a h with
  | none => rw [hx] at hr; cases hr
  | some q =>
   rw [hx] at hr
   rw [cexec_eq call loop hx]
   obtain ⟨e, a1, h1⟩ := q
   cases e with
   | normal => exact cpre_eq hr
   | _ => exact hr
def clast (g : DGuard) (cs : List DV) (v : DV) (a : List DV) (h : List Res) : Option DRun :=
 match cexec call loop g.code (mvs g.ops ((cs ++ List.replicate (g.ntmps - cs.length) (DV.d .undef)).set g.dst v)) h with
 | some (.normal, _, h') => some (.ret, a, h')
 | some (.ret, _, h') => some (.ret, a, h')
 | _ => none
theorem clast_eq {g : DGuard} {cs : List DV} {v : DV} {a : List DV} {h : List Res} {r : DRun} (hr : clast call loop g cs v a h = some r) : dlast call loop g cs v a h = some r := by
 unfold clast at hr
 unfold dlast
 cases hx : cexec call loop g.code (mvs g.ops ((cs ++ List.replicate (g.ntmps - cs.length) (DV.d .undef)).set g.dst v)) h with
 | none => rw [hx] at hr; cases hr
 | some q =>
  rw [hx] at hr
  rw [cexec_eq call loop hx]
  exact hr
def crun (F : AFunc) (a : List DV) (h : List Res) : Option DRun := match F.guard with
 | none => cexec call loop F.body a h
 | some g => match cpre call loop g.pre a h with
  | some (.normal, a1, h1) => if g.slot < a1.length then (match cexec call loop F.body (a1.set g.slot (.d .undef)) h1 with
   | some (.pan v, a2, h2) => clast call loop g (g.caps.map (ev a1)) v a2 h2
   | some (.normal, a2, h2) => clast call loop g (g.caps.map (ev a1)) (.d .nili) a2 h2
   | some (.ret, a2, h2) => clast call loop g (g.caps.map (ev a1)) (.d .nili) a2 h2
   | _ => none) else none
  | some (.ret, a1, h1) => some (.ret, a1, h1)
  | _ => none
theorem crun_eq {F : AFunc} {a : List DV} {h : List Res} {r : DRun} (hr : crun call loop F a h = some r) : drun call loop F a h = some r := by
 unfold crun at hr
 unfold drun
 cases hg : F.guard with
 | none =>
  rw [hg] at hr
  exact cexec_eq call loop hr
 | some g =>
  rw [hg] at hr
  simp only at hr ⊢
  cases hx : cpre call loop g.pre a h with
  | none => rw [hx] at hr; cases hr
  | some q =>
   rw [hx] at hr
   rw [cpre_eq call loop hx]
   obtain ⟨e, a1, h1⟩ := q
   cases e with
   | normal =>
    simp only at hr ⊢
    split at hr
    ·rename_i hs
     rw [if_pos hs]
     cases hy : cexec call loop F.body (a1.set g.slot (.d .undef)) h1 with
     | none => rw [hy] at hr; cases hr
     | some q2 =>
      rw [hy] at hr
      rw [cexec_eq call loop hy]
      obtain ⟨e2, a2, h2⟩ := q2
      cases e2 with
      | exit i => cases hr
      | _ => exact clast_eq call loop hr
    ·cases hr
   | _ => exact hr
def cbody (F : AFunc) (args : List DV) (h : List Res) : Option DOut :=
 match crun call loop F (args ++ List.replicate (F.ntmps - args.length) (.d .undef)) h with
 | some (.pan v, _, h') => if v.low h.length then some (.pan v (h'.take h.length)) else none
 | some (.normal, a, h') | some (.ret, a, h') => match F.results.mapM (dresult a h') with
  | some rs => if (dresults (F.keep == 0 && F.coe) rs).low (h.length + F.keep) then some (.val (dresults (F.keep == 0 && F.coe) rs) (h'.take (h.length + F.keep))) else none
  | none => none
 | _ => none
theorem cbody_eq {F : AFunc} {args : List DV} {h : List Res} {r : DOut} (hr : cbody call loop F args h = some r) : dbody call loop F args h = some r := by
 unfold cbody at hr
 unfold dbody
 cases hx : crun call loop F (args ++ List.replicate (F.ntmps - args.length) (.d .undef)) h with
 | none => rw [hx] at hr; cases hr
 | some q =>
  rw [hx] at hr
  rw [crun_eq call loop hx]
  exact hr
def ccall (E : Env) (c : Cle) (args : List DV) (h : List Res) : Option DOut := match c with
 | .fn f => match E.ext f with
  | some F => F args h
  | none => match E.af f with
   | none => none
   | some F =>
    let args' := if F.coe then args.map DV.coe else args
    if F.keep == 0 && args'.all DV.isD then (cbody call loop F args' []).map (withHeap h) else cbody call loop F args' h
 | .yld id => cyield call loop id args h
theorem ccall_eq {E : Env} {c : Cle} {args : List DV} {h : List Res} {r : DOut} (hr : ccall call loop E c args h = some r) : dcall call loop E c args h = some r := by
 cases c with
 | yld id => exact cyield_eq call loop hr
 | fn f =>
  unfold ccall at hr
  unfold dcall dcallF
  simp only at hr ⊢
  cases hF : E.ext f with
  | some F => rw [hF] at hr; exact hr
  | none =>
   rw [hF] at hr
   cases hA : E.af f with
   | none => rw [hA] at hr; cases hr
   | some F =>
    rw [hA] at hr
    simp only at hr ⊢
    generalize (if F.coe then args.map DV.coe else args) = da at hr ⊢
    split at hr
    ·rename_i hda
     rw [if_pos hda]
     simp only [Option.map_eq_some_iff] at hr ⊢
     obtain ⟨o, ho, rfl⟩ := hr
     exact ⟨o, cbody_eq call loop ho, rfl⟩
    ·rename_i hda
     rw [if_neg hda]
     exact cbody_eq call loop hr
end
def crec (E : Env) : Nat → (Cle → List DV → List Res → Option DOut) × LoopF
 | 0 => (fun _ _ _ => none, fun _ _ _ _ _ _ _ => none)
 | k + 1 => (ccall (crec E k).1 (crec E k).2 E, cround (crec E k).1 (crec E k).2)
theorem crec_eq (E : Env) : ∀ k, LeC (crec E k).1 (drec E k).1 ∧ LeL (crec E k).2 (drec E k).2
 | 0 => ⟨fun _ _ _ _ h => h, fun _ _ _ _ _ _ _ _ h => h⟩
 | k + 1 => by
  obtain ⟨h1, h2⟩ := crec_eq E k
  refine ⟨fun c a h r hr => ?_, fun n cut hd ex c a h r hr => ?_⟩
  ·exact dcall_mono h1 h2 E c a h r (ccall_eq _ _ hr)
  ·exact dround_mono h1 h2 n cut hd ex c a h r (cround_eq _ _ hr)
theorem D_reckon {E : Env} {f : FuncId} {args : List DV} {h : List Res} {r : DOut} (k : Nat) (hr : (crec E k).1 (.fn f) args h = some r) : D E f args h = some r :=
 D_iff.2 ⟨k, (crec_eq E k).1 _ _ _ _ hr⟩
def Env.over (E : Env) (g : FuncId) (F : List DV → List Res → Option DOut) : Env := { af := E.af, ext := fun k => if k = g then some F else E.ext k }
theorem over_le {E : Env} {g : FuncId} {F : List DV → List Res → Option DOut} (hF : ∀ a h r, F a h = some r → D E g a h = some r) : ∀ k, LeC (drec (E.over g F) k).1 (Dc E) ∧ LeL (drec (E.over g F) k).2 (L E)
 | 0 => ⟨fun _ _ _ _ h => by simp [drec] at h, fun _ _ _ _ _ _ _ _ h => by simp [drec] at h⟩
 | k + 1 => by
  obtain ⟨h1, h2⟩ := over_le hF k
  refine ⟨fun c a h r hr => ?_, fun n cut hd ex c a h r hr => ?_⟩
  ·cases c with
   | yld id =>
    rw [Dc_eq]
    exact dcall_mono h1 h2 E _ a h r hr
   | fn f =>
    by_cases hfg : f = g
    ·subst hfg
     simp only [drec, dcall, dcallF, Env.over, if_true] at hr
     exact hF _ _ _ hr
    ·rw [Dc_eq]
     refine dcall_mono h1 h2 E _ a h r ?_
     simp only [drec, dcall] at hr ⊢
     unfold dcallF at hr ⊢
     simp only [Env.over, if_neg hfg] at hr
     exact hr
  ·rw [L_eq]
   exact dround_mono h1 h2 n cut hd ex c a h r hr
theorem D_reckon_over {E : Env} {g f : FuncId} {F : List DV → List Res → Option DOut} {args : List DV} {h : List Res} {r : DOut} (hF : ∀ a h r, F a h = some r → D E g a h = some r) (k : Nat) (hr : (crec (E.over g F) k).1 (.fn f) args h = some r) : D E f args h = some r :=
 (over_le hF k).1 _ _ _ _ ((crec_eq _ k).1 _ _ _ _ hr)
end Go.Deepv
namespace Go.Proofs.Ytnhpfocibedoeaa.Codes
open Go Go.Deepv
def cut0 (n : Int) (s : Nat) : Int := n - 1 - (if (1048576 : Int) < s then 1048576 else (s : Int))
theorem cut0_le (n : Int) (s : Nat) : cut0 n s ≤ n - 1 := by unfold cut0; split <;> omega
theorem cut0_ge (n : Int) (s : Nat) : n - 2097153 ≤ cut0 n s := by unfold cut0; split <;> omega
mutual
def lightT : Ty → Int → Int
 | .mk _ s l, n => lightTs l (cut0 n s.size)
def lightTs : List Ty → Int → Int
 | [], n => n
 | x :: l, n => if 0 ≤ n then lightTs l (lightT x n) else n
end
mutual
theorem lightT_le : ∀ (v : Ty) (n : Int), lightT v n ≤ n - 1
 | .mk _ s l, n => by
  have := lightTs_le l (cut0 n s.size)
  have := cut0_le n s.size
  unfold lightT; omega
theorem lightTs_le : ∀ (l : List Ty) (n : Int), lightTs l n ≤ n
 | [], n => by unfold lightTs; omega
 | x :: l, n => by
  have := lightT_le x n
  have := lightTs_le l (lightT x n)
  unfold lightTs; split <;> omega
end
mutual
theorem lightT_ge : ∀ (v : Ty) (n : Int), 0 ≤ n → -2097153 ≤ lightT v n
 | .mk _ s l, n, h => by
  have := lightTs_ge l (cut0 n s.size) (by have := cut0_ge n s.size; omega)
  unfold lightT; omega
theorem lightTs_ge : ∀ (l : List Ty) (n : Int), -2097153 ≤ n → -2097153 ≤ lightTs l n
 | [], n, h => by unfold lightTs; omega
 | x :: l, n, h => by
  unfold lightTs; split
  ·rename_i h0
   exact lightTs_ge l (lightT x n) (lightT_ge x n h0)
  ·omega
end
set_option maxHeartbeats 4000000 in
theorem loop6 (k : Int) (s : ByteArray) (ls : List Ty) (ih0 : ∀ x ∈ ls, ∀ n h, 0 ≤ n → n ≤ 3000 → D env 6 [.d (.agg x.enc), .d (.int .i64 n)] h = some (.val (.d (.int .i64 (lightT x n))) h)) :
  ∃ K, L env 0 true H6L3 X6L3 B6L3 = K ∧ ∀ (l : List Ty) (i : Nat) (n : Int), ls.drop i = l → i ≤ ls.length → n + i ≤ 3000 → -2097153 ≤ n →
  K (den 32 [(1, .d (.int .i64 n)), (2, .d (.ref [.int .i64 k, .str s, .slice 3 (Ty.encs ls)] 0)), (5, .d (.int .i64 (i : Int)))]) [] = some (.exit 0, den 32 [(1, .d (.int .i64 (lightTs l n)))], []) := by
 obtain ⟨K, hK⟩ : ∃ K, L env 0 true H6L3 X6L3 B6L3 = K := ⟨_, rfl⟩
 refine ⟨K, hK, ?_⟩
 intro l
 induction l with
 | nil =>
  intro i n hl hi h1 h2
  have : ls.length ≤ i := List.drop_eq_nil_iff.1 hl
  have e2 : ¬ (i : Int) < (ls.length : Int) := by omega
  rw [L_rnd hK]
  simp (maxSteps := 9999999) -implicitDefEqProofs only [B6L3, e2, Ty.encs_len, lightTs, sT, reduceCtorEq, seval, ↓joinK_t, ↓joinK_f, ↓reduceIte]
 | cons x l ih =>
  intro i n hl hi h1 h2
  obtain ⟨hlt, hx, hd⟩ := drop_at hl
  have e2 : (i : Int) < (ls.length : Int) := by omega
  have gx := tencs_at hx
  by_cases c : 0 ≤ n
  ·have w1 : IntKind.i64.wrap ((i : Int) + 1) = ((i + 1 : Nat) : Int) := by rw [wrap_i64 (by omega) (by omega)]; omega
   have e3 := fun h => ih0 x (List.mem_of_getElem? hx) n h c (by omega)
   have := lightT_le x n
   have := lightT_ge x n c
   have ih := ih (i + 1) (lightT x n) hd (by omega) (by omega) (by omega)
   have ge := take_d (tenc_len x)
   rw [L_rnd hK]
   simp (maxSteps := 9999999) -implicitDefEqProofs only [B6L3, e2, gx, w1, c, e3, ih, ge, flat_map, tenc_len, Nat.le_refl, Ty.encs_len, lightTs, sT, reduceCtorEq, seval, ↓joinK_t, ↓joinK_f, ↓reduceIte]
  ·rw [L_rnd hK]
   simp (maxSteps := 9999999) -implicitDefEqProofs only [B6L3, e2, gx, c, Ty.encs_len, lightTs, sT, reduceCtorEq, seval, ↓joinK_t, ↓joinK_f, ↓reduceIte]
theorem min_at (n : Nat) : ∃ a, (if (1048576 : Int) < (n : Int) then 1048576 else (n : Int)) = a ∧ 0 ≤ a ∧ a ≤ 1048576 := ⟨_, rfl, by split <;> omega, by split <;> omega⟩
theorem tlight_ok : ∀ (v : Ty) (n : Int) (h : List Res), 0 ≤ n → n ≤ 3000 → D env 6 [.d (.agg v.enc), .d (.int .i64 n)] h = some (.val (.d (.int .i64 (lightT v n))) h) := by
 apply Ty.indA
 intro k s ls ih n h h1 h2
 obtain ⟨K, hK, hk⟩ := loop6 k s ls ih
 have e := hk ls 0 (cut0 n s.size) rfl (by omega) (by have := cut0_le n s.size; omega) (by have := cut0_ge n s.size; omega)
 have w1 : IntKind.i64.wrap (n - 1) = n - 1 := wrap_i64 (by omega) (by omega)
 unfold cut0 at e
 unfold Ty.enc lightT cut0
 obtain ⟨b, hb, b1, b2⟩ := min_at s.size
 rw [hb] at e ⊢
 simp only [Int.ofNat_zero] at e
 have w2 : IntKind.i64.wrap (n - 1 - b) = n - 1 - b := wrap_i64 (by omega) (by omega)
 rw [D_dat (F := A6) rfl rfl rfl rfl]
 simp (maxSteps := 9999999) -implicitDefEqProofs only [A6, B6, hK, e, w1, w2, hb, sT, reduceCtorEq, seval, ↓joinK_t, ↓joinK_f, ↓reduceIte]
def lightC : List Con → Int → Int
 | [], n => n
 | c :: l, n => if 0 ≤ n then lightC l (lightT (.mk 0 c.s c.l) n) else n
theorem lightC_le : ∀ (l : List Con) (n : Int), lightC l n ≤ n
 | [], n => by unfold lightC; omega
 | x :: l, n => by
  have := lightT_le (.mk 0 x.s x.l) n
  have := lightC_le l (lightT (.mk 0 x.s x.l) n)
  unfold lightC; split <;> omega
theorem lightC_ge : ∀ (l : List Con) (n : Int), -2097153 ≤ n → -2097153 ≤ lightC l n
 | [], n, h => by unfold lightC; omega
 | x :: l, n, h => by
  unfold lightC; split
  ·rename_i h0
   exact lightC_ge l _ (lightT_ge _ n h0)
  ·omega
def lightD : List Data → Int → Int
 | [], n => n
 | d :: l, n => if 0 ≤ n then lightD l (lightC d.l (cut0 n d.s.size)) else n
theorem cons_at {l : List Con} {i : Nat} {x : Con} (h : l[i]? = some x) : (l.map Con.enc)[i]? = some [.str x.s, .slice 3 (Ty.encs x.l)] := by simp [h, Con.enc]
theorem data_at {l : List Data} {i : Nat} {x : Data} (h : l[i]? = some x) : (l.map Data.enc)[i]? = some [.int .i64 x.a, .int .i64 x.b, .str x.s, .slice 2 (x.l.map Con.enc)] := by simp [h, Data.enc]
def progF (ds : List Data) : List FV := [.slice 4 (ds.map Data.enc), .slice 15 [], .int .i64 0, .int .i64 0, .int .i64 0, .str ⟨#[]⟩, .slice 3 [], .int .i64 0, .int .i64 0, .int .i64 0, .int .i64 0, .int .i64 0, .slice 1 [], .str ⟨#[]⟩, .slice 8 [], .slice 14 [], .slice 16 []]
set_option maxHeartbeats 4000000 in
theorem loop10c (ds : List Data) (j : Nat) (d : Data) (hj : ds[j]? = some d) :
  ∃ K, L env 0 true H10L7 X10L7 B10L7 = K ∧ ∀ (l : List Con) (i : Nat) (n : Int), d.l.drop i = l → i ≤ d.l.length → n + i ≤ 3000 → -2097153 ≤ n →
  K (den 173 [(1, .d (.int .i64 n)), (2, .d (.ref (progF ds) 0)), (5, .d (.int .i64 (j : Int))), (6, .d (.int .i64 (i : Int)))]) [] = some (.exit 2, den 173 [(1, .d (.int .i64 (lightC l n))), (2, .d (.ref (progF ds) 0)), (5, .d (.int .i64 (j : Int)))], []) := by
 obtain ⟨K, hK⟩ : ∃ K, L env 0 true H10L7 X10L7 B10L7 = K := ⟨_, rfl⟩
 refine ⟨K, hK, ?_⟩
 have gj := data_at hj
 have hjl : j < ds.length := (List.getElem?_eq_some_iff.1 hj).1
 intro l
 induction l with
 | nil =>
  intro i n hl hi h1 h2
  have : d.l.length ≤ i := List.drop_eq_nil_iff.1 hl
  have e2 : ¬ (i : Int) < (d.l.length : Int) := by omega
  rw [L_rnd hK]
  simp (maxSteps := 9999999) -implicitDefEqProofs only [B10L7, progF, e2, gj, hjl, List.length_map, lightC, sT, reduceCtorEq, seval, ↓joinK_t, ↓joinK_f, ↓reduceIte]
 | cons x l ih =>
  intro i n hl hi h1 h2
  obtain ⟨hlt, hx, hd⟩ := drop_at hl
  have e2 : (i : Int) < (d.l.length : Int) := by omega
  have gx := cons_at hx
  by_cases c : 0 ≤ n
  ·have w1 : IntKind.i64.wrap ((i : Int) + 1) = ((i + 1 : Nat) : Int) := by rw [wrap_i64 (by omega) (by omega)]; omega
   have e3 := fun h => tlight_ok (.mk 0 x.s x.l) n h c (by omega)
   simp only [Ty.enc] at e3
   have := lightT_le (.mk 0 x.s x.l) n
   have := lightT_ge (.mk 0 x.s x.l) n c
   have ih := ih (i + 1) (lightT (.mk 0 x.s x.l) n) hd (by omega) (by omega) (by omega)
   simp only [progF] at ih
   rw [L_rnd hK]
   simp (maxSteps := 9999999) -implicitDefEqProofs only [B10L7, progF, e2, gj, hjl, gx, w1, c, e3, ih, List.length_map, lightC, sT, reduceCtorEq, seval, ↓joinK_t, ↓joinK_f, ↓reduceIte]
  ·rw [L_rnd hK]
   simp (maxSteps := 9999999) -implicitDefEqProofs only [B10L7, progF, e2, gj, hjl, gx, c, List.length_map, lightC, sT, reduceCtorEq, seval, ↓joinK_t, ↓joinK_f, ↓reduceIte]
set_option maxHeartbeats 4000000 in
theorem loop10 (ds : List Data) :
  ∃ K, L env 0 true H10L3 X10L3 B10L3 = K ∧ ∀ (l : List Data) (i : Nat) (n : Int), ds.drop i = l → i ≤ ds.length → n + i ≤ 3000 → -2097153 ≤ n →
  K (den 173 [(1, .d (.int .i64 n)), (2, .d (.ref (progF ds) 0)), (5, .d (.int .i64 (i : Int)))]) [] = some (.exit 0, den 173 [(1, .d (.int .i64 (lightD l n))), (2, .d (.ref (progF ds) 0))], []) := by
 obtain ⟨K, hK⟩ : ∃ K, L env 0 true H10L3 X10L3 B10L3 = K := ⟨_, rfl⟩
 refine ⟨K, hK, ?_⟩
 intro l
 induction l with
 | nil =>
  intro i n hl hi h1 h2
  have : ds.length ≤ i := List.drop_eq_nil_iff.1 hl
  have e2 : ¬ (i : Int) < (ds.length : Int) := by omega
  rw [L_rnd hK]
  simp (maxSteps := 9999999) -implicitDefEqProofs only [B10L3, progF, e2, List.length_map, lightD, sT, reduceCtorEq, seval, ↓joinK_t, ↓joinK_f, ↓reduceIte]
 | cons x l ih =>
  intro i n hl hi h1 h2
  obtain ⟨hlt, hx, hd⟩ := drop_at hl
  have e2 : (i : Int) < (ds.length : Int) := by omega
  have gx := data_at hx
  by_cases c : 0 ≤ n
  ·obtain ⟨K2, hK2, hk2⟩ := loop10c ds i x hx
   have w1 : IntKind.i64.wrap ((i : Int) + 1) = ((i + 1 : Nat) : Int) := by rw [wrap_i64 (by omega) (by omega)]; omega
   have := cut0_le n x.s.size
   have := cut0_ge n x.s.size
   have := lightC_le x.l (cut0 n x.s.size)
   have := lightC_ge x.l (cut0 n x.s.size) (by omega)
   have e := hk2 x.l 0 (cut0 n x.s.size) rfl (by omega) (by omega) (by omega)
   have ih := ih (i + 1) (lightC x.l (cut0 n x.s.size)) hd (by omega) (by omega) (by omega)
   unfold cut0 at e ih
   unfold lightD cut0
   obtain ⟨b, hb, b1, b2⟩ := min_at x.s.size
   rw [hb] at e ih ⊢
   simp only [progF, Int.ofNat_zero] at e ih
   have w2 : IntKind.i64.wrap (n - 1) = n - 1 := wrap_i64 (by omega) (by omega)
   have w3 : IntKind.i64.wrap (n - 1 - b) = n - 1 - b := wrap_i64 (by omega) (by omega)
   rw [L_rnd hK]
   simp (maxSteps := 9999999) -implicitDefEqProofs only [B10L3, progF, e2, gx, w1, w2, w3, c, hb, hK2, e, ih, List.length_map, sT, reduceCtorEq, seval, ↓joinK_t, ↓joinK_f, ↓reduceIte]
  ·rw [L_rnd hK]
   simp (maxSteps := 9999999) -implicitDefEqProofs only [B10L3, progF, e2, gx, c, List.length_map, lightD, sT, reduceCtorEq, seval, ↓joinK_t, ↓joinK_f, ↓reduceIte]
theorem zlight (h : List Res) : D env 15 [.d (.agg [.int .i64 0, .int .i64 0, .int .i64 0, .int .i64 0, .slice 1 [], .str ⟨#[]⟩, .slice 8 [], .slice 14 []]), .d (.int .i64 2999)] h = some (.val (.d (.int .i64 2998)) h) := D_reckon 40 (by kernel_rfl)
theorem ztype (h : List Res) : D env 6 [.d (.agg [.int .i64 0, .str ⟨#[]⟩, .slice 3 []]), .d (.int .i64 3000)] h = some (.val (.d (.int .i64 2999)) h) := D_reckon 40 (by kernel_rfl)
theorem z11 (ds : List Data) (n : Int) : L env 0 true H10L11 X10L11 B10L11 (den 173 [(1, .d (.int .i64 n)), (2, .d (.ref (progF ds) 0)), (7, .d (.int .i64 0))]) [] = some (.exit 4, den 173 [(1, .d (.int .i64 n)), (2, .d (.ref (progF ds) 0))], []) := by
 rw [L_go]
 simp (maxSteps := 9999999) -implicitDefEqProofs only [B10L11, progF, sT, reduceCtorEq, seval, ↓joinK_t, ↓joinK_f, ↓reduceIte]
theorem z20 (ds : List Data) (n : Int) : L env 0 true H10L20 X10L20 B10L20 (den 173 [(1, .d (.int .i64 n)), (2, .d (.ref (progF ds) 0)), (10, .d (.int .i64 0))]) [] = some (.exit 8, den 173 [(1, .d (.int .i64 n))], []) := by
 rw [L_go]
 simp (maxSteps := 9999999) -implicitDefEqProofs only [B10L20, progF, sT, reduceCtorEq, seval, ↓joinK_t, ↓joinK_f, ↓reduceIte]
set_option maxHeartbeats 4000000 in
theorem prog_ok (ds : List Data) (h : List Res) : D env 10 [.d (.agg (progF ds)), .d (.int .i64 3000)] h = some (.val (.d (.int .i64 (lightD ds 2998))) h) := by
 obtain ⟨K, hK, hk⟩ := loop10 ds
 have e := hk ds 0 2998 rfl (by omega) (by omega) (by omega)
 have f1 := z11 ds
 have f2 := z20 ds
 simp only [progF, Int.ofNat_zero] at e f1 f2
 unfold progF
 rw [D_dat (F := A10) rfl rfl rfl rfl]
 simp (maxSteps := 9999999) -implicitDefEqProofs only [A10, B10, hK, e, zlight, ztype, f1, f2, sT, reduceCtorEq, seval, ↓joinK_t, ↓joinK_f, ↓reduceIte]
def datasF (ds : List Data) : FV := .slice 4 (ds.map Data.enc)
theorem tlt {a b : Nat} (h : a ≤ b) : (a : Int) ≤ (b : Int) := by omega
theorem datas_ok (ds : List Data) (h : List Res) : D env 4 [.d (datasF ds)] h = some (.val (.d (.bool (decide ((ds.length : Int) ≤ 60) && decide (0 ≤ lightD ds 2998)))) h) := by
 have e := fun h => prog_ok ds h
 simp only [progF] at e
 unfold datasF
 by_cases c : (ds.length : Int) ≤ 60
 ·rw [D_dat (F := A4) rfl rfl rfl rfl]
  simp (maxSteps := 9999999) -implicitDefEqProofs only [A4, B4, e, c, List.length_map, decide_true, Bool.true_and, sT, reduceCtorEq, seval, ↓joinK_t, ↓joinK_f, ↓reduceIte]
 ·rw [D_dat (F := A4) rfl rfl rfl rfl]
  simp (maxSteps := 9999999) -implicitDefEqProofs only [A4, B4, e, c, List.length_map, decide_false, Bool.false_and, sT, reduceCtorEq, seval, ↓joinK_t, ↓joinK_f, ↓reduceIte]
theorem lightC_len : ∀ (l : List Con) (n : Int), 0 ≤ lightC l n → (l.length : Int) + lightC l n ≤ n
 | [], n, h => by simp [lightC]
 | x :: l, n, h => by
  unfold lightC at h ⊢
  split at h
  ·rename_i h0
   rw [if_pos h0]
   have := lightC_len l _ h
   have := lightT_le (.mk 0 x.s x.l) n
   simp only [List.length_cons]
   omega
  ·omega
theorem lightD_len : ∀ (l : List Data) (n : Int), 0 ≤ lightD l n → lightD l n ≤ n ∧ ∀ d ∈ l, (d.l.length : Int) ≤ n
 | [], n, h => by simp [lightD]
 | x :: l, n, h => by
  unfold lightD at h ⊢
  split at h
  ·rename_i h0
   rw [if_pos h0]
   obtain ⟨a1, a2⟩ := lightD_len l _ h
   have := cut0_le n x.s.size
   have a3 := lightC_len x.l (cut0 n x.s.size) (by omega)
   refine ⟨by omega, fun d hd => ?_⟩
   rcases List.mem_cons.1 hd with e | e
   ·subst e; omega
   ·have := a2 d e; omega
  ·omega
end Go.Proofs.Ytnhpfocibedoeaa.Codes
namespace Go.Proofs.Ytnhpfocibedoeaa.Codes
open Go Go.Deepv
def words : V → Int × Bool
 | .mk k _ bs _ l => if k = 0 then (0, false) else if k = 2 ∧ l.length = 0 then (0, false) else if k = 1 then (2 + ((bs.length : Int) + 7) / 8, false) else (2 + (l.length : Int), true)
theorem wts_len : ∀ l : List V, l.length ≤ wts l
 | [] => by simp
 | x :: l => by
  have := wts_len l
  have : 1 ≤ wt x := by cases x; unfold wt; omega
  simp only [wts, List.length_cons]; omega
theorem words_ok (v : V) (h : List Res) (hw : wt v ≤ 3000) : D env 28 [.d (.agg v.enc)] h = some (.val (.d (.tup [.int .i64 (words v).1, .bool (words v).2])) h) := by
 cases v with
 | mk k n bs s l =>
 unfold V.enc words
 have hb : bs.length ≤ 3000 := by unfold wt at hw; omega
 have w1 : IntKind.i64.wrap ((bs.length : Int) + 7) = (bs.length : Int) + 7 := wrap_i64 (by omega) (by omega)
 have hl : l.length ≤ 3000 := by unfold wt at hw; have := wts_len l; omega
 have w2 : IntKind.i64.wrap (2 + (l.length : Int)) = 2 + (l.length : Int) := wrap_i64 (by omega) (by omega)
 have w3 : ((bs.length : Int) + 7).fdiv (2 ^ min 3 IntKind.i64.bits) = ((bs.length : Int) + 7) / 8 := by
  show ((bs.length : Int) + 7).fdiv 8 = _
  rw [Int.fdiv_eq_ediv_of_nonneg _ (by omega)]
 have w4 : IntKind.i64.wrap (2 + ((bs.length : Int) + 7) / 8) = 2 + ((bs.length : Int) + 7) / 8 := wrap_i64 (by omega) (by omega)
 by_cases c0 : k = 0
 ·subst c0
  rw [D_dat (F := A28) rfl rfl rfl rfl]
  simp (maxSteps := 9999999) -implicitDefEqProofs only [A28, B28, V.encs_len, sT, reduceCtorEq, seval, ↓joinK_t, ↓joinK_f, ↓reduceIte]
 ·by_cases c1 : k = 2
  ·subst c1
   by_cases c2 : l.length = 0
   ·rw [D_dat (F := A28) rfl rfl rfl rfl]
    simp (maxSteps := 9999999) -implicitDefEqProofs only [A28, B28, V.encs_len, c0, c2, sT, reduceCtorEq, seval, ↓joinK_t, ↓joinK_f, ↓reduceIte]
   ·have c3 : ¬ (l.length : Int) = 0 := by omega
    rw [D_dat (F := A28) rfl rfl rfl rfl]
    simp (maxSteps := 9999999) -implicitDefEqProofs only [A28, B28, V.encs_len, c0, c2, c3, w2, sT, reduceCtorEq, seval, ↓joinK_t, ↓joinK_f, ↓reduceIte]
  ·by_cases c2 : k = 1
   ·subst c2
    rw [D_dat (F := A28) rfl rfl rfl rfl]
    simp (maxSteps := 9999999) -implicitDefEqProofs only [A28, B28, V.encs_len, w1, w3, w4, sT, reduceCtorEq, seval, ↓joinK_t, ↓joinK_f, ↓reduceIte]
   ·rw [D_dat (F := A28) rfl rfl rfl rfl]
    simp (maxSteps := 9999999) -implicitDefEqProofs only [A28, B28, V.encs_len, c0, c1, c2, w2, sT, reduceCtorEq, seval, ↓joinK_t, ↓joinK_f, ↓reduceIte]
def cstep (w n m : Int) : Bool × Int := if m - n < w then (false, n) else (true, n + w)
mutual
def cntV (m : Int) : V → Int → Bool × Int
 | .mk k x bs s l, n => if m - n < (words (.mk k x bs s l)).1 then (false, n) else if (words (.mk k x bs s l)).2 = true then cntL m l (n + (words (.mk k x bs s l)).1) else (true, n + (words (.mk k x bs s l)).1)
def cntL (m : Int) : List V → Int → Bool × Int
 | [], n => (true, n)
 | x :: l, n => if (cntV m x n).1 = true then cntL m l (cntV m x n).2 else (false, (cntV m x n).2)
end
theorem words_nn (v : V) : 0 ≤ (words v).1 := by
 cases v with
 | mk k n bs s l =>
 rw [words]
 by_cases c0 : k = 0
 ·rw [if_pos c0]; exact Int.le_refl 0
 ·by_cases c1 : k = 2 ∧ l.length = 0
  ·rw [if_neg c0, if_pos c1]; exact Int.le_refl 0
  ·by_cases c2 : k = 1
   ·rw [if_neg c0, if_neg c1, if_pos c2]; show (0 : Int) ≤ 2 + ((bs.length : Int) + 7) / 8; omega
   ·rw [if_neg c0, if_neg c1, if_neg c2]; show (0 : Int) ≤ 2 + (l.length : Int); omega
theorem total_words (k x : Int) (bs : List (List FV)) (s : ByteArray) (l : List V) : (total (.mk k x bs s l) : Int) = (words (.mk k x bs s l)).1 + (if (words (.mk k x bs s l)).2 = true then (totals l : Int) else 0) := by
 rw [total, words]
 by_cases c0 : k = 0
 ·rw [if_pos c0, if_pos c0]; rfl
 ·by_cases c1 : k = 2 ∧ l.length = 0
  ·rw [if_neg c0, if_pos c1, if_neg c0, if_pos c1]; rfl
  ·by_cases c2 : k = 1
   ·rw [if_neg c0, if_neg c1, if_pos c2, if_neg c0, if_neg c1, if_pos c2]
    simp only [Bool.false_eq_true, if_false]
    omega
   ·rw [if_neg c0, if_neg c1, if_neg c2, if_neg c0, if_neg c1, if_neg c2]
    simp only [if_true]
    omega
mutual
theorem cntV_ok (m : Int) : ∀ (v : V) (n : Int), n ≤ m → n ≤ (cntV m v n).2 ∧ (cntV m v n).2 ≤ m ∧ ((cntV m v n).1 = true ↔ n + total v ≤ m) ∧ ((cntV m v n).1 = true → (cntV m v n).2 = n + total v)
 | .mk k x bs s l, n, h => by
  have hn := words_nn (.mk k x bs s l)
  have hw := total_words k x bs s l
  unfold cntV
  by_cases c : m - n < (words (.mk k x bs s l)).1
  ·rw [if_pos c]
   refine ⟨by simp, by simpa using h, ⟨fun h => by simp at h, fun h => ?_⟩, fun h => by simp at h⟩
   rw [hw] at h
   split at h <;> omega
  ·rw [if_neg c]
   by_cases d : (words (.mk k x bs s l)).2 = true
   ·rw [if_pos d] at hw ⊢
    obtain ⟨a1, a2, a3, a4⟩ := cntL_ok m l (n + (words (.mk k x bs s l)).1) (by omega)
    rw [hw]
    refine ⟨by omega, a2, ?_, fun h => ?_⟩
    ·rw [a3]; constructor <;> intro h <;> omega
    ·rw [a4 h]; omega
   ·rw [if_neg d] at hw ⊢
    rw [hw]
    refine ⟨by simp only; omega, by simp only; omega, ⟨fun _ => by omega, fun _ => rfl⟩, fun _ => by simp only; omega⟩
theorem cntL_ok (m : Int) : ∀ (l : List V) (n : Int), n ≤ m → n ≤ (cntL m l n).2 ∧ (cntL m l n).2 ≤ m ∧ ((cntL m l n).1 = true ↔ n + totals l ≤ m) ∧ ((cntL m l n).1 = true → (cntL m l n).2 = n + totals l)
 | [], n, h => by simp [cntL, totals, h]
 | x :: l, n, h => by
  obtain ⟨b1, b2, b3, b4⟩ := cntV_ok m x n h
  unfold cntL totals
  by_cases c : (cntV m x n).1 = true
  ·rw [if_pos c]
   obtain ⟨a1, a2, a3, a4⟩ := cntL_ok m l (cntV m x n).2 b2
   have := b4 c
   refine ⟨by omega, a2, ?_, fun h => ?_⟩
   ·rw [a3]; constructor <;> intro h <;> omega
   ·rw [a4 h]; omega
  ·rw [if_neg c]
   refine ⟨by simpa using b1, by simpa using b2, ⟨fun h => by simp at h, fun h => ?_⟩, fun h => by simp at h⟩
   have : ¬ (n + total x ≤ m) := fun h => c (b3.2 h)
   omega
end
theorem cnt_size (v : V) (m : Int) (h : 0 ≤ m) : (if (cntV m v 0).1 = true then (cntV m v 0).2 else m + 1) = sizeV v m := by
 obtain ⟨a1, a2, a3, a4⟩ := cntV_ok m v 0 h
 unfold sizeV
 by_cases c : (cntV m v 0).1 = true
 ·rw [if_pos c, a4 c, if_pos (by have := a3.1 c; omega)]; omega
 ·rw [if_neg c, if_neg (fun h => c (a3.2 (by omega)))]
end Go.Proofs.Ytnhpfocibedoeaa.Codes
namespace Go.Proofs.Ytnhpfocibedoeaa.Codes
open Go Go.Deepv
def hs (m r n : Int) (st : LSt) (l : List Res) : List Res := .box [.d (.int .i64 m)] :: .box [.d (.int .i64 r)] :: .box [.d (.int .i64 n)] :: .loop [11] N8R0 B8R0 (den 23 [(3, .ptr 0 0), (4, .ptr 1 0), (5, .ptr 2 0)]) st :: l
theorem hs_app (m r n : Int) (st : LSt) (l x : List Res) : hs m r n st l ++ x = hs m r n st (l ++ x) := rfl
variable {l : List Res} {N : Nat}
theorem hs_len (hN : l.length + 4 = N) (m r n : Int) (st : LSt) : (hs m r n st l).length = N := by subst hN; rfl
theorem hs_lenx (hN : l.length + 4 = N) (m r n : Int) (st : LSt) (x : List Res) : (hs m r n st (l ++ x)).length = N + x.length := by subst hN; simp only [hs, List.length_cons, List.length_append]; omega
theorem hs_at (hN : l.length + 4 = N) (m r n : Int) (st : LSt) (x : List Res) (k : Nat) : (hs m r n st (l ++ x))[N + k]? = x[k]? := by
 subst hN
 rw [show l.length + 4 + k = l.length + k + 4 from by omega]
 show (l ++ x)[l.length + k]? = x[k]?
 rw [List.getElem?_append_right (by omega)]
 congr 1
 omega
theorem hs_set (hN : l.length + 4 = N) (m r n : Int) (st : LSt) (x : List Res) (k : Nat) (y : Res) : (hs m r n st (l ++ x)).set (N + k) y = hs m r n st (l ++ x.set k y) := by
 subst hN
 rw [show l.length + 4 + k = l.length + k + 4 from by omega]
 show _ :: _ :: _ :: _ :: (l ++ x).set (l.length + k) y = _
 rw [List.set_append_right _ _ (by omega), show l.length + k - l.length = k from by omega]
 rfl
theorem hs_take (hN : l.length + 4 = N) (m r n : Int) (st : LSt) (x : List Res) : (hs m r n st (l ++ x)).take N = hs m r n st l := by
 subst hN
 simp [hs]
theorem hs_take0 (hN : l.length + 4 = N) (m r n : Int) (st : LSt) : (hs m r n st l).take N = hs m r n st l := by have := hs_take hN m r n st []; rwa [List.append_nil] at this
def hr (m : Int) (p : Bool × Int) (l : List Res) : List Res := if p.1 = true then hs m 0 p.2 .ready l else hs m (m + 1) p.2 (.done none) l
theorem yield_ok (m n w : Int) (l : List Res) (h0 : 0 ≤ n) (h1 : n ≤ m) (h2 : m ≤ 1048576) (h3 : 0 ≤ w) :
  Y env 3 [.d (.int .i64 w)] (hs m 0 n .ready l) = some (.val (.d (.bool (cstep w n m).1)) (hr m (cstep w n m) l)) := by
 rw [Y_eq]
 unfold dyield hs cstep hr
 have w1 : IntKind.i64.wrap (m - n) = m - n := wrap_i64 (by omega) (by omega)
 have w2 : IntKind.i64.wrap (m + 1) = m + 1 := wrap_i64 (by omega) (by omega)
 by_cases c : m - n < w
 ·rw [if_pos c]
  simp (maxSteps := 9999999) -implicitDefEqProofs only [N8R0, B8R0, w1, w2, c, hs, List.getElem?_cons_zero, List.getElem?_cons_succ, markLoop, endLoop, setAll, List.zip_cons_cons, List.zip_nil_left, List.foldl_cons, List.foldl_nil, den_set, sT, reduceCtorEq, seval, ↓joinK_t, ↓joinK_f, ↓reduceIte]
 ·rw [if_neg c]
  have w3 : IntKind.i64.wrap (n + w) = n + w := wrap_i64 (by omega) (by omega)
  simp (maxSteps := 9999999) -implicitDefEqProofs only [N8R0, B8R0, w1, w3, c, hs, List.getElem?_cons_zero, List.getElem?_cons_succ, markLoop, endLoop, setAll, List.zip_cons_cons, List.zip_nil_left, List.foldl_cons, List.foldl_nil, den_set, sT, reduceCtorEq, seval, ↓joinK_t, ↓joinK_f, ↓reduceIte]
theorem hr_true {m : Int} {p : Bool × Int} {l : List Res} (h : p.1 = true) : hr m p l = hs m 0 p.2 .ready l := by unfold hr; rw [if_pos h]
theorem hr_false {m : Int} {p : Bool × Int} {l : List Res} (h : ¬ p.1 = true) : hr m p l = hs m (m + 1) p.2 (.done none) l := by unfold hr; rw [if_neg h]
theorem hr_take (m : Int) (p : Bool × Int) (l : List Res) : (hr m p l).take (l.length + 4) = hr m p l := by unfold hr; split <;> exact hs_take0 rfl _ _ _ _
set_option maxHeartbeats 4000000 in
theorem loop19 (m : Int) (ks : List V) (hks : ks.length ≤ 3000) (N : Nat) (ih0 : ∀ x ∈ ks, ∀ n l, 0 ≤ n → n ≤ m → D env 19 [.d (.agg x.enc), .yld 3] (hs m 0 n .ready l) = some (.val (.d (.bool (cntV m x n).1)) (hr m (cntV m x n) l))) :
  ∃ K, L env N true H19L6 X19L6 B19L6 = K ∧ ∀ (r : List V) (i : Nat) (n : Int) (l : List Res), ks.drop i = r → i ≤ ks.length → 0 ≤ n → n ≤ m → l.length + 4 = N →
  K (den 31 [(1, .yld 3), (20, .d (.slice 5 (V.encs ks))), (21, .d (.int .i64 (ks.length : Int))), (22, .d (.int .i64 (i : Int)))]) (hs m 0 n .ready l) = some (if (cntL m r n).1 = true then (.exit 0, den 31 [], hr m (cntL m r n) l) else (.ret, den 31 [(4, .d (.bool false))], hr m (cntL m r n) l)) := by
 obtain ⟨K, hK⟩ : ∃ K, L env N true H19L6 X19L6 B19L6 = K := ⟨_, rfl⟩
 refine ⟨K, hK, ?_⟩
 intro r
 induction r with
 | nil =>
  intro i n l hl hi h1 h2 hN
  have : ks.length ≤ i := List.drop_eq_nil_iff.1 hl
  have e2 : ¬ (i : Int) < (ks.length : Int) := by omega
  have t0 := hs_take0 hN m 0 n .ready
  rw [L_rnd hK]
  unfold cntL hr
  simp only [if_true]
  simp (maxSteps := 9999999) -implicitDefEqProofs only [B19L6, e2, t0, sT, reduceCtorEq, seval, ↓joinK_t, ↓joinK_f, ↓reduceIte]
 | cons x r ih =>
  intro i n l hl hi h1 h2 hN
  obtain ⟨hlt, hx, hd⟩ := drop_at hl
  have e2 : (i : Int) < (ks.length : Int) := by omega
  have gx := encs_at hx
  have w1 : IntKind.i64.wrap ((i : Int) + 1) = ((i + 1 : Nat) : Int) := by rw [wrap_i64 (by omega) (by omega)]; omega
  have e3 := fun l => ih0 x (List.mem_of_getElem? hx) n l h1 h2
  obtain ⟨b1, b2, _, _⟩ := cntV_ok m x n h2
  unfold cntL
  have a1 := hs_len hN
  have a2 := hs_lenx hN
  have a3 := hs_at hN
  have a4 := hs_set hN
  have a5 := hs_take hN
  have a6 := hs_take0 hN
  obtain ⟨xk, xn, xb, xs, xl⟩ := x
  simp only [V.enc] at gx e3
  by_cases c : (cntV m (.mk xk xn xb xs xl) n).1 = true
  ·rw [if_pos c]
   have ih := ih (i + 1) (cntV m (.mk xk xn xb xs xl) n).2 l hd (by omega) (by omega) b2 hN
   simp only [c, hr_true c] at e3
   rw [L_rnd hK]
   have q3 : 3 < N := by omega
   simp (maxSteps := 9999999) -implicitDefEqProofs only [B19L6, e2, gx, w1, e3, ih, q3, hs_app, a1, a2, a3, a4, a5, a6, sT, reduceCtorEq, seval, ↓joinK_t, ↓joinK_f, ↓reduceIte]
  ·rw [if_neg c]
   simp only [Bool.not_eq_true] at c
   rw [L_rnd hK]
   have d : ¬ (cntV m (.mk xk xn xb xs xl) n).1 = true := by rw [c]; simp
   simp only [c, hr_false d] at e3
   simp only [hr_false, Bool.false_eq_true, if_false, not_false_eq_true]
   simp (maxSteps := 9999999) -implicitDefEqProofs only [B19L6, e2, gx, w1, e3, hs_app, a1, a2, a3, a4, a5, a6, sT, reduceCtorEq, seval, ↓joinK_t, ↓joinK_f, ↓reduceIte]
theorem wts_mem : ∀ {l : List V} {x : V}, x ∈ l → wt x ≤ wts l
 | y :: l, x, h => by
  rcases List.mem_cons.1 h with e | e
  ·subst e; unfold wts; omega
  ·have := wts_mem e; unfold wts; omega
set_option maxHeartbeats 4000000 in
theorem count_ok (m : Int) (hm : m ≤ 1048576) : ∀ (v : V), wt v ≤ 3000 → ∀ (n : Int) (l : List Res), 0 ≤ n → n ≤ m → D env 19 [.d (.agg v.enc), .yld 3] (hs m 0 n .ready l) = some (.val (.d (.bool (cntV m v n).1)) (hr m (cntV m v n) l)) := by
 apply V.indA
 intro k x bs s ks ih hw n l h1 h2
 have hks : ks.length ≤ 3000 := by unfold wt at hw; have := wts_len ks; omega
 have ih : ∀ x ∈ ks, ∀ n l, 0 ≤ n → n ≤ m → D env 19 [.d (.agg x.enc), .yld 3] (hs m 0 n .ready l) = some (.val (.d (.bool (cntV m x n).1)) (hr m (cntV m x n) l)) := fun x hx => ih x hx (by unfold wt at hw; have := wts_mem hx; omega)
 have hwo := fun h => words_ok (.mk k x bs s ks) h hw
 have hnn := words_nn (.mk k x bs s ks)
 have hy := yield_ok m n (words (.mk k x bs s ks)).1 l h1 h2 hm hnn
 have a1 := hs_len (l := l) rfl
 have a5 := hs_take (l := l) rfl
 have a6 := hs_take0 (l := l) rfl
 unfold cntV
 unfold cstep at hy
 simp only [V.enc] at hwo ⊢
 rw [D_own (F := A19) rfl rfl rfl rfl]
 by_cases c : m - n < (words (.mk k x bs s ks)).1
 ·rw [if_pos c] at hy ⊢
  simp (maxSteps := 9999999) -implicitDefEqProofs only [A19, B19, hwo, hy, a1, a5, a6, hr, sT, reduceCtorEq, seval, ↓joinK_t, ↓joinK_f, ↓reduceIte]
 ·rw [if_neg c] at hy ⊢
  by_cases d : (words (.mk k x bs s ks)).2 = true
  ·rw [if_pos d]
   obtain ⟨K, hK, hk⟩ := loop19 m ks hks (l.length + 4) ih
   have e := hk ks 0 (n + (words (.mk k x bs s ks)).1) l rfl (by omega) (by omega) (by omega) rfl
   simp only [Int.ofNat_zero] at e
   by_cases f : (cntL m ks (n + (words (.mk k x bs s ks)).1)).1 = true
   ·simp only [f, if_true] at e
    simp (maxSteps := 9999999) -implicitDefEqProofs only [A19, B19, hwo, hy, hr_true, a1, a5, a6, d, f, hK, e, hr_take, V.encs_len, sT, reduceCtorEq, seval, ↓joinK_t, ↓joinK_f, ↓reduceIte]
   ·simp only [f, if_false] at e
    simp (maxSteps := 9999999) -implicitDefEqProofs only [A19, B19, hwo, hy, hr_true, a1, a5, a6, d, f, hK, e, hr_take, V.encs_len, sT, reduceCtorEq, seval, ↓joinK_t, ↓joinK_f, ↓reduceIte]
  ·rw [if_neg d]
   simp only [Bool.not_eq_true] at d
   simp (maxSteps := 9999999) -implicitDefEqProofs only [A19, B19, hwo, hy, hr_true, a1, a5, a6, d, sT, reduceCtorEq, seval, ↓joinK_t, ↓joinK_f, ↓reduceIte]
theorem dx_rng (E : Env) (f : Opd) (ps : List Nat) (sn : List Bool) (as_ bd : ACode) (a : List DV) (h : List Res) : dexec (Dc E) (L E) (.rangeFn f ps sn as_ bd) a h = (match ev a f with
  | .yld _ => none
  | fv => match dcallV (Dc E) fv [.yld h.length] (h ++ [.loop ps as_ bd (mask sn a) .ready]) with
   | some (.val _ h') => match h'[h.length]? with
    | some (.loop _ _ _ _ .ready) => some (.normal, a, h'.take h.length)
    | some (.loop _ _ _ _ (.done (some i))) => some (.exit i, a, h'.take h.length)
    | some (.loop _ _ _ _ (.done none)) => some (.ret, a, h'.take h.length)
    | _ => none
   | _ => none) := rfl
theorem venc_one (v : V) : (v.enc.all fun y => y.one) = true := by cases v; rfl
theorem counted_ok (v : V) (h : List Res) : D env 12 [.d (.agg v.enc)] h = some (.val (.d (.func (.func 18) [] [.ref v.enc 0])) h) := by
 rw [D_dat (F := A12) rfl rfl rfl rfl]
 simp (maxSteps := 9999999) -implicitDefEqProofs only [A12, B12, venc_one, sT, reduceCtorEq, seval, ↓joinK_t, ↓joinK_f, ↓reduceIte]
theorem counted1_ok (v : V) (hw : wt v ≤ 3000) (m : Int) (h0 : 0 ≤ m) (hm : m ≤ 1048576) : D env 18 [.yld 3, .d (.ref v.enc 0)] (hs m 0 0 .ready []) = some (.val (.d (.tup [])) (hr m (cntV m v 0) [])) := by
 rw [D_own (F := A18) rfl rfl rfl rfl]
 have e := count_ok m hm v hw 0 [] (by omega) h0
 have a1 := hs_len (l := []) rfl
 have a5 := hr_take m (cntV m v 0) []
 simp only [List.length_nil, Nat.zero_add] at a1 a5
 simp (maxSteps := 9999999) -implicitDefEqProofs only [A18, B18, e, a1, a5, take_d (venc_len v), flat_map, venc_len, Nat.le_refl, sT, reduceCtorEq, seval, ↓joinK_t, ↓joinK_f, ↓reduceIte]
set_option maxHeartbeats 4000000 in
theorem size_ok (v : V) (hw : wt v ≤ 3000) (m : Int) (h0 : 0 ≤ m) (hm : m ≤ 1048576) (h : List Res) : D env 8 [.d (.agg v.enc), .d (.int .i64 m)] h = some (.val (.d (.int .i64 (sizeV v m))) h) := by
 have e2 := counted1_ok v hw m h0 hm
 rw [← cnt_size v m h0]
 have e1 := fun h => counted_ok v h
 have q : ¬ m < 0 := by omega
 unfold hs at e2
 by_cases c : (cntV m v 0).1 = true
 ·rw [hr_true c] at e2
  unfold hs at e2
  rw [D_dat (F := A8) rfl rfl rfl rfl]
  simp (maxSteps := 9999999) -implicitDefEqProofs only [A8, B8, e1, dx_rng, e2, q, c, take_d (venc_len v), flat_map, venc_len, venc_one, sT, reduceCtorEq, seval, ↓joinK_t, ↓joinK_f, ↓reduceIte]
  done
 ·rw [hr_false c] at e2
  unfold hs at e2
  rw [D_dat (F := A8) rfl rfl rfl rfl]
  simp (maxSteps := 9999999) -implicitDefEqProofs only [A8, B8, e1, dx_rng, e2, q, c, take_d (venc_len v), flat_map, venc_len, venc_one, sT, reduceCtorEq, seval, ↓joinK_t, ↓joinK_f, ↓reduceIte]
  done
end Go.Proofs.Ytnhpfocibedoeaa.Codes
namespace Go.Proofs.Ytnhpfocibedoeaa.Codes
open Go Go.Deepv
def idxOf {α : Type} (p : α → Bool) : List α → Int → Int
 | [], _ => -1
 | x :: l, i => if p x = true then i else idxOf p l (i + 1)
theorem idx_cons {α : Type} (p : α → Bool) (x : α) (l : List α) (i : Nat) : idxOf p (x :: l) (i : Int) = if p x = true then (i : Int) else idxOf p l ((i + 1 : Nat) : Int) := rfl
theorem idx_spec {α : Type} (p : α → Bool) : ∀ (l : List α) (i : Nat), (∃ k x, l[k]? = some x ∧ l.find? p = some x ∧ idxOf p l (i : Int) = ((i + k : Nat) : Int)) ∨ (l.find? p = none ∧ idxOf p l (i : Int) = -1)
 | [], i => .inr ⟨rfl, rfl⟩
 | x :: l, i => by
  unfold idxOf
  by_cases c : p x = true
  ·rw [if_pos c]; exact .inl ⟨0, x, rfl, by simp [c], rfl⟩
  ·rw [if_neg c]
   rcases idx_spec p l (i + 1) with ⟨k, y, h1, h2, h3⟩ | ⟨h1, h2⟩
   ·refine .inl ⟨k + 1, y, h1, by simp [c, h2], ?_⟩
    rw [show ((i : Int) + 1) = ((i + 1 : Nat) : Int) from by omega, h3]; omega
   ·refine .inr ⟨by simp [c, h1], ?_⟩
    rw [show ((i : Int) + 1) = ((i + 1 : Nat) : Int) from by omega, h2]
def isD (s : ByteArray) (d : Data) : Bool := d.s.toList == s.toList
def isC (s : ByteArray) (d : Con) : Bool := d.s.toList == s.toList
theorem is30 (d : Data) (s : ByteArray) (h : List Res) : D env 30 [.d (.agg d.enc), .d (.ref [.str s] 0)] h = some (.val (.d (.bool (isD s d))) h) := by
 unfold Data.enc isD
 rw [D_dat (F := A30) rfl rfl rfl rfl]
 simp (maxSteps := 9999999) -implicitDefEqProofs only [A30, B30, sT, reduceCtorEq, seval, ↓joinK_t, ↓joinK_f, ↓reduceIte]
theorem is22 (c : Con) (k n : Int) (bs : List (List FV)) (s : ByteArray) (l : List (List FV)) (h : List Res) : D env 22 [.d (.agg c.enc), .d (.ref [.int .i64 k, .int .i64 n, .slice 1 bs, .str s, .slice 5 l] 0)] h = some (.val (.d (.bool (isC s c))) h) := by
 unfold Con.enc isC
 rw [D_dat (F := A22) rfl rfl rfl rfl]
 simp (maxSteps := 9999999) -implicitDefEqProofs only [A22, B22, sT, reduceCtorEq, seval, ↓joinK_t, ↓joinK_f, ↓reduceIte]
set_option maxHeartbeats 4000000 in
theorem loop29 (ds : List Data) (s : ByteArray) (hd : ds.length ≤ 60) :
  ∃ K, L env 0 true H29L2 X29L2 B29L2 = K ∧ ∀ (l : List Data) (i : Nat), ds.drop i = l → i ≤ ds.length →
  K (den 19 [(0, .d (datasF ds)), (1, .d (.func (.func 30) [] [.ref [.str s] 0])), (7, .d (.int .i64 (ds.length : Int))), (8, .d (.int .i64 (i : Int)))]) [] = some (if idxOf (isD s) l (i : Int) < 0 then (.exit 0, den 19 [], []) else (.ret, den 19 [(4, .d (.int .i64 (idxOf (isD s) l (i : Int))))], [])) := by
 obtain ⟨K, hK⟩ : ∃ K, L env 0 true H29L2 X29L2 B29L2 = K := ⟨_, rfl⟩
 refine ⟨K, hK, ?_⟩
 intro l
 induction l with
 | nil =>
  intro i hl hi
  have : ds.length ≤ i := List.drop_eq_nil_iff.1 hl
  have e2 : ¬ (i : Int) < (ds.length : Int) := by omega
  rw [L_rnd hK]
  simp (maxSteps := 9999999) -implicitDefEqProofs only [B29L2, datasF, e2, idxOf, sT, reduceCtorEq, seval, ↓joinK_t, ↓joinK_f, ↓reduceIte]
 | cons x l ih =>
  intro i hl hi
  obtain ⟨hlt, hx, hd⟩ := drop_at hl
  have e2 : (i : Int) < (ds.length : Int) := by omega
  have gx : (ds.map Data.enc)[i]? = some x.enc := by simp [hx]
  have w1 : IntKind.i64.wrap ((i : Int) + 1) = ((i + 1 : Nat) : Int) := by rw [wrap_i64 (by omega) (by omega)]; omega
  have e3 := fun h => is30 x s h
  have gl : x.enc.length = 4 := rfl
  have ih := ih (i + 1) hd (by omega)
  simp only [datasF] at ih
  have i0 : ¬ ((i : Int) < 0) := by omega
  rw [L_rnd hK]
  by_cases c : isD s x = true
  ·simp only [c] at e3
   simp (maxSteps := 9999999) -implicitDefEqProofs only [B29L2, datasF, e2, gx, w1, e3, ih, i0, c, take_d gl, flat_map, gl, List.length_map, idx_cons, sT, reduceCtorEq, seval, ↓joinK_t, ↓joinK_f, ↓reduceIte]
  ·simp only [Bool.not_eq_true] at c
   simp only [c] at e3
   simp (maxSteps := 9999999) -implicitDefEqProofs only [B29L2, datasF, e2, gx, w1, e3, ih, c, take_d gl, flat_map, gl, List.length_map, idx_cons, sT, reduceCtorEq, seval, ↓joinK_t, ↓joinK_f, ↓reduceIte]
theorem find_ok (ds : List Data) (s : ByteArray) (hd : ds.length ≤ 60) (h : List Res) : D env 20 [.d (datasF ds), .d (.str s)] h = some (.val (.d (.int .i64 (idxOf (isD s) ds 0))) h) := by
 have e29 : ∀ h, D env 29 [.d (datasF ds), .d (.func (.func 30) [] [.ref [.str s] 0])] h = some (.val (.d (.int .i64 (idxOf (isD s) ds 0))) h) := by
  intro h
  obtain ⟨K, hK, hk⟩ := loop29 ds s hd
  have e := hk ds 0 rfl (by omega)
  simp only [datasF, Int.ofNat_zero] at e
  unfold datasF
  by_cases c : idxOf (isD s) ds 0 < 0
  ·have c2 : idxOf (isD s) ds 0 = -1 := by
    rcases idx_spec (isD s) ds 0 with ⟨k, x, _, _, h3⟩ | ⟨_, h3⟩
    ·have h4 : idxOf (isD s) ds 0 = ((0 + k : Nat) : Int) := h3
     omega
    ·exact h3
   simp only [c, if_true] at e
   rw [c2]
   rw [D_dat (F := A29) rfl rfl rfl rfl]
   simp (maxSteps := 9999999) -implicitDefEqProofs only [A29, B29, hK, e, List.length_map, sT, reduceCtorEq, seval, ↓joinK_t, ↓joinK_f, ↓reduceIte]
  ·simp only [c, if_false] at e
   rw [D_dat (F := A29) rfl rfl rfl rfl]
   simp (maxSteps := 9999999) -implicitDefEqProofs only [A29, B29, hK, e, List.length_map, sT, reduceCtorEq, seval, ↓joinK_t, ↓joinK_f, ↓reduceIte]
 rw [D_dat (F := A20) rfl rfl rfl rfl]
 simp (maxSteps := 9999999) -implicitDefEqProofs only [A20, B20, e29, sT, reduceCtorEq, seval, ↓joinK_t, ↓joinK_f, ↓reduceIte]
set_option maxHeartbeats 4000000 in
theorem loop21 (ds : List Con) (k n : Int) (bs : List (List FV)) (s : ByteArray) (kl : List (List FV)) (hd : ds.length ≤ 3000) :
  ∃ K, L env 0 true H21L2 X21L2 B21L2 = K ∧ ∀ (l : List Con) (i : Nat), ds.drop i = l → i ≤ ds.length →
  K (den 19 [(0, .d (.slice 2 (ds.map Con.enc))), (1, .d (.func (.func 22) [] [.ref [.int .i64 k, .int .i64 n, .slice 1 bs, .str s, .slice 5 kl] 0])), (7, .d (.int .i64 (ds.length : Int))), (8, .d (.int .i64 (i : Int)))]) [] = some (if idxOf (isC s) l (i : Int) < 0 then (.exit 0, den 19 [], []) else (.ret, den 19 [(4, .d (.int .i64 (idxOf (isC s) l (i : Int))))], [])) := by
 obtain ⟨K, hK⟩ : ∃ K, L env 0 true H21L2 X21L2 B21L2 = K := ⟨_, rfl⟩
 refine ⟨K, hK, ?_⟩
 intro l
 induction l with
 | nil =>
  intro i hl hi
  have : ds.length ≤ i := List.drop_eq_nil_iff.1 hl
  have e2 : ¬ (i : Int) < (ds.length : Int) := by omega
  rw [L_rnd hK]
  simp (maxSteps := 9999999) -implicitDefEqProofs only [B21L2, e2, idxOf, sT, reduceCtorEq, seval, ↓joinK_t, ↓joinK_f, ↓reduceIte]
 | cons x l ih =>
  intro i hl hi
  obtain ⟨hlt, hx, hd⟩ := drop_at hl
  have e2 : (i : Int) < (ds.length : Int) := by omega
  have gx : (ds.map Con.enc)[i]? = some x.enc := by simp [hx]
  have w1 : IntKind.i64.wrap ((i : Int) + 1) = ((i + 1 : Nat) : Int) := by rw [wrap_i64 (by omega) (by omega)]; omega
  have e3 := fun h => is22 x k n bs s kl h
  have gl : x.enc.length = 2 := rfl
  have ih := ih (i + 1) hd (by omega)
  have i0 : ¬ ((i : Int) < 0) := by omega
  rw [L_rnd hK]
  by_cases c : isC s x = true
  ·simp only [c] at e3
   simp (maxSteps := 9999999) -implicitDefEqProofs only [B21L2, e2, gx, w1, e3, ih, i0, c, take_d gl, flat_map, gl, List.length_map, idx_cons, sT, reduceCtorEq, seval, ↓joinK_t, ↓joinK_f, ↓reduceIte]
  ·simp only [Bool.not_eq_true] at c
   simp only [c] at e3
   simp (maxSteps := 9999999) -implicitDefEqProofs only [B21L2, e2, gx, w1, e3, ih, c, take_d gl, flat_map, gl, List.length_map, idx_cons, sT, reduceCtorEq, seval, ↓joinK_t, ↓joinK_f, ↓reduceIte]
theorem findc_ok (ds : List Con) (k n : Int) (bs : List (List FV)) (s : ByteArray) (kl : List (List FV)) (hd : ds.length ≤ 3000) (h : List Res) : D env 21 [.d (.slice 2 (ds.map Con.enc)), .d (.func (.func 22) [] [.ref [.int .i64 k, .int .i64 n, .slice 1 bs, .str s, .slice 5 kl] 0])] h = some (.val (.d (.int .i64 (idxOf (isC s) ds 0))) h) := by
 obtain ⟨K, hK, hk⟩ := loop21 ds k n bs s kl hd
 have e := hk ds 0 rfl (by omega)
 simp only [Int.ofNat_zero] at e
 by_cases c : idxOf (isC s) ds 0 < 0
 ·have c2 : idxOf (isC s) ds 0 = -1 := by
   rcases idx_spec (isC s) ds 0 with ⟨k, x, _, _, h3⟩ | ⟨_, h3⟩
   ·have h4 : idxOf (isC s) ds 0 = ((0 + k : Nat) : Int) := h3
    omega
   ·exact h3
  simp only [c, if_true] at e
  rw [c2]
  rw [D_dat (F := A21) rfl rfl rfl rfl]
  simp (maxSteps := 9999999) -implicitDefEqProofs only [A21, B21, hK, e, List.length_map, sT, reduceCtorEq, seval, ↓joinK_t, ↓joinK_f, ↓reduceIte]
 ·simp only [c, if_false] at e
  rw [D_dat (F := A21) rfl rfl rfl rfl]
  simp (maxSteps := 9999999) -implicitDefEqProofs only [A21, B21, hK, e, List.length_map, sT, reduceCtorEq, seval, ↓joinK_t, ↓joinK_f, ↓reduceIte]
set_option maxHeartbeats 8000000 in
theorem bare_ok (v : V) (h : List Res) : D env 14 [.d (.agg v.enc)] h = some (.val (.d (.bool (bareV v))) h) := by
 cases v with
 | mk k n bs s l =>
 unfold V.enc bareV V.k V.n V.bs V.s
 simp only
 rw [D_dat (F := A14) rfl rfl rfl rfl]
 cases h0 : (k == 0) <;> cases h1 : (n == 0) <;> cases h2 : (k == 1) <;> cases h3 : ((bs.length : Int) == 0) <;> cases h4 : (k == 2) <;> cases h5 : (s.toList == (⟨#[]⟩ : ByteArray).toList) <;> simp (maxSteps := 9999999) -implicitDefEqProofs only [A14, B14, h0, h1, h2, h3, h4, h5, Bool.and_self, Bool.or_self, Bool.and_true, Bool.true_and, Bool.and_false, Bool.false_and, Bool.or_true, Bool.true_or, Bool.or_false, Bool.false_or, sT, reduceCtorEq, seval, ↓joinK_t, ↓joinK_f, ↓reduceIte]
end Go.Proofs.Ytnhpfocibedoeaa.Codes
namespace Go.Proofs.Ytnhpfocibedoeaa.Codes
open Go Go.Deepv
def fieldsF (o : Option (List Ty)) : FV := .tup [.slice 3 (Ty.encs (o.getD [])), .bool o.isSome]
set_option maxHeartbeats 8000000 in
theorem fields_ok (ds : List Data) (v : V) (t : Ty) (hd : ds.length ≤ 60) (hc : ∀ d ∈ ds, d.l.length ≤ 3000) (h : List Res) : D env 13 [.d (datasF ds), .d (.agg v.enc), .d (.agg t.enc)] h = some (.val (.d (fieldsF (fieldsV ds v t))) h) := by
 obtain ⟨k, n, bs, s, l⟩ := v
 obtain ⟨tk, ts, tl⟩ := t
 have e1 := fun h => find_ok ds ts hd h
 unfold V.enc Ty.enc fieldsF fieldsV V.k V.n V.bs V.s Ty.k Ty.s Ty.l two62
 simp only
 rw [D_dat (F := A13) rfl rfl rfl rfl]
 by_cases k0 : k = 0
 ·subst k0
  by_cases t0 : tk = 0
  ·subst t0
   by_cases r1 : -4611686018427387904 ≤ n <;> by_cases r2 : n < 4611686018427387904 <;> simp (maxSteps := 9999999) -implicitDefEqProofs only [A13, B13, r1, r2, and_self, and_true, true_and, and_false, false_and, Option.getD_some, Option.getD_none, Option.isSome_some, Option.isSome_none, Ty.encs, decide_true, decide_false, sT, reduceCtorEq, seval, ↓joinK_t, ↓joinK_f, ↓reduceIte]
  ·simp (maxSteps := 9999999) -implicitDefEqProofs only [A13, B13, t0, and_self, and_true, true_and, and_false, false_and, Option.getD_some, Option.getD_none, Option.isSome_some, Option.isSome_none, Ty.encs, decide_true, decide_false, sT, reduceCtorEq, seval, ↓joinK_t, ↓joinK_f, ↓reduceIte]
 ·by_cases k1 : k = 1
  ·subst k1
   by_cases t0 : tk = 1
   ·subst t0
    by_cases r1 : (bs.length : Int) ≤ 64
    ·have r2 : bs.length ≤ 64 := by omega
     simp (maxSteps := 9999999) -implicitDefEqProofs only [A13, B13, r1, r2, and_self, and_true, true_and, and_false, false_and, Option.getD_some, Option.getD_none, Option.isSome_some, Option.isSome_none, Ty.encs, decide_true, decide_false, sT, reduceCtorEq, seval, ↓joinK_t, ↓joinK_f, ↓reduceIte]
    ·have r2 : ¬ bs.length ≤ 64 := by omega
     simp (maxSteps := 9999999) -implicitDefEqProofs only [A13, B13, r1, r2, and_self, and_true, true_and, and_false, false_and, Option.getD_some, Option.getD_none, Option.isSome_some, Option.isSome_none, Ty.encs, decide_true, decide_false, sT, reduceCtorEq, seval, ↓joinK_t, ↓joinK_f, ↓reduceIte]
   ·simp (maxSteps := 9999999) -implicitDefEqProofs only [A13, B13, t0, and_self, and_true, true_and, and_false, false_and, Option.getD_some, Option.getD_none, Option.isSome_some, Option.isSome_none, Ty.encs, decide_true, decide_false, sT, reduceCtorEq, seval, ↓joinK_t, ↓joinK_f, ↓reduceIte]
  ·by_cases k3 : k = 3
   ·subst k3
    by_cases t0 : tk = 3
    ·subst t0
     simp (maxSteps := 9999999) -implicitDefEqProofs only [A13, B13, and_self, and_true, true_and, and_false, false_and, Option.getD_some, Option.getD_none, Option.isSome_some, Option.isSome_none, Ty.encs, decide_true, decide_false, sT, reduceCtorEq, seval, ↓joinK_t, ↓joinK_f, ↓reduceIte]
    ·simp (maxSteps := 9999999) -implicitDefEqProofs only [A13, B13, t0, and_self, and_true, true_and, and_false, false_and, Option.getD_some, Option.getD_none, Option.isSome_some, Option.isSome_none, Ty.encs, decide_true, decide_false, sT, reduceCtorEq, seval, ↓joinK_t, ↓joinK_f, ↓reduceIte]
   ·by_cases k2 : k = 2
    ·subst k2
     by_cases t0 : tk = 2
     ·subst t0
      unfold findD
      rcases idx_spec (isD ts) ds 0 with ⟨j, d, g1, g2, g3⟩ | ⟨g2, g3⟩
      ·have g3 : idxOf (isD ts) ds 0 = (j : Int) := by have h : idxOf (isD ts) ds 0 = ((0 + j : Nat) : Int) := g3; omega
       have gd := data_at g1
       have jl : j < ds.length := (List.getElem?_eq_some_iff.1 g1).1
       have e2 := fun h => findc_ok d.l 2 n bs s (V.encs l) (hc d (List.mem_of_getElem? g1)) h
       have j0 : ¬ (j : Int) < 0 := by omega
       simp only [g3, datasF] at e1
       have g2 : List.find? (fun d => d.s.toList == ts.toList) ds = some d := g2
       unfold findC datasF
       rcases idx_spec (isC s) d.l 0 with ⟨i, c, q1, q2, q3⟩ | ⟨q2, q3⟩
       ·have q3 : idxOf (isC s) d.l 0 = (i : Int) := by have h : idxOf (isC s) d.l 0 = ((0 + i : Nat) : Int) := q3; omega
        have i0 : ¬ (i : Int) < 0 := by omega
        have il : i < d.l.length := (List.getElem?_eq_some_iff.1 q1).1
        have q2 : List.find? (fun d => d.s.toList == s.toList) d.l = some c := q2
        have gc := cons_at q1
        simp only [q3] at e2
        simp (maxSteps := 9999999) -implicitDefEqProofs only [A13, B13, e1, e2, gd, jl, j0, i0, il, gc, g2, q2, List.length_map, Option.bind_some, Option.map_some, and_self, and_true, true_and, and_false, false_and, Option.getD_some, Option.getD_none, Option.isSome_some, Option.isSome_none, Ty.encs, decide_true, decide_false, sT, reduceCtorEq, seval, ↓joinK_t, ↓joinK_f, ↓reduceIte]
        done
       ·have q3 : idxOf (isC s) d.l 0 = -1 := q3
        have q2 : List.find? (fun d => d.s.toList == s.toList) d.l = none := q2
        simp only [q3] at e2
        simp (maxSteps := 9999999) -implicitDefEqProofs only [A13, B13, e1, e2, gd, jl, j0, g2, q2, List.length_map, Option.bind_some, Option.map_none, and_self, and_true, true_and, and_false, false_and, Option.getD_some, Option.getD_none, Option.isSome_some, Option.isSome_none, Ty.encs, decide_true, decide_false, sT, reduceCtorEq, seval, ↓joinK_t, ↓joinK_f, ↓reduceIte]
        done
      ·have g3 : idxOf (isD ts) ds 0 = -1 := g3
       have g2 : List.find? (fun d => d.s.toList == ts.toList) ds = none := g2
       simp only [g3, datasF] at e1
       unfold datasF
       simp (maxSteps := 9999999) -implicitDefEqProofs only [A13, B13, e1, g2, Option.bind_none, and_self, and_true, true_and, and_false, false_and, Option.getD_some, Option.getD_none, Option.isSome_some, Option.isSome_none, Ty.encs, decide_true, decide_false, sT, reduceCtorEq, seval, ↓joinK_t, ↓joinK_f, ↓reduceIte]
       done
     ·simp (maxSteps := 9999999) -implicitDefEqProofs only [A13, B13, t0, and_self, and_true, true_and, and_false, false_and, Option.getD_some, Option.getD_none, Option.isSome_some, Option.isSome_none, Ty.encs, decide_true, decide_false, sT, reduceCtorEq, seval, ↓joinK_t, ↓joinK_f, ↓reduceIte]
    ·simp (maxSteps := 9999999) -implicitDefEqProofs only [A13, B13, k0, k1, k2, k3, and_self, and_true, true_and, and_false, false_and, Option.getD_some, Option.getD_none, Option.isSome_some, Option.isSome_none, Ty.encs, decide_true, decide_false, sT, reduceCtorEq, seval, ↓joinK_t, ↓joinK_f, ↓reduceIte]
end Go.Proofs.Ytnhpfocibedoeaa.Codes
namespace Go.Proofs.Ytnhpfocibedoeaa.Codes
open Go Go.Deepv
structure Task where
 v : V
 t : Ty
 d : Int
def Task.enc (x : Task) : List FV := match x with
 | ⟨.mk k n bs s l, .mk tk ts tl, d⟩ => [.int .i64 k, .int .i64 n, .slice 1 bs, .str s, .slice 5 (V.encs l), .int .i64 tk, .str ts, .slice 3 (Ty.encs tl), .int .i64 d]
def tasks (kids : List V) (f : List Ty) (d : Int) : List Task := (kids.zip f).map fun p => ⟨p.1, p.2, d⟩
theorem ofTs_zip (l : List Data) : ∀ (kids : List V) (f : List Ty) (d : Int), ofTs l kids f d = (tasks kids f d).all fun x => ofT l x.v x.t x.d
 | [], f, d => by simp [ofTs, tasks]
 | x :: v, [], d => by simp [ofTs, tasks]
 | x :: v, t :: f, d => by
  have := ofTs_zip l v f d
  simp only [tasks] at this
  simp [ofTs, tasks, this]
def vec9 (C : List (List FV)) : Res := .vec 9 C 0 0
theorem take_snoc {α : Type} {C : List α} {n : Nat} {c : α} (h : n ≤ C.length) : (C.take n ++ c :: C.drop (n + 1)).take (n + 1) = C.take n ++ [c] := by
 rw [show C.take n ++ c :: C.drop (n + 1) = C.take n ++ [c] ++ C.drop (n + 1) by simp, List.take_append_of_le_length (by simp; omega), List.take_of_length_le (by simp; omega)]
def box9 (k n : Int) (bs : List (List FV)) (s : ByteArray) (l : List V) (tk : Int) (ts : ByteArray) (tl : List Ty) (d : Int) : List Res := [.nilrow, .nilrow, .nilrow, .box [.d (.int .i64 k), .d (.int .i64 n), .d (.slice 1 bs), .d (.str s), .d (.slice 5 (V.encs l)), .d (.int .i64 tk), .d (.str ts), .d (.slice 3 (Ty.encs tl)), .d (.int .i64 d)]]
set_option maxHeartbeats 8000000 in
theorem loop9i (ds : List Data) (k n : Int) (bs : List (List FV)) (s : ByteArray) (ks : List V) (tk : Int) (ts : ByteArray) (tl : List Ty) (d : Int) (h1 : 1 ≤ d) (h2 : d ≤ 1000) (f : List Ty) (hf : f.length = ks.length) (hk : ks.length ≤ 3000) :
  ∃ K, L env 5 true H9L9 X9L9 B9L9 = K ∧ ∀ (r : List V) (i : Nat) (q : List Ty) (C : List (List FV)) (m : Nat), ks.drop i = r → f.drop i = q → i ≤ ks.length → m ≤ C.length → m + r.length ≤ 3000 → ∃ C', m + r.length ≤ C'.length ∧ C'.take (m + r.length) = C.take m ++ (tasks r q (d - 1)).map Task.enc ∧
  K (den 84 [(0, .d (datasF ds)), (7, .vslc 0 C.length 9 0 m), (8, .ptr 4 0), (9, .d (.slice 3 (Ty.encs f))), (64, .d (.slice 5 (V.encs ks))), (65, .d (.int .i64 (ks.length : Int))), (66, .d (.int .i64 (i : Int)))]) (vec9 C :: box9 k n bs s ks tk ts tl d)
   = some (.exit 2, den 84 [(0, .d (datasF ds)), (7, .vslc 0 C'.length 9 0 (m + r.length))], vec9 C' :: box9 k n bs s ks tk ts tl d) := by
 obtain ⟨K, hK⟩ : ∃ K, L env 5 true H9L9 X9L9 B9L9 = K := ⟨_, rfl⟩
 refine ⟨K, hK, ?_⟩
 intro r
 induction r with
 | nil =>
  intro i q C m hl hq hi hm hm2
  have : ks.length ≤ i := List.drop_eq_nil_iff.1 hl
  have e2 : ¬ (i : Int) < (ks.length : Int) := by omega
  refine ⟨C, hm, by simp [tasks], ?_⟩
  rw [L_rnd hK]
  simp (maxSteps := 9999999) -implicitDefEqProofs only [B9L9, vec9, box9, e2, sT, reduceCtorEq, seval, ↓joinK_t, ↓joinK_f, ↓reduceIte]
  done
 | cons x r ih =>
  intro i q C m hl hq hi hm hm2
  obtain ⟨hlt, hx, hd⟩ := drop_at hl
  have e2 : (i : Int) < (ks.length : Int) := by omega
  have gx := encs_at hx
  have w1 : IntKind.i64.wrap ((i : Int) + 1) = ((i + 1 : Nat) : Int) := by rw [wrap_i64 (by omega) (by omega)]; omega
  have w2 : IntKind.i64.wrap (d - 1) = d - 1 := wrap_i64 (by omega) (by omega)
  simp only [List.length_cons] at hm2
  cases q with
  | nil => have := List.drop_eq_nil_iff.1 hq; omega
  | cons t q =>
  obtain ⟨_, ht, hq2⟩ := drop_at hq
  have gt := tencs_at ht
  have e3 : (i : Int) < (f.length : Int) := by omega
  have il : i < (Ty.encs f).length := by rw [Ty.encs_len]; omega
  obtain ⟨xk, xn, xb, xs, xl⟩ := x
  obtain ⟨yk, ys, yl⟩ := t
  simp only [V.enc] at gx
  simp only [Ty.enc] at gt
  have b1 : (m + 1) * 136 ≤ 140737488355328 := by omega
  have tk1 : tasks (.mk xk xn xb xs xl :: r) (.mk yk ys yl :: q) (d - 1) = ⟨.mk xk xn xb xs xl, .mk yk ys yl, d - 1⟩ :: tasks r q (d - 1) := rfl
  rw [tk1, List.map_cons]
  by_cases c : m = C.length
  ·subst c
   obtain ⟨C', g1, g2, ih⟩ := ih (i + 1) q (C ++ [[.int .i64 xk, .int .i64 xn, .slice 1 xb, .str xs, .slice 5 (V.encs xl), .int .i64 yk, .str ys, .slice 3 (Ty.encs yl), .int .i64 (d - 1)]]) (C.length + 1) hd hq2 (by omega) (by simp) (by omega)
   simp only [vec9, box9, List.length_append, List.length_cons, List.length_nil, Nat.zero_add] at ih
   have ex : C.length + (r.length + 1) = C.length + 1 + r.length := by omega
   refine ⟨C', by rw [List.length_cons]; omega, ?_, ?_⟩
   ·rw [List.length_cons, ex, g2]
    rw [List.take_of_length_le (by simp), List.take_of_length_le (by simp), List.append_assoc]
    rfl
   ·rw [L_rnd hK, List.length_cons, ex]
    simp (maxSteps := 9999999) -implicitDefEqProofs only [B9L9, vec9, box9, e2, e3, il, gx, gt, w1, w2, b1, V.encs_len, Ty.encs_len, ih, sT, reduceCtorEq, seval, ↓joinK_t, ↓joinK_f, ↓reduceIte]
    done
  ·have c2 : m + 1 ≤ C.length := by omega
   obtain ⟨C', g1, g2, ih⟩ := ih (i + 1) q (C.take m ++ [.int .i64 xk, .int .i64 xn, .slice 1 xb, .str xs, .slice 5 (V.encs xl), .int .i64 yk, .str ys, .slice 3 (Ty.encs yl), .int .i64 (d - 1)] :: C.drop (m + 1)) (m + 1) hd hq2 (by omega) (by simp; omega) (by omega)
   have ln : (C.take m ++ [FV.int .i64 xk, .int .i64 xn, .slice 1 xb, .str xs, .slice 5 (V.encs xl), .int .i64 yk, .str ys, .slice 3 (Ty.encs yl), .int .i64 (d - 1)] :: C.drop (m + 1)).length = C.length := by simp; omega
   rw [ln] at ih
   simp only [vec9, box9, List.length_append, List.length_cons, List.length_nil, Nat.zero_add] at ih
   have ex : m + (r.length + 1) = m + 1 + r.length := by omega
   have z1 : m ≤ C.length := hm
   refine ⟨C', by rw [List.length_cons]; omega, ?_, ?_⟩
   ·rw [List.length_cons, ex, g2, take_snoc hm, List.append_assoc]
    rfl
   ·rw [L_rnd hK, List.length_cons, ex]
    simp (maxSteps := 9999999) -implicitDefEqProofs only [B9L9, vec9, box9, e2, e3, il, gx, gt, w1, w2, b1, c, c2, Nat.zero_le, V.encs_len, Ty.encs_len, ih, sT, reduceCtorEq, seval, ↓joinK_t, ↓joinK_f, ↓reduceIte]
    done
def wtT : List Task → Nat
 | [] => 0
 | x :: l => wt x.v + wtT l
theorem wtT_len : ∀ l : List Task, l.length ≤ wtT l
 | [] => by simp
 | ⟨v, t, d⟩ :: l => by
  have := wtT_len l
  have : 1 ≤ wt v := by cases v; unfold wt; omega
  simp only [wtT, List.length_cons]; omega
theorem wtT_app : ∀ a b : List Task, wtT (a ++ b) = wtT a + wtT b
 | [], b => by simp [wtT]
 | x :: a, b => by simp only [List.cons_append, wtT, wtT_app a b]; omega
theorem wtT_rev : ∀ a : List Task, wtT a.reverse = wtT a
 | [] => rfl
 | x :: a => by rw [List.reverse_cons, wtT_app, wtT_rev a]; simp [wtT]; omega
theorem wtT_tasks : ∀ (k : List V) (f : List Ty) (d : Int), wtT (tasks k f d) ≤ wts k
 | [], f, d => by simp [tasks, wtT]
 | x :: k, [], d => by simp [tasks, wtT]
 | x :: k, t :: f, d => by
  have := wtT_tasks k f d
  simp only [tasks] at this
  simp only [tasks, List.zip_cons_cons, List.map_cons, wtT, wts]; omega
theorem fit_v (ds : List Data) (v : V) (t : Ty) (d : Int) : ofT ds v t d = ((fieldsV ds v t).isSome && decide (1 ≤ d) && bareV v && (((fieldsV ds v t).getD []).length == v.l.length) && ofTs ds v.l ((fieldsV ds v t).getD []) (d - 1)) := by
 obtain ⟨k, n, bs, s, l⟩ := v
 rw [ofT]
 cases fieldsV ds (.mk k n bs s l) t <;> simp [V.l]
set_option maxHeartbeats 8000000 in
theorem loop9 (ds : List Data) (hd : ds.length ≤ 60) (hc : ∀ d ∈ ds, d.l.length ≤ 3000) :
  ∃ K, L env 1 true H9L2 X9L2 B9L2 = K ∧ ∀ (W : Nat) (ts : List Task) (C : List (List FV)), wtT ts ≤ W → W ≤ 3000 → (∀ x ∈ ts, x.d ≤ 1000 ∧ -10 ≤ x.d) → ts.length ≤ C.length → C.take ts.length = ts.reverse.map Task.enc → ∃ C',
  K (den 84 [(0, .d (datasF ds)), (7, .vslc 0 C.length 9 0 ts.length)]) [vec9 C] = some (if (ts.all fun x => ofT ds x.v x.t x.d) = true then (.exit 0, den 84 [], [vec9 C']) else (.ret, den 84 [(6, .d (.bool false))], [vec9 C'])) := by
 obtain ⟨K, hK⟩ : ∃ K, L env 1 true H9L2 X9L2 B9L2 = K := ⟨_, rfl⟩
 refine ⟨K, hK, ?_⟩
 intro W
 induction W with
 | zero =>
  intro ts C hw _ hdd hl ht
  have : ts = [] := List.eq_nil_of_length_eq_zero (by have := wtT_len ts; omega)
  subst this
  refine ⟨C, ?_⟩
  rw [L_rnd hK]
  simp (maxSteps := 9999999) -implicitDefEqProofs only [B9L2, vec9, List.all_nil, sT, reduceCtorEq, seval, ↓joinK_t, ↓joinK_f, ↓reduceIte]
  done
 | succ W ih =>
  intro ts C hw hW hdd hl ht
  cases ts with
  | nil =>
   refine ⟨C, ?_⟩
   rw [L_rnd hK]
   simp (maxSteps := 9999999) -implicitDefEqProofs only [B9L2, vec9, List.all_nil, sT, reduceCtorEq, seval, ↓joinK_t, ↓joinK_f, ↓reduceIte]
   done
  | cons x ts =>
   have hx := hdd x (by simp)
   have hlen := wtT_len (x :: ts)
   simp only [List.length_cons] at hl ht hlen
   have gx : C[ts.length]? = some x.enc := by
    have := congrArg (fun l => l[ts.length]?) ht
    simp only [List.getElem?_take, Nat.lt_add_one, if_true] at this
    rw [this]
    simp
   have gt : C.take ts.length = ts.reverse.map Task.enc := by
    have := congrArg (fun l => l.take ts.length) ht
    simp only [List.take_take, Nat.min_eq_left (Nat.le_succ ts.length)] at this
    rw [this]
    simp
   obtain ⟨v, t, d⟩ := x
   simp only at hx
   have e13 := fun h => fields_ok ds v t hd hc h
   have e14 := fun h => bare_ok v h
   have hvw : wt v + wtT ts ≤ 3000 := by simp only [wtT] at hw; omega
   rw [List.all_cons, fit_v]
   generalize hf : (fieldsV ds v t) = o at *
   obtain ⟨k, n, bs, s, l⟩ := v
   obtain ⟨tk, tn, tl⟩ := t
   simp only [Task.enc] at gx
   simp only [V.enc, Ty.enc, fieldsF] at e13 e14
   simp only [V.l]
   have w1 : IntKind.i64.wrap (((ts.length + 1 : Nat) : Int) - 1) = (ts.length : Int) := by rw [wrap_i64 (by omega) (by omega)]; omega
   have z1 : (0 : Int) < ((ts.length + 1 : Nat) : Int) := by omega
   have z2 : (ts.length : Int) < ((ts.length + 1 : Nat) : Int) := by omega
   have z3 : (ts.length : Int) ≤ ((ts.length + 1 : Nat) : Int) := by omega
   have z4 : ts.length < C.length := by omega
   by_cases c1 : o.isSome = true
   rotate_left
   ·refine ⟨C, ?_⟩
    simp only [Bool.not_eq_true] at c1
    rw [c1] at e13 ⊢
    rw [L_rnd hK]
    simp (maxSteps := 9999999) -implicitDefEqProofs only [B9L2, vec9, gx, w1, z1, z2, z3, z4, e13, Bool.false_and, List.length_cons, sT, reduceCtorEq, seval, ↓joinK_t, ↓joinK_f, ↓reduceIte]
   ·rw [c1] at e13 ⊢
    generalize hq : o.getD [] = f at *
    by_cases c2 : d < 1
    ·have c3 : ¬ 1 ≤ d := by omega
     refine ⟨C, ?_⟩
     rw [L_rnd hK]
     simp (maxSteps := 9999999) -implicitDefEqProofs only [B9L2, vec9, gx, w1, z1, z2, z3, z4, e13, c2, c3, decide_false, Bool.true_and, Bool.false_and, List.length_cons, sT, reduceCtorEq, seval, ↓joinK_t, ↓joinK_f, ↓reduceIte]
     done
    ·have c3 : 1 ≤ d := by omega
     by_cases c4 : bareV (.mk k n bs s l) = true
     rotate_left
     ·simp only [Bool.not_eq_true] at c4
      rw [c4] at e14 ⊢
      refine ⟨C, ?_⟩
      rw [L_rnd hK]
      simp (maxSteps := 9999999) -implicitDefEqProofs only [B9L2, vec9, gx, w1, z1, z2, z3, z4, e13, e14, c2, c3, decide_true, Bool.true_and, Bool.false_and, List.length_cons, sT, reduceCtorEq, seval, ↓joinK_t, ↓joinK_f, ↓reduceIte]
      done
     ·rw [c4] at e14 ⊢
      by_cases c5 : f.length = l.length
      rotate_left
      ·have c6 : ¬ ((f.length : Int) = (l.length : Int)) := by omega
       have c7 : (f.length == l.length) = false := by simpa using c5
       refine ⟨C, ?_⟩
       simp only [c7]
       rw [L_rnd hK]
       simp (maxSteps := 9999999) -implicitDefEqProofs only [B9L2, vec9, gx, w1, z1, z2, z3, z4, e13, e14, c2, c3, c6, V.encs_len, Ty.encs_len, decide_true, Bool.true_and, Bool.false_and, List.length_cons, sT, reduceCtorEq, seval, ↓joinK_t, ↓joinK_f, ↓reduceIte]
       done
      ·have c6 : ((f.length : Int) = (l.length : Int)) := by omega
       have c7 : (f.length == l.length) = true := by simpa using c5
       have hwl : 1 + wts l ≤ wt (.mk k n bs s l) := by unfold wt; omega
       have hll := wts_len l
       obtain ⟨K2, hK2, hk2⟩ := loop9i ds k n bs s l tk tn tl d c3 (by omega) f c5 (by omega)
       obtain ⟨C2, g1, g2, e⟩ := hk2 l 0 f C ts.length rfl rfl (by omega) (by omega) (by have := wtT_len ts; omega)
       have hzl : (tasks l f (d - 1)).length = l.length := by simp [tasks, c5]
       obtain ⟨C', e2⟩ := ih ((tasks l f (d - 1)).reverse ++ ts) C2 (by rw [wtT_app, wtT_rev]; have := wtT_tasks l f (d - 1); simp only [wtT] at hw; omega) (by omega) (by
        intro x hx2
        rcases List.mem_append.1 hx2 with h | h
        ·simp only [List.mem_reverse, tasks, List.mem_map] at h
         obtain ⟨p, _, rfl⟩ := h
         simp only
         omega
        ·exact hdd x (List.mem_cons_of_mem _ h)) (by simp only [List.length_append, List.length_reverse, hzl]; omega) (by
        simp only [List.length_append, List.length_reverse, hzl, List.reverse_append, List.reverse_reverse, List.map_append]
        rw [show l.length + ts.length = ts.length + l.length from by omega, g2, gt])
       have hl2 : ((tasks l f (d - 1)).reverse ++ ts).length = ts.length + l.length := by simp only [List.length_append, List.length_reverse, hzl]; omega
       rw [hl2] at e2
       refine ⟨C', ?_⟩
       simp only [c7, ofTs_zip]
       have al : (((tasks l f (d - 1)).reverse ++ ts).all fun x => ofT ds x.v x.t x.d) = (((tasks l f (d - 1)).all fun x => ofT ds x.v x.t x.d) && ts.all fun x => ofT ds x.v x.t x.d) := by simp
       rw [al] at e2
       simp only [vec9, box9, Int.ofNat_zero, Bool.and_eq_true] at e e2
       simp only [decide_eq_true c3, Bool.true_and]
       rw [L_rnd hK]
       simp (maxSteps := 9999999) -implicitDefEqProofs only [B9L2, vec9, gx, w1, z1, z2, z3, z4, e13, e14, c2, c3, c6, V.encs_len, Ty.encs_len, hK2, e, e2, Nat.sub_zero, List.length_cons, sT, reduceCtorEq, seval, ↓joinK_t, ↓joinK_f, ↓reduceIte]
       done
theorem tenc_one (v : Ty) : (v.enc.all fun y => y.one) = true := by cases v; rfl
set_option maxHeartbeats 8000000 in
theorem of_ok9 (ds : List Data) (v : V) (t : Ty) (hd : ds.length ≤ 60) (hc : ∀ d ∈ ds, d.l.length ≤ 3000) (hw : wt v ≤ 3000) (h : List Res) : D env 9 [.d (datasF ds), .d (.agg v.enc), .d (.agg t.enc)] h = some (.val (.d (.bool (ofT ds v t 1000))) h) := by
 obtain ⟨K, hK, hk⟩ := loop9 ds hd hc
 obtain ⟨C', e⟩ := hk 3000 [⟨v, t, 1000⟩] [Task.enc ⟨v, t, 1000⟩] (by simpa [wtT] using hw) (by omega) (by intro x hx; simp only [List.mem_singleton] at hx; subst hx; simp) (by simp) (by simp)
 simp only [List.all_cons, List.all_nil, Bool.and_true] at e
 obtain ⟨k, n, bs, s, l⟩ := v
 obtain ⟨tk, tn, tl⟩ := t
 simp only [Task.enc, vec9, List.length_cons, List.length_nil, Nat.zero_add] at e
 unfold V.enc Ty.enc
 cases c : ofT ds (.mk k n bs s l) (.mk tk tn tl) 1000 with
 | true =>
  simp only [c, if_true] at e
  rw [D_dat (F := A9) rfl rfl rfl rfl]
  simp (maxSteps := 9999999) -implicitDefEqProofs only [A9, B9, hK, e, sT, reduceCtorEq, seval, ↓joinK_t, ↓joinK_f, ↓reduceIte]
  done
 | false =>
  simp only [c, Bool.false_eq_true, if_false] at e
  rw [D_dat (F := A9) rfl rfl rfl rfl]
  simp (maxSteps := 9999999) -implicitDefEqProofs only [A9, B9, hK, e, sT, reduceCtorEq, seval, ↓joinK_t, ↓joinK_f, ↓reduceIte]
  done
end Go.Proofs.Ytnhpfocibedoeaa.Codes
namespace Go.Proofs.Ytnhpfocibedoeaa.Codes
open Go Go.Deepv
theorem D_lift {E : Env} {f : FuncId} {F : AFunc} {args : List DV} {v : DV} {h0 : List Res} (he : E.ext f = none) (ha : E.af f = some F) (hk : F.keep = 0) (hd : args.all DV.isD = true) (hq : D E f args [] = some (.val v h0)) (h : List Res) : D E f args h = some (.val v h) := by
 rw [D_dat he ha hk hd] at hq ⊢
 simp only [Option.map_eq_some_iff] at hq ⊢
 obtain ⟨o, ho, hw⟩ := hq
 refine ⟨o, ho, ?_⟩
 cases o <;> simp_all [withHeap]
def tkA (k : Int) (s : ByteArray) (n : Int) (l c : Int) : List FV := [.int .i64 k, .str s, .int .i64 n, .slice 1 [], .int .i64 l, .int .i64 c]
def f0 : FV := .agg [.int .i64 0, .int .i64 0, .int .i64 0]
def bCons : ByteArray := ⟨#[67, 111, 110, 115]⟩
def bNil : ByteArray := ⟨#[78, 105, 108]⟩
def sA : ByteArray := ⟨#[67, 111, 110, 115, 40, 49, 44, 32, 78, 105, 108, 41]⟩
def lxA : FV := .tup [.slice 6 [tkA 2 bCons 0 1 1, tkA 6 ⟨#[40]⟩ 0 1 5, tkA 3 ⟨#[]⟩ 1 1 6, tkA 6 ⟨#[44]⟩ 0 1 7, tkA 2 bNil 0 1 9, tkA 6 ⟨#[41]⟩ 0 1 12, tkA 0 ⟨#[]⟩ 0 1 13], f0]
def sB : ByteArray := ⟨#[67, 111, 110, 115, 40, 49, 44, 32, 120, 41]⟩
def lxB : FV := .tup [.slice 6 [tkA 2 bCons 0 1 1, tkA 6 ⟨#[40]⟩ 0 1 5, tkA 3 ⟨#[]⟩ 1 1 6, tkA 6 ⟨#[44]⟩ 0 1 7, tkA 1 ⟨#[120]⟩ 0 1 9, tkA 6 ⟨#[41]⟩ 0 1 10, tkA 0 ⟨#[]⟩ 0 1 11], f0]
theorem lxA_ok : D env 31 [.d (.str sA)] [] = some (.val (.d lxA) []) := D_reckon 60 (by kernel_rfl)
theorem lxB_ok : D env 31 [.d (.str sB)] [] = some (.val (.d lxB) []) := D_reckon 60 (by kernel_rfl)
def lxF (a : List DV) (h : List Res) : Option DOut := match a with
 | [.d (.str s)] => if s.data.toList = [67, 111, 110, 115, 40, 49, 44, 32, 78, 105, 108, 41] then some (.val (.d lxA) h) else if s.data.toList = [67, 111, 110, 115, 40, 49, 44, 32, 120, 41] then some (.val (.d lxB) h) else none
 | _ => none
theorem ba_eq {s t : ByteArray} (h : s.data.toList = t.data.toList) : s = t := ByteArray.ext (Array.toList_inj.1 h)
theorem lxF_ok (a : List DV) (h : List Res) (r : DOut) (hr : lxF a h = some r) : D env 31 a h = some r := by
 unfold lxF at hr
 split at hr
 ·rename_i s
  split at hr
  ·rename_i e
   obtain rfl : s = sA := ba_eq e
   cases hr
   exact D_lift (F := A31) rfl rfl rfl rfl lxA_ok h
  ·split at hr
   ·rename_i e
    obtain rfl : s = sB := ba_eq e
    cases hr
    exact D_lift (F := A31) rfl rfl rfl rfl lxB_ok h
   ·cases hr
 ·cases hr
end Go.Proofs.Ytnhpfocibedoeaa.Codes
namespace Go.Proofs.Ytnhpfocibedoeaa.Codes
open Go Go.Deepv
def vN (k n : Int) (s : ByteArray) (l : FV) : List FV := [.int .i64 k, .int .i64 n, .nils 1, .str s, l]
theorem rdA_ok : D env 11 [.d (.str sA)] [] = some (.val (.d (.tup [.agg (vN 2 0 bCons (.slice 5 [vN 0 1 ⟨#[]⟩ (.nils 5), vN 2 0 bNil (.nils 5)])), f0])) []) := D_reckon_over lxF_ok 60 (by kernel_rfl)
theorem rdB_ok : D env 11 [.d (.str sB)] [] = some (.val (.d (.tup [.agg (vN 0 0 ⟨#[]⟩ (.nils 5)), .agg [.int .i64 19, .int .i64 1, .int .i64 9]])) []) := D_reckon_over lxF_ok 60 (by kernel_rfl)
theorem zA_ok (h : List Res) : D env 8 [.d (.agg [.int .i64 2, .int .i64 0, .nils 1, .str bCons, .slice 5 [vN 0 1 ⟨#[]⟩ (.nils 5), vN 2 0 bNil (.nils 5)]]), .d (.int .i64 100)] h = some (.val (.d (.int .i64 4)) h) := D_reckon 60 (by kernel_rfl)
theorem zB_ok (h : List Res) : D env 8 [.d (.agg [.int .i64 1, .int .i64 0, .slice 1 (List.replicate 9 [.int .u8 0]), .str ⟨#[]⟩, .slice 5 []]), .d (.int .i64 100)] h = some (.val (.d (.int .i64 4)) h) := D_reckon 60 (by kernel_rfl)
end Go.Proofs.Ytnhpfocibedoeaa.Codes
namespace Go.Proofs.Ytnhpfocibedoeaa.Codes
open Go Go.Deepv
theorem one_nils (n : Nat) : (FV.nils n).one = true := rfl
set_option maxHeartbeats 4000000 in
theorem awake0 : D env 7 [] [] = some (.val (.d (.bool true)) []) := by
 have e1 := fun h => D_lift (F := A11) rfl rfl rfl rfl rdA_ok h
 have e2 := fun h => D_lift (F := A11) rfl rfl rfl rfl rdB_ok h
 have e3 := zA_ok
 have e4 := zB_ok
 simp only [vN, sA, sB, f0, bCons, bNil, List.replicate] at e1 e2 e3 e4
 rw [D_dat (F := A7) rfl rfl rfl rfl]
 simp (maxSteps := 9999999) -implicitDefEqProofs only [A7, B7, e1, e2, e3, e4, eqCells, eqFV, one_nils, and_self, FV.isNils, DV.isRow, fillD, buildD, sT, reduceCtorEq, seval, ↓joinK_t, ↓joinK_f, ↓reduceIte]
theorem awake_any (h : List Res) : D env 7 [] h = some (.val (.d (.bool true)) h) := D_lift (F := A7) rfl rfl rfl rfl awake0 h
end Go.Proofs.Ytnhpfocibedoeaa.Codes
namespace Go.Proofs.Ytnhpfocibedoeaa.Codes
open Go Go.Deepv
theorem of_parts (ds : List Data) (v : V) (t : Ty) (h : ofT ds v t 1000 = true) : (v.k = 3 → t.l.length = v.l.length ∧ ∀ (i : Nat) (x : V) (y : Ty), v.l[i]? = some x → t.l[i]? = some y → ofT ds x y 1000 = true) ∧ (v.l.length = 0 ∨ totals v.l + 2 + v.l.length = total v) := by
 rw [fit_v] at h
 simp only [Bool.and_eq_true, beq_iff_eq, decide_eq_true_eq] at h
 obtain ⟨⟨⟨⟨h1, _⟩, _⟩, h2⟩, h3⟩ := h
 obtain ⟨k, n, bs, s, l⟩ := v
 obtain ⟨tk, tn, tl⟩ := t
 refine ⟨fun hk => ?_, ?_⟩
 ·have hk : k = 3 := hk
  subst hk
  have hf : fieldsV ds (.mk 3 n bs s l) (.mk tk tn tl) = some tl := by
   unfold fieldsV V.k Ty.k Ty.l at h1 ⊢
   simp only at h1 ⊢
   by_cases c : tk = 3
   ·simp [c]
   ·simp [c] at h1
  rw [hf] at h2 h3
  refine ⟨h2, fun i x y hx hy => ?_⟩
  simp only [Option.getD_some, ofTs_zip, List.all_eq_true] at h3
  have hz : (⟨x, y, 1000 - 1⟩ : Task) ∈ tasks l tl (1000 - 1) := by
   unfold tasks
   rw [List.mem_map]
   exact ⟨(x, y), List.mem_of_getElem? (i := i) (by rw [List.getElem?_zip_eq_some]; exact ⟨hx, hy⟩), rfl⟩
  exact ofT_mono ds x y (1000 - 1) 1000 (by omega) (h3 _ hz)
 ·by_cases c : l.length = 0
  ·exact .inl c
  ·right
   have k0 : ¬ k = 0 := by
    rintro rfl
    apply c
    unfold fieldsV V.k V.l at h2
    simp only at h2
    rw [← h2]
    by_cases c2 : tk = 0
    ·simp only [Ty.k, c2, and_self, if_true]; split <;> rfl
    ·simp [Ty.k, c2]
   have k1 : ¬ k = 1 := by
    rintro rfl
    apply c
    unfold fieldsV V.k V.l at h2
    simp only at h2
    rw [← h2]
    by_cases c2 : tk = 1
    ·simp only [Ty.k, c2, and_self, if_true]; simp; split <;> rfl
    ·simp [Ty.k, c2]
   show totals l + 2 + l.length = total (.mk k n bs s l)
   rw [total, if_neg k0, if_neg (fun h => c h.2), if_neg k1]
   omega
set_option maxHeartbeats 8000000 in
theorem loop3 (ds : List Data) (v : V) (t : Ty) (n : Int) (hd : ds.length ≤ 60) (hc : ∀ d ∈ ds, d.l.length ≤ 3000) (hw : wt v ≤ 3000) (hp : v.k = 3 → t.l.length = v.l.length ∧ ∀ (i : Nat) (x : V) (y : Ty), v.l[i]? = some x → t.l[i]? = some y → ofT ds x y 1000 = true) :
  ∃ K, L env 0 true H3L10 X3L10 B3L10 = K ∧ ∀ (r : List V) (i : Nat) (sum : Int), v.l.drop i = r → i ≤ v.l.length → 0 ≤ sum → sum + totals r ≤ 12000 →
  K (den 91 [(0, .d (datasF ds)), (5, .d (.ref v.enc 0)), (6, .d (.ref t.enc 0)), (9, .d (.int .i64 n)), (11, .d (.int .i64 sum)), (48, .d (.slice 5 (V.encs v.l))), (49, .d (.int .i64 (v.l.length : Int))), (50, .d (.int .i64 (i : Int)))]) [] = some (.exit 0, den 91 [(5, .d (.ref v.enc 0)), (9, .d (.int .i64 n)), (11, .d (.int .i64 (sum + totals r)))], []) := by
 obtain ⟨K, hK⟩ : ∃ K, L env 0 true H3L10 X3L10 B3L10 = K := ⟨_, rfl⟩
 refine ⟨K, hK, ?_⟩
 have hz : v.l.length ≤ 3000 ∧ ∀ x ∈ v.l, wt x ≤ 3000 := by
  obtain ⟨k, n, bs, s, l⟩ := v
  rw [wt] at hw
  have := wts_len l
  refine ⟨by show l.length ≤ 3000; omega, fun x hx => ?_⟩
  have hx : x ∈ l := hx
  have := wts_mem hx
  omega
 intro r
 induction r with
 | nil =>
  intro i sum hl hi h1 h2
  have : v.l.length ≤ i := List.drop_eq_nil_iff.1 hl
  have e2 : ¬ (i : Int) < (v.l.length : Int) := by omega
  have z : sum + ((totals [] : Nat) : Int) = sum := by simp [totals]
  rw [L_rnd hK, z]
  simp (maxSteps := 9999999) -implicitDefEqProofs only [B3L10, e2, sT, reduceCtorEq, seval, ↓joinK_t, ↓joinK_f, ↓reduceIte]
 | cons x r ih =>
  intro i sum hl hi h1 h2
  obtain ⟨hlt, hx, hd2⟩ := drop_at hl
  have e2 : (i : Int) < (v.l.length : Int) := by omega
  have gx := encs_at hx
  have w1 : IntKind.i64.wrap ((i : Int) + 1) = ((i + 1 : Nat) : Int) := by rw [wrap_i64 (by omega) (by omega)]; omega
  have hxw := hz.2 x (List.mem_of_getElem? hx)
  have e8 := fun h => size_ok x hxw 1048576 (by omega) (by omega) h
  have ht : sizeV x 1048576 = total x := by unfold sizeV; have := total_wt x; rw [if_pos (by omega)]
  rw [ht] at e8
  have hs : sum + ((totals (x :: r) : Nat) : Int) = sum + total x + totals r := by simp only [totals]; omega
  have w2 : IntKind.i64.wrap (sum + total x) = sum + total x := wrap_i64 (by omega) (by omega)
  have ih := ih (i + 1) (sum + total x) hd2 (by omega) (by omega) (by omega)
  rw [hs]
  by_cases c : v.k = 3
  ·obtain ⟨c1, c2⟩ := hp c
   have hit : i < t.l.length := by omega
   obtain ⟨y, hy⟩ : ∃ y, t.l[i]? = some y := ⟨_, List.getElem?_eq_getElem hit⟩
   have ho := c2 i x y hx hy
   have e9 := fun h => of_ok9 ds x y hd hc hxw h
   rw [ho] at e9
   have gy := tencs_at hy
   have e3 : (i : Int) < (t.l.length : Int) := by omega
   obtain ⟨k, m, bs, s, l⟩ := v
   obtain ⟨tk, tn, tl⟩ := t
   obtain ⟨xk, xm, xb, xs, xl⟩ := x
   obtain ⟨yk, ys, yl⟩ := y
   have c : k = 3 := c
   subst c
   simp only [V.l, V.enc, Ty.enc, Ty.l] at *
   rw [L_rnd hK]
   simp (maxSteps := 9999999) -implicitDefEqProofs only [B3L10, e2, e3, gx, gy, w1, w2, e8, e9, ih, V.encs_len, Ty.encs_len, sT, reduceCtorEq, seval, ↓joinK_t, ↓joinK_f, ↓reduceIte]
   done
  ·obtain ⟨k, m, bs, s, l⟩ := v
   obtain ⟨tk, tn, tl⟩ := t
   obtain ⟨xk, xm, xb, xs, xl⟩ := x
   have c : ¬ k = 3 := c
   have c : (k == 3) = false := by simpa using c
   simp only [V.l, V.enc, Ty.enc, Ty.l] at *
   rw [L_rnd hK]
   simp (maxSteps := 9999999) -implicitDefEqProofs only [B3L10, e2, gx, w1, w2, e8, ih, c, V.encs_len, Ty.encs_len, sT, reduceCtorEq, seval, ↓joinK_t, ↓joinK_f, ↓reduceIte]
   done
theorem benc_len (t : Ty) : ∃ a b c, t.enc = [a, b, c] := by cases t; exact ⟨_, _, _, rfl⟩
set_option maxHeartbeats 8000000 in
theorem parts_law (ds : List Data) (v : V) (t : Ty) (m : Int) (hm : 0 ≤ m) (hm2 : m < 256) (h : List Res) : D env 3 [.d (datasF ds), .d (.agg v.enc), .d (.agg t.enc), .d (.int .u8 m)] h = some (.val (.d (.bool true)) h) := by
 have e7 := awake_any
 have e4 := fun h => datas_ok ds h
 have e5 := fun h => light_ok v 3000 h (by omega) (by omega)
 have e6 := fun h => tlight_ok t 1000 h (by omega) (by omega)
 by_cases c1 : ((ds.length : Int) ≤ 60 ∧ 0 ≤ lightD ds 2998)
 rotate_left
 ·have c1 : (decide ((ds.length : Int) ≤ 60) && decide (0 ≤ lightD ds 2998)) = false := by simpa using c1
  rw [c1] at e4
  rw [D_dat (F := A3) rfl rfl rfl rfl]
  simp (maxSteps := 9999999) -implicitDefEqProofs only [A3, B3, e4, e7, venc_one, tenc_one, sT, reduceCtorEq, seval, ↓joinK_t, ↓joinK_f, ↓reduceIte]
 have hlc := lightD_len ds 2998 c1.2
 have c1' : (decide ((ds.length : Int) ≤ 60) && decide (0 ≤ lightD ds 2998)) = true := by simpa using c1
 rw [c1'] at e4
 have hd : ds.length ≤ 60 := by omega
 have hc : ∀ d ∈ ds, d.l.length ≤ 3000 := fun d hd => by have := hlc.2 d hd; omega
 by_cases c2 : lightV v 3000 < 0
 ·rw [D_dat (F := A3) rfl rfl rfl rfl]
  simp (maxSteps := 9999999) -implicitDefEqProofs only [A3, B3, e4, e5, e7, c2, take_d (venc_len v), flat_map, venc_len, venc_one, tenc_one, sT, reduceCtorEq, seval, ↓joinK_t, ↓joinK_f, ↓reduceIte]
 have hw : wt v ≤ 3000 := by have := light_wt v 3000 (by omega) (by omega); omega
 by_cases c3 : lightT t 1000 < 0
 ·rw [D_dat (F := A3) rfl rfl rfl rfl]
  simp (maxSteps := 9999999) -implicitDefEqProofs only [A3, B3, e4, e5, e6, e7, c2, c3, take_d (venc_len v), take_d (tenc_len t), flat_map, venc_len, tenc_len, venc_one, tenc_one, sT, reduceCtorEq, seval, ↓joinK_t, ↓joinK_f, ↓reduceIte]
 have htw := total_wt v
 have e8 := fun h => size_ok v hw 1048576 (by omega) (by omega) h
 have e8m := fun h => size_ok v hw m (by omega) (by omega) h
 have z1 : sizeV v 1048576 = total v := by unfold sizeV; rw [if_pos (by omega)]
 have z2 : sizeV v m = if m + 1 < (total v : Int) then m + 1 else (total v : Int) := by unfold sizeV; split <;> split <;> omega
 have w1 : IntKind.i64.wrap m = m := wrap_i64 (by omega) (by omega)
 have w2 : IntKind.i64.wrap (m + 1) = m + 1 := wrap_i64 (by omega) (by omega)
 rw [z1] at e8
 rw [z2] at e8m
 have e9 := fun h => of_ok9 ds v t hd hc hw h
 cases c4 : ofT ds v t 1000 with
 | false =>
  rw [c4] at e9
  rw [D_dat (F := A3) rfl rfl rfl rfl]
  simp (maxSteps := 9999999) -implicitDefEqProofs only [A3, B3, e4, e5, e6, e7, e8, e8m, e9, w1, w2, c2, c3, take_d (venc_len v), take_d (tenc_len t), flat_map, venc_len, tenc_len, venc_one, tenc_one, sT, reduceCtorEq, seval, ↓joinK_t, ↓joinK_f, ↓reduceIte]
  done
 | true =>
  rw [c4] at e9
  obtain ⟨hp, hq⟩ := of_parts ds v t c4
  obtain ⟨K, hK, hk⟩ := loop3 ds v t (total v) hd hc hw hp
  have e := hk v.l 0 0 rfl (by omega) (by omega) (by have := totals_wt v.l; obtain ⟨k, n, bs, s, l⟩ := v; rw [wt] at hw; simp only [V.l] at *; omega)
  simp only [Int.ofNat_zero, Int.zero_add] at e
  have hwl : v.l.length ≤ 3000 ∧ totals v.l ≤ 12000 := by have := totals_wt v.l; have := wts_len v.l; obtain ⟨k, n, bs, s, l⟩ := v; rw [wt] at hw; simp only [V.l] at *; omega
  have w3 : IntKind.i64.wrap ((totals v.l : Int) + 2) = (totals v.l : Int) + 2 := wrap_i64 (by omega) (by omega)
  have w4 : IntKind.i64.wrap ((totals v.l : Int) + 2 + (v.l.length : Int)) = (totals v.l : Int) + 2 + (v.l.length : Int) := wrap_i64 (by omega) (by omega)
  have q1 : (v.l.length : Int) = 0 ∨ ¬ (v.l.length : Int) = 0 ∧ (totals v.l : Int) + 2 + (v.l.length : Int) = (total v : Int) := by omega
  obtain ⟨k, n, bs, s, l⟩ := v
  obtain ⟨tk, tn, tl⟩ := t
  simp only [V.enc, Ty.enc, V.l] at *
  rw [D_dat (F := A3) rfl rfl rfl rfl]
  simp (maxSteps := 9999999) -implicitDefEqProofs only [A3, B3, e4, e5, e6, e7, e8, e8m, e9, w1, w2, c2, c3, hK, e, w3, w4, V.encs_len, sT, reduceCtorEq, seval, ↓joinK_t, ↓joinK_f, ↓reduceIte]
  have q2 : ((l.length : Int) == 0 || (totals l : Int) + 2 + (l.length : Int) == (total (.mk k n bs s l) : Int)) = true := by
   rcases q1 with q1 | ⟨_, q1⟩ <;> simp [q1]
  rw [q2]
end Go.Proofs.Ytnhpfocibedoeaa.Codes
namespace Go.Deepv
open Go.RowKit
abbrev Start (w : World) : Settled := fun b _ => b < w.heap.size
def RepFs (w : World) (cs : List Value) (fs : List FV) : Prop := cs.length = fs.length ∧ ∀ (j : Nat) (x : FV), fs[j]? = some x → RepF (Start w) w (cs.getD j undef) x ∧ x.one = true
theorem RepFs.append {w : World} {c1 c2 : List Value} {f1 f2 : List FV} (h1 : RepFs w c1 f1) (h2 : RepFs w c2 f2) : RepFs w (c1 ++ c2) (f1 ++ f2) := by
 refine ⟨by simp [h1.1, h2.1], fun j x hx => ?_⟩
 rcases Nat.lt_or_ge j f1.length with hj | hj
 ·rw [List.getElem?_append_left hj] at hx
  have := h1.2 j x hx
  rw [List.getD_eq_getElem?_getD, List.getElem?_append_left (by rw [h1.1]; exact hj), ← List.getD_eq_getElem?_getD]
  exact this
 ·rw [List.getElem?_append_right hj] at hx
  have := h2.2 _ x hx
  rw [List.getD_eq_getElem?_getD, List.getElem?_append_right (by rw [h1.1]; exact hj), ← List.getD_eq_getElem?_getD, h1.1]
  exact this
theorem RepFs.nil {w : World} : RepFs w [] [] := ⟨rfl, fun j x hx => by simp at hx⟩
theorem RepFs.single {w : World} {v : Value} {x : FV} (h : RepF (Start w) w v x) (h1 : x.one = true) : RepFs w [v] [x] := by
 refine ⟨rfl, fun j y hy => ?_⟩
 cases j with
 | zero => simp at hy; subst hy; exact ⟨h, h1⟩
 | succ j => simp at hy
def Fits (P : Program) : Nat → TypeId → List FV → Prop
 | 0, _, _ => False
 | k + 1, t, fs => match P.underlying t with
  | some .bool => ∃ b, fs = [.bool b]
  | some (.int kd) => ∃ n, fs = [.int kd n] ∧ (Lit.int kd n).wf = true
  | some .string => ∃ s, fs = [.str s] ∧ s.size ≤ maxLen
  | some (.slice e) => ∃ elems, fs = [.slice (P.cellsOf e) elems] ∧ elems.length ≤ maxLen ∧ ∀ c ∈ elems, c.length = P.cellsOf e ∧ Fits P k e c
  | some (.pointer e) => fs = [.nilp] ∨ ∃ c, fs = [.ref c 0] ∧ c.length = P.cellsOf e ∧ Fits P k e c
  | some (.struct fl) => fs.length = P.cellsOf t ∧ ∀ f ∈ fl.toList, Fits P k f.type ((fs.drop f.offset).take (P.cellsOf f.type))
  | some (.interface _) => fs = [.nili]
  | _ => True
theorem mapM_mem {α β : Type} {f : α → Option β} : ∀ {l : List α} {r : List β}, l.mapM f = some r → ∀ x ∈ l, ∃ y, f x = some y
 | [], r, h, x, hx => by cases hx
 | a :: l, r, h, x, hx => by
  simp only [List.mapM_cons, Option.pure_def, Option.bind_eq_bind, Option.bind_eq_some_iff, Option.some.injEq] at h
  obtain ⟨b, hb, bs, hbs, rfl⟩ := h
  rcases List.mem_cons.1 hx with hx | hx
  ·exact ⟨b, by rw [hx]; exact hb⟩
  ·exact mapM_mem hbs x hx
theorem struct_cells {w : World} {P : Program} {k : Nat} (sz : TypeId → Nat) : ∀ (fl : List Field) (off : Nat) (cs : List Value), (∀ (j : Nat) f, fl[j]? = some f → f.offset = off + ((fl.take j).map fun f => sz f.type).sum) → cs.length = off + (fl.map fun f => sz f.type).sum →
  (∀ f ∈ fl, ∃ fs, RepFs w ((cs.drop f.offset).take (sz f.type)) fs ∧ Fits P k f.type fs) →
  ∃ fs, RepFs w (cs.drop off) fs ∧ ∀ f ∈ fl, Fits P k f.type ((fs.drop (f.offset - off)).take (sz f.type))
 | [], off, cs, h1, h2, h3 => ⟨[], by
   have : cs.drop off = [] := List.drop_of_length_le (by simp at h2; omega)
   rw [this]; exact RepFs.nil, fun f hf => by cases hf⟩
 | g :: fl, off, cs, h1, h2, h3 => by
  have hg : g.offset = off := by simpa using h1 0 g rfl
  obtain ⟨fs1, r1, t1⟩ := h3 g (by simp)
  rw [hg] at r1
  have l1 : fs1.length = sz g.type := by
   rw [← r1.1, List.length_take, List.length_drop]
   simp only [List.map_cons, List.sum_cons] at h2
   omega
  obtain ⟨fs2, r2, t2⟩ := struct_cells (P := P) (k := k) (w := w) sz fl (off + sz g.type) cs (fun j f hf => by
   have := h1 (j + 1) f (by simpa using hf)
   simp only [List.take_succ_cons, List.map_cons, List.sum_cons] at this
   omega) (by simp at h2; omega) (fun f hf => h3 f (by simp [hf]))
  refine ⟨fs1 ++ fs2, ?_, fun f hf => ?_⟩
  ·have : cs.drop off = (cs.drop off).take (sz g.type) ++ cs.drop (off + sz g.type) := by
    rw [← List.drop_drop]; exact (List.take_append_drop _ _).symm
   rw [this]
   exact r1.append r2
  ·rcases List.mem_cons.1 hf with hf | hf
   ·rw [hf, hg, Nat.sub_self, List.drop_zero, List.take_append_of_le_length (by omega), List.take_of_length_le (by omega)]
    exact t1
   ·have ht := t2 f hf
    obtain ⟨j, hj⟩ := List.getElem?_of_mem hf
    have := h1 (j + 1) f (by simpa using hj)
    simp only [List.take_succ_cons, List.map_cons, List.sum_cons] at this
    rw [List.drop_append, List.drop_of_length_le (by omega), List.nil_append, l1]
    rwa [show f.offset - off - sz g.type = f.offset - (off + sz g.type) from by omega]
section
variable {H : Type} {enc : TypeId × Value → H} {P : Program} {w : World}
def Plain (P : Program) (T : TypeId → Prop) : Prop := ∀ t, T t → match P.underlying t with
 | some .bool | some (.int _) | some .string => True
 | some (.slice e) => 0 < P.cellsOf e
 | some (.struct _) => True
 | _ => False
theorem cells_at {a : Addr} {n : Nat} {cs : List Value} (h : w.cells? 0 a n = some cs) : cs.length = n ∧ ∀ j, j < n → w.cell? (a.add j) = some (cs.getD j undef) := by
 obtain ⟨_, hl, hc⟩ := World.cells?_some h
 refine ⟨hl, fun j hj => ?_⟩
 rw [hc j hj, List.getD_eq_getElem?_getD, List.getElem?_eq_getElem (by omega)]
 rfl
theorem pick_list {α : Type} {p : Nat → α → Prop} : ∀ n : Nat, (∀ i, i < n → ∃ y, p i y) → ∃ l : List α, l.length = n ∧ ∀ (i : Nat) (y : α), l[i]? = some y → p i y
 | 0, _ => ⟨[], rfl, fun i y hy => by simp at hy⟩
 | n + 1, h => by
  obtain ⟨l, h1, h2⟩ := pick_list n fun i hi => h i (by omega)
  obtain ⟨y, hy⟩ := h n (by omega)
  refine ⟨l ++ [y], by simp [h1], fun i z hz => ?_⟩
  rcases Nat.lt_or_ge i l.length with hi | hi
  ·rw [List.getElem?_append_left hi] at hz; exact h2 i z hz
  ·rw [List.getElem?_append_right hi] at hz
   have : i - l.length = 0 := by
    have := (List.getElem?_eq_some_iff.1 hz).1
    simp at this
    omega
   rw [this] at hz
   simp at hz
   subst hz
   rwa [show i = n from by omega]
theorem rep_of_trod {T : TypeId → Prop} (K : Kids P T) (hp : Plain P T) : ∀ (n : Nat) (t : TypeId) (cs : List Value) (x : DataW H × List MemPlace), T t → DataW.trod enc P w 0 (fun _ => true) true n t cs = some x → ∃ fs, RepFs w cs fs ∧ Fits P n t fs := by
 intro n
 induction n with
 | zero => intro t cs x ht h; simp [DataW.trod] at h
 | succ n ih =>
  intro t cs x ht h
  have hpt := hp t ht
  rw [DataW.trod.eq_def] at h
  simp only at h
  split at h <;> first
   | (cases h; done)
   | skip
  ·rename_i b hu
   exact ⟨[.bool b], RepFs.single (.bool b) rfl, by simp [Fits, hu]⟩
  ·rename_i k k' m hu
   split at h
   ·rename_i hk
    obtain ⟨rfl, hw⟩ := hk
    exact ⟨[.int k' m], RepFs.single (.int k' m) rfl, by simp [Fits, hu, hw]⟩
   ·cases h
  ·rename_i hu; rw [hu] at hpt; exact hpt.elim
  ·rename_i s hu
   split at h
   ·rename_i hk
    exact ⟨[.str s], RepFs.single (.str s) rfl, by simp [Fits, hu, hk]⟩
   ·cases h
  all_goals rename_i hu
  all_goals first
   | (rw [hu] at hpt; exact hpt.elim)
   | skip
  ·rename_i e
   exact ⟨[.slice (P.cellsOf e) []], RepFs.single (.slice0 none 0 _) rfl, by simp [Fits, hu]⟩
  ·rename_i e a len cap
   rw [hu] at hpt
   simp only at hpt
   split at h
   ·rename_i hk
    obtain ⟨_, hk1, hk2⟩ := hk
    simp only [Option.bind_eq_some_iff, Option.map_eq_some_iff] at h
    obtain ⟨elems, hel, rest, hrest, rfl⟩ := h
    have each : ∀ i, i < len → ∃ c fs, w.cells? 0 (a.add (i * P.cellsOf e)) (P.cellsOf e) = some c ∧ RepFs w c fs ∧ Fits P n e fs := by
     intro i hi
     obtain ⟨y, hy⟩ := mapM_mem hel i (List.mem_range.2 hi)
     simp only [Option.bind_eq_some_iff] at hy
     obtain ⟨c, hc, hy⟩ := hy
     obtain ⟨fs, h1, h2⟩ := ih e c y (K.slice ht hu) hy
     exact ⟨c, fs, hc, h1, h2⟩
    obtain ⟨l, hl, hlp⟩ := pick_list (p := fun i fs => ∃ c, w.cells? 0 (a.add (i * P.cellsOf e)) (P.cellsOf e) = some c ∧ RepFs w c fs ∧ Fits P n e fs) len fun i hi => by
     obtain ⟨c, fs, h1, h2, h3⟩ := each i hi
     exact ⟨fs, c, h1, h2, h3⟩
    have lens : ∀ (i : Nat) (c : List FV), l[i]? = some c → c.length = P.cellsOf e := fun i c hc => by
     obtain ⟨cc, h1, h2, h3⟩ := hlp i c hc
     rw [← h2.1, (cells_at h1).1]
    refine ⟨[.slice (P.cellsOf e) l], RepFs.single ?_ rfl, ?_⟩
    ·rcases Nat.eq_zero_or_pos len with h0 | h0
     ·subst h0
      have : l = [] := List.eq_nil_of_length_eq_zero hl
      subst this
      exact .slice0 (some a) cap _
     ·obtain ⟨b, o, sp⟩ := a
      have hsp : sp = none := by
       obtain ⟨c, fs, h1, _⟩ := each 0 h0
       have := (cells_at h1).2 0 hpt
       simp only [Nat.zero_mul, Addr.add, if_true] at this
       unfold World.cell? at this
       split at this
       ·cases sp with
        | none => rfl
        | some q => simp at this
       ·cases this
      subst hsp
      have padd : ∀ i j, ((⟨b, o, none⟩ : Addr).add i).add j = ⟨b, o + i + j, none⟩ := fun i j => by
       unfold Addr.add
       split <;> split <;> simp_all
      have cell : ∀ i j, i < len → j < P.cellsOf e → ∃ v, w.cell? ⟨b, o + i * P.cellsOf e + j, none⟩ = some v := fun i j hi hj => by
       obtain ⟨c, fs, h1, _⟩ := each i hi
       have := (cells_at h1).2 j hj
       rw [padd] at this
       exact ⟨_, this⟩
      have rep : ∀ (i j : Nat) (c : List FV) (x : FV), l[i]? = some c → c[j]? = some x → RepF (Start w) w ((w.cell? ⟨b, o + i * P.cellsOf e + j, none⟩).getD undef) x ∧ x.one = true := fun i j c x hc hx => by
       obtain ⟨cc, h1, h2, h3⟩ := hlp i c hc
       have hj : j < P.cellsOf e := by rw [← lens i c hc]; exact (List.getElem?_eq_some_iff.1 hx).1
       have := (cells_at h1).2 j hj
       rw [padd] at this
       rw [this]
       exact h2.2 j x hx
      refine .slice b o len cap _ l (fun i j => (w.cell? ⟨b, o + i * P.cellsOf e + j, none⟩).getD undef) hl hk1 lens (fun i j hi hj => ?_) (fun i j c x hc hx => (rep i j c x hc hx).1) (fun i j c x hc hx => (rep i j c x hc hx).2)
      obtain ⟨v, hv⟩ := cell i j hi hj
      exact ⟨World.block_lt_of_cell? w _ hv, by rw [hv]; rfl⟩
    ·simp only [Fits, hu]
     refine ⟨l, rfl, by omega, fun c hc => ?_⟩
     obtain ⟨i, hi⟩ := List.getElem?_of_mem hc
     obtain ⟨cc, h1, h2, h3⟩ := hlp i c hi
     exact ⟨lens i c hi, h3⟩
   ·cases h
  ·rename_i cs' _ _ fl
   split at h
   ·rename_i hlen
    simp only [Option.map_eq_some_iff] at h
    obtain ⟨xs, hxs, rfl⟩ := h
    obtain ⟨k1, k2, k3⟩ := K.struct ht hu
    obtain ⟨fs, r1, r2⟩ := struct_cells (P := P) (k := n) (w := w) P.cellsOf fl.toList 0 cs' (fun j f hf => by rw [k3 j f hf]; simp) (by rw [hlen, k2]; simp) (fun f hf => by
     obtain ⟨y, hy⟩ := mapM_mem hxs f hf
     exact ih f.type _ y (k1 f hf) hy)
    rw [List.drop_zero] at r1
    refine ⟨fs, r1, ?_⟩
    simp only [Fits, hu]
    exact ⟨by rw [← r1.1, hlen], fun f hf => by simpa using r2 f hf⟩
   ·cases h
theorem carryAll {w' : World} {sp : Nat → Bool} (bel : Below w.heap.size w w') : ∀ {ts : List TypeId} {vs : List Value} {ds : List (DataW H)} {ps : List MemPlace}, (∀ p ∈ ps, p.block < w.heap.size) → DataW.TrodAll enc P w 0 sp true ts vs ds ps → DataW.TrodAll enc P w' 0 sp true ts vs ds ps
 | [], [], [], _, _, h => h
 | t :: ts, v :: vs, d :: ds, ps, hps, ⟨p, q, ⟨n, h1⟩, h2, e⟩ => ⟨p, q, ⟨n, DataW.trod_carry n t _ (d, p) h1 fun x hx => bel.same (hps x (by rw [e]; exact List.mem_append_left _ hx))⟩, carryAll bel (fun x hx => hps x (by rw [e]; exact List.mem_append_right _ hx)) h2, e⟩
theorem args_back {T : TypeId → Prop} (K : Kids P T) (hz : ∀ t e, T t → P.underlying t = some (.slice e) → 0 < P.cellsOf e) {w' : World} (bel : Below w.heap.size w w') {ts : List TypeId} {vs : List Value} {ds : List (DataW H)} {ps : List MemPlace} (hT : ∀ t ∈ ts, T t) (h : DataW.TrodAll enc P w 0 (fun _ => true) true ts vs ds ps) :
  DataW.TrodAll enc P w' 0 (fun b => decide (b < w.heap.size)) true ts vs ds ps :=
 carryAll bel h.lt (h.respare K hz hT fun p hp => by simpa using h.lt p hp)
def kidsB (P : Program) (l : List TypeId) : Bool := l.all fun t => decide (t < P.types.size) && match P.underlying t with
 | some .bool | some (.int _) | some .string => true
 | some (.slice e) => l.contains e && decide (0 < P.cellsOf e)
 | some (.struct fl) => fl.toList.all fun f => l.contains f.type
 | _ => false
theorem kidsB_plain {P : Program} {l : List TypeId} (h : kidsB P l = true) : Plain P (· ∈ l) := by
 intro t ht
 have := List.all_eq_true.1 h t ht
 simp only [Bool.and_eq_true] at this
 have h2 := this.2
 split at h2 <;> simp_all
theorem kidsB_kids {P : Program} {l : List TypeId} (hl : laidOutB P = true) (hm : mapsRowed P = true) (h : kidsB P l = true) : Kids P (· ∈ l) := by
 have K := kids_rows hl hm
 have at_ : ∀ t ∈ l, t < P.types.size ∧ (match P.underlying t with
   | some .bool | some (.int _) | some .string => true
   | some (.slice e) => l.contains e && decide (0 < P.cellsOf e)
   | some (.struct fl) => fl.toList.all fun f => l.contains f.type
   | _ => false) = true := fun t ht => by
  have := List.all_eq_true.1 h t ht
  simp only [Bool.and_eq_true, decide_eq_true_eq] at this
  exact this
 refine ⟨fun {t e} ht hu => ?_, fun {t e} ht hu => ?_, fun {t e n} ht hu => ?_, fun {t fs} ht hu => ?_, fun {t k e} ht hu => ?_⟩
 ·have := (at_ t ht).2; rw [hu] at this; cases this
 ·have := (at_ t ht).2
  rw [hu] at this
  simp only [Bool.and_eq_true, List.contains_eq_mem, decide_eq_true_eq] at this
  exact this.1
 ·have := (at_ t ht).2; rw [hu] at this; cases this
 ·have := (at_ t ht).2
  rw [hu] at this
  simp only [List.all_eq_true, List.contains_eq_mem, decide_eq_true_eq] at this
  exact ⟨this, (K.struct (at_ t ht).1 hu).2⟩
 ·have := (at_ t ht).2; rw [hu] at this; cases this
theorem kidsB_full {P : Program} {l : List TypeId} (h : kidsB P l = true) : ∀ t e, t ∈ l → P.underlying t = some (.slice e) → 0 < P.cellsOf e := by
 intro t e ht hu
 have := List.all_eq_true.1 h t ht
 rw [hu] at this
 simp only [Bool.and_eq_true, decide_eq_true_eq] at this
 exact this.2.2
theorem arg_one {T : TypeId → Prop} (K : Kids P T) (hp : Plain P T) {t : TypeId} {v : Value} {d : DataW H} {ps : List MemPlace} (ht : T t) (h : DataW.Trod enc P w 0 (fun _ => true) true t v d ps) (hv : v.cells.toList = [v]) : ∃ n x, RepF (Start w) w v x ∧ Fits P n t [x] := by
 obtain ⟨n, hn⟩ := h
 obtain ⟨fs, h1, h2⟩ := rep_of_trod K hp n t _ _ ht hn
 rw [hv] at h1
 match fs, h1, h2 with
 | [], h1, _ => exact absurd h1.1 (by simp)
 | [x], h1, h2 => exact ⟨n, x, (h1.2 0 x rfl).1, h2⟩
 | _ :: _ :: _, h1, _ => exact absurd h1.1 (by simp)
end
end Go.Deepv
namespace Go.Deepv
open Go.RowKit Go.WideShapes
section
variable {P : Program}
def Sort0 (P : Program) (t : TypeId) (c : List FV) : Prop := ∃ n, Fits P n t c
def in64 (n : Int) : Prop := -9223372036854775808 ≤ n ∧ n ≤ 9223372036854775807
def inU8 (n : Int) : Prop := 0 ≤ n ∧ n ≤ 255
theorem int_fits {n : Nat} {t : TypeId} {c : List FV} (hu : P.underlying t = some (.int .i64)) (h : Fits P n t c) : ∃ m, c = [.int .i64 m] ∧ in64 m := by
 cases n with
 | zero => exact h.elim
 | succ n =>
  simp only [Fits, hu] at h
  obtain ⟨m, rfl, hw⟩ := h
  exact ⟨m, rfl, by simpa [in64, Lit.wf, IntKind.min, IntKind.max, IntKind.signed, IntKind.bits] using hw⟩
theorem u8_fits {n : Nat} {t : TypeId} {c : List FV} (hu : P.underlying t = some (.int .u8)) (h : Fits P n t c) : ∃ m, c = [.int .u8 m] ∧ inU8 m := by
 cases n with
 | zero => exact h.elim
 | succ n =>
  simp only [Fits, hu] at h
  obtain ⟨m, rfl, hw⟩ := h
  exact ⟨m, rfl, by simpa [inU8, Lit.wf, IntKind.min, IntKind.max, IntKind.signed, IntKind.bits] using hw⟩
theorem str_fits {n : Nat} {t : TypeId} {c : List FV} (hu : P.underlying t = some .string) (h : Fits P n t c) : ∃ s, c = [.str s] ∧ s.size ≤ 9223372036854775807 := by
 cases n with
 | zero => exact h.elim
 | succ n =>
  simp only [Fits, hu] at h
  obtain ⟨m, rfl, hw⟩ := h
  exact ⟨m, rfl, hw⟩
theorem bool_fits {n : Nat} {t : TypeId} {c : List FV} (hu : P.underlying t = some .bool) (h : Fits P n t c) : ∃ b, c = [.bool b] := by
 cases n with
 | zero => exact h.elim
 | succ n =>
  simp only [Fits, hu] at h
  exact h
theorem all_of {α : Type} {f : α → List FV} {p : α → Prop} : ∀ {l : List (List FV)}, (∀ c ∈ l, ∃ a, c = f a ∧ p a) → ∃ as_ : List α, l = as_.map f ∧ ∀ a ∈ as_, p a
 | [], _ => ⟨[], rfl, fun a ha => by simp at ha⟩
 | c :: l, h => by
  obtain ⟨as_, e, hp⟩ := all_of (l := l) fun c hc => h c (by simp [hc])
  obtain ⟨a, e1, hp1⟩ := h c (by simp)
  exact ⟨a :: as_, by simp [e, e1], fun b hb => by rcases List.mem_cons.1 hb with rfl | hb; exact hp1; exact hp b hb⟩
theorem slice_fits {α : Type} {n : Nat} {t e : TypeId} {c : List FV} (hu : P.underlying t = some (.slice e)) (f : α → List FV) (p : α → Prop) (mk : ∀ m c, m < n → c.length = P.cellsOf e → Fits P m e c → ∃ a, c = f a ∧ p a) (h : Fits P n t c) :
  ∃ l : List α, c = [.slice (P.cellsOf e) (l.map f)] ∧ l.length ≤ 9223372036854775807 ∧ ∀ a ∈ l, p a := by
 cases n with
 | zero => exact h.elim
 | succ n =>
  simp only [Fits, hu] at h
  obtain ⟨l, rfl, hm, hl⟩ := h
  obtain ⟨as_, rfl, hp⟩ := all_of fun c hc => mk n c (Nat.lt_succ_self n) (hl c hc).1 (hl c hc).2
  exact ⟨as_, rfl, by have h2 : maxLen = 9223372036854775807 := rfl; simp only [List.length_map] at hm; omega, hp⟩
theorem struct_fits {n : Nat} {t : TypeId} {fl : Array Field} {c : List FV} (hu : P.underlying t = some (.struct fl)) (h : Fits P n t c) : ∃ m, n = m + 1 ∧ c.length = P.cellsOf t ∧ ∀ f ∈ fl.toList, Fits P m f.type ((c.drop f.offset).take (P.cellsOf f.type)) := by
 cases n with
 | zero => exact h.elim
 | succ n =>
  simp only [Fits, hu] at h
  exact ⟨n, rfl, h.1, h.2⟩
theorem arg_struct {H : Type} {enc : TypeId × Value → H} {w : World} {T : TypeId → Prop} (K : Kids P T) (hp : Plain P T) {t : TypeId} {v : Value} {d : DataW H} {ps : List MemPlace} {r : Reach} {base : Nat} {fl : Array Field} (ht : T t) (hu : P.underlying t = some (.struct fl)) (hv : Value.okWide P w r base t v)
  (h : DataW.Trod enc P w 0 (fun _ => true) true t v d ps) : ∃ n fs, RepF (Start w) w v (.agg fs) ∧ Fits P n t fs := by
 obtain ⟨cs, rfl, _⟩ := okWide_struct hu hv
 obtain ⟨n, hn⟩ := h
 obtain ⟨fs, h1, h2⟩ := rep_of_trod K hp n t _ _ ht hn
 refine ⟨n, fs, .agg cs fs ?_ fun j x hx => ?_, h2⟩
 ·simpa [Value.cells] using h1.1
 ·have := (h1.2 j x hx).1
  simpa [Value.cells, List.getD, Array.getD_eq_getD_getElem?] using this
theorem arg_str {H : Type} {enc : TypeId × Value → H} {w : World} {v : Value} {t : TypeId} {r : Reach} {base : Nat} (hu : P.underlying t = some .string) (hv : Value.okWide P w r base t v) : ∃ s, v = .string s ∧ RepF (Start w) w v (.str s) := by
 obtain ⟨s, rfl⟩ := okWide_string hu hv
 exact ⟨s, rfl, .str s⟩
end
end Go.Deepv
namespace Go.Proofs.Ytnhpfocibedoeaa.Codes
open Go Go.Deepv Go.WideShapes
def tys : List TypeId := [2, 3, 4, 5, 9, 22, 23, 24, 26, 27, 29, 39, 62, 64, 66]
theorem tysB : kidsB Try.prog tys = true := by kernel_rfl
theorem laidB : laidOutB Try.prog = true := by kernel_rfl
theorem rowedB : mapsRowed Try.prog = true := by kernel_rfl
theorem kids : Kids Try.prog (· ∈ tys) := kidsB_kids laidB rowedB tysB
theorem plain : Plain Try.prog (· ∈ tys) := kidsB_plain tysB
theorem full : ∀ t e, t ∈ tys → Try.prog.underlying t = some (.slice e) → 0 < Try.prog.cellsOf e := kidsB_full tysB
theorem c2 : Try.prog.cellsOf 2 = 1 := by kernel_rfl
theorem c3 : Try.prog.cellsOf 3 = 1 := by kernel_rfl
theorem c5 : Try.prog.cellsOf 5 = 1 := by kernel_rfl
theorem c9 : Try.prog.cellsOf 9 = 1 := by kernel_rfl
theorem c23 : Try.prog.cellsOf 23 = 1 := by kernel_rfl
theorem c24 : Try.prog.cellsOf 24 = 1 := by kernel_rfl
theorem c26 : Try.prog.cellsOf 26 = 5 := by kernel_rfl
theorem c27 : Try.prog.cellsOf 27 = 1 := by kernel_rfl
theorem c29 : Try.prog.cellsOf 29 = 3 := by kernel_rfl
theorem c39 : Try.prog.cellsOf 39 = 2 := by kernel_rfl
theorem c62 : Try.prog.cellsOf 62 = 1 := by kernel_rfl
theorem c64 : Try.prog.cellsOf 64 = 4 := by kernel_rfl
theorem c66 : Try.prog.cellsOf 66 = 2 := by kernel_rfl
theorem len2 {c : List FV} (h : c.length = 2) : ∃ a b, c = [a, b] := by match c, h with | [a, b], _ => exact ⟨a, b, rfl⟩
theorem len3 {c : List FV} (h : c.length = 3) : ∃ a b d, c = [a, b, d] := by match c, h with | [a, b, d], _ => exact ⟨a, b, d, rfl⟩
theorem len4 {c : List FV} (h : c.length = 4) : ∃ a b d e, c = [a, b, d, e] := by match c, h with | [a, b, d, e], _ => exact ⟨a, b, d, e, rfl⟩
theorem len5 {c : List FV} (h : c.length = 5) : ∃ a b d e f, c = [a, b, d, e, f] := by match c, h with | [a, b, d, e, f], _ => exact ⟨a, b, d, e, f, rfl⟩
theorem bytes_of {n : Nat} {c : List FV} (h : Fits Try.prog n 23 c) : ∃ l : List (List FV), c = [.slice 1 l] := by
 obtain ⟨l, e, _⟩ := slice_fits (α := List FV) Try.underlying23 id (fun _ => True) (fun m c _ _ _ => ⟨c, rfl, trivial⟩) h
 rw [c5] at e
 exact ⟨l, by simpa using e⟩
theorem value_of : ∀ (n : Nat) (c : List FV), Fits Try.prog n 26 c → ∃ v : V, c = v.enc := by
 intro n
 induction n using Nat.strongRecOn with
 | ind n ih =>
  intro c h
  obtain ⟨m, rfl, hl, hf⟩ := struct_fits Try.underlying26 h
  rw [c26] at hl
  obtain ⟨a1, a2, a3, a4, a5, rfl⟩ := len5 hl
  simp only [List.mem_cons, List.not_mem_nil, or_false, forall_eq_or_imp, forall_eq, c2, c3, c23, c9, c24, List.drop_succ_cons, List.drop_zero, List.take_succ_cons, List.take_zero] at hf
  obtain ⟨f1, f2, f3, f4, f5⟩ := hf
  obtain ⟨k1, e1, _⟩ := int_fits Try.underlying3 f1
  obtain ⟨k2, e2, _⟩ := int_fits Try.underlying2 f2
  obtain ⟨k3, e3⟩ := bytes_of f3
  obtain ⟨k4, e4, _⟩ := str_fits Try.underlying9 f4
  obtain ⟨k5, e5, _⟩ := slice_fits (α := V) Try.underlying24 V.enc (fun _ => True) (fun j c hj _ hc => by obtain ⟨v, hv⟩ := ih j (by omega) c hc; exact ⟨v, hv, trivial⟩) f5
  simp only [List.cons.injEq, and_true, c26] at e1 e2 e3 e4 e5
  subst e1 e2 e3 e4 e5
  exact ⟨.mk k1 k2 k3 k4 k5, by rw [V.enc, V.encs_map]⟩
theorem type_of : ∀ (n : Nat) (c : List FV), Fits Try.prog n 29 c → ∃ v : Ty, c = v.enc := by
 intro n
 induction n using Nat.strongRecOn with
 | ind n ih =>
  intro c h
  obtain ⟨m, rfl, hl, hf⟩ := struct_fits Try.underlying29 h
  rw [c29] at hl
  obtain ⟨a1, a2, a3, rfl⟩ := len3 hl
  simp only [List.mem_cons, List.not_mem_nil, or_false, forall_eq_or_imp, forall_eq, c3, c9, c27, List.drop_succ_cons, List.drop_zero, List.take_succ_cons, List.take_zero] at hf
  obtain ⟨f1, f4, f5⟩ := hf
  obtain ⟨k1, e1, _⟩ := int_fits Try.underlying3 f1
  obtain ⟨k4, e4, _⟩ := str_fits Try.underlying9 f4
  obtain ⟨k5, e5, _⟩ := slice_fits (α := Ty) Try.underlying27 Ty.enc (fun _ => True) (fun j c hj _ hc => by obtain ⟨v, hv⟩ := ih j (by omega) c hc; exact ⟨v, hv, trivial⟩) f5
  simp only [List.cons.injEq, and_true, c29] at e1 e4 e5
  subst e1 e4 e5
  exact ⟨.mk k1 k4 k5, by rw [Ty.enc, Ty.encs_map]⟩
theorem con_of (n : Nat) (c : List FV) (h : Fits Try.prog n 66 c) : ∃ v : Con, c = v.enc := by
 obtain ⟨m, rfl, hl, hf⟩ := struct_fits Try.underlying66 h
 rw [c66] at hl
 obtain ⟨a1, a2, rfl⟩ := len2 hl
 simp only [List.mem_cons, List.not_mem_nil, or_false, forall_eq_or_imp, forall_eq, c9, c27, List.drop_succ_cons, List.drop_zero, List.take_succ_cons, List.take_zero] at hf
 obtain ⟨f1, f2⟩ := hf
 obtain ⟨k1, e1, _⟩ := str_fits Try.underlying9 f1
 obtain ⟨k2, e2, _⟩ := slice_fits (α := Ty) Try.underlying27 Ty.enc (fun _ => True) (fun j c hj _ hc => by obtain ⟨v, hv⟩ := type_of j c hc; exact ⟨v, hv, trivial⟩) f2
 simp only [List.cons.injEq, and_true, c29] at e1 e2
 subst e1 e2
 exact ⟨⟨k1, k2⟩, by rw [Con.enc, Ty.encs_map]⟩
theorem data_of (n : Nat) (c : List FV) (h : Fits Try.prog n 64 c) : ∃ v : Data, c = v.enc := by
 obtain ⟨m, rfl, hl, hf⟩ := struct_fits Try.underlying64 h
 rw [c64] at hl
 obtain ⟨a1, a2, a3, a4, rfl⟩ := len4 hl
 simp only [List.mem_cons, List.not_mem_nil, or_false, forall_eq_or_imp, forall_eq, c9, c39, c62, List.drop_succ_cons, List.drop_zero, List.take_succ_cons, List.take_zero] at hf
 obtain ⟨f1, f2, f3⟩ := hf
 obtain ⟨j, rfl, _, hf1⟩ := struct_fits Try.underlying39 f1
 simp only [List.mem_cons, List.not_mem_nil, or_false, forall_eq_or_imp, forall_eq, c3, List.drop_succ_cons, List.drop_zero, List.take_succ_cons, List.take_zero] at hf1
 obtain ⟨g1, g2⟩ := hf1
 obtain ⟨k1, e1, _⟩ := int_fits Try.underlying3 g1
 obtain ⟨k2, e2, _⟩ := int_fits Try.underlying3 g2
 obtain ⟨k3, e3, _⟩ := str_fits Try.underlying9 f2
 obtain ⟨k4, e4, _⟩ := slice_fits (α := Con) Try.underlying62 Con.enc (fun _ => True) (fun j c hj _ hc => by obtain ⟨v, hv⟩ := con_of j c hc; exact ⟨v, hv, trivial⟩) f3
 simp only [List.cons.injEq, and_true, c66] at e1 e2 e3 e4
 subst e1 e2 e3 e4
 exact ⟨⟨k1, k2, k3, k4⟩, rfl⟩
theorem datas_of (n : Nat) (x : FV) (h : Fits Try.prog n 22 [x]) : ∃ ds : List Data, x = datasF ds := by
 obtain ⟨l, e, _⟩ := slice_fits (α := Data) Try.underlying22 Data.enc (fun _ => True) (fun j c hj _ hc => by obtain ⟨v, hv⟩ := data_of j c hc; exact ⟨v, hv, trivial⟩) h
 simp only [List.cons.injEq, and_true, c64] at e
 exact ⟨l, e⟩
end Go.Proofs.Ytnhpfocibedoeaa.Codes
namespace Go.Proofs.Ytnhpfocibedoeaa.Codes
open Go.Shelf Go.RowKit
theorem sizeB : (Try.prog.info? 156).map (·.size) = some 2 := by kernel_rfl
theorem liesB : liesAt Try.prog Try.prog.depth 156 (2 / Try.prog.cellsOf 156) 0 156 1 = true := by kernel_rfl
set_option maxHeartbeats 1000000 in
set_option maxRecDepth 100000 in
theorem copy_used (b : Nat) (w : World) (h0 : w.cell? ⟨b, 0, none⟩ = some (.pointer (some ⟨b, 0, none⟩))) :
  Calls Try.prog 88 #[.pointer (some ⟨b, 0, none⟩)] w fun e w' => e = .returned (.tuple #[]) ∧ w' = w := by
 obtain ⟨j, hj, _⟩ := Option.map_eq_some_iff.1 sizeB
 go_enter Try.func88, Try.ntmps88
 go_wp2
 rw [Lib.run_neq_ptr_same w _ Try.underlying154 hj]
 go_wp2
 go_end0
 exact ⟨rfl, rfl⟩
set_option maxHeartbeats 1000000 in
set_option maxRecDepth 100000 in
theorem copy_fresh (b : Nat) (w : World) (h0 : w.cell? ⟨b, 0, none⟩ = some (.pointer none)) (hsh : w.shape? b = some (156, 2)) (hfz : w.frozen? ⟨b, 0, none⟩ = false) :
  Calls Try.prog 88 #[.pointer (some ⟨b, 0, none⟩)] w fun e w' => e = .returned (.tuple #[]) ∧ w' = w.setCell ⟨b, 0, none⟩ (.pointer (some ⟨b, 0, none⟩)) := by
 obtain ⟨j, hj, hjs⟩ := Option.map_eq_some_iff.1 sizeB
 go_enter Try.func88, Try.ntmps88
 go_wp2
 rw [Lib.run_to_unsafe w ⟨b, 0, none⟩ Try.underlying154 Try.underlying174 hj (by rw [hjs]; decide) hsh (Nat.zero_lt_succ 1)]
 simp only [Result.andThen]
 rw [Oper.upon_value]
 go_wp2
 rw [run_callFunc_extern Try.func94 (by kernel_rfl) (by kernel_rfl) (by kernel_rfl) (e := Extern.AbiNoEscape.same) (by kernel_rfl)]
 rw [Lib.run_noEscape]
 simp only [Result.andThen]
 rw [Oper.upon_value]
 go_wp2
 rw [Lib.run_from_unsafe w ⟨b, 0, none⟩ Try.underlying174 Try.underlying154 hj hsh liesB]
 simp only [Result.andThen]
 rw [Oper.upon_value]
 go_wp2
 go_end0
 exact ⟨rfl, rfl⟩
open Go.Deepv Go.RowKit Go.Proofs
structure Facts (W : World) : Prop where
 none : True
theorem ext_ok {W : World} (X : Facts W) : ExtOk Try.prog (GW W) ext := by
 intro g F hF
 unfold ext at hF
 split at hF
 ·cases hF
  refine ⟨⟨Try.f88, by kernel_rfl, by kernel_rfl, by kernel_rfl⟩, fun args dargs S ρ h w out hi hl hr hd => ?_⟩
  exact copy_ext copy_used copy_fresh args dargs hi hl hr hd
 ·cases hF
theorem envOk {W : World} (X : Facts W) : EnvOk Try.prog (GW W) env := env_ok (ext_ok X)
end Go.Proofs.Ytnhpfocibedoeaa.Codes
