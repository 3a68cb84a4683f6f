/-
  slices.Clone of bytes; the examples of the law's end; The examples of the laws' end; The functions of values, by the deep machine; Numbers of 63 bits: the program's words and the reference's
  Conditions: none.
-/
import Derived.Test.YtnklhhmfmopdnaaGreatDoorSB
import Derived.Test.YtnklhhmfmopdnaaGreatDoorMF
set_option linter.unusedVariables false
set_option linter.unusedSimpArgs false
set_option maxRecDepth 100000
namespace Go.Proofs.YtnklhhmfmopdnaaGreatDoor.Codes
open Go Go.Deepv
def env0 : Env := { af := fun | 20 => some A20 | _ => none, ext := fun _ => none }
theorem env0_ok {G : Glob} : EnvOk Tryz.prog G env0 where
 af := fun g F h => by
  unfold env0 at h
  simp only at h
  split at h
  ·cases h; exact ⟨Tryz.f20, M20, true, by kernel_rfl, by kernel_rfl, .inl tr20⟩
  ·cases h
 ext := fun g F h => by cases h
theorem clone0 : CloneOk env0 20 1 1 where
 nil := by
  rw [D_dat (F := A20) rfl rfl rfl rfl]
  simp (maxSteps := 9999999) -implicitDefEqProofs only [A20, B20, sT, reduceCtorEq, seval, ↓joinK_t, ↓joinK_f, ↓reduceIte]
 non := by
  rw [D_dat (F := A20) rfl rfl rfl rfl]
  simp (maxSteps := 9999999) -implicitDefEqProofs only [A20, B20, appRow, sT, reduceCtorEq, seval, ↓joinK_t, ↓joinK_f, ↓reduceIte]
  try simp
 row := fun c l hl => by
  rw [D_dat (F := A20) rfl rfl rfl rfl]
  have e1 : ([] : List (List FV)).length = 0 := rfl
  have e2 : (0 + (c :: l).length) * 1 ≤ 140737488355328 := by simp; omega
  simp (maxSteps := 9999999) -implicitDefEqProofs only [A20, B20, appRow, e1, e2, sT, reduceCtorEq, seval, ↓joinK_t, ↓joinK_f, ↓reduceIte]
  simp
  omega
theorem ext_ok {G : Glob} : ExtOk Tryz.prog G ext := by
 intro g F h
 unfold ext at h
 split at h
 ·simp only [Option.some.injEq] at h
  subst h
  refine ⟨⟨Tryz.f20, by kernel_rfl, by kernel_rfl, by kernel_rfl⟩, fun args dargs S ρ h w out hi hl hr hd => clone_ext env0_ok clone0 args dargs hi hl hr hd⟩
 ·cases h
end Go.Proofs.YtnklhhmfmopdnaaGreatDoor.Codes
namespace Go.Proofs.YtnklhhmfmopdnaaGreatDoor.Codes
open Go Go.Deepv
theorem awake_ok : D env 6 [] [] = some (.val (.d (.bool true)) []) := D_reckon 60 (by kernel_rfl)
end Go.Proofs.YtnklhhmfmopdnaaGreatDoor.Codes
namespace Go.Proofs.YtnklhhmfmopdnaaGreatDoor.Codes
open Go.Deepv
inductive V where
 | mk (kind num : Int) (bytes : List Int) (name : ByteArray) (kids : List V)
mutual
theorem V.ind {p : V → Prop} (h : ∀ k n b s l, (∀ v ∈ l, p v) → p (.mk k n b s l)) : ∀ v, p v
 | .mk k n b s l => h k n b s l (V.inds h l)
theorem V.inds {p : V → Prop} (h : ∀ k n b s l, (∀ v ∈ l, p v) → p (.mk k n b s l)) : ∀ l : List V, ∀ v ∈ l, p v
 | [], v, hv => by cases hv
 | u :: l, v, hv => by
  have h1 := V.ind h u
  have h2 := V.inds h l v
  rcases List.mem_cons.1 hv with he | hv
  ·rw [he]; exact h1
  ·exact h2 hv
end
mutual
def V.enc : V → List FV
 | .mk k n b s l => [.int .i64 k, .int .i64 n, .slice 1 (b.map fun x => [.int .u8 x]), .str s, .slice 5 (V.encs l)]
def V.encs : List V → List (List FV)
 | [] => []
 | v :: l => v.enc :: V.encs l
end
mutual
def V.light : V → Int → Int
 | .mk _ _ b s l, left => V.lights l (left - 1 - (if (1048576 : Int) < (b.length : Int) then 1048576 else (b.length : Int)) - (if (1048576 : Int) < (s.size : Int) then 1048576 else (s.size : Int)))
def V.lights : List V → Int → Int
 | [], left => left
 | v :: l, left => if left < 0 then left else V.lights l (v.light left)
end
theorem enc_len (v : V) : v.enc.length = 5 := by cases v; simp [V.enc]
theorem encs_len : ∀ l : List V, (V.encs l).length = l.length
 | [] => rfl
 | v :: l => by simp [V.encs, encs_len l]
theorem encs_at : ∀ (l : List V) (i : Nat), (V.encs l)[i]? = (l[i]?).map V.enc
 | [], i => by simp [V.encs]
 | v :: l, 0 => by simp [V.encs]
 | v :: l, i + 1 => by simp [V.encs, encs_at l i]
mutual
theorem light_le : ∀ (v : V) (left : Int), v.light left ≤ left - 1
 | .mk k n b s l, left => by
  unfold V.light
  refine Int.le_trans (lights_le l _) ?_
  split <;> split <;> omega
theorem lights_le : ∀ (l : List V) (left : Int), V.lights l left ≤ left
 | [], left => by simp [V.lights]
 | v :: l, left => by
  unfold V.lights
  split
  ·omega
  ·have := light_le v left
   have := lights_le l (v.light left)
   omega
end
def st11 (left : Int) (c : List FV) (i : Int) : List DV := [.d .undef, .d (.int .i64 left), .d (.ref c 0), .d .undef, .d .undef, .d (.int .i64 i)] ++ List.replicate 31 (.d .undef)
def ex11 (left : Int) : List DV := [.d .undef, .d (.int .i64 left)] ++ List.replicate 35 (.d .undef)
theorem loop11 (k n : Int) (b : List Int) (s : ByteArray) (l : List V) (ih : ∀ v ∈ l, ∀ left, 0 ≤ left → left ≤ 3000 → ∀ h, D env 11 [.d (.agg v.enc), .d (.int .i64 left)] h = some (.val (.d (.int .i64 (v.light left))) h)) :
  ∀ (r p : List V), l = p ++ r → ∀ (left : Int), left ≤ 3000 → (left < 0 ∨ p.length + left ≤ 3000) → p.length ≤ 3001 → L env 0 true H11L3 X11L3 B11L3 (st11 left (V.mk k n b s l).enc p.length) [] = some (.exit 0, ex11 (V.lights r left), []) := by
 obtain ⟨K, hK⟩ : ∃ K, L env 0 true H11L3 X11L3 B11L3 = K := ⟨_, rfl⟩
 rw [hK]
 intro r
 induction r with
 | nil =>
  intro p hp left h1 h2 h3
  rw [L_round hK]
  simp at hp
  subst hp
  simp -implicitDefEqProofs only [B11L3, st11, sS, reduceCtorEq, seval, V.enc, ex11, encs_len, V.lights]
 | cons v r ihr =>
  intro p hp left h1 h2 h3
  rw [L_round hK]
  have e1 : (p.length : Int) < (V.encs l).length := by rw [encs_len, hp]; simp; omega
  have e2 : l[p.length]? = some v := by rw [hp]; simp
  have e3 : IntKind.i64.wrap (p.length + 1) = p.length + 1 := wrap_i64 (by omega) (by omega)
  by_cases hl : left < 0
  ·have : ¬ 0 ≤ left := by omega
   simp -implicitDefEqProofs only [B11L3, st11, sS, reduceCtorEq, seval, V.enc, ex11, V.lights, e1, hl, this]
  ·have hl' : 0 ≤ left := by omega
   have hc := ih v (by rw [hp]; simp) left hl' h1 []
   have hle := light_le v left
   have hr := ihr (p ++ [v]) (by simp [hp]) (v.light left) (by omega) (by simp; omega) (by simp; omega)
   simp [st11, ex11, V.enc, List.replicate] at hr
   simp -implicitDefEqProofs only [B11L3, st11, sS, reduceCtorEq, seval, V.enc, ex11, V.lights, e1, hl, hl', encs_at, e2, e3, enc_len, take_d, hc, hr]
theorem light_ok (v : V) : ∀ (left : Int), 0 ≤ left → left ≤ 3000 → ∀ h, D env 11 [.d (.agg v.enc), .d (.int .i64 left)] h = some (.val (.d (.int .i64 (v.light left))) h) := by
 refine V.ind (p := fun v => ∀ (left : Int), 0 ≤ left → left ≤ 3000 → ∀ h, D env 11 [.d (.agg v.enc), .d (.int .i64 left)] h = some (.val (.d (.int .i64 (v.light left))) h)) (fun k n b s l ih => ?_) v
 intro left h1 h2 h
 have key := loop11 k n b s l ih l [] rfl
 rw [D_dat (F := A11) rfl rfl rfl rfl]
 have w1 : IntKind.i64.wrap (left - 1) = left - 1 := wrap_i64 (by omega) (by omega)
 have w2 : IntKind.i64.wrap (left - 1 - (if (1048576 : Int) < (b.length : Int) then 1048576 else (b.length : Int))) = left - 1 - (if (1048576 : Int) < (b.length : Int) then 1048576 else (b.length : Int)) := wrap_i64 (by split <;> omega) (by split <;> omega)
 have w3 : IntKind.i64.wrap (left - 1 - (if (1048576 : Int) < (b.length : Int) then 1048576 else (b.length : Int)) - (if (1048576 : Int) < (s.size : Int) then 1048576 else (s.size : Int))) = left - 1 - (if (1048576 : Int) < (b.length : Int) then 1048576 else (b.length : Int)) - (if (1048576 : Int) < (s.size : Int) then 1048576 else (s.size : Int)) := wrap_i64 (by split <;> split <;> omega) (by split <;> split <;> omega)
 have key2 := key (left - 1 - (if (1048576 : Int) < (b.length : Int) then 1048576 else (b.length : Int)) - (if (1048576 : Int) < (s.size : Int) then 1048576 else (s.size : Int))) (by split <;> split <;> omega) (by simp; split <;> split <;> omega) (by simp)
 simp [V.enc, st11, List.replicate, ex11] at key2
 simp -implicitDefEqProofs only [A11, B11, sS, reduceCtorEq, seval, V.enc, V.light, List.length_map, w1, w2, w3, key2]
mutual
def V.ok : V → Prop
 | .mk _ _ _ _ l => l.length ≤ 4000 ∧ V.oks l
def V.oks : List V → Prop
 | [] => True
 | v :: l => v.ok ∧ V.oks l
end
theorem oks_mem : ∀ {l : List V}, V.oks l → ∀ v ∈ l, v.ok
 | [], _, v, hv => by simp at hv
 | u :: l, h, v, hv => by
  simp only [V.oks] at h
  rcases List.mem_cons.1 hv with he | hv
  ·rw [he]; exact h.1
  ·exact oks_mem h.2 v hv
mutual
theorem ok_of_light : ∀ (v : V) (left : Int), left ≤ 3000 → 0 ≤ v.light left → v.ok
 | .mk k n b s l, left, h1, h2 => by
  unfold V.light at h2
  have h3 := oks_of_lights l _ (by split <;> split <;> omega) h2
  exact ⟨by have := h3.1; split at this <;> split at this <;> omega, h3.2⟩
theorem oks_of_lights : ∀ (l : List V) (left : Int), left ≤ 3000 → 0 ≤ V.lights l left → (l.length : Int) ≤ left ∧ V.oks l
 | [], left, h1, h2 => by
  simp only [V.lights] at h2
  exact ⟨by simpa using h2, trivial⟩
 | v :: l, left, h1, h2 => by
  unfold V.lights at h2
  split at h2
  ·omega
  ·have e1 := light_le v left
   have e2 := lights_le l (v.light left)
   have h3 := oks_of_lights l (v.light left) (by omega) h2
   exact ⟨by have := h3.1; simp only [List.length_cons]; omega, ok_of_light v left h1 (by omega), h3.2⟩
end
theorem nums_enc : ∀ b : List Int, numsOf (b.map fun x => [.int .u8 x]) = some b
 | [] => rfl
 | x :: b => by
  have := nums_enc b
  simp only [numsOf] at this ⊢
  simp [this]
def st9 (c : List FV) (i : Int) : List DV := [.d .undef, .d .undef, .d (.ref c 0), .d (.ref c 0), .d .undef, .d (.int .i64 i)] ++ List.replicate 56 (.d .undef)
theorem loop9 (k n : Int) (b : List Int) (s : ByteArray) (l : List V) (hl : l.length ≤ 4000) (ih : ∀ v ∈ l, ∀ h, D env 9 [.d (.agg v.enc), .d (.agg v.enc)] h = some (.val (.d (.bool true)) h)) :
  ∀ (r p : List V), l = p ++ r → L env 0 true H9L4 X9L4 B9L4 (st9 (V.mk k n b s l).enc p.length) [] = some (.exit 0, List.replicate 62 (.d .undef), []) := by
 obtain ⟨K, hK⟩ : ∃ K, L env 0 true H9L4 X9L4 B9L4 = K := ⟨_, rfl⟩
 rw [hK]
 intro r
 induction r with
 | nil =>
  intro p hp
  rw [L_round hK]
  simp at hp
  subst hp
  simp -implicitDefEqProofs only [B9L4, st9, sS, reduceCtorEq, seval, V.enc, encs_len]
 | cons v r ihr =>
  intro p hp
  rw [L_round hK]
  have e1 : (p.length : Int) < (V.encs l).length := by rw [encs_len, hp]; simp; omega
  have e2 : l[p.length]? = some v := by rw [hp]; simp
  have e4 : p.length ≤ 4000 := by rw [hp] at hl; simp at hl; omega
  have e3 : IntKind.i64.wrap (p.length + 1) = p.length + 1 := wrap_i64 (by omega) (by omega)
  have hc := ih v (by rw [hp]; simp) []
  have hr := ihr (p ++ [v]) (by simp [hp])
  simp [st9, V.enc, List.replicate] at hr
  simp -implicitDefEqProofs only [B9L4, st9, sS, reduceCtorEq, seval, V.enc, e1, encs_at, e2, e3, enc_len, take_d, hc, hr]
theorem same_ok (v : V) : v.ok → ∀ h, D env 9 [.d (.agg v.enc), .d (.agg v.enc)] h = some (.val (.d (.bool true)) h) := by
 refine V.ind (p := fun v => v.ok → ∀ h, D env 9 [.d (.agg v.enc), .d (.agg v.enc)] h = some (.val (.d (.bool true)) h)) (fun k n b s l ih => ?_) v
 intro ho h
 simp only [V.ok] at ho
 have key := loop9 k n b s l ho.1 (fun v hv => ih v hv (oks_mem ho.2 v hv)) l [] rfl
 rw [D_dat (F := A9) rfl rfl rfl rfl]
 simp -implicitDefEqProofs only [V.enc, st9, sS, reduceCtorEq, seval, Int.ofNat_zero] at key
 simp -implicitDefEqProofs only [A9, B9, sS, reduceCtorEq, seval, V.enc, key, nums_enc]
end Go.Proofs.YtnklhhmfmopdnaaGreatDoor.Codes
namespace Go.Proofs.YtnklhhmfmopdnaaGreatDoor.Codes
open Go Go.Deepv
def w63 (n : Int) : Int := (n + 4611686018427387904) % 9223372036854775808 - 4611686018427387904
theorem w63_range (n : Int) : -4611686018427387904 ≤ w63 n ∧ w63 n < 4611686018427387904 := by unfold w63; omega
theorem w63_self {n : Int} (h1 : -4611686018427387904 ≤ n) (h2 : n < 4611686018427387904) : w63 n = n := by unfold w63; omega
theorem w63_mod {m n : Int} (h : m % 9223372036854775808 = n % 9223372036854775808) : w63 m = w63 n := by unfold w63; omega
theorem wrapped_ok (n : Int) (h : List Res) : D env 32 [.d (.int .i64 n)] h = some (.val (.d (.int .i64 (w63 n))) h) := by
 rw [D_dat (F := A32) rfl rfl rfl rfl]
 simp (maxSteps := 9999999) -implicitDefEqProofs only [A32, B32, sT, reduceCtorEq, seval, ↓joinK_t, ↓joinK_f, ↓reduceIte]
 simp [IntKind.bits, IntKind.wrap_i64, w63]
 rw [Int.fdiv_eq_ediv_of_nonneg _ (by decide)]
 omega
theorem wrap_ok (n : Int) (h : List Res) : D env 16 [.d (.int .i64 n)] h = some (.val (.d (.int .i64 (w63 n))) h) := by
 have e := fun h => wrapped_ok n h
 rw [D_dat (F := A16) rfl rfl rfl rfl]
 simp (maxSteps := 9999999) -implicitDefEqProofs only [A16, B16, e, sT, reduceCtorEq, seval, ↓joinK_t, ↓joinK_f, ↓reduceIte]
theorem and63 (m : Int) : ((BitVec.ofInt 64 m &&& 9223372036854775807#64).toNat : Int) = m % 9223372036854775808 := by
 have e : (9223372036854775807#64).toNat = 2 ^ 63 - 1 := by decide
 rw [BitVec.toNat_and, e, Nat.and_two_pow_sub_one_eq_mod, BitVec.toNat_ofInt]
 omega
theorem u64_eq (m : Int) : IntKind.u64.wrap m = m % 18446744073709551616 := by
 simp [IntKind.wrap, IntKind.signed, IntKind.bits]
theorem and63' (m : Int) : ((BitVec.ofInt IntKind.u64.bits m &&& BitVec.ofInt IntKind.u64.bits 9223372036854775807).toNat : Int) = m % 9223372036854775808 := and63 m
theorem rwrap_ok (n : Int) (h : List Res) : D env 26 [.d (.int .i64 n)] h = some (.val (.d (.int .i64 (w63 n))) h) := by
 rw [D_dat (F := A26) rfl rfl rfl rfl]
 simp (maxSteps := 9999999) -implicitDefEqProofs only [A26, B26, and63', u64_eq, sT, reduceCtorEq, seval, ↓joinK_t, ↓joinK_f, ↓reduceIte]
 simp only [IntKind.wrap_i64, w63]
 split <;> (congr 4; simp at *; omega)
theorem mul64_ok (x y : Int) (h : List Res) : ∃ q, D env 45 [.d (.int .u64 x), .d (.int .u64 y)] h = some (.val (.d (.tup [.int .u64 q, .int .u64 (IntKind.u64.wrap (x * y))])) h) := by
 refine ⟨?q, ?h⟩
 case h =>
  rw [D_dat (F := A45) rfl rfl rfl rfl]
  simp (maxSteps := 9999999) -implicitDefEqProofs only [A45, B45, sT, reduceCtorEq, seval, ↓joinK_t, ↓joinK_f, ↓reduceIte]
  rfl
end Go.Proofs.YtnklhhmfmopdnaaGreatDoor.Codes
