/-
  What the image's laws take, as deep values.
  Conditions: none.
-/
import Derived.Test.YtoadpaaghjomnaaDoorEM
import Derived.Test.YtoadpaaghjomnaaDoorDW
set_option linter.unusedVariables false
set_option linter.unusedSimpArgs false
set_option maxRecDepth 100000
namespace Go.Proofs.YtoadpaaghjomnaaDoor.Codes
open Go.Deepv Go.WideShapes

def tys : List TypeId := [3, 4, 5, 9, 22, 23, 25, 26, 27, 28, 29, 31, 32, 34, 36, 40, 44, 46, 83, 108, 110, 112, 120, 122, 123, 202]
theorem tysB : kidsB Tryd.prog tys = true := by kernel_rfl
theorem laidB : laidOutB Tryd.prog = true := by kernel_rfl
theorem rowedB : mapsRowed Tryd.prog = true := by kernel_rfl
theorem kids : Kids Tryd.prog (· ∈ tys) := kidsB_kids laidB rowedB tysB
theorem plain : Plain Tryd.prog (· ∈ tys) := kidsB_plain tysB
theorem full : ∀ t e, t ∈ tys → Tryd.prog.underlying t = some (.slice e) → 0 < Tryd.prog.cellsOf e := kidsB_full tysB

theorem c3 : Tryd.prog.cellsOf 3 = 1 := by kernel_rfl
theorem c9 : Tryd.prog.cellsOf 9 = 1 := by kernel_rfl
theorem c5 : Tryd.prog.cellsOf 5 = 1 := by kernel_rfl
theorem c22 : Tryd.prog.cellsOf 22 = 1 := by kernel_rfl
theorem c23 : Tryd.prog.cellsOf 23 = 1 := by kernel_rfl
theorem c25 : Tryd.prog.cellsOf 25 = 3 := by kernel_rfl
theorem c26 : Tryd.prog.cellsOf 26 = 1 := by kernel_rfl
theorem c27 : Tryd.prog.cellsOf 27 = 1 := by kernel_rfl
theorem c28 : Tryd.prog.cellsOf 28 = 1 := by kernel_rfl
theorem c29 : Tryd.prog.cellsOf 29 = 1 := by kernel_rfl
theorem c31 : Tryd.prog.cellsOf 31 = 3 := by kernel_rfl
theorem c32 : Tryd.prog.cellsOf 32 = 1 := by kernel_rfl
theorem c34 : Tryd.prog.cellsOf 34 = 10 := by kernel_rfl
theorem c36 : Tryd.prog.cellsOf 36 = 22 := by kernel_rfl
theorem c40 : Tryd.prog.cellsOf 40 = 6 := by kernel_rfl
theorem c44 : Tryd.prog.cellsOf 44 = 1 := by kernel_rfl
theorem c46 : Tryd.prog.cellsOf 46 = 2 := by kernel_rfl
theorem c83 : Tryd.prog.cellsOf 83 = 4 := by kernel_rfl
theorem c108 : Tryd.prog.cellsOf 108 = 1 := by kernel_rfl
theorem c110 : Tryd.prog.cellsOf 110 = 4 := by kernel_rfl
theorem c112 : Tryd.prog.cellsOf 112 = 2 := by kernel_rfl
theorem c120 : Tryd.prog.cellsOf 120 = 1 := by kernel_rfl
theorem c122 : Tryd.prog.cellsOf 122 = 4 := by kernel_rfl
theorem c123 : Tryd.prog.cellsOf 123 = 1 := by kernel_rfl
theorem c202 : Tryd.prog.cellsOf 202 = 4 := by kernel_rfl

theorem len1 {c : List FV} (h : c.length = 1) : ∃ a, c = [a] := by match c, h with | [a], _ => exact ⟨a, rfl⟩
theorem len2 {c : List FV} (h : c.length = 2) : ∃ a b, c = [a, b] := by match c, h with | [a, b], _ => exact ⟨a, b, rfl⟩
theorem len3 {c : List FV} (h : c.length = 3) : ∃ a b d, c = [a, b, d] := by match c, h with | [a, b, d], _ => exact ⟨a, b, d, rfl⟩
theorem len4 {c : List FV} (h : c.length = 4) : ∃ a b d e, c = [a, b, d, e] := by match c, h with | [a, b, d, e], _ => exact ⟨a, b, d, e, rfl⟩
theorem len6 {c : List FV} (h : c.length = 6) : ∃ a b d e f g, c = [a, b, d, e, f, g] := by match c, h with | [a, b, d, e, f, g], _ => exact ⟨a, b, d, e, f, g, rfl⟩
theorem len22 {c : List FV} (h : c.length = 22) : ∃ a1 a2 a3 a4 a5 a6 a7 a8 a9 a10 a11 a12 a13 a14 a15 a16 a17 a18 a19 a20 a21 a22, c = [a1, a2, a3, a4, a5, a6, a7, a8, a9, a10, a11, a12, a13, a14, a15, a16, a17, a18, a19, a20, a21, a22] := by
  match c, h with
  | [a1, a2, a3, a4, a5, a6, a7, a8, a9, a10, a11, a12, a13, a14, a15, a16, a17, a18, a19, a20, a21, a22], _ => exact ⟨a1, a2, a3, a4, a5, a6, a7, a8, a9, a10, a11, a12, a13, a14, a15, a16, a17, a18, a19, a20, a21, a22, rfl⟩

theorem tencs_map : ∀ l : List T, T.encs l = l.map T.enc
  | [] => rfl
  | v :: l => by simp [T.encs, tencs_map l]
theorem tfits_of : ∀ {l : List T}, (∀ v ∈ l, v.fit) → T.fits l
  | [], _ => trivial
  | v :: l, h => ⟨h v (by simp), tfits_of fun u hu => h u (by simp [hu])⟩

theorem type_of : ∀ (n : Nat) (c : List FV), Fits Tryd.prog n 25 c → ∃ t : T, c = t.enc ∧ t.fit := by
  intro n
  induction n using Nat.strongRecOn with
  | ind n ih =>
    intro c h
    obtain ⟨m, rfl, hl, hf⟩ := struct_fits Tryd.underlying25 h
    rw [c25] at hl
    obtain ⟨a1, a2, a3, rfl⟩ := len3 hl
    simp only [List.mem_cons, List.not_mem_nil, or_false, forall_eq_or_imp, forall_eq, c3, c9, c23, List.drop_succ_cons, List.drop_zero, List.take_succ_cons, List.take_zero] at hf
    obtain ⟨f1, f2, f3⟩ := hf
    obtain ⟨k, e1, _⟩ := int_fits Tryd.underlying3 f1
    obtain ⟨s, e2, _⟩ := str_fits Tryd.underlying9 f2
    obtain ⟨l, e3, h1, h2⟩ := slice_fits Tryd.underlying23 T.enc T.fit (fun m' c' hm _ hc => ih m' (by omega) c' hc) f3
    rw [c25] at e3
    simp only [List.cons.injEq, and_true] at e1 e2 e3
    subst e1 e2 e3
    exact ⟨.mk k s l, by simp [T.enc, tencs_map], by simp only [T.fit]; exact ⟨h1, tfits_of h2⟩⟩

theorem con_of (n : Nat) (c : List FV) (h : Fits Tryd.prog n 112 c) : ∃ x : Con, c = x.enc ∧ x.fit := by
  obtain ⟨m, rfl, hl, hf⟩ := struct_fits Tryd.underlying112 h
  rw [c112] at hl
  obtain ⟨a1, a2, rfl⟩ := len2 hl
  simp only [List.mem_cons, List.not_mem_nil, or_false, forall_eq_or_imp, forall_eq, c3, c9, c23, List.drop_succ_cons, List.drop_zero, List.take_succ_cons, List.take_zero] at hf
  obtain ⟨f1, f2⟩ := hf
  obtain ⟨s, e1, _⟩ := str_fits Tryd.underlying9 f1
  obtain ⟨l, e2, h1, h2⟩ := slice_fits Tryd.underlying23 T.enc T.fit (fun m' c' hm _ hc => type_of m' c' hc) f2
  rw [c25] at e2
  simp only [List.cons.injEq, and_true] at e1 e2
  subst e1 e2
  exact ⟨⟨s, l⟩, by simp [Con.enc, tencs_map], ⟨h1, tfits_of h2⟩⟩
theorem data_of (n : Nat) (c : List FV) (h : Fits Tryd.prog n 110 c) : ∃ x : Data, c = x.enc ∧ x.fit := by
  obtain ⟨m, rfl, hl, hf⟩ := struct_fits Tryd.underlying110 h
  rw [c110] at hl
  obtain ⟨a1, a2, a3, a4, rfl⟩ := len4 hl
  simp only [List.mem_cons, List.not_mem_nil, or_false, forall_eq_or_imp, forall_eq, c46, c9, c108, List.drop_succ_cons, List.drop_zero, List.take_succ_cons, List.take_zero] at hf
  obtain ⟨f1, f2, f3⟩ := hf
  obtain ⟨m', rfl, _, hg⟩ := struct_fits Tryd.underlying46 f1
  simp only [List.mem_cons, List.not_mem_nil, or_false, forall_eq_or_imp, forall_eq, c3, List.drop_succ_cons, List.drop_zero, List.take_succ_cons, List.take_zero] at hg
  obtain ⟨g1, g2⟩ := hg
  obtain ⟨k1, e1, _⟩ := int_fits Tryd.underlying3 g1
  obtain ⟨k2, e2, _⟩ := int_fits Tryd.underlying3 g2
  obtain ⟨s, e3, _⟩ := str_fits Tryd.underlying9 f2
  obtain ⟨l, e4, h1, h2⟩ := slice_fits Tryd.underlying108 Con.enc Con.fit (fun m' c' hm _ hc => con_of m' c' hc) f3
  rw [c112] at e4
  simp only [List.cons.injEq, and_true] at e1 e2 e3 e4
  subst e1 e2 e3 e4
  exact ⟨⟨k1, k2, s, l⟩, rfl, ⟨h1, h2⟩⟩
theorem ent_of (n : Nat) (c : List FV) (h : Fits Tryd.prog n 40 c) : ∃ x : Ent, c = x.enc ∧ x.fit := by
  obtain ⟨m, rfl, hl, hf⟩ := struct_fits Tryd.underlying40 h
  rw [c40] at hl
  obtain ⟨a1, a2, a3, a4, a5, a6, rfl⟩ := len6 hl
  simp only [List.mem_cons, List.not_mem_nil, or_false, forall_eq_or_imp, forall_eq, c3, c9, c25, List.drop_succ_cons, List.drop_zero, List.take_succ_cons, List.take_zero] at hf
  obtain ⟨f1, f2, f3, f4⟩ := hf
  obtain ⟨s, e1, _⟩ := str_fits Tryd.underlying9 f1
  obtain ⟨⟨tk, tn, tp⟩, e2, ht⟩ := type_of _ _ f2
  obtain ⟨k1, e3, _⟩ := int_fits Tryd.underlying3 f3
  obtain ⟨k2, e4, _⟩ := int_fits Tryd.underlying3 f4
  simp only [T.enc, List.cons.injEq, and_true] at e1 e2 e3 e4
  obtain ⟨e5, e6, e7⟩ := e2
  subst e1 e3 e4 e5 e6 e7
  simp only [T.fit] at ht
  exact ⟨⟨s, tk, tn, tp, k1, k2⟩, rfl, ht⟩
theorem cp_of (n : Nat) (c : List FV) (h : Fits Tryd.prog n 83 c) : ∃ x : Cp, c = x.enc ∧ x.fit := by
  obtain ⟨m, rfl, hl, hf⟩ := struct_fits Tryd.underlying83 h
  rw [c83] at hl
  obtain ⟨a1, a2, a3, a4, rfl⟩ := len4 hl
  simp only [List.mem_cons, List.not_mem_nil, or_false, forall_eq_or_imp, forall_eq, c3, List.drop_succ_cons, List.drop_zero, List.take_succ_cons, List.take_zero] at hf
  obtain ⟨f1, f2, f3, f4⟩ := hf
  obtain ⟨k1, e1, h1⟩ := int_fits Tryd.underlying3 f1
  obtain ⟨k2, e2, h2⟩ := int_fits Tryd.underlying3 f2
  obtain ⟨k3, e3, h3⟩ := int_fits Tryd.underlying3 f3
  obtain ⟨k4, e4, h4⟩ := int_fits Tryd.underlying3 f4
  simp only [List.cons.injEq, and_true] at e1 e2 e3 e4
  subst e1 e2 e3 e4
  exact ⟨⟨k1, k2, k3, k4⟩, rfl, h1, h2, h3, h4⟩
theorem inst_of (n : Nat) (c : List FV) (h : Fits Tryd.prog n 202 c) : ∃ x : List FV, c = id x ∧ True := ⟨c, rfl, trivial⟩
theorem fn_of (n : Nat) (c : List FV) (h : Fits Tryd.prog n 122 c) : ∃ x : Fn, c = x.enc ∧ True := by
  obtain ⟨m, rfl, hl, hf⟩ := struct_fits Tryd.underlying122 h
  rw [c122] at hl
  obtain ⟨a1, a2, a3, a4, rfl⟩ := len4 hl
  simp only [List.mem_cons, List.not_mem_nil, or_false, forall_eq_or_imp, forall_eq, c3, c9, c120, List.drop_succ_cons, List.drop_zero, List.take_succ_cons, List.take_zero] at hf
  obtain ⟨f1, f2, f3, f4⟩ := hf
  obtain ⟨s, e1, _⟩ := str_fits Tryd.underlying9 f1
  obtain ⟨k1, e2, _⟩ := int_fits Tryd.underlying3 f2
  obtain ⟨k2, e3, _⟩ := int_fits Tryd.underlying3 f3
  obtain ⟨l, e4, _⟩ := slice_fits Tryd.underlying120 (fun x : List FV => x) (fun _ => True) (fun m' c' _ _ _ => ⟨c', rfl, trivial⟩) f4
  rw [c202] at e4
  simp only [List.cons.injEq, and_true] at e1 e2 e3 e4
  subst e1 e2 e3 e4
  exact ⟨⟨s, k1, k2, l⟩, by simp [Fn.enc], trivial⟩
theorem text_of (n : Nat) (c : List FV) (h : Fits Tryd.prog n 44 c) : ∃ x : List (List FV), c = rowF x ∧ True := by
  obtain ⟨l, e, _⟩ := slice_fits Tryd.underlying44 (fun x : List FV => x) (fun _ => True) (fun m' c' _ _ _ => ⟨c', rfl, trivial⟩) h
  rw [c5] at e
  exact ⟨l, by simpa [rowF] using e, trivial⟩
theorem table_of (n : Nat) (c : List FV) (h : Fits Tryd.prog n 123 c) : ∃ x : List (List FV), c = rowF x ∧ True := by
  obtain ⟨l, e, _⟩ := slice_fits Tryd.underlying123 (fun x : List FV => x) (fun _ => True) (fun m' c' _ _ _ => ⟨c', rfl, trivial⟩) h
  rw [c3] at e
  exact ⟨l, by simpa [rowF] using e, trivial⟩

theorem img_of (n : Nat) (c : List FV) (h : Fits Tryd.prog n 36 c) : ∃ x : Img, c = x.enc ∧ x.fit ∧ x.nums := by
  obtain ⟨m, rfl, hl, hf⟩ := struct_fits Tryd.underlying36 h
  rw [c36] at hl
  obtain ⟨a1, a2, a3, a4, a5, a6, a7, a8, a9, a10, a11, a12, a13, a14, a15, a16, a17, a18, a19, a20, a21, a22, rfl⟩ := len22 hl
  simp only [List.mem_cons, List.not_mem_nil, or_false, forall_eq_or_imp, forall_eq, c3, c22, c25, c26, c31, c34, List.drop_succ_cons, List.drop_zero, List.take_succ_cons, List.take_zero] at hf
  obtain ⟨f1, f2, f3, f4, f5, f6, f7, f8, f9⟩ := hf
  obtain ⟨ds, e1, d1, d2⟩ := slice_fits Tryd.underlying22 Data.enc Data.fit (fun m' c' hm _ hc => data_of m' c' hc) f1
  obtain ⟨⟨sk, sn, sp⟩, e2, ht⟩ := type_of _ _ f2
  obtain ⟨k1, e3, _⟩ := int_fits Tryd.underlying3 f3
  obtain ⟨k2, e4, _⟩ := int_fits Tryd.underlying3 f4
  obtain ⟨k3, e5, _⟩ := int_fits Tryd.underlying3 f5
  obtain ⟨hs, e6, p1, p2⟩ := slice_fits Tryd.underlying26 Ent.enc Ent.fit (fun m' c' hm _ hc => ent_of m' c' hc) f6
  obtain ⟨k4, e7, _⟩ := int_fits Tryd.underlying3 f7
  obtain ⟨m1, rfl, _, hg⟩ := struct_fits Tryd.underlying31 f8
  simp only [List.mem_cons, List.not_mem_nil, or_false, forall_eq_or_imp, forall_eq, c27, c28, c29, List.drop_succ_cons, List.drop_zero, List.take_succ_cons, List.take_zero] at hg
  obtain ⟨g1, g2, g3⟩ := hg
  obtain ⟨fs, e8, q1, _⟩ := slice_fits Tryd.underlying27 Fn.enc (fun _ => True) (fun m' c' hm _ hc => fn_of m' c' hc) g1
  obtain ⟨xs, e9, q2, _⟩ := slice_fits Tryd.underlying28 rowF (fun _ => True) (fun m' c' hm _ hc => text_of m' c' hc) g2
  obtain ⟨ts, e10, q3, _⟩ := slice_fits Tryd.underlying29 rowF (fun _ => True) (fun m' c' hm _ hc => table_of m' c' hc) g3
  obtain ⟨m2, hm2, _, hg⟩ := struct_fits Tryd.underlying34 f9
  simp only [List.mem_cons, List.not_mem_nil, or_false, forall_eq_or_imp, forall_eq, c3, c32, List.drop_succ_cons, List.drop_zero, List.take_succ_cons, List.take_zero] at hg
  obtain ⟨r1, r2, r3, r4, r5, r6, r7, r8, r9, r10⟩ := hg
  obtain ⟨n1, e11, i1⟩ := int_fits Tryd.underlying3 r1
  obtain ⟨n2, e12, i2⟩ := int_fits Tryd.underlying3 r2
  obtain ⟨n3, e13, i3⟩ := int_fits Tryd.underlying3 r3
  obtain ⟨n4, e14, i4⟩ := int_fits Tryd.underlying3 r4
  obtain ⟨n5, e15, i5⟩ := int_fits Tryd.underlying3 r5
  obtain ⟨n6, e16, i6⟩ := int_fits Tryd.underlying3 r6
  obtain ⟨n7, e17, i7⟩ := int_fits Tryd.underlying3 r7
  obtain ⟨n8, e18, i8⟩ := int_fits Tryd.underlying3 r8
  obtain ⟨n9, e19, i9⟩ := int_fits Tryd.underlying3 r9
  obtain ⟨cs, e20, u1, u2⟩ := slice_fits Tryd.underlying32 Cp.enc Cp.fit (fun m' c' hm _ hc => cp_of m' c' hc) r10
  simp only [c110, c40, c122, c44, c123, c83, T.enc, List.cons.injEq, and_true] at e1 e2 e3 e4 e5 e6 e7 e8 e9 e10 e11 e12 e13 e14 e15 e16 e17 e18 e19 e20
  obtain ⟨e21, e22, e23⟩ := e2
  subst e1 e3 e4 e5 e6 e7 e8 e9 e10 e11 e12 e13 e14 e15 e16 e17 e18 e19 e20 e21 e22 e23
  simp only [T.fit] at ht
  exact ⟨⟨ds, sk, sn, sp, k1, k2, k3, hs, k4, ⟨fs, xs, ts⟩, n1, n2, n3, n4, n5, n6, n7, n8, n9, cs⟩, rfl, ⟨⟨d1, d2⟩, ht, ⟨p1, p2⟩, ⟨q1, q2, q3⟩⟩, ⟨i4, i5, i6, i7, i8, i9, u2⟩⟩
end Go.Proofs.YtoadpaaghjomnaaDoor.Codes
