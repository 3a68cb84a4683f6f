/-
  The deep machine in use: what its proofs lean on.
  Conditions: none.
-/
import Derived.Test.YtpemlmhggiaflaaGreatDoorDP
set_option linter.unusedVariables false
set_option linter.unusedSimpArgs false
namespace Go.Deepv

/-- What a row that grows, of so many elements, is. -/
def rr (sz n : Nat) (et : Nat := 0) : Res := if n = 0 then .nilrow else .row sz n et
theorem appRow_any {sz bytes et : Nat} {l new : List (List FV)} {t : Nat} {h : List Res} (hr : h[t]? = some (rr sz l.length et)) (h1 : (l.length + new.length) * bytes ≤ 140737488355328) (h2 : 0 < sz) (h3 : 0 < bytes) (s2 : Nat) (hs : s2 = sz) :
    appRow sz bytes (.row sz l t) (some (s2, new)) h et = some (.val (.row sz (l ++ new) t) (h.set t (rr sz (l.length + new.length) et))) := by
  subst hs
  have keep : ∀ (r : Res), h[t]? = some r → h.set t r = h := fun r hr => set_self _ _ _ hr
  simp only [appRow, hr]
  rw [if_pos ⟨.inl trivial, h1, h2, h3⟩]
  by_cases hl : l.length = 0
  · have : l = [] := List.eq_nil_of_length_eq_zero hl
    subst this
    by_cases hn : new = []
    · subst hn
      simp [rr]
      rw [keep]
      simpa [rr] using hr
    · have : new.length ≠ 0 := fun h => hn (List.eq_nil_of_length_eq_zero h)
      simp [rr, hn]
  · have : l.length + new.length ≠ 0 := by omega
    simp [rr, hl]
theorem appRow_one {sz bytes : Nat} {l : List (List FV)} {c : List FV} {t : Nat} {h : List Res} (hr : h[t]? = some (rr sz l.length)) (h1 : (l.length + 1) * bytes ≤ 140737488355328) (h2 : 0 < sz) (h3 : 0 < bytes) (s2 : Nat) (hs : s2 = sz) :
    appRow sz bytes (.row sz l t) (some (s2, [c])) h = some (.val (.row sz (l ++ [c]) t) (h.set t (rr sz (l.length + 1)))) := appRow_any hr (by simpa using h1) h2 h3 s2 hs

/-! ### One operation at a time: with 'dops' itself a proof doubles at each operation that has a guard -/
inductive Stp where
  | go (a : List DV) (h : List Res)
  | pan (v : DV) (a : List DV) (h : List Res)
noncomputable def ostep (call : Cle → List DV → List Res → Option DOut) (o : DOper) (a : List DV) (h : List Res) : Option Stp :=
  match wants a o.guard with
  | some true => match dop call o.op a h with
    | some (.val v h') => some (.go (put a o.dst v) h')
    | some (.pan v h') => some (.pan v a h')
    | none => none
  | some false => some (.go (put a o.dst (.d (.tup []))) h)
  | none => none
theorem dops_end (call : Cle → List DV → List Res → Option DOut) (a : List DV) (h : List Res) : dops call [] a h = some (.normal, a, h) := rfl
theorem dops_step (call : Cle → List DV → List Res → Option DOut) (o : DOper) (rest : List DOper) (a : List DV) (h : List Res) : dops call (o :: rest) a h = match ostep call o a h with
    | some (.go a' h') => dops call rest a' h'
    | some (.pan v a' h') => some (.pan v, a', h')
    | none => none := by
  rw [dops]
  unfold ostep
  cases wants a o.guard with
  | none => rfl
  | some b => cases b with
    | false => rfl
    | true => cases dop call o.op a h with
      | none => rfl
      | some r => cases r <;> rfl

theorem cast_lit (n : Nat) : (Nat.cast (no_index (OfNat.ofNat n)) : Int) = OfNat.ofNat n := rfl
theorem one_d1 (x : FV) : (DV.d x).one = x.one := rfl
theorem one_ptr (i o : Nat) : (DV.ptr i o).one = true := rfl
theorem one_bslc (i o n : Nat) : (DV.bslc i o n).one = true := rfl
theorem dc_fn (E : Env) (g : FuncId) (a : List DV) (h : List Res) : Dc E (.fn g) a h = D E g a h := rfl
theorem one_row (s : Nat) (l : List (List FV)) (t : Nat) : (DV.row s l t).one = true := rfl
theorem one_clo (f : Fn) (p q : List DV) : (DV.clo f p q).one = true := rfl
theorem one_if (t : TypeId) (v : DV) : (DV.iface t v).one = true := rfl
theorem one_int (k : IntKind) (n : Int) : (FV.int k n).one = true := rfl
theorem one_bool (b : Bool) : (FV.bool b).one = true := rfl
theorem one_str (b : ByteArray) : (FV.str b).one = true := rfl
theorem one_slice (s : Nat) (l : List (List FV)) : (FV.slice s l).one = true := rfl
theorem one_ref (c : List FV) (o : Nat) : (FV.ref c o).one = true := rfl
theorem one_nilp : FV.nilp.one = true := rfl
theorem one_iface (t : TypeId) (v : FV) : (FV.iface t v).one = true := rfl
theorem one_nili : FV.nili.one = true := rfl
theorem one_func (f : Fn) (p q : List FV) : (FV.func f p q).one = true := rfl
theorem one_nilf : FV.nilf.one = true := rfl

theorem dcallV_fn (E : Env) (g : FuncId) (args : List DV) (h : List Res) : dcallV (Dc E) (.d (.func (.func g) [] [])) args h = D E g args h := by simp [dcallV, D]
theorem dcallV_fnc (E : Env) (g : FuncId) (p q : List FV) (args : List DV) (h : List Res) : dcallV (Dc E) (.d (.func (.func g) p q)) args h = D E g (p.map .d ++ args ++ q.map .d) h := rfl
theorem dcallV_clo (E : Env) (g : FuncId) (p q args : List DV) (h : List Res) : dcallV (Dc E) (.clo (.func g) p q) args h = D E g (p ++ args ++ q) h := rfl
theorem dcallV_yld (E : Env) (id : Nat) (args : List DV) (h : List Res) : dcallV (Dc E) (.yld id) args h = Y E id args h := rfl

theorem flat_map : ∀ c : List FV, (c.map DV.d).mapM DV.flat = some c
  | [] => rfl
  | x :: c => by simp [DV.flat, flat_map c]
theorem flat_comp (c : List FV) : c.mapM (DV.flat ∘ DV.d) = some c := by
  have := flat_map c
  rwa [List.mapM_map] at this
theorem dload_all {c : List FV} {n : Nat} (h : c.length = n) : dload (some n) (c.map .d) 0 = some (.d (.agg c)) := by
  subst h
  simp only [dload, DV.mkAgg, List.drop_zero, Nat.zero_add, List.length_map, Nat.le_refl, if_true, List.take_of_length_le, flat_map]
theorem take_d {c : List FV} {n : Nat} (h : c.length = n) : (c.map DV.d).take n = c.map .d := by
  subst h
  simp [List.take_of_length_le]

theorem wrap_i64 {n : Int} (h1 : -9223372036854775808 ≤ n) (h2 : n < 9223372036854775808) : IntKind.i64.wrap n = n := by
  simp only [IntKind.wrap, IntKind.signed, IntKind.bits, Bool.true_and, Bool.false_and, decide_eq_true_eq, Bool.false_eq_true, if_false, show ((2 : Int) ^ 64) = 18446744073709551616 from rfl, show ((2 : Int) ^ (64 - 1)) = 9223372036854775808 from rfl, show ((2 : Int) ^ 8) = 256 from rfl]
  try split
  all_goals omega
theorem wrap_u8 {n : Int} (h1 : 0 ≤ n) (h2 : n < 256) : IntKind.u8.wrap n = n := by
  simp only [IntKind.wrap, IntKind.signed, IntKind.bits, Bool.true_and, Bool.false_and, decide_eq_true_eq, Bool.false_eq_true, if_false, show ((2 : Int) ^ 64) = 18446744073709551616 from rfl, show ((2 : Int) ^ (64 - 1)) = 9223372036854775808 from rfl, show ((2 : Int) ^ 8) = 256 from rfl]
  try split
  all_goals omega

/-- One round of a loop; what is left of it is K. -/
theorem L_round {E : Env} {n : Nat} {hd ex : List Bool} {c : ACode} {K : List DV → List Res → Option DRun} (hK : L E n true hd ex c = K) (a : List DV) (h : List Res) :
    K a h = match dexec (Dc E) (L E) c a h with
      | some (.normal, a', h') => if DV.lows n (mask hd a') then K (mask hd a') (h'.take n) else none
      | some (.pan v, a', h') => some (.pan v, a', h')
      | some (e, a', h') => if DV.lows n (mask ex a') then some (e, mask ex a', h'.take n) else none
      | none => none := by
  rw [← hK, L_eq]
  rfl

theorem D_dat {E : Env} {f : FuncId} {F : AFunc} {args : List DV} (he : E.ext f = none) (ha : E.af f = some F) (hk : F.keep = 0) (hd : args.all DV.isD = true) (h : List Res) :
    D E f args h = (dbody (Dc E) (L E) F args []).map (withHeap h) := by
  have hm : args.map DV.coe = args := by
    clear he ha hk
    induction args with
    | nil => rfl
    | cons x xs ih =>
      simp only [List.all_cons, Bool.and_eq_true] at hd
      rw [List.map_cons, ih hd.2]
      cases x <;> simp_all [DV.isD, DV.coe]
  have hc : (if F.coe then args.map DV.coe else args) = args := by rw [hm]; split <;> rfl
  rw [D_eq]
  unfold dcallF
  rw [he, ha]
  simp only [hc, hk, hd, beq_self_eq_true, Bool.and_self, if_true]
theorem D_own {E : Env} {f : FuncId} {F : AFunc} {args : List DV} (he : E.ext f = none) (ha : E.af f = some F) (hc : F.coe = true) (hd : (F.keep == 0 && (args.map DV.coe).all DV.isD) = false) (h : List Res) :
    D E f args h = dbody (Dc E) (L E) F (args.map DV.coe) h := by
  rw [D_eq]
  unfold dcallF
  rw [he, ha]
  simp only [hc, hd, if_true, Bool.false_eq_true, if_false]

end Go.Deepv
