/-
  Operations that make no memory, kind by kind: the deep machine's answer is the machine's; Operations that make no memory, more kinds: slices cut, tuples, structs built, least and greatest, function values, interface values; Operations that make or turn memory: variables, stores, literals, appends; Operations that turn memory: stores into a variable of the call's own, appends to a row of the call's own
  Conditions: none.
-/
import Derived.Test.YtnklhhmfmopdnaaGreatDoorMA
import Derived.Laws.StructEq
import Derived.Laws.CopyRow
set_option linter.unusedVariables false
set_option linter.unusedSimpArgs false
namespace Go.Deepv
open Go.RowKit
section
variable {P : Program} {G : Glob} {S : Settled} {ρ : List RI} {h : List Res} {w : World} {a : Act} {ad : List DV} {call : Cle → List DV → List Res → Option DOut} {out : DOut}
theorem run_v {s : Sem Value} {x : Value} {w' : World} (e : s.run P w = .ok x w') : (do pure (Next.value (← s)) : Sem Next).run P w = .ok (.value x) w' := by
 simp [e]
def binS (op : BinOp) (t : TypeId) (x y : Operand) (vx vy : Value) : Sem Value := do
 eqGuard op t x y vx vy
 binOp op t vx vy
inductive NilVal : Nat → Bool → Value → Prop
 | p0 : NilVal 0 true (.pointer none)
 | p1 (a : Addr) : NilVal 0 false (.pointer (some a))
 | i0 : NilVal 1 true .nilIface
 | i1 (t : TypeId) (v : Value) : NilVal 1 false (.iface t v)
 | f0 : NilVal 2 true .nilFunc
 | f1 (fn : Fn) (p q : Array Value) : NilVal 2 false (.func fn p q)
 | s0 (n c : Nat) : NilVal 3 true (.slice none n c)
 | s1 (a : Addr) (n c : Nat) : NilVal 3 false (.slice (some a) n c)
 | m0 : NilVal 4 true (.map none)
 | m1 (b : Nat) : NilVal 4 false (.map (some b))
theorem nil_val {k : Nat} {v : Value} {x : DV} {b : Bool} (hx : RepD S ρ h w v x) (hb : nilness k x = some b) : NilVal k b v := by
 unfold nilness at hb
 split at hb <;> first
  | (cases hb; done)
  | skip
 all_goals
  simp only [Option.some.injEq] at hb
  subst hb
  cases hx
  all_goals first
   | constructor
   | (rename_i hx; cases hx; constructor)
def KindOf (k : Nat) (u : TypeDesc) : Prop := match k, u with
 | 0, .pointer _ => True
 | 1, .interface _ => True
 | 2, .func _ _ _ => True
 | 3, .slice _ => True
 | 4, .map _ _ => True
 | _, _ => False
theorem equal_nil {k : Nat} {u : TypeDesc} {xt : TypeId} {v n : Value} {b : Bool} (hu : P.underlying xt = some u) (hk : KindOf k u) (hv : NilVal k b v) (hn : NilVal k true n) :
  (Op.equal xt v n).run P w = .ok b w ∧ (Op.equal xt n v).run P w = .ok b w := by
 unfold Op.equal
 rw [show Op.maxDepth = 9999 + 1 from rfl]
 unfold Op.equalIn
 unfold KindOf at hk
 split at hk <;> first
  | (cases hk; done)
  | skip
 all_goals
  cases hn
  cases hv <;> simp [underlying, hu]
theorem guard_nil {op : BinOp} {k : Nat} {xt : TypeId} {x y : Operand} {v n : Value} {b : Bool} (hv : NilVal k b v) (hn : NilVal k true n) (hc : isNilConst k x = true ∨ isNilConst k y = true) : (eqGuard op xt x y v n).run P w = .ok () w ∧ (eqGuard op xt x y n v).run P w = .ok () w := by
 have key : ∀ {z : Operand}, isNilConst k z = true → ∃ c, z = .const c := by
  intro z hz
  unfold isNilConst at hz
  split at hz <;> first | exact ⟨_, rfl⟩ | cases hz
 unfold eqGuard
 rcases hc with hc | hc <;> obtain ⟨c, rfl⟩ := key hc <;> cases hn <;> cases hv <;> cases op <;> simp
theorem bin_nil {neq : Bool} {k : Nat} {u : TypeDesc} {xt : TypeId} {x y : Operand} {v n : Value} {b : Bool} (hu : P.underlying xt = some u) (hk : KindOf k u) (hv : NilVal k b v) (hn : NilVal k true n) (hc : isNilConst k x = true ∨ isNilConst k y = true) :
  (binS (if neq then .neq else .eql) xt x y v n).run P w = .ok (.bool (if neq then !b else b)) w ∧ (binS (if neq then .neq else .eql) xt x y n v).run P w = .ok (.bool (if neq then !b else b)) w := by
 obtain ⟨e1, e2⟩ := equal_nil (w := w) hu hk hv hn
 obtain ⟨g1, g2⟩ := guard_nil (P := P) (w := w) (op := if neq then .neq else .eql) (xt := xt) hv hn hc
 have r1 : ∀ (p q : Value), (Op.equal xt p q).run P w = .ok b w → (eqGuard (if neq then .neq else .eql) xt x y p q).run P w = .ok () w → ((binOp (if neq then .neq else .eql) xt p q).run P w = (Op.equal xt p q >>= fun b => pure (.bool (if neq then !b else b)) : Sem Value).run P w) → (binS (if neq then .neq else .eql) xt x y p q).run P w = .ok (.bool (if neq then !b else b)) w := by
  intro p q he hg hb
  simp only [binS, Sem.run_bind, hg, Result.andThen_ok, hb, he]
  rfl
 refine ⟨r1 _ _ e1 g1 ?_, r1 _ _ e2 g2 ?_⟩ <;> cases neq <;> cases hn <;> cases hv <;> simp [binOp]
theorem nil_const {y : Operand} {k : Nat} (hy : isNilConst k y = true) : NilVal k true (a.eval y) := by
 unfold isNilConst at hy
 split at hy
 ·simp only [beq_iff_eq] at hy; subst hy; constructor
 ·simp only [beq_iff_eq] at hy; subst hy; constructor
 ·simp only [beq_iff_eq] at hy; subst hy; constructor
 ·simp only [beq_iff_eq] at hy; subst hy; constructor
 ·simp only [beq_iff_eq] at hy; subst hy; constructor
 ·cases hy
theorem sim_mv (hi : Inv P G S ρ h w) {v : Value} {x : Opd} (hx : RepD S ρ h w v (ev ad x)) (hd : dop call (.mv x) ad h = some out) : SimOut P G S ρ h w (.ok (.value v) w) out := by
 simp only [dop, Option.some.injEq] at hd
 subst hd
 exact SimOut.plain hi hx
theorem sim_pick (hi : Inv P G S ρ h w) (ha : RepA S ρ h w a.tmps ad) {t1 t2 t3 : TypeId} {c x y : Operand} {c' x' y' : Opd} (h1 : trOpd P t1 c = some c') (h2 : trOpd P t2 x = some x') (h3 : trOpd P t3 y = some y') (hd : dop call (.pick c' x' y') ad h = some out) :
  SimOut P G S ρ h w ((do pure (Next.value (if ← asBool (a.eval c) then a.eval x else a.eval y)) : Sem Next).run P w) out := by
 have g1 := rep_opd ha h1
 have g2 := rep_opd ha h2
 have g3 := rep_opd ha h3
 simp only [dop] at hd
 split at hd
 ·rename_i b eb
  simp only [Option.some.injEq] at hd
  subst hd
  rw [eb] at g1
  rw [repF_bool (repD_d g1)]
  have : (do pure (Next.value (if ← asBool (.bool b) then a.eval x else a.eval y)) : Sem Next).run P w = .ok (.value (if b then a.eval x else a.eval y)) w := by simp [asBool]
  rw [this]
  refine SimOut.plain hi ?_
  cases b
  ·exact g3
  ·exact g2
 ·cases hd
theorem sim_un (hi : Inv P G S ρ h w) (ha : RepA S ρ h w a.tmps ad) {op : UnOp} {t : TypeId} {x : Operand} {x' : Opd} (h1 : trOpd P t x = some x') (hd : dop call (.un op x') ad h = some out) :
  SimOut P G S ρ h w ((do pure (Next.value (← Op.unary op (a.eval x))) : Sem Next).run P w) out := by
 have g1 := rep_opd ha h1
 simp only [dop] at hd
 split at hd
 ·rename_i f ef
  simp only [Option.map_eq_some_iff] at hd
  obtain ⟨v, hv, rfl⟩ := hd
  rw [ef] at g1
  have g := repD_d g1
  cases op <;> cases f <;> simp only [dun, Option.some.injEq, reduceCtorEq] at hv
  ·subst hv
   rw [repF_int g, run_v (s := Op.unary .neg (.int _ _)) (w' := w) rfl]
   exact SimOut.plain hi (.d _ _ (.int _ _))
  ·subst hv
   rw [repF_bool g, run_v (s := Op.unary .not (.bool _)) (w' := w) rfl]
   exact SimOut.plain hi (.d _ _ (.bool _))
 ·cases hd
theorem sim_cvt (hi : Inv P G S ρ h w) (ha : RepA S ρ h w a.tmps ad) {src dst t : TypeId} {u : TypeDesc} {k : IntKind} {x : Operand} {x' : Opd} (hs : P.underlying src = some u) (hk : P.underlying dst = some (.int k)) (h1 : trOpd P t x = some x') (hd : dop call (.cvt k x') ad h = some out) :
  SimOut P G S ρ h w ((do pure (Next.value (← convert src dst (a.eval x))) : Sem Next).run P w) out := by
 have g1 := rep_opd ha h1
 simp only [dop] at hd
 split at hd
 ·rename_i k' n ef
  simp only [Option.some.injEq] at hd
  subst hd
  rw [ef] at g1
  rw [repF_int (repD_d g1)]
  have : (convert src dst (.int k' n)).run P w = .ok (.int k (k.wrap n)) w := by
   simp [convert, underlying, hs, hk, Conv.intToInt]
  rw [run_v this]
  exact SimOut.plain hi (.d _ _ (.int _ _))
 ·cases hd
theorem nums_at : ∀ {l : List (List FV)} {ns : List Int}, numsOf l = some ns → ns.length = l.length ∧ ∀ (i : Nat) (c : List FV), l[i]? = some c → c = [.int .u8 (ns.getD i 0)]
 | [], ns, h => by
  simp [numsOf] at h
  subst h
  exact ⟨rfl, fun i c hc => by simp at hc⟩
 | c :: l, ns, h => by
  simp only [numsOf, List.mapM_cons, Option.pure_def, Option.bind_eq_bind, Option.bind_eq_some_iff, Option.some.injEq] at h
  obtain ⟨n, hn, ns', hns, rfl⟩ := h
  obtain ⟨h1, h2⟩ := nums_at (l := l) (ns := ns') hns
  refine ⟨by simp [h1], fun i c' hc => ?_⟩
  cases i with
  | zero =>
   simp at hc
   subst hc
   split at hn
   ·simp only [Option.some.injEq] at hn; subst hn; rfl
   ·cases hn
  | succ i => simpa using h2 i c' (by simpa using hc)
theorem sim_addOff (hi : Inv P G S ρ h w) (ha : RepA S ρ h w a.tmps ad) {s t : TypeId} {fields : Array Field} {f : Nat} {fl : Field} {i : TypeInfo} {x : Operand} {x' : Opd} (hs : P.underlying s = some (.struct fields)) (hf : fields[f]? = some fl) (hinf : P.info? fl.type = some i) (h0 : ¬ i.size = 0)
  (h1 : trOpd P t x = some x') (hd : dop call (.addOff fl.offset x') ad h = some out) :
  SimOut P G S ρ h w ((do pure (Next.value (← Instr.fieldAt s (a.eval x) f)) : Sem Next).run P w) out := by
 have g1 := rep_opd ha h1
 have run : ∀ b o : Nat, (Instr.fieldAt s (.pointer (some ⟨b, o, none⟩)) f).run P w = .ok (.pointer (some ⟨b, o + fl.offset, none⟩)) w := fun b o => by
  simp [Instr.fieldAt, underlying, hs, hf, Instr.sureAddr, fieldPlace, sizeOf, typeInfo, hinf, h0, add_none]
 simp only [dop] at hd
 split at hd
 ·rename_i cells off ef
  simp only [Option.some.injEq] at hd
  subst hd
  rw [ef] at g1
  have g := repD_d g1
  generalize a.eval x = vx at *
  cases g with
  | ref b o off cells u hc hr ho1 =>
   rw [run_v (run b (o + off)), Nat.add_assoc]
   exact SimOut.plain hi (.d _ _ (.ref _ _ _ _ u hc hr ho1))
 ·rename_i id off ef
  simp only [Option.some.injEq] at hd
  subst hd
  rw [ef] at g1
  generalize a.eval x = vx at *
  cases g1 with
  | ptr id off b hb =>
   rw [run_v (run b off)]
   exact SimOut.plain hi (.ptr _ _ _ hb)
 ·rename_i id g k o ef
  simp only [Option.some.injEq] at hd
  subst hd
  rw [ef] at g1
  generalize a.eval x = vx at *
  cases g1 with
  | eptr b o' _ _ _ _ ht hr =>
   rw [run_v (run b o')]
   refine SimOut.plain hi (.eptr _ _ _ _ _ _ ht fun m hm => ⟨(hr m hm).1, fun e => ?_⟩)
   obtain ⟨C, sz, q1, q2⟩ := (hr m hm).2 e
   exact ⟨C, sz, q1, by rw [q2, Nat.add_assoc]⟩
 ·cases hd
theorem run_part {t : TypeId} {n : Option Nat} (hn : isAggB P t = some n) (cs : Array Value) (off : Nat) (hl : off + n.getD 1 ≤ cs.size) : (part t cs off).run P w = .ok (pack n fun j => cs.getD (off + j) undef) w := by
 obtain ⟨h1, h2⟩ := run_isAgg (w := w) hn
 cases n with
 | none =>
  have hl' : off < cs.size := by simp at hl; omega
  simp [part, h1, hl', pack, Array.getD_eq_getD_getElem?]
 | some k =>
  have hk := h2 k rfl
  simp only [part, Sem.run_bind, h1, Result.andThen_ok, Option.isSome_some, if_true, hk, Sem.run_pure, pack]
  congr 2
  apply Array.ext
  ·simp at hl ⊢; omega
  ·intro i h1 h2
   simp at h1 h2 hl
   simp [Array.getD_eq_getD_getElem?, show off + i < cs.size by omega]
theorem sim_fld (hi : Inv P G S ρ h w) (ha : RepA S ρ h w a.tmps ad) {s t : TypeId} {fields : Array Field} {f : Nat} {fl : Field} {n : Option Nat} {x : Operand} {x' : Opd} (hs : P.underlying s = some (.struct fields)) (hf : fields[f]? = some fl) (hn : isAggB P fl.type = some n)
  (h1 : trOpd P t x = some x') (hd : dop call (.fld n fl.offset x') ad h = some out) :
  SimOut P G S ρ h w ((do pure (Next.value (← Instr.field s (a.eval x) f)) : Sem Next).run P w) out := by
 have g1 := rep_opd ha h1
 have key : ∀ (cs : Array Value) (ds : List DV) (v : DV), a.eval x = .agg cs → cs.size = ds.length → (∀ (j : Nat) (y : DV), ds[j]? = some y → RepD S ρ h w (cs.getD j undef) y) → dload n ds fl.offset = some v →
   SimOut P G S ρ h w ((do pure (Next.value (← Instr.field s (a.eval x) f)) : Sem Next).run P w) (.val v h) := by
  intro cs ds v e hl hr hv
  obtain ⟨l1, l2⟩ := rep_dload (fun j => cs.getD j undef) hr hv
  have hp := run_part (P := P) (w := w) hn cs fl.offset (by omega)
  have : (Instr.field s (.agg cs) f).run P w = .ok (pack n fun j => cs.getD (fl.offset + j) undef) w := by
   simp [Instr.field, underlying, hs, hf, asAgg, hp]
  rw [e, run_v this]
  exact SimOut.plain hi l2
 simp only [dop] at hd
 split at hd
 ·rename_i fs e
  simp only [Option.map_eq_some_iff] at hd
  obtain ⟨v, hv, rfl⟩ := hd
  rw [e] at g1
  have g := repD_d g1
  generalize hvx : a.eval x = vx at *
  cases g with
  | agg cs fs hl hr =>
   refine key cs _ v rfl (by simp [hl]) (fun j y hy => ?_) hv
   simp only [List.getElem?_map, Option.map_eq_some_iff] at hy
   obtain ⟨z, hz, rfl⟩ := hy
   exact .d _ _ (hr j z hz)
 ·rename_i cs e
  simp only [Option.map_eq_some_iff] at hd
  obtain ⟨v, hv, rfl⟩ := hd
  rw [e] at g1
  generalize hvx : a.eval x = vx at *
  cases g1 with
  | agg vs cs hl hr => exact key vs cs v rfl hl (fun j y hy => hr j y hy) hv
 ·cases hd
theorem rep_elems {v : Value} {x : DV} (hx : RepD S ρ h w v x) {sz : Nat} {l : List (List FV)} (he : x.elems = some (sz, l)) : RepF S w v (.slice sz l) := by
 cases hx with
 | d v x hx =>
  cases x <;> simp only [DV.elems, Option.some.injEq, Prod.mk.injEq, reduceCtorEq] at he
  ·obtain ⟨rfl, rfl⟩ := he
   exact hx
  ·obtain ⟨rfl, rfl⟩ := he
   cases hx
   exact .slice0 none 0 _
  ·obtain ⟨rfl, rfl⟩ := he
   cases hx
   assumption
  ·obtain ⟨rfl, rfl⟩ := he
   cases hx
   exact .slice0 _ _ _
  ·obtain ⟨rfl, rfl⟩ := he
   cases hx
   exact .slice0 _ _ _
 | row v sz' elems t hx ht hr =>
  simp only [DV.elems, Option.some.injEq, Prod.mk.injEq] at he
  obtain ⟨rfl, rfl⟩ := he
  exact hx
 | _ => simp [DV.elems] at he
theorem rep_int {v : Value} {x : DV} (hx : RepD S ρ h w v x) {n : Int} (he : x.int = some n) : ∃ k, v = .int k n := by
 cases hx with
 | d v x hx =>
  cases x <;> simp only [DV.int, Option.some.injEq, reduceCtorEq] at he
  subst he
  exact ⟨_, repF_int hx⟩
 | _ => simp [DV.int] at he
theorem sim_idxAddr (hi : Inv P G S ρ h w) (ha : RepA S ρ h w a.tmps ad) {t e t1 t2 : TypeId} {info : TypeInfo} {x i : Operand} {x' i' : Opd} (ht : P.underlying t = some (.slice e)) (hinf : P.info? e = some info) (h1 : trOpd P t1 x = some x') (h2 : trOpd P t2 i = some i')
  (hd : dop call (.idxAddr info.size x' i') ad h = some out) : SimOut P G S ρ h w ((do pure (Next.value (← Instr.indexAt t (a.eval x) (a.eval i))) : Sem Next).run P w) out := by
 have g1 := rep_opd ha h1
 have g2 := rep_opd ha h2
 simp only [dop] at hd
 split at hd
 ·rename_i s l i he hi'
  split at hd
  ·rename_i hs
   obtain ⟨rfl, h0⟩ := hs
   simp only [Option.map_eq_some_iff] at hd
   obtain ⟨c, hc, rfl⟩ := hd
   have gl := rep_elems g1 he
   obtain ⟨k, hk⟩ := rep_int g2 hi'
   rw [hk]
   have hlt := (List.getElem?_eq_some_iff.1 hc).1
   generalize a.eval x = vx at *
   cases gl with
   | slice0 A cap => simp at hlt
   | slice b o n cap _ elems u hn hcap hsz hcc hr ho1 =>
    have hin : 0 ≤ i ∧ i < (n : Int) := ⟨h0, by omega⟩
    have run : (Instr.indexAt t (.slice (some ⟨b, o, none⟩) n cap) (.int k i)).run P w = .ok (.pointer (some ⟨b, o + i.toNat * info.size, none⟩)) w := by
     simp [Instr.indexAt, asIntOf, underlying, ht, hin, sizeOf, typeInfo, hinf, add_none]
    rw [run_v run]
    exact SimOut.plain hi (.d _ _ (.ref b (o + i.toNat * info.size) 0 c (u i.toNat) (fun j hj => hcc i.toNat j (by omega) (by rw [← hsz _ _ hc]; exact hj)) (fun j y hy => hr i.toNat j c y hc hy) (fun j y hy => ho1 i.toNat j c y hc hy)))
  ·cases hd
 ·rename_i i he hi'
  split at hd
  ·rename_i id off n hb
   split at hd
   ·rename_i hin
    simp only [Option.some.injEq] at hd
    subst hd
    obtain ⟨k, hk⟩ := rep_int g2 hi'
    rw [hk]
    rw [hb] at g1
    generalize a.eval x = vx at *
    cases g1 with
    | bslc id off n cap b hc hbb =>
     have run : (Instr.indexAt t (.slice (some ⟨b, off, none⟩) n cap) (.int k i)).run P w = .ok (.pointer (some ⟨b, off + i.toNat * info.size, none⟩)) w := by
      simp [Instr.indexAt, asIntOf, underlying, ht, hin, sizeOf, typeInfo, hinf, add_none]
     rw [run_v run]
     exact SimOut.plain hi (.ptr _ _ _ hbb)
   ·cases hd
  ·rename_i id g s off n hb
   split at hd
   ·rename_i hin
    obtain ⟨hs, hin⟩ := hin
    simp only [Option.some.injEq] at hd
    subst hd
    obtain ⟨k, hk⟩ := rep_int g2 hi'
    rw [hk]
    rw [hb] at g1
    generalize a.eval x = vx at *
    cases g1 with
    | vslc b o cap _ _ _ _ _ hc htt hr =>
     have run : (Instr.indexAt t (.slice (some ⟨b, o, none⟩) n cap) (.int k i)).run P w = .ok (.pointer (some ⟨b, o + i.toNat * info.size, none⟩)) w := by
      simp [Instr.indexAt, asIntOf, underlying, ht, hin, sizeOf, typeInfo, hinf, add_none]
     rw [run_v run]
     refine SimOut.plain hi (.eptr _ _ _ _ _ _ htt fun m hm => ⟨(hr m hm).1, fun e => ?_⟩)
     obtain ⟨C, q1, q2, q3, q4⟩ := (hr m hm).2 e
     exact ⟨C, s, q1, by rw [q2, ← hs, Nat.add_mul, Nat.add_zero]⟩
   ·cases hd
  ·cases hd
 ·cases hd
theorem sim_idxArr (hi : Inv P G S ρ h w) (ha : RepA S ρ h w a.tmps ad) {t e t1 t2 : TypeId} {len : Nat} {info : TypeInfo} {x i : Operand} {x' i' : Opd} (ht : P.underlying t = some (.array len e)) (hinf : P.info? e = some info) (h1 : trOpd P t1 x = some x') (h2 : trOpd P t2 i = some i')
  (hd : dop call (.idxArr len info.size x' i') ad h = some out) : SimOut P G S ρ h w ((do pure (Next.value (← Instr.indexAt t (a.eval x) (a.eval i))) : Sem Next).run P w) out := by
 have g1 := rep_opd ha h1
 have g2 := rep_opd ha h2
 have run : ∀ (b o : Nat) (k : IntKind) (i : Int), 0 ≤ i ∧ i < (len : Int) → (Instr.indexAt t (.pointer (some ⟨b, o, none⟩)) (.int k i)).run P w = .ok (.pointer (some ⟨b, o + i.toNat * info.size, none⟩)) w := fun b o k i hin => by
  simp [Instr.indexAt, asIntOf, underlying, ht, Instr.sureAddr, hin, sizeOf, typeInfo, hinf, add_none]
 simp only [dop] at hd
 split at hd
 ·rename_i cells off i he hi'
  split at hd
  ·rename_i hin
   simp only [Option.some.injEq] at hd
   subst hd
   obtain ⟨k, hk⟩ := rep_int g2 hi'
   rw [hk]
   rw [he] at g1
   have g := repD_d g1
   generalize a.eval x = vx at *
   cases g with
   | ref b o off cells u hc hr ho1 =>
    rw [run_v (run b (o + off) k i hin), Nat.add_assoc]
    exact SimOut.plain hi (.d _ _ (.ref _ _ _ _ u hc hr ho1))
  ·cases hd
 ·rename_i id off i he hi'
  split at hd
  ·rename_i hin
   simp only [Option.some.injEq] at hd
   subst hd
   obtain ⟨k, hk⟩ := rep_int g2 hi'
   rw [hk]
   rw [he] at g1
   generalize a.eval x = vx at *
   cases g1 with
   | ptr id off b hb =>
    rw [run_v (run b off k i hin)]
    exact SimOut.plain hi (.ptr _ _ _ hb)
  ·cases hd
 ·cases hd
theorem sim_idxVal (hi : Inv P G S ρ h w) (ha : RepA S ρ h w a.tmps ad) {t e t1 t2 : TypeId} {len : Nat} {info : TypeInfo} {m : Option Nat} {x i : Operand} {x' i' : Opd} (ht : P.underlying t = some (.array len e)) (hinf : P.info? e = some info) (hm : isAggB P e = some m) (h1 : trOpd P t1 x = some x') (h2 : trOpd P t2 i = some i')
  (hd : dop call (.idxVal len info.size m x' i') ad h = some out) : SimOut P G S ρ h w ((do pure (Next.value (← Instr.index t (a.eval x) (a.eval i))) : Sem Next).run P w) out := by
 have g1 := rep_opd ha h1
 have g2 := rep_opd ha h2
 simp only [dop] at hd
 split at hd
 ·rename_i i hi'
  obtain ⟨k, hk⟩ := rep_int g2 hi'
  rw [hk]
  split at hd
  ·rename_i hin
   have key : ∀ (cs : Array Value) (ds : List DV) (v : DV), a.eval x = .agg cs → cs.size = ds.length → (∀ (j : Nat) (y : DV), ds[j]? = some y → RepD S ρ h w (cs.getD j undef) y) → dload m ds (i.toNat * info.size) = some v →
     SimOut P G S ρ h w ((do pure (Next.value (← Instr.index t (a.eval x) (.int k i))) : Sem Next).run P w) (.val v h) := by
    intro cs ds v e hl hr hv
    obtain ⟨l1, l2⟩ := rep_dload (fun j => cs.getD j undef) hr hv
    have hp := run_part (P := P) (w := w) hm cs (i.toNat * info.size) (by omega)
    have : (Instr.index t (.agg cs) (.int k i)).run P w = .ok (pack m fun j => cs.getD (i.toNat * info.size + j) undef) w := by
     simp [Instr.index, asIntOf, underlying, ht, hin, sizeOf, typeInfo, hinf, hp]
    rw [e, run_v this]
    exact SimOut.plain hi l2
   split at hd
   ·rename_i fs e
    simp only [Option.map_eq_some_iff] at hd
    obtain ⟨v, hv, rfl⟩ := hd
    rw [e] at g1
    have g := repD_d g1
    generalize hvx : a.eval x = vx at *
    cases g with
    | agg cs fs hl hr =>
     refine key cs _ v rfl (by simp [hl]) (fun j y hy => ?_) hv
     simp only [List.getElem?_map, Option.map_eq_some_iff] at hy
     obtain ⟨z, hz, rfl⟩ := hy
     exact .d _ _ (hr j z hz)
   ·rename_i cs e
    simp only [Option.map_eq_some_iff] at hd
    obtain ⟨v, hv, rfl⟩ := hd
    rw [e] at g1
    generalize hvx : a.eval x = vx at *
    cases g1 with
    | agg vs cs hl hr => exact key vs cs v rfl hl (fun j y hy => hr j y hy) hv
   ·cases hd
  ·cases hd
 ·cases hd
theorem sim_idxStr (hi : Inv P G S ρ h w) (ha : RepA S ρ h w a.tmps ad) {t t1 t2 : TypeId} {x i : Operand} {x' i' : Opd} (ht : P.underlying t = some .string) (h1 : trOpd P t1 x = some x') (h2 : trOpd P t2 i = some i')
  (hd : dop call (.idxStr x' i') ad h = some out) : SimOut P G S ρ h w ((do pure (Next.value (← Instr.index t (a.eval x) (a.eval i))) : Sem Next).run P w) out := by
 have g1 := rep_opd ha h1
 have g2 := rep_opd ha h2
 simp only [dop] at hd
 split at hd
 ·rename_i s i he hi'
  split at hd
  ·rename_i h0
   simp only [Option.map_eq_some_iff] at hd
   obtain ⟨b, hb, rfl⟩ := hd
   obtain ⟨k, hk⟩ := rep_int g2 hi'
   rw [hk]
   rw [he] at g1
   rw [repF_str (repD_d g1)]
   have run : (Instr.index t (.string s) (.int k i)).run P w = .ok (.int .u8 b.toNat) w := by
    simp [Instr.index, asIntOf, underlying, ht, h0, hb]
   rw [run_v run]
   exact SimOut.plain hi (.d _ _ (.int _ _))
  ·cases hd
 ·cases hd
theorem sim_lenStr (hi : Inv P G S ρ h w) (ha : RepA S ρ h w a.tmps ad) {t t1 rt : TypeId} {ts : Array TypeId} {x : Operand} {x' : Opd} (h1 : trOpd P t1 x = some x') (h0 : ts[0]? = some t) (hu : P.underlying t = some .string)
  (hd : dop call (.len true x') ad h = some out) : SimOut P G S ρ h w ((do pure (Next.value (← Builtin.len_ ts rt #[a.eval x])) : Sem Next).run P w) out := by
 have g1 := rep_opd ha h1
 simp only [dop] at hd
 split at hd
 ·rename_i s he
  simp only [Option.some.injEq] at hd
  subst hd
  rw [he] at g1
  rw [repF_str (repD_d g1)]
  have run : (Builtin.len_ ts rt #[.string s]).run P w = .ok (.int .i64 s.size) w := by
   simp [Builtin.len_, h0, underlying, hu, goInt]
  rw [run_v run]
  exact SimOut.plain hi (.d _ _ (.int _ _))
 ·cases hd
theorem sim_lenSlc (hi : Inv P G S ρ h w) (ha : RepA S ρ h w a.tmps ad) {t t1 rt e : TypeId} {ts : Array TypeId} {x : Operand} {x' : Opd} (h1 : trOpd P t1 x = some x') (h0 : ts[0]? = some t) (hu : P.underlying t = some (.slice e))
  (hd : dop call (.len false x') ad h = some out) : SimOut P G S ρ h w ((do pure (Next.value (← Builtin.len_ ts rt #[a.eval x])) : Sem Next).run P w) out := by
 have g1 := rep_opd ha h1
 simp only [dop] at hd
 split at hd
 ·rename_i sz l he
  simp only [Option.some.injEq] at hd
  subst hd
  have g := rep_elems g1 he
  have run : ∀ (A : Option Addr) (n cap : Nat), (Builtin.len_ ts rt #[.slice A n cap]).run P w = .ok (.int .i64 n) w := fun A n cap => by
   simp [Builtin.len_, h0, underlying, hu, goInt]
  generalize a.eval x = vx at *
  cases g with
  | slice0 A cap => rw [run_v (run A 0 cap)]; exact SimOut.plain hi (.d _ _ (.int _ _))
  | slice b o n cap _ elems u hn hcap hsz hcc hr ho1 => rw [run_v (run _ n cap), ← hn]; exact SimOut.plain hi (.d _ _ (.int _ _))
 ·split at hd
  ·rename_i id off n hb
   simp only [Option.some.injEq] at hd
   subst hd
   rw [hb] at g1
   have run : ∀ (A : Option Addr) (n cap : Nat), (Builtin.len_ ts rt #[.slice A n cap]).run P w = .ok (.int .i64 n) w := fun A n cap => by
    simp [Builtin.len_, h0, underlying, hu, goInt]
   generalize a.eval x = vx at *
   cases g1 with
   | bslc id off n cap b hc hbb => rw [run_v (run _ n cap)]; exact SimOut.plain hi (.d _ _ (.int _ _))
  ·rename_i id g s off n hb
   simp only [Option.some.injEq] at hd
   subst hd
   rw [hb] at g1
   have run : ∀ (A : Option Addr) (n cap : Nat), (Builtin.len_ ts rt #[.slice A n cap]).run P w = .ok (.int .i64 n) w := fun A n cap => by
    simp [Builtin.len_, h0, underlying, hu, goInt]
   generalize a.eval x = vx at *
   cases g1 with
   | vslc b o cap _ _ _ _ _ hc ht hr => rw [run_v (run _ n cap)]; exact SimOut.plain hi (.d _ _ (.int _ _))
  ·cases hd
theorem sim_bstr (hi : Inv P G S ρ h w) (ha : RepA S ρ h w a.tmps ad) {src dst t e : TypeId} {x : Operand} {x' : Opd} (hs : P.underlying src = some (.slice e)) (hk : P.underlying dst = some .string) (he : P.underlying e = some (.int .u8)) (h1 : trOpd P t x = some x') (hd : dop call (.bstr x') ad h = some out) :
  SimOut P G S ρ h w ((do pure (Next.value (← convert src dst (a.eval x))) : Sem Next).run P w) out := by
 have g1 := rep_opd ha h1
 simp only [dop] at hd
 split at hd
 ·rename_i s l ef
  simp only [Option.map_eq_some_iff] at hd
  obtain ⟨ns, hns, rfl⟩ := hd
  obtain ⟨n1, n2⟩ := nums_at hns
  have g := rep_elems g1 ef
  generalize a.eval x = vx at *
  have : (convert src dst vx).run P w = .ok (.string (strOfNums ns)) w := by
   cases g with
   | slice0 A cap sz =>
    have : ns = [] := List.eq_nil_of_length_eq_zero n1
    subst this
    cases A with
    | none => rw [run_convert_bytes_nil w src e hs he 0 cap dst hk]; rfl
    | some A =>
     rw [run_convert_bytes_string w src dst e (some A) 0 cap hs he hk, run_bytesToString w A 0 cap [] (by simp [loadCells, loadCellsFrom])]
     rfl
   | slice b o n cap sz elems u hn hcap hsz hc hr h1 =>
    refine run_convert_bytes_arg w src e hs he b o n cap ns (by omega) (fun i hi => ?_) dst hk
    have hl : l[i]? = some l[i] := List.getElem?_eq_getElem (by omega)
    have hci := n2 i _ hl
    have hz := hsz i _ hl
    rw [hci] at hz
    simp at hz
    subst hz
    have hcell := (hc i 0 hi (by omega)).2
    have hrep := hr i 0 _ (.int .u8 (ns.getD i 0)) hl (by rw [hci]; rfl)
    simp only [Nat.mul_one, Nat.add_zero] at hcell
    rw [hcell, repF_int hrep]
  rw [run_v this]
  exact SimOut.plain hi (.d _ _ (.str _))
 ·cases hd
theorem take_get {α : Type} {l : List α} {n j : Nat} {x : α} (h : (l.take n)[j]? = some x) : l[j]? = some x := by
 rw [List.getElem?_take] at h
 split at h
 ·exact h
 ·cases h
theorem eqCells_lens : ∀ {ks : List Nat} {fs gs : List FV} {b : Bool}, eqCells ks fs gs = some b → fs.length = ks.length ∧ gs.length = ks.length
 | [], [], [], _, _ => ⟨rfl, rfl⟩
 | k :: ks, x :: xs, y :: ys, b, h => by
  simp only [eqCells] at h
  split at h
  ·rename_i a c ha hc
   have := eqCells_lens hc
   simp [this]
  ·cases h
 | [], _ :: _, _, _, h => by simp [eqCells] at h
 | [], [], _ :: _, _, h => by simp [eqCells] at h
 | _ :: _, [], _, _, h => by simp [eqCells] at h
 | _ :: _, _ :: _, [], _, h => by simp [eqCells] at h
theorem eqCells_len {ks : List Nat} {fs gs : List FV} {b : Bool} (h : eqCells ks fs gs = some b) {j : Nat} {f : FV} (hf : fs[j]? = some f) : j < ks.length := by
 rw [← (eqCells_lens h).1]; exact (List.getElem?_eq_some_iff.1 hf).1
theorem eqCells_len' {ks : List Nat} {fs gs : List FV} {b : Bool} (h : eqCells ks fs gs = some b) {j : Nat} {f : FV} (hf : gs[j]? = some f) : j < ks.length := by
 rw [← (eqCells_lens h).2]; exact (List.getElem?_eq_some_iff.1 hf).1
theorem eqCells_split : ∀ (ks ks' : List Nat) (fs gs : List FV) (b : Bool), eqCells (ks ++ ks') fs gs = some b → ∃ b1 b2, eqCells ks (fs.take ks.length) (gs.take ks.length) = some b1 ∧ eqCells ks' (fs.drop ks.length) (gs.drop ks.length) = some b2 ∧ b = (b1 && b2)
 | [], ks', fs, gs, b, h => ⟨true, b, by simp [eqCells], by simpa using h, by simp⟩
 | k :: ks, ks', x :: xs, y :: ys, b, h => by
  simp only [List.cons_append, eqCells] at h
  split at h
  ·rename_i a c ha hc
   simp only [Option.some.injEq] at h
   obtain ⟨b1, b2, h1, h2, h3⟩ := eqCells_split ks ks' xs ys c hc
   refine ⟨a && b1, b2, by simp only [List.length_cons, List.take_succ_cons, eqCells, ha, h1], by simpa using h2, by rw [← h, h3, Bool.and_assoc]⟩
  ·cases h
 | k :: ks, ks', [], [], b, h => by simp [eqCells] at h
 | k :: ks, ks', [], _ :: _, b, h => by simp [eqCells] at h
 | k :: ks, ks', _ :: _, [], b, h => by simp [eqCells] at h
theorem consec_at : ∀ (fl : List Field) (o n : Nat), consec P fl o = some n → o ≤ n ∧ ∀ f fl', fl = f :: fl' → f.offset = o ∧ o + P.cellsOf f.type ≤ n ∧ consec P fl' (o + P.cellsOf f.type) = some n
 | [], o, n, h => by
  simp only [consec, Option.some.injEq] at h
  exact ⟨by omega, fun f fl' he => by cases he⟩
 | f :: fl, o, n, h => by
  simp only [consec] at h
  split at h
  ·rename_i ho
   have := consec_at fl _ _ h
   exact ⟨by omega, fun f' fl' he => by cases he; exact ⟨ho, by omega, h⟩⟩
  ·cases h
theorem eq_type : ∀ (n : Nat) (t : TypeId) (ks : List Nat), leafs P n t = some ks → ks.length = P.cellsOf t → ∀ (d : Nat) (xs ys : Array Value) (off : Nat) (fs gs : List FV) (b : Bool), off + P.cellsOf t ≤ xs.size → off + P.cellsOf t ≤ ys.size →
  (∀ (j : Nat) (f : FV), fs[j]? = some f → RepF S w (xs.getD (off + j) undef) f) → (∀ (j : Nat) (f : FV), gs[j]? = some f → RepF S w (ys.getD (off + j) undef) f) → eqCells ks fs gs = some b →
  ∃ va vb, (part t xs off).run P w = .ok va w ∧ (part t ys off).run P w = .ok vb w ∧ (Op.equalIn (d + n) t va vb).run P w = .ok b w := by
 intro n
 induction n with
 | zero => intro t ks h; simp [leafs] at h
 | succ n ih =>
  intro t ks h hlen d xs ys off fs gs b hx hy rx ry he
  have scalar : ∀ (k : Nat), ks = [k] → P.cellsOf t = 1 → isAggB P t = some none → (∀ va vb f g, RepF S w va f → RepF S w vb g → eqFV k f g = some b → (Op.equalIn (d + n + 1) t va vb).run P w = .ok b w) → ∃ va vb, (part t xs off).run P w = .ok va w ∧ (part t ys off).run P w = .ok vb w ∧ (Op.equalIn (d + (n + 1)) t va vb).run P w = .ok b w := by
   rintro k rfl hc hagg hrun
   rw [hc] at hx hy
   match fs, gs, he with
   | [f], [g], he =>
    simp only [eqCells] at he
    split at he
    ·rename_i a c ha hc'
     simp only [Option.some.injEq] at hc' he
     subst hc'
     have : a = b := by simpa using he
     subst this
     refine ⟨_, _, run_part hagg xs off (by simpa using hx), run_part hagg ys off (by simpa using hy), hrun _ _ f g ?_ ?_ ha⟩
     ·simpa [pack] using rx 0 f rfl
     ·simpa [pack] using ry 0 g rfl
    ·cases he
   | [], [], he => simp [eqCells] at he
   | [], _ :: _, he => simp [eqCells] at he
   | _ :: _, [], he => simp [eqCells] at he
   | f :: _ :: _, [g], he =>
    simp only [eqCells] at he
    split at he <;> simp_all
   | [f], g :: _ :: _, he =>
    simp only [eqCells] at he
    split at he <;> simp_all
   | f :: _ :: _, g :: _ :: _, he =>
    simp only [eqCells] at he
    split at he <;> simp_all
  unfold leafs at h
  split at h
  ·rename_i kd hu
   split at h
   ·rename_i hc
    simp only [Bool.and_eq_true, beq_iff_eq] at hc
    simp only [Option.some.injEq] at h
    refine scalar 0 h.symm hc.1 hc.2 fun va vb f g ha hb hf => ?_
    cases f <;> cases g <;> simp only [eqFV, reduceCtorEq] at hf
    split at hf
    ·rename_i hkk
     subst hkk
     simp only [Option.some.injEq] at hf
     subst hf
     rw [repF_int ha, repF_int hb]
     exact run_equalIn_int w _ t _ kd _ _ hu
    ·cases hf
   ·cases h
  ·rename_i hu
   split at h
   ·rename_i hc
    simp only [Bool.and_eq_true, beq_iff_eq] at hc
    simp only [Option.some.injEq] at h
    refine scalar 1 h.symm hc.1 hc.2 fun va vb f g ha hb hf => ?_
    cases f <;> cases g <;> simp only [eqFV, reduceCtorEq, Option.some.injEq] at hf
    subst hf
    rw [repF_str ha, repF_str hb]
    exact run_equalIn_string w _ t _ _ hu
   ·cases h
  ·rename_i hu
   split at h
   ·rename_i hc
    simp only [Bool.and_eq_true, beq_iff_eq] at hc
    simp only [Option.some.injEq] at h
    refine scalar 2 h.symm hc.1 hc.2 fun va vb f g ha hb hf => ?_
    cases f <;> cases g <;> simp only [eqFV, reduceCtorEq, Option.some.injEq] at hf
    subst hf
    rw [repF_bool ha, repF_bool hb]
    exact run_equalIn_bool' w _ t _ _ hu
   ·cases h
  ·rename_i fl hu
   split at h
   ·rename_i hc
    simp only [Bool.and_eq_true, beq_iff_eq, Bool.not_eq_true', List.all_eq_true, bne_iff_ne, ne_eq] at hc
    obtain ⟨⟨⟨hst, hnames⟩, hcon⟩, hagg⟩ := hc
    split at h
    ·rename_i kss hkss
     simp only [Option.some.injEq] at h
     subst h
     refine ⟨_, _, run_part hagg xs off (by simpa using hx), run_part hagg ys off (by simpa using hy), ?_⟩
     have hfo : P.underlying t = some (.struct (P.fieldsOf t)) := by rw [hu]; simp [Program.fieldsOf, hu]
     have hfl : (P.fieldsOf t).toList = fl.toList := by simp [Program.fieldsOf, hu]
     simp only [pack]
     rw [show d + (n + 1) = (d + n) + 1 from rfl, run_equalIn_struct w (d + n) t _ _ hfo hst, hfl]
     generalize hA : ((List.range (P.cellsOf t)).map fun j => xs.getD (off + j) undef).toArray = A
     generalize hB : ((List.range (P.cellsOf t)).map fun j => ys.getD (off + j) undef).toArray = B
     have sA : A.size = P.cellsOf t := by rw [← hA]; simp
     have sB : B.size = P.cellsOf t := by rw [← hB]; simp
     have hat : ∀ (zs Z : Array Value), ((List.range (P.cellsOf t)).map fun j => zs.getD (off + j) undef).toArray = Z → ∀ j, j < P.cellsOf t → Z.getD j undef = zs.getD (off + j) undef := by
      rintro zs Z rfl j hj
      simp [Array.getD_eq_getD_getElem?, hj]
     have key : ∀ (fl : List Field) (kss : List (List Nat)) (o : Nat) (fs gs : List FV) (b : Bool), (∀ f ∈ fl, ¬ f.name = "_") → consec P fl o = some (P.cellsOf t) → (fl.mapM fun f => (leafs P n f.type).bind fun ks => if ks.length = P.cellsOf f.type then some ks else none) = some kss →
       (∀ (j : Nat) (f : FV), fs[j]? = some f → RepF S w (A.getD (o + j) undef) f) → (∀ (j : Nat) (f : FV), gs[j]? = some f → RepF S w (B.getD (o + j) undef) f) → eqCells kss.flatten fs gs = some b → (Op.eqFields (d + n) A B fl).run P w = .ok b w := by
      intro fl
      induction fl with
      | nil =>
       intro kss o fs gs b hn hcon hm ra rb he
       simp at hm
       subst hm
       match fs, gs, he with
       | [], [], he =>
        simp only [List.flatten_nil, eqCells, Option.some.injEq] at he
        subst he
        simp [Op.eqFields]
       | [], _ :: _, he => simp [eqCells] at he
       | _ :: _, _, he => simp [eqCells] at he
      | cons f fl ihf =>
       intro kss o fs gs b hn hcon hm ra rb he
       simp only [List.mapM_cons, Option.pure_def, Option.bind_eq_bind, Option.bind_eq_some_iff, Option.some.injEq] at hm
       obtain ⟨k1, ⟨k0, hk1, hk2⟩, ks', hks', rfl⟩ := hm
       split at hk2
       ·rename_i hkl
        simp only [Option.some.injEq] at hk2
        subst hk2
        obtain ⟨_, hcc⟩ := consec_at (P := P) (f :: fl) o _ hcon
        obtain ⟨ho, hle, hcon'⟩ := hcc f fl rfl
        rw [List.flatten_cons] at he
        obtain ⟨b1, b2, e1, e2, e3⟩ := eqCells_split k0 ks'.flatten fs gs b he
        obtain ⟨va, vb, p1, p2, p3⟩ := ih f.type k0 hk1 hkl d A B o _ _ b1 (by omega) (by omega) (fun j g hg => ra j g (take_get hg)) (fun j g hg => rb j g (take_get hg)) e1
        have rest := ihf ks' (o + P.cellsOf f.type) _ _ b2 (fun g hg => hn g (by simp [hg])) hcon' hks' (fun j g hg => by
         rw [List.getElem?_drop, hkl] at hg
         rw [Nat.add_assoc]; exact ra _ g hg) (fun j g hg => by
         rw [List.getElem?_drop, hkl] at hg
         rw [Nat.add_assoc]; exact rb _ g hg) e2
        simp only [Op.eqFields]
        rw [if_pos (hn f (by simp)), ho]
        simp only [Sem.run_bind, p1, p2, p3, Result.andThen_ok]
        subst e3
        cases b1
        ·simp
        ·simpa using rest
       ·cases hk2
     refine key fl.toList kss 0 fs gs b hnames hcon hkss (fun j f hf => ?_) (fun j f hf => ?_) he
     ·have hj : j < P.cellsOf t := by
       rw [← hlen]; exact eqCells_len he hf
      rw [Nat.zero_add, hat xs A hA j hj]
      exact rx j f hf
     ·have hj : j < P.cellsOf t := by
       rw [← hlen]; exact eqCells_len' he hf
      rw [Nat.zero_add, hat ys B hB j hj]
      exact ry j f hf
    ·cases h
   ·cases h
  ·cases h
theorem sim_eqs (hi : Inv P G S ρ h w) (ha : RepA S ρ h w a.tmps ad) {neq : Bool} {xt : TypeId} {ks : List Nat} {x y : Operand} {x' y' : Opd} (hl : leafs P 12 xt = some ks) (hk : ks.length = P.cellsOf xt) (hg : P.eqGuardType P.depth xt = false) (hu : ∃ fl, P.underlying xt = some (.struct fl))
  {t1 t2 : TypeId} (h1 : trOpd P t1 x = some x') (h2 : trOpd P t2 y = some y') (hd : dop call (.eqs neq ks x' y') ad h = some out) :
  SimOut P G S ρ h w ((do pure (Next.value (← binS (if neq then .neq else .eql) xt x y (a.eval x) (a.eval y))) : Sem Next).run P w) out := by
 have g1 := rep_opd ha h1
 have g2 := rep_opd ha h2
 simp only [dop] at hd
 split at hd
 ·rename_i fs gs e1 e2
  simp only [Option.map_eq_some_iff] at hd
  obtain ⟨b, hb, rfl⟩ := hd
  rw [e1] at g1
  rw [e2] at g2
  have r1 := repD_d g1
  have r2 := repD_d g2
  generalize a.eval x = vx at *
  generalize a.eval y = vy at *
  cases r1 with
  | agg cs _ hl1 hr1 =>
   cases r2 with
   | agg ds _ hl2 hr2 =>
    obtain ⟨q1, q2⟩ := eqCells_lens hb
    obtain ⟨va, vb, p1, p2, p3⟩ := eq_type (P := P) (S := S) (w := w) 12 xt ks hl hk 9988 cs ds 0 fs gs b (by omega) (by omega) (fun j f hf => by simpa using hr1 j f hf) (fun j f hf => by simpa using hr2 j f hf) hb
    have hagg : isAggB P xt = some (some (P.cellsOf xt)) := by
     obtain ⟨fl, hu⟩ := hu
     have := hl
     unfold leafs at this
     rw [hu] at this
     simp only at this
     split at this
     ·rename_i hc
      simp only [Bool.and_eq_true, beq_iff_eq] at hc
      exact hc.2
     ·cases this
    have whole : ∀ zs : Array Value, zs.size = P.cellsOf xt → (part xt zs 0).run P w = .ok (.agg zs) w := fun zs hz => by
     rw [run_part hagg zs 0 (by simp [hz])]
     simp only [pack, Nat.zero_add]
     congr 2
     apply Array.ext
     ·simp [hz]
     ·intro i h1 h2
      simp [Array.getD_eq_getD_getElem?, h2]
    rw [whole cs (by omega)] at p1
    rw [whole ds (by omega)] at p2
    cases p1
    cases p2
    have hge := run_eqGuard_agg (P := P) w (if neq then .neq else .eql) xt x y cs ds hg
    have : (binS (if neq then .neq else .eql) xt x y (.agg cs) (.agg ds)).run P w = .ok (.bool (if neq then !b else b)) w := by
     simp only [binS, Sem.run_bind, hge, Result.andThen_ok]
     cases neq
     ·simp only [Bool.false_eq_true, if_false]
      rw [run_eql_struct, p3]
      rfl
     ·simp only [if_true]
      rw [run_neq_struct, p3]
      rfl
    rw [run_v this]
    exact SimOut.plain hi (.d _ _ (.bool _))
 ·cases hd
theorem sim_bin (hi : Inv P G S ρ h w) (ha : RepA S ρ h w a.tmps ad) {op : BinOp} {xt yt : TypeId} {x y : Operand} {d : DOp} (ht : trBin P op xt yt x y = some d) (hd : dop call d ad h = some out) :
  SimOut P G S ρ h w ((do pure (Next.value (← binS op xt x y (a.eval x) (a.eval y))) : Sem Next).run P w) out := by
 unfold trBin at ht
 split at ht
 ·rename_i x' y' hx' hy'
  have hx := rep_opd ha hx'
  have hy := rep_opd ha hy'
  have plain : d = .bin op x' y' → SimOut P G S ρ h w ((do pure (Next.value (← binS op xt x y (a.eval x) (a.eval y))) : Sem Next).run P w) out := by
   rintro rfl
   simp only [dop] at hd
   split at hd
   ·rename_i fx fy ex ey
    simp only [Option.map_eq_some_iff] at hd
    obtain ⟨f, hf, rfl⟩ := hd
    rw [ex] at hx
    rw [ey] at hy
    obtain ⟨v, hv, hr⟩ := run_bin (P := P) (t := xt) (x := x) (y := y) (repD_d hx) (repD_d hy) hf
    rw [run_v (s := binS op xt x y (a.eval x) (a.eval y)) hv]
    exact SimOut.plain hi (.d _ _ hr)
   ·cases hd
  have bools : ∀ neq : Bool, op = (if neq then .neq else .eql) → P.underlying xt = some .bool → d = .eqb neq x' y' → SimOut P G S ρ h w ((do pure (Next.value (← binS op xt x y (a.eval x) (a.eval y))) : Sem Next).run P w) out := by
   rintro neq rfl hu rfl
   simp only [dop] at hd
   split at hd
   ·rename_i bx by_ ex ey
    simp only [Option.some.injEq] at hd
    subst hd
    rw [ex] at hx
    rw [ey] at hy
    rw [repF_bool (repD_d hx), repF_bool (repD_d hy)]
    have hg : (eqGuard (if neq then .neq else .eql) xt x y (.bool bx) (.bool by_)).run P w = .ok () w := by
     unfold eqGuard
     split <;> rfl
    have he : (Op.equal xt (.bool bx) (.bool by_)).run P w = .ok (bx == by_) w := by
     unfold Op.equal
     rw [show Op.maxDepth = 9999 + 1 from rfl]
     unfold Op.equalIn
     simp [underlying, hu]
    have : (binS (if neq then .neq else .eql) xt x y (.bool bx) (.bool by_)).run P w = .ok (.bool (if neq then !(bx == by_) else bx == by_)) w := by
     simp only [binS, Sem.run_bind, hg, Result.andThen_ok]
     cases neq <;> simp [binOp, he]
    rw [run_v this]
    exact SimOut.plain hi (.d _ _ (.bool _))
   ·cases hd
  have nils : ∀ (k : Nat) (u : TypeDesc), P.underlying xt = some u → KindOf k u → trNil op k x y x' y' = some d → SimOut P G S ρ h w ((do pure (Next.value (← binS op xt x y (a.eval x) (a.eval y))) : Sem Next).run P w) out := by
   intro k u hu hk ht
   have one : ∀ (neq : Bool), op = (if neq then .neq else .eql) → (if isNilConst k y then some (DOp.isnil k neq x') else if isNilConst k x then some (DOp.isnil k neq y') else none) = some d → SimOut P G S ρ h w ((do pure (Next.value (← binS op xt x y (a.eval x) (a.eval y))) : Sem Next).run P w) out := by
    rintro neq rfl ht
    split at ht
    ·rename_i hc
     simp only [Option.some.injEq] at ht
     subst ht
     simp only [dop, Option.map_eq_some_iff] at hd
     obtain ⟨b, hb, rfl⟩ := hd
     have hv := nil_val hx hb
     have hn : NilVal k true (a.eval y) := nil_const hc
     rw [run_v (bin_nil (w := w) hu hk hv hn (.inr hc)).1]
     exact SimOut.plain hi (.d _ _ (.bool _))
    ·split at ht
     ·rename_i hc
      simp only [Option.some.injEq] at ht
      subst ht
      simp only [dop, Option.map_eq_some_iff] at hd
      obtain ⟨b, hb, rfl⟩ := hd
      have hv := nil_val hy hb
      have hn : NilVal k true (a.eval x) := nil_const hc
      rw [run_v (bin_nil (w := w) hu hk hv hn (.inl hc)).2]
      exact SimOut.plain hi (.d _ _ (.bool _))
     ·cases ht
   unfold trNil at ht
   split at ht
   ·exact one false rfl ht
   ·exact one true rfl ht
   ·cases ht
  split at ht
  ·exact plain (by simpa using ht.symm)
  ·exact plain (by simpa using ht.symm)
  ·rename_i hu
   split at ht
   ·exact bools false rfl hu (by simpa using ht.symm)
   ·exact bools true rfl hu (by simpa using ht.symm)
   ·cases ht
  ·rename_i hu; exact nils 0 _ hu trivial ht
  ·rename_i hu; exact nils 1 _ hu trivial ht
  ·rename_i hu; exact nils 2 _ hu trivial ht
  ·rename_i hu; exact nils 3 _ hu trivial ht
  ·rename_i hu; exact nils 4 _ hu trivial ht
  ·rename_i fl hu
   split at ht
   ·rename_i ks hks
    split at ht
    ·rename_i hc
     split at ht
     ·simp only [Option.some.injEq] at ht
      subst ht
      exact sim_eqs (neq := false) hi ha hks hc.1 hc.2 ⟨fl, hu⟩ hx' hy' hd
     ·simp only [Option.some.injEq] at ht
      subst ht
      exact sim_eqs (neq := true) hi ha hks hc.1 hc.2 ⟨fl, hu⟩ hx' hy' hd
     ·cases ht
    ·cases ht
   ·cases ht
  ·cases ht
 ·cases ht
end
end Go.Deepv
namespace Go.Deepv
open Go.RowKit
section
variable {P : Program} {G : Glob} {S : Settled} {ρ : List RI} {h : List Res} {w : World} {a : Act} {ad : List DV} {call : Cle → List DV → List Res → Option DOut} {out : DOut}
theorem rep_bound (ha : RepA S ρ h w a.tmps ad) {x : Option Operand} {x' : Option Opd} (ht : optOpd P x = some x') {dflt most n : Nat} (hb : bound x' ad dflt most = some n) :
  (x = none ∧ n = dflt) ∨ ∃ y k, x = some y ∧ a.eval y = .int k n ∧ n ≤ most := by
 unfold optOpd at ht
 split at ht
 ·simp only [Option.some.injEq] at ht
  subst ht
  simp only [bound, Option.some.injEq] at hb
  exact .inl ⟨rfl, hb.symm⟩
 ·simp only [Option.map_eq_some_iff] at ht
  obtain ⟨y, hy, rfl⟩ := ht
  have g := rep_opd ha hy
  simp only [bound] at hb
  split at hb
  ·rename_i i hi
   split at hb
   ·rename_i hin
    simp only [Option.some.injEq] at hb
    obtain ⟨k, hk⟩ := rep_int g hi
    refine .inr ⟨_, k, rfl, ?_, by omega⟩
    rw [hk]
    congr 1
    omega
   ·cases hb
  ·cases hb
theorem run_bounds {isSlice : Bool} {len cap lo hi : Nat} {x y : Option Operand} (hlc : hi ≤ cap) (hlo : lo ≤ hi) (hx : (x = none ∧ lo = 0) ∨ ∃ z k, x = some z ∧ a.eval z = .int k lo) (hy : (y = none ∧ hi = len) ∨ ∃ z k, y = some z ∧ a.eval z = .int k hi) :
  (Instr.sliceBounds isSlice len cap (x.map a.eval) (y.map a.eval) none).run P w = .ok (lo, hi, cap) w := by
 rcases hy with ⟨rfl, rfl⟩ | ⟨z, k, rfl, ez⟩
 ·rcases hx with ⟨rfl, rfl⟩ | ⟨z', k', rfl, ez'⟩
  ·simp [Instr.sliceBounds]
  ·simp [Instr.sliceBounds, ez', Instr.sliceBound, asIntOf, hlo]
 ·rcases hx with ⟨rfl, rfl⟩ | ⟨z', k', rfl, ez'⟩
  ·simp [Instr.sliceBounds, ez, Instr.sliceBound, asIntOf, hlc]
  ·simp [Instr.sliceBounds, ez, ez', Instr.sliceBound, asIntOf, hlc, hlo]
theorem sim_slcStr (hi : Inv P G S ρ h w) (ha : RepA S ρ h w a.tmps ad) {t t1 : TypeId} {x : Operand} {lo hi' : Option Operand} {x' : Opd} {lo' hi'' : Option Opd} (hu : P.underlying t = some .string) (h1 : trOpd P t1 x = some x') (h2 : optOpd P lo = some lo') (h3 : optOpd P hi' = some hi'')
  (hd : dop call (.slcStr x' lo' hi'') ad h = some out) : SimOut P G S ρ h w ((do pure (Next.value (← Instr.sliceAt t (a.eval x) (lo.map a.eval) (hi'.map a.eval) none)) : Sem Next).run P w) out := by
 have g1 := rep_opd ha h1
 simp only [dop] at hd
 split at hd
 ·rename_i s es
  split at hd
  ·rename_i n hn
   split at hd
   ·rename_i m hm
    simp only [Option.some.injEq] at hd
    subst hd
    rw [es] at g1
    rw [repF_str (repD_d g1)]
    have b1 := rep_bound ha h3 hn
    have b2 := rep_bound ha h2 hm
    have hle : n ≤ s.size := by rcases b1 with ⟨_, rfl⟩ | ⟨_, _, _, _, h⟩ <;> omega
    have hle2 : m ≤ n := by rcases b2 with ⟨_, rfl⟩ | ⟨_, _, _, _, h⟩ <;> omega
    have rb := run_bounds (P := P) (w := w) (a := a) (isSlice := false) (len := s.size) (cap := s.size) hle hle2 (by rcases b2 with ⟨e, r⟩ | ⟨y, k, e1, e2, _⟩; exact .inl ⟨e, r⟩; exact .inr ⟨y, k, e1, e2⟩) (by rcases b1 with ⟨e, r⟩ | ⟨y, k, e1, e2, _⟩; exact .inl ⟨e, r⟩; exact .inr ⟨y, k, e1, e2⟩)
    have run : (Instr.sliceAt t (.string s) (lo.map a.eval) (hi'.map a.eval) none).run P w = .ok (.string (s.extract m n)) w := by
     simp [Instr.sliceAt, underlying, hu, Instr.slice, rb]
    rw [run_v run]
    exact SimOut.plain hi (.d _ _ (.str _))
   ·cases hd
  ·cases hd
 ·cases hd
theorem sim_slc (hi : Inv P G S ρ h w) (ha : RepA S ρ h w a.tmps ad) {t t1 e : TypeId} {info : TypeInfo} {x : Operand} {lo hi' : Option Operand} {x' : Opd} {lo' hi'' : Option Opd} (hu : P.underlying t = some (.slice e)) (hinf : P.info? e = some info) (h1 : trOpd P t1 x = some x') (h2 : optOpd P lo = some lo') (h3 : optOpd P hi' = some hi'')
  (hd : dop call (.slc info.size x' lo' hi'') ad h = some out) : SimOut P G S ρ h w ((do pure (Next.value (← Instr.sliceAt t (a.eval x) (lo.map a.eval) (hi'.map a.eval) none)) : Sem Next).run P w) out := by
 have g1 := rep_opd ha h1
 simp only [dop] at hd
 split at hd
 ·rename_i sz l es
  split at hd
  ·rename_i hsz0
   subst hsz0
   split at hd
   ·rename_i n hn
    split at hd
    ·rename_i m hm
     simp only [Option.some.injEq] at hd
     subst hd
     have g := rep_elems g1 es
     have b1 := rep_bound ha h3 hn
     have b2 := rep_bound ha h2 hm
     have hle : n ≤ l.length := by rcases b1 with ⟨_, rfl⟩ | ⟨_, _, _, _, h⟩ <;> omega
     have hle2 : m ≤ n := by rcases b2 with ⟨_, rfl⟩ | ⟨_, _, _, _, h⟩ <;> omega
     have hlen : ((l.take n).drop m).length = n - m := by simp; omega
     have run : ∀ (A : Option Addr) (cap : Nat), l.length ≤ cap → (Instr.sliceAt t (.slice A l.length cap) (lo.map a.eval) (hi'.map a.eval) none).run P w = .ok (.slice (if cap = m then A else A.map (·.add (m * info.size))) (n - m) (cap - m)) w := fun A cap hc => by
      have rb := run_bounds (P := P) (w := w) (a := a) (isSlice := true) (len := l.length) (cap := cap) (show n ≤ cap by omega) hle2 (by rcases b2 with ⟨e, r⟩ | ⟨y, k, e1, e2, _⟩; exact .inl ⟨e, r⟩; exact .inr ⟨y, k, e1, e2⟩) (by rcases b1 with ⟨e, r⟩ | ⟨y, k, e1, e2, _⟩; exact .inl ⟨e, r⟩; exact .inr ⟨y, k, e1, e2⟩)
      simp [Instr.sliceAt, underlying, hu, Instr.slice, rb, sizeOf, typeInfo, hinf]
     generalize hvx : a.eval x = vx at *
     have fin : ∀ (A : Option Addr) (cap : Nat), l.length ≤ cap → vx = .slice A l.length cap → RepF S w (.slice (if cap = m then A else A.map (·.add (m * info.size))) (n - m) (cap - m)) (.slice info.size ((l.take n).drop m)) →
       SimOut P G S ρ h w ((do pure (Next.value (← Instr.sliceAt t vx (lo.map a.eval) (hi'.map a.eval) none)) : Sem Next).run P w) (.val (.d (.slice info.size ((l.take n).drop m))) h) := fun A cap hc e hr => by
      rw [e, run_v (run A cap hc)]
      exact SimOut.plain hi (.d _ _ hr)
     cases g with
     | slice0 A cap =>
      refine fin A cap (by simp) rfl ?_
      have : n - m = 0 := by simp at hle; omega
      rw [this]
      have e : (([] : List (List FV)).take n).drop m = [] := by simp
      rw [e]
      exact .slice0 _ _ _
     | slice b o n0 cap _ elems u hn0 hcap hsz hcc hr ho1 =>
      refine fin _ cap (by omega) (by rw [hn0]) ?_
      by_cases h0 : n - m = 0
      ·rw [h0]
       have e : (l.take n).drop m = [] := List.eq_nil_of_length_eq_zero (by omega)
       rw [e]
       exact .slice0 _ _ _
      ·rw [if_neg (show ¬ cap = m by omega)]
       simp only [Option.map_some, add_none]
       refine .slice b (o + m * info.size) (n - m) (cap - m) info.size _ (fun i j => u (m + i) j) hlen (by omega) (fun i c hc => ?_) (fun i j hi1 hj => ?_) (fun i j c y hc hy => ?_) (fun i j c y hc hy => ?_)
       ·rw [List.getElem?_drop, List.getElem?_take] at hc
        split at hc
        ·exact hsz _ c hc
        ·cases hc
       ·have := hcc (m + i) j (by omega) hj
        rwa [Nat.add_mul, ← Nat.add_assoc] at this
       ·rw [List.getElem?_drop, List.getElem?_take] at hc
        split at hc
        ·exact hr _ j c y hc hy
        ·cases hc
       ·rw [List.getElem?_drop, List.getElem?_take] at hc
        split at hc
        ·exact ho1 _ j c y hc hy
        ·cases hc
    ·cases hd
   ·cases hd
  ·cases hd
 ·split at hd
  ·rename_i id off n0 hb
   split at hd
   ·rename_i n hn
    split at hd
    ·rename_i m hm
     simp only [Option.some.injEq] at hd
     subst hd
     rw [hb] at g1
     have b1 := rep_bound ha h3 hn
     have b2 := rep_bound ha h2 hm
     have hle : n ≤ n0 := by rcases b1 with ⟨_, rfl⟩ | ⟨_, _, _, _, h⟩ <;> omega
     have hle2 : m ≤ n := by rcases b2 with ⟨_, rfl⟩ | ⟨_, _, _, _, h⟩ <;> omega
     generalize a.eval x = vx at *
     cases g1 with
     | bslc id off n0 cap b hc hbb =>
      have rb := run_bounds (P := P) (w := w) (a := a) (isSlice := true) (len := n0) (cap := cap) (show n ≤ cap by omega) hle2 (by rcases b2 with ⟨e, r⟩ | ⟨y, k, e1, e2, _⟩; exact .inl ⟨e, r⟩; exact .inr ⟨y, k, e1, e2⟩) (by rcases b1 with ⟨e, r⟩ | ⟨y, k, e1, e2, _⟩; exact .inl ⟨e, r⟩; exact .inr ⟨y, k, e1, e2⟩)
      have run : (Instr.sliceAt t (.slice (some ⟨b, off, none⟩) n0 cap) (lo.map a.eval) (hi'.map a.eval) none).run P w = .ok (.slice (if cap = m then some ⟨b, off, none⟩ else (some (⟨b, off, none⟩ : Addr)).map (·.add (m * info.size))) (n - m) (cap - m)) w := by
       simp [Instr.sliceAt, underlying, hu, Instr.slice, rb, sizeOf, typeInfo, hinf]
      rw [run_v run]
      by_cases h0 : n - m = 0
      ·rw [if_pos h0, h0]
       exact SimOut.plain hi (.d _ _ (.slice0 _ _ _))
      ·rw [if_neg h0, if_neg (show ¬ cap = m by omega)]
       simp only [Option.map_some, add_none]
       exact SimOut.plain hi (.bslc _ _ _ _ _ (by omega) hbb)
    ·cases hd
   ·cases hd
  ·rename_i id g s off n0 hb
   split at hd
   ·rename_i hs
    subst hs
    split at hd
    ·rename_i n hn
     split at hd
     ·rename_i m hm
      simp only [Option.some.injEq] at hd
      subst hd
      rw [hb] at g1
      have b1 := rep_bound ha h3 hn
      have b2 := rep_bound ha h2 hm
      have hle : n ≤ n0 := by rcases b1 with ⟨_, rfl⟩ | ⟨_, _, _, _, h⟩ <;> omega
      have hle2 : m ≤ n := by rcases b2 with ⟨_, rfl⟩ | ⟨_, _, _, _, h⟩ <;> omega
      generalize a.eval x = vx at *
      cases g1 with
      | vslc b o cap _ _ _ _ _ hc ht hr =>
       have rb := run_bounds (P := P) (w := w) (a := a) (isSlice := true) (len := n0) (cap := cap) (show n ≤ cap by omega) hle2 (by rcases b2 with ⟨e, r⟩ | ⟨y, k, e1, e2, _⟩; exact .inl ⟨e, r⟩; exact .inr ⟨y, k, e1, e2⟩) (by rcases b1 with ⟨e, r⟩ | ⟨y, k, e1, e2, _⟩; exact .inl ⟨e, r⟩; exact .inr ⟨y, k, e1, e2⟩)
       have run : (Instr.sliceAt t (.slice (some ⟨b, o, none⟩) n0 cap) (lo.map a.eval) (hi'.map a.eval) none).run P w = .ok (.slice (if cap = m then some ⟨b, o, none⟩ else (some (⟨b, o, none⟩ : Addr)).map (·.add (m * info.size))) (n - m) (cap - m)) w := by
        simp [Instr.sliceAt, underlying, hu, Instr.slice, rb, sizeOf, typeInfo, hinf]
       rw [run_v run]
       by_cases h0 : n - m = 0 ∧ m ≠ 0
       ·rw [if_pos h0, h0.1]
        exact SimOut.plain hi (.d _ _ (.slice0 _ _ _))
       ·rw [if_neg h0]
        have hA : (if cap = m then some ⟨b, o, none⟩ else (some (⟨b, o, none⟩ : Addr)).map (·.add (m * info.size))) = some (⟨b, o + m * info.size, none⟩ : Addr) := by
         by_cases hcm : cap = m
         ·have : m = 0 := by omega
          subst this
          simp [hcm]
         ·rw [if_neg hcm]
          simp [add_none]
        rw [hA]
        refine SimOut.plain hi (.vslc _ _ _ _ _ _ _ _ (by omega) ht fun k hk => ⟨(hr k hk).1, fun e => ?_⟩)
        obtain ⟨C, q1, q2, q3, q4⟩ := (hr k hk).2 e
        exact ⟨C, q1, by rw [q2, Nat.add_mul], by omega, by omega⟩
     ·cases hd
    ·cases hd
   ·cases hd
  ·cases hd
theorem sim_slcA (hi : Inv P G S ρ h w) (ha : RepA S ρ h w a.tmps ad) {t t1 e : TypeId} {len : Nat} {info : TypeInfo} {x : Operand} {lo hi' : Option Operand} {x' : Opd} {lo' hi'' : Option Opd} (hu : P.underlying t = some (.array len e)) (hinf : P.info? e = some info) (h1 : trOpd P t1 x = some x') (h2 : optOpd P lo = some lo') (h3 : optOpd P hi' = some hi'')
  (hd : dop call (.slcA len info.size x' lo' hi'') ad h = some out) : SimOut P G S ρ h w ((do pure (Next.value (← Instr.sliceAt t (a.eval x) (lo.map a.eval) (hi'.map a.eval) none)) : Sem Next).run P w) out := by
 have g1 := rep_opd ha h1
 simp only [dop] at hd
 split at hd
 ·rename_i id off hb
  split at hd
  ·rename_i n hn
   split at hd
   ·rename_i m hm
    simp only [Option.some.injEq] at hd
    subst hd
    rw [hb] at g1
    have b1 := rep_bound ha h3 hn
    have b2 := rep_bound ha h2 hm
    have hle : n ≤ len := by rcases b1 with ⟨_, rfl⟩ | ⟨_, _, _, _, h⟩ <;> omega
    have hle2 : m ≤ n := by rcases b2 with ⟨_, rfl⟩ | ⟨_, _, _, _, h⟩ <;> omega
    generalize a.eval x = vx at *
    cases g1 with
    | ptr id off b hbb =>
     have rb := run_bounds (P := P) (w := w) (a := a) (isSlice := false) (len := len) (cap := len) hle hle2 (by rcases b2 with ⟨e, r⟩ | ⟨y, k, e1, e2, _⟩; exact .inl ⟨e, r⟩; exact .inr ⟨y, k, e1, e2⟩) (by rcases b1 with ⟨e, r⟩ | ⟨y, k, e1, e2, _⟩; exact .inl ⟨e, r⟩; exact .inr ⟨y, k, e1, e2⟩)
     have run : (Instr.sliceAt t (.pointer (some ⟨b, off, none⟩)) (lo.map a.eval) (hi'.map a.eval) none).run P w = .ok (.slice (some (if len = m then ⟨b, off, none⟩ else (⟨b, off, none⟩ : Addr).add (m * info.size))) (n - m) (len - m)) w := by
      simp [Instr.sliceAt, underlying, hu, Instr.sureAddr, rb, sizeOf, typeInfo, hinf]
     rw [run_v run]
     by_cases h0 : n - m = 0
     ·rw [if_pos h0, h0]
      exact SimOut.plain hi (.d _ _ (.slice0 _ _ _))
     ·rw [if_neg h0, if_neg (show ¬ len = m by omega)]
      simp only [add_none]
      exact SimOut.plain hi (.bslc _ _ _ _ _ (by omega) hbb)
   ·cases hd
  ·cases hd
 ·cases hd
theorem sim_ext (hi : Inv P G S ρ h w) (ha : RepA S ρ h w a.tmps ad) {t : TypeId} {i : Nat} {x : Operand} {x' : Opd} (h1 : trOpd P t x = some x') (hd : dop call (.ext i x') ad h = some out) :
  SimOut P G S ρ h w ((do pure (Next.value (← Instr.extract (a.eval x) i)) : Sem Next).run P w) out := by
 have g1 := rep_opd ha h1
 have run : ∀ cs : Array Value, i < cs.size → (Instr.extract (.tuple cs) i).run P w = .ok (cs.getD i undef) w := fun cs hl => by
  simp [Instr.extract, hl, Array.getD_eq_getD_getElem?]
 simp only [dop] at hd
 split at hd
 ·rename_i vs e
  simp only [Option.map_eq_some_iff] at hd
  obtain ⟨v, hv, rfl⟩ := hd
  rw [e] at g1
  have g := repD_d g1
  generalize a.eval x = vx at *
  cases g with
  | tup cs fs hl hh =>
   rw [run_v (run cs (by have := (List.getElem?_eq_some_iff.1 hv).1; omega))]
   exact SimOut.plain hi (.d _ _ (hh i v hv))
 ·rename_i vs e
  simp only [Option.map_eq_some_iff] at hd
  obtain ⟨v, hv, rfl⟩ := hd
  rw [e] at g1
  generalize a.eval x = vx at *
  cases g1 with
  | tup cs fs hl hh =>
   rw [run_v (run cs (by have := (List.getElem?_eq_some_iff.1 hv).1; omega))]
   exact SimOut.plain hi (hh i v hv)
 ·cases hd
theorem sim_mki (hi : Inv P G S ρ h w) (ha : RepA S ρ h w a.tmps ad) {t t1 : TypeId} {u : TypeDesc} {x : Operand} {x' : Opd} (hu : P.underlying t = some u) (hni : ∀ m, u ≠ .interface m) (h1 : trOpd P t1 x = some x') (hd : dop call (.mki t x') ad h = some out) :
  SimOut P G S ρ h w ((do pure (Next.value (← Instr.makeInterface t (a.eval x))) : Sem Next).run P w) out := by
 have g1 := rep_opd ha h1
 have run : (Instr.makeInterface t (a.eval x)).run P w = .ok (.iface t (a.eval x)) w := by
  cases u <;> simp_all [Instr.makeInterface, underlying]
 simp only [dop] at hd
 split at hd
 ·rename_i v e
  simp only [Option.some.injEq] at hd
  subst hd
  rw [e] at g1
  rw [run_v run]
  exact SimOut.plain hi (.d _ _ (.iface _ _ _ (repD_d g1)))
 ·rename_i y e
  simp only [Option.some.injEq] at hd
  subst hd
  rw [run_v run]
  exact SimOut.plain hi (.iface _ _ _ g1)
theorem sim_panic (hi : Inv P G S ρ h w) (ha : RepA S ρ h w a.tmps ad) {t : TypeId} {x : Operand} {x' : Opd} (h1 : trOpd P t x = some x') (hd : dop call (.panic x') ad h = some out) :
  SimOut P G S ρ h w ((do pure (Next.value (← Instr.panic (a.eval x))) : Sem Next).run P w) out := by
 have g1 := rep_opd ha h1
 simp only [dop] at hd
 split at hd
 ·rename_i t' v e
  simp only [Option.some.injEq] at hd
  subst hd
  rw [e] at g1
  have g := repD_d g1
  generalize a.eval x = vx at *
  cases g with
  | iface _ v0 _ hv =>
   refine ⟨.iface t' v0, w, S, ρ, ?_, .d _ _ (.iface _ _ _ hv), Ext.refl _ _ _ _, hi⟩
   simp [Instr.panic]
 ·cases hd
theorem sim_nilchk (hi : Inv P G S ρ h w) (ha : RepA S ρ h w a.tmps ad) {o : Oper} {t : TypeId} {x : Operand} {x' : Opd} (ho : o.op = .nilCheck x) (h1 : trOpd P t x = some x') (hd : dop call (.nilchk x') ad h = some out) :
  SimOut P G S ρ h w ((execOp a.eval o).run P w) out := by
 have g1 := rep_opd ha h1
 simp only [dop] at hd
 split at hd
 ·rename_i c off e
  simp only [Option.some.injEq] at hd
  subst hd
  rw [e] at g1
  have g := repD_d g1
  generalize hv : a.eval x = vx at *
  cases g with
  | ref b o' off cells u hc hr ho1 =>
   have : (execOp a.eval o).run P w = .ok (.value (.pointer (some ⟨b, o' + off, none⟩))) w := by simp [execOp, ho, hv]
   rw [this]
   exact SimOut.plain hi (.d _ _ (.ref _ _ _ _ u hc hr ho1))
 ·rename_i id off e
  simp only [Option.some.injEq] at hd
  subst hd
  rw [e] at g1
  generalize hv : a.eval x = vx at *
  cases g1 with
  | ptr id off b hb =>
   have : (execOp a.eval o).run P w = .ok (.value (.pointer (some ⟨b, off, none⟩))) w := by simp [execOp, ho, hv]
   rw [this]
   exact SimOut.plain hi (.ptr _ _ _ hb)
 ·rename_i g p q e
  simp only [Option.some.injEq] at hd
  subst hd
  rw [e] at g1
  have gg := repD_d g1
  generalize hv : a.eval x = vx at *
  cases gg with
  | func fn p' q' fp fq hp hq h1' h2' =>
   have : (execOp a.eval o).run P w = .ok (.value (.func (.func g) p' q')) w := by simp [execOp, ho, hv]
   rw [this]
   exact SimOut.plain hi (.d _ _ (.func _ _ _ _ _ hp hq h1' h2'))
 ·rename_i g p q e
  simp only [Option.some.injEq] at hd
  subst hd
  rw [e] at g1
  generalize hv : a.eval x = vx at *
  cases g1 with
  | clo fn p' q' fp fq hp hq h1' h2' =>
   have : (execOp a.eval o).run P w = .ok (.value (.func (.func g) p' q')) w := by simp [execOp, ho, hv]
   rw [this]
   exact SimOut.plain hi (.clo _ _ _ _ _ hp hq h1' h2')
 ·rename_i id e
  simp only [Option.some.injEq] at hd
  subst hd
  rw [e] at g1
  generalize hv : a.eval x = vx at *
  cases g1 with
  | yld id b hb =>
   have : (execOp a.eval o).run P w = .ok (.value (.func (.yield b) #[] #[])) w := by simp [execOp, ho, hv]
   rw [this]
   exact SimOut.plain hi (.yld _ _ hb)
 ·cases hd
theorem rep_opds (ha : RepA S ρ h w a.tmps ad) {ts : List Operand} {ds : List Opd} {f : Operand → Option Opd} (hf : ∀ x y, f x = some y → ∃ t, trOpd P t x = some y) (ht : ts.mapM f = some ds) :
  (ts.map a.eval).length = (ds.map (ev ad)).length ∧ ∀ (j : Nat) (y : DV), (ds.map (ev ad))[j]? = some y → RepD S ρ h w ((ts.map a.eval).getD j undef) y := by
 obtain ⟨h1, h2⟩ := mapM_some ht
 refine ⟨by simp [h1], fun j y hy => ?_⟩
 simp only [List.getElem?_map, Option.map_eq_some_iff] at hy
 obtain ⟨d, hd, rfl⟩ := hy
 obtain ⟨x, hx, hfx⟩ := h2 j d hd
 obtain ⟨t, htx⟩ := hf x d hfx
 have := rep_opd ha htx
 simpa [List.getD_eq_getElem?_getD, hx] using this
theorem sim_mkf (hi : Inv P G S ρ h w) (ha : RepA S ρ h w a.tmps ad) {t : TypeId} {fn : Fn} {p q : Array Operand} {p' q' : List Opd} (h1 : p.toList.mapM (trOpd P t) = some p') (h2 : q.toList.mapM (trOpd P t) = some q') (hd : dop call (.mkf fn p' q') ad h = some out) :
  SimOut P G S ρ h w ((do pure (Next.value (← Instr.makeFunc fn (p.map a.eval) (q.map a.eval))) : Sem Next).run P w) out := by
 obtain ⟨l1, r1⟩ := rep_opds ha (fun x y e => ⟨t, e⟩) h1
 obtain ⟨l2, r2⟩ := rep_opds ha (fun x y e => ⟨t, e⟩) h2
 rw [run_v (s := Instr.makeFunc fn (p.map a.eval) (q.map a.eval)) (w' := w) rfl]
 have e1 : ∀ j, (p.map a.eval).getD j undef = (p.toList.map a.eval).getD j undef := fun j => by simp [Array.getD_eq_getD_getElem?, List.getD_eq_getElem?_getD]
 have e2 : ∀ j, (q.map a.eval).getD j undef = (q.toList.map a.eval).getD j undef := fun j => by simp [Array.getD_eq_getD_getElem?, List.getD_eq_getElem?_getD]
 simp only [dop] at hd
 split at hd
 ·rename_i fp fq hp hq
  simp only [Option.some.injEq] at hd
  subst hd
  obtain ⟨m1, s1⟩ := rep_flats (u := fun j => (p.toList.map a.eval).getD j undef) r1 hp
  obtain ⟨m2, s2⟩ := rep_flats (u := fun j => (q.toList.map a.eval).getD j undef) r2 hq
  refine SimOut.plain hi (.d _ _ (.func _ _ _ _ _ ?_ ?_ (fun j x hx => by rw [e1]; exact s1 j x hx) (fun j x hx => by rw [e2]; exact s2 j x hx)))
  ·simp at l1 ⊢; simp at m1; omega
  ·simp at l2 ⊢; simp at m2; omega
 ·simp only [Option.some.injEq] at hd
  subst hd
  refine SimOut.plain hi (.clo _ _ _ _ _ ?_ ?_ (fun j x hx => by rw [e1]; exact r1 j x hx) (fun j x hx => by rw [e2]; exact r2 j x hx))
  ·simpa using l1
  ·simpa using l2
theorem run_fold {mx : Bool} : ∀ (ys : List Value) (fs : List FV) (v : Value) (f r : FV), ys.length = fs.length → (∀ (j : Nat) (y : FV), fs[j]? = some y → RepF S w (ys.getD j undef) y) → RepF S w v f → fs.foldlM (mnmx2 mx) f = some r →
  ∃ v', (ys.foldlM (if mx then Builtin.max2 else Builtin.min2) v).run P w = .ok v' w ∧ RepF S w v' r
 | [], [], v, f, r, _, _, hv, hf => by
  simp at hf
  subst hf
  exact ⟨v, rfl, hv⟩
 | y :: ys, g :: fs, v, f, r, hl, hr, hv, hf => by
  simp only [List.foldlM_cons, Option.bind_eq_bind, Option.bind_eq_some_iff] at hf
  obtain ⟨m, hm, hf⟩ := hf
  have hy : RepF S w y g := by simpa using hr 0 g rfl
  unfold mnmx2 at hm
  split at hm
  ·rename_i k a k' b
   split at hm
   ·rename_i hk
    subst hk
    simp only [Option.some.injEq] at hm
    subst hm
    obtain rfl := repF_int hv
    obtain rfl := repF_int hy
    obtain ⟨v', e, hv'⟩ := run_fold (mx := mx) ys fs (.int k (if mx then (if a < b then b else a) else (if b < a then b else a))) _ r (by simpa using hl) (fun j z hz => by simpa using hr (j + 1) z (by simpa using hz)) (.int _ _) hf
    refine ⟨v', ?_, hv'⟩
    simp only [List.foldlM_cons, Sem.run_bind]
    have : ((if mx then Builtin.max2 else Builtin.min2) (.int k a) (.int k b)).run P w = .ok (.int k (if mx then (if a < b then b else a) else (if b < a then b else a))) w := by
     cases mx <;> rfl
    rw [this]
    exact e
   ·cases hm
  ·cases hm
 | [], _ :: _, _, _, _, hl, _, _, _ => by simp at hl
 | _ :: _, [], _, _, _, hl, _, _, _ => by simp at hl
theorem sim_mnmx (hi : Inv P G S ρ h w) (ha : RepA S ρ h w a.tmps ad) {mx : Bool} {vs : List Value} {xs : List Opd} (hl : vs.length = xs.length) (hr : ∀ (j : Nat) (y : DV), (xs.map (ev ad))[j]? = some y → RepD S ρ h w (vs.getD j undef) y) {ts : Array TypeId} {rt : TypeId}
  (hd : dop call (.mnmx mx xs) ad h = some out) : SimOut P G S ρ h w ((do pure (Next.value (← (if mx then Builtin.max_ ts rt vs.toArray else Builtin.min_ ts rt vs.toArray))) : Sem Next).run P w) out := by
 simp only [dop] at hd
 split at hd
 ·rename_i x rest hx
  split at hd
  ·rename_i ys hys
   simp only [Option.map_eq_some_iff] at hd
   obtain ⟨r, hrr, rfl⟩ := hd
   have hlen : vs.length = (DV.d x :: rest).length := by rw [← hx]; simp [hl]
   cases vs with
   | nil => simp at hlen
   | cons v vs =>
    rw [hx] at hr
    have h0 : RepF S w v x := repD_d (by simpa using hr 0 _ rfl)
    obtain ⟨m1, s1⟩ := rep_flats (u := fun j => vs.getD j undef) (fun j y hy => by simpa using hr (j + 1) y (by simpa using hy)) hys
    obtain ⟨v', e, hv'⟩ := run_fold (P := P) (mx := mx) vs ys v x r (by simp at hlen; omega) s1 h0 hrr
    have : ((if mx then Builtin.max_ ts rt (v :: vs).toArray else Builtin.min_ ts rt (v :: vs).toArray)).run P w = .ok v' w := by
     cases mx <;> simpa [Builtin.max_, Builtin.min_] using e
    rw [run_v this]
    exact SimOut.plain hi (.d _ _ hv')
  ·cases hd
 ·cases hd
theorem slice_len {A : Option Addr} {n cap sz : Nat} {l : List (List FV)} (hf : RepF S w (.slice A n cap) (.slice sz l)) : l.length = n := by
 cases hf with
 | slice0 => rfl
 | slice b o n cap sz elems u hn => exact hn
theorem rep_nil (hi : Inv P G S ρ h w) {v : Value} {sz t : Nat} (hx : RepD S ρ h w v (.row sz [] t)) (hn : h[t]? = some .nilrow) : v = .slice none 0 0 := by
 cases hx with
 | row v sz elems t hx ht hr =>
  have h1 := (hr 0 (by rw [hn]; rfl)).2 rfl
  rw [hi.nilrow t hn] at h1
  simp only [Option.some.injEq, RI.row.injEq] at h1
  exact h1.symm
theorem sim_slc3 (hi : Inv P G S ρ h w) (ha : RepA S ρ h w a.tmps ad) {t t1 t2 t3 e : TypeId} {info : TypeInfo} {x hx mx : Operand} {lo : Option Operand} {x' hx' mx' : Opd} {lo' : Option Opd} (hu : P.underlying t = some (.slice e)) (hinf : P.info? e = some info) (h1 : trOpd P t1 x = some x') (h2 : optOpd P lo = some lo') (h3 : trOpd P t2 hx = some hx') (h4 : trOpd P t3 mx = some mx')
  (hd : dop call (.slc3 info.size x' lo' hx' mx') ad h = some out) : SimOut P G S ρ h w ((do pure (Next.value (← Instr.sliceAt t (a.eval x) (lo.map a.eval) (some (a.eval hx)) (some (a.eval mx)))) : Sem Next).run P w) out := by
 have g1 := rep_opd ha h1
 simp only [dop] at hd
 split at hd
 ·rename_i sz l i m es ei em
  split at hd
  ·rename_i hc
   obtain ⟨rfl, hi0, hil, rfl⟩ := hc
   split at hd
   ·rename_i lo1 hlo
    simp only [Option.some.injEq] at hd
    subst hd
    have g := rep_elems g1 es
    obtain ⟨k1, hk1⟩ := rep_int (rep_opd ha h3) ei
    obtain ⟨k2, hk2⟩ := rep_int (rep_opd ha h4) em
    have b2 := rep_bound ha h2 hlo
    obtain ⟨n, rfl⟩ : ∃ n : Nat, m = n := ⟨m.toNat, by omega⟩
    simp only [Int.toNat_natCast] at hlo b2 ⊢
    have hle2 : lo1 ≤ n := by rcases b2 with ⟨_, rfl⟩ | ⟨_, _, _, _, h⟩ <;> omega
    have hnl : n ≤ l.length := by omega
    have hlen : ((l.take n).drop lo1).length = n - lo1 := by simp; omega
    have run : ∀ (A : Option Addr) (cap : Nat), l.length ≤ cap → (Instr.sliceAt t (.slice A l.length cap) (lo.map a.eval) (some (a.eval hx)) (some (a.eval mx))).run P w = .ok (.slice (if n = lo1 then A else A.map (·.add (lo1 * info.size))) (n - lo1) (n - lo1)) w := fun A cap hc => by
     have hb : n ≤ cap := by omega
     have rb : (Instr.sliceBounds true l.length cap (lo.map a.eval) (some (a.eval hx)) (some (a.eval mx))).run P w = .ok (lo1, n, n) w := by
      rcases b2 with ⟨rfl, rfl⟩ | ⟨z, k, rfl, ez, _⟩
      ·simp [Instr.sliceBounds, hk1, hk2, Instr.sliceBound, asIntOf, hb]
      ·simp [Instr.sliceBounds, hk1, hk2, ez, Instr.sliceBound, asIntOf, hb, hle2]
     simp [Instr.sliceAt, underlying, hu, Instr.slice, rb, sizeOf, typeInfo, hinf]
    generalize hvx : a.eval x = vx at *
    have fin : ∀ (A : Option Addr) (cap : Nat), l.length ≤ cap → vx = .slice A l.length cap → RepF S w (.slice (if n = lo1 then A else A.map (·.add (lo1 * info.size))) (n - lo1) (n - lo1)) (.slice info.size ((l.take n).drop lo1)) →
      SimOut P G S ρ h w ((do pure (Next.value (← Instr.sliceAt t vx (lo.map a.eval) (some (a.eval hx)) (some (a.eval mx)))) : Sem Next).run P w) (.val (.d (.fulls info.size ((l.take n).drop lo1))) h) := fun A cap hc e hr => by
     rw [e, run_v (run A cap hc)]
     exact SimOut.plain hi (.d _ _ (.fulls _ _ _ _ hr))
    cases g with
    | slice0 A cap =>
     refine fin A cap (by simp) rfl ?_
     have : n - lo1 = 0 := by simp at hnl; omega
     rw [this]
     have e : (([] : List (List FV)).take n).drop lo1 = [] := by simp
     rw [e]
     exact .slice0 _ _ _
    | slice b o n0 cap _ elems u hn0 hcap hsz hcc hr ho1 =>
     refine fin _ cap (by omega) (by rw [hn0]) ?_
     by_cases h0 : n - lo1 = 0
     ·rw [h0]
      have e : (l.take n).drop lo1 = [] := List.eq_nil_of_length_eq_zero (by omega)
      rw [e]
      exact .slice0 _ _ _
     ·rw [if_neg (show ¬ n = lo1 by omega)]
      simp only [Option.map_some, add_none]
      refine .slice b (o + lo1 * info.size) (n - lo1) (n - lo1) info.size _ (fun i j => u (lo1 + i) j) hlen (by omega) (fun i c hc => ?_) (fun i j hi1 hj => ?_) (fun i j c y hc hy => ?_) (fun i j c y hc hy => ?_)
      ·rw [List.getElem?_drop, List.getElem?_take] at hc
       split at hc
       ·exact hsz _ c hc
       ·cases hc
      ·have := hcc (lo1 + i) j (by omega) hj
       rwa [Nat.add_mul, ← Nat.add_assoc] at this
      ·rw [List.getElem?_drop, List.getElem?_take] at hc
       split at hc
       ·exact hr _ j c y hc hy
       ·cases hc
      ·rw [List.getElem?_drop, List.getElem?_take] at hc
       split at hc
       ·exact ho1 _ j c y hc hy
       ·cases hc
   ·cases hd
  ·cases hd
 ·cases hd
theorem sim_slcn (hi : Inv P G S ρ h w) (ha : RepA S ρ h w a.tmps ad) {t t1 e : TypeId} {info : TypeInfo} {x : Operand} {lo hi' : Option Operand} {x' : Opd} {lo' hi'' : Option Opd} (hu : P.underlying t = some (.slice e)) (hinf : P.info? e = some info) (h1 : trOpd P t1 x = some x') (h2 : optOpd P lo = some lo') (h3 : optOpd P hi' = some hi'')
  (hd : dop call (.slcn info.size x' lo' hi'') ad h = some out) : SimOut P G S ρ h w ((do pure (Next.value (← Instr.sliceAt t (a.eval x) (lo.map a.eval) (hi'.map a.eval) none)) : Sem Next).run P w) out := by
 have g1 := rep_opd ha h1
 simp only [dop] at hd
 split at hd
 ·rename_i s t' ex
  split at hd
  ·rename_i hn
   split at hd
   ·rename_i hs
    subst hs
    split at hd
    ·rename_i n hbn
     split at hd
     ·rename_i m hbm
      simp only [Option.some.injEq] at hd
      subst hd
      rw [ex] at g1
      have hv := rep_nil hi g1 hn
      have b1 := rep_bound ha h3 hbn
      have b2 := rep_bound ha h2 hbm
      have hn0 : n = 0 := by rcases b1 with ⟨_, rfl⟩ | ⟨_, _, _, _, h⟩ <;> omega
      have hm0 : m = 0 := by rcases b2 with ⟨_, rfl⟩ | ⟨_, _, _, _, h⟩ <;> omega
      subst hn0 hm0
      have rb := run_bounds (P := P) (w := w) (a := a) (isSlice := true) (len := 0) (cap := 0) (Nat.le_refl 0) (Nat.le_refl 0) (by rcases b2 with ⟨e, r⟩ | ⟨y, k, e1, e2, _⟩; exact .inl ⟨e, r⟩; exact .inr ⟨y, k, e1, e2⟩) (by rcases b1 with ⟨e, r⟩ | ⟨y, k, e1, e2, _⟩; exact .inl ⟨e, r⟩; exact .inr ⟨y, k, e1, e2⟩)
      have run : (Instr.sliceAt t (.slice none 0 0) (lo.map a.eval) (hi'.map a.eval) none).run P w = .ok (.slice none 0 0) w := by
       simp [Instr.sliceAt, underlying, hu, Instr.slice, rb, sizeOf, typeInfo, hinf]
      rw [hv] at g1 ⊢
      rw [run_v run]
      exact SimOut.plain hi g1
     ·cases hd
    ·cases hd
   ·cases hd
  ·cases hd
 ·cases hd
theorem sim_capn (hi : Inv P G S ρ h w) (ha : RepA S ρ h w a.tmps ad) {t t1 rt e : TypeId} {ts : Array TypeId} {x : Operand} {x' : Opd} (h1 : trOpd P t1 x = some x') (h0 : ts[0]? = some t) (hu : P.underlying t = some (.slice e))
  (hd : dop call (.capn x') ad h = some out) : SimOut P G S ρ h w ((do pure (Next.value (← Builtin.cap_ ts rt #[a.eval x])) : Sem Next).run P w) out := by
 have g1 := rep_opd ha h1
 have run : ∀ (A : Option Addr) (n cap : Nat), (Builtin.cap_ ts rt #[.slice A n cap]).run P w = .ok (.int .i64 cap) w := fun A n cap => by
  simp [Builtin.cap_, h0, underlying, hu, goInt]
 simp only [dop] at hd
 split at hd
 ·rename_i v ev'
  simp only [Option.map_eq_some_iff] at hd
  obtain ⟨p, hp, rfl⟩ := hd
  rw [ev'] at g1
  have g2 := repD_d g1
  generalize a.eval x = vx at *
  cases v <;> simp only [fullOf, Option.some.injEq, reduceCtorEq] at hp
  ·subst hp
   cases g2
   rw [run_v (run _ _ _)]
   exact SimOut.plain hi (.d _ _ (.int _ _))
  ·subst hp
   cases g2 with
   | fulls A n sz elems hf =>
    rw [run_v (run _ _ _)]
    have := slice_len hf
    subst this
    exact SimOut.plain hi (.d _ _ (.int _ _))
 ·rename_i s t' ex
  split at hd
  ·rename_i hn
   simp only [Option.some.injEq] at hd
   subst hd
   rw [ex] at g1
   rw [rep_nil hi g1 hn, run_v (run _ _ _)]
   exact SimOut.plain hi (.d _ _ (.int _ _))
  ·cases hd
 ·cases hd
theorem sim_lenm (hi : Inv P G S ρ h w) (ha : RepA S ρ h w a.tmps ad) {t t1 rt k e : TypeId} {ts : Array TypeId} {x : Operand} {x' : Opd} (h1 : trOpd P t1 x = some x') (h0 : ts[0]? = some t) (hu : P.underlying t = some (.map k e))
  (hd : dop call (.lenm x') ad h = some out) : SimOut P G S ρ h w ((do pure (Next.value (← Builtin.len_ ts rt #[a.eval x])) : Sem Next).run P w) out := by
 have g1 := rep_opd ha h1
 simp only [dop] at hd
 split at hd
 ·rename_i id ex
  split at hd
  ·rename_i l hm
   simp only [Option.some.injEq] at hd
   subst hd
   obtain ⟨ri, r1, b, es, ck, rfl, m2, m3, m4, m5⟩ := hi.own id _ hm
   rw [ex] at g1
   generalize a.eval x = vx at *
   cases g1 with
   | mref id b' hb =>
    rw [r1] at hb
    simp at hb
    subst hb
    have run : (Builtin.len_ ts rt #[.map (some b)]).run P w = .ok (.int .i64 es.size) w := by
     have ho : (getObj b).run P w = .ok (.map es ck) w := by simp [getObj, Sem.run, m2]
     simp [Builtin.len_, h0, underlying, hu, goInt, ho]
    rw [run_v run, m3]
    exact SimOut.plain hi (.d _ _ (.int _ _))
  ·cases hd
 ·rename_i ex
  simp only [Option.some.injEq] at hd
  subst hd
  rw [ex] at g1
  have g2 := repD_d g1
  generalize a.eval x = vx at *
  cases g2
  have run : (Builtin.len_ ts rt #[.map none]).run P w = .ok (.int .i64 0) w := by
   simp [Builtin.len_, h0, underlying, hu, goInt]
  rw [run_v run]
  exact SimOut.plain hi (.d _ _ (.int _ _))
 ·cases hd
end
end Go.Deepv
namespace Go.Deepv
open Go.RowKit
mutual
theorem DV.low_mono {n m : Nat} (hnm : n ≤ m) : ∀ x : DV, x.low n = true → x.low m = true
 | .d _, _ => rfl
 | .ptr id _, h => by simp [DV.low] at h ⊢; omega
 | .row _ _ t, h => by simp [DV.low] at h ⊢; omega
 | .agg cs, h => by simp only [DV.low] at h ⊢; exact DV.lows_mono hnm cs h
 | .clo _ p q, h => by
  simp only [DV.low, Bool.and_eq_true] at h ⊢
  exact ⟨DV.lows_mono hnm p h.1, DV.lows_mono hnm q h.2⟩
 | .tup vs, h => by simp only [DV.low] at h ⊢; exact DV.lows_mono hnm vs h
 | .iface _ v, h => by simp only [DV.low] at h ⊢; exact DV.low_mono hnm v h
 | .yld id, h => by simp [DV.low] at h ⊢; omega
 | .rptr _ t, h => by simp [DV.low] at h ⊢; omega
 | .bslc id _ _, h => by simp [DV.low] at h ⊢; omega
 | .vslc id _ _ _ _, h => by simp [DV.low] at h ⊢; omega
 | .eptr id _ _ _, h => by simp [DV.low] at h ⊢; omega
 | .mref id, h => by simp [DV.low] at h ⊢; omega
theorem DV.lows_mono {n m : Nat} (hnm : n ≤ m) : ∀ l : List DV, DV.lows n l = true → DV.lows m l = true
 | [], _ => rfl
 | x :: xs, h => by
  simp only [DV.lows, Bool.and_eq_true] at h ⊢
  exact ⟨DV.low_mono hnm x h.1, DV.lows_mono hnm xs h.2⟩
end
theorem DV.lows_at {n : Nat} : ∀ {l : List DV} {j : Nat} {x : DV}, DV.lows n l = true → l[j]? = some x → x.low n = true
 | [], j, x, _, hx => by simp at hx
 | y :: ys, j, x, h, hx => by
  simp only [DV.lows, Bool.and_eq_true] at h
  cases j with
  | zero => simp at hx; subst hx; exact h.1
  | succ j => exact DV.lows_at h.2 (by simpa using hx)
section
variable {P : Program} {G : Glob} {S : Settled} {ρ : List RI} {h : List Res} {w : World} {a : Act} {ad : List DV} {call : Cle → List DV → List Res → Option DOut} {out : DOut}
theorem run_newVar (t : TypeId) (v : Value) : (newVar t v).run P w = .ok ⟨w.heap.size, 0, none⟩ (w.alloc (.cells v.cells t)) := by
 simp [newVar, newRow, World.alloc_eq]
theorem box_new (hi : Inv P G S ρ h w) {c : Array Value} {e : TypeId} {cs : List DV} {tag : Nat} (htag : tag = 0 ∨ e = tag) (hl : c.size = cs.length) (h1 : cs.all DV.one = true) (hlow : DV.lows h.length cs = true) (hr : ∀ (j : Nat) (x : DV), cs[j]? = some x → RepD S ρ h w (c.getD j undef) x) :
  ∃ S', Ext S ρ h w S' (ρ ++ [.box w.heap.size]) (h ++ [.box cs tag]) (w.alloc (.cells c e)) ∧ Inv P G S' (ρ ++ [.box w.heap.size]) (h ++ [.box cs tag]) (w.alloc (.cells c e)) := by
 have E := ext_alloc hi (.cells c e) (fun _ => False) [.box w.heap.size] [.box cs tag] (fun r b hr hb => by simp at hr; subst hr; simpa [RI.block] using hb.symm)
 refine ⟨_, E, inv_alloc_old hi _ (fun _ => False) _ _ (fun r b hr hb => by simp at hr; subst hr; simpa [RI.block] using hb.symm) rfl ?_ ?_ ?_ ?_ ?_⟩
 ·intro i j b r r' hr hr' _ _
  have a1 := (List.getElem?_eq_some_iff.1 hr).1
  have a2 := (List.getElem?_eq_some_iff.1 hr').1
  simp at a1 a2
  omega
 ·intro i cells tag' hc
  have a1 := (List.getElem?_eq_some_iff.1 hc).1
  have hi0 : i = 0 := by simp at a1; omega
  subst hi0
  simp at hc
  obtain ⟨rfl, rfl⟩ := hc
  refine ⟨w.heap.size, c, e, rfl, heap_alloc_at _ _, ⟨hl, htag⟩, fun j x hx => ⟨(List.all_eq_true.1 h1) _ (List.mem_of_getElem? hx), DV.low_mono (by omega) _ (DV.lows_at hlow hx), (hr j x hx).mono E⟩, fun o ho => ?_⟩
  rcases ho with ho | ho
  ·have := hi.bound _ _ ho
   omega
  ·exact ho.2
 ·intro i hc
  have a1 := (List.getElem?_eq_some_iff.1 hc).1
  have hi0 : i = 0 := by simp at a1; omega
  subst hi0
  simp at hc
 ·intro i sz n et hc
  have a1 := (List.getElem?_eq_some_iff.1 hc).1
  have hi0 : i = 0 := by simp at a1; omega
  subst hi0
  simp at hc
 ·intro i s pos hc
  have a1 := (List.getElem?_eq_some_iff.1 hc).1
  have hi0 : i = 0 := by simp at a1; omega
  subst hi0
  simp at hc
theorem ref_new (hi : Inv P G S ρ h w) {c : Array Value} {e : TypeId} {fs : List FV} (hl : c.size = fs.length) (h1 : ∀ (j : Nat) (x : FV), fs[j]? = some x → x.one = true) (hr : ∀ (j : Nat) (x : FV), fs[j]? = some x → RepF S w (c.getD j undef) x) :
  ∃ S', Ext S ρ h w S' ρ h (w.alloc (.cells c e)) ∧ Inv P G S' ρ h (w.alloc (.cells c e)) ∧ RepF S' (w.alloc (.cells c e)) (.pointer (some ⟨w.heap.size, 0, none⟩)) (.ref fs 0) := by
 have E := ext_alloc hi (.cells c e) (fun x => x < c.size) [] [] (fun r b hr hb => by simp at hr)
 have I := inv_alloc_old hi (.cells c e) (fun x => x < c.size) [] [] (fun r b hr hb => by simp at hr) rfl (fun i j b r r' hr => by simp at hr) (fun i cells tag hc => by simp at hc) (fun i hc => by simp at hc) (fun i sz n et hc => by simp at hc) (fun i s pos hc => by simp at hc)
 simp only [List.append_nil] at E I
 refine ⟨_, E, I, ?_⟩
 refine .ref w.heap.size 0 0 fs (fun j => c.getD j undef) (fun j hj => ⟨.inr ⟨rfl, by omega⟩, ?_⟩) (fun j x hx => (hr j x hx).mono E.settled E.cells) h1
 simp only [World.cell?, heap_alloc_at, Nat.zero_add]
 simp [Array.getD_eq_getD_getElem?, show j < c.size by omega]
theorem sim_box (hi : Inv P G S ρ h w) (ha : RepA S ρ h w a.tmps ad) {imm : Bool} {t t1 : TypeId} {x : Operand} {x' : Opd} (h1 : trOpd P t1 x = some x') (hd : dop call (.box imm x') ad h = some out) :
  SimOut P G S ρ h w ((do pure (Next.value (← Instr.box t (a.eval x))) : Sem Next).run P w) out := by
 have g1 := rep_opd ha h1
 have run : (Instr.box t (a.eval x)).run P w = .ok (.pointer (some ⟨w.heap.size, 0, none⟩)) (w.alloc (.cells (a.eval x).cells t)) := by
  simp [Instr.box, run_newVar]
 rw [run_v run]
 simp only [dop] at hd
 split at hd
 ·rename_i hone
  obtain ⟨c1, c2, c3⟩ := rep_cells g1 hone
  cases imm with
  | true =>
   simp only [if_true, Option.map_eq_some_iff] at hd
   obtain ⟨fs, hfs, rfl⟩ := hd
   obtain ⟨m1, s1⟩ := rep_flats (u := fun j => (a.eval x).cells.getD j undef) c2 hfs
   have one : ∀ (j : Nat) (y : FV), fs[j]? = some y → y.one = true := fun j y hy => by
    obtain ⟨z, hz, hf⟩ := (mapM_some hfs).2 j y hy
    have := (List.all_eq_true.1 hone) _ (List.mem_of_getElem? hz)
    cases z <;> simp only [DV.flat, Option.some.injEq, reduceCtorEq] at hf
    ·subst hf; exact this
    ·subst hf; rfl
   obtain ⟨S', E, I, R⟩ := ref_new hi (e := t) (by omega) one s1
   exact ⟨_, _, S', ρ, .inl rfl, .d _ _ R, E, I⟩
  | false =>
   simp only [Bool.false_eq_true, if_false] at hd
   split at hd
   ·rename_i hlow
    simp only [Option.some.injEq] at hd
    subst hd
    obtain ⟨S', E, I⟩ := box_new hi (e := t) (.inl rfl) c1 hone hlow c2
    exact ⟨_, _, S', _, .inl rfl, .ptr _ _ _ (by rw [← hi.len]; simp), E, I⟩
   ·cases hd
 ·cases hd
theorem sim_nilrow (hi : Inv P G S ρ h w) {sz : Nat} (hd : dop call (.nilrow sz) ad h = some out) : SimOut P G S ρ h w (.ok (.value (.slice none 0 0)) w) out := by
 simp only [dop, Option.some.injEq] at hd
 subst hd
 have E := ext_rows hi 1
 have I := inv_rows hi 1
 refine ⟨.slice none 0 0, w, S, _, .inl rfl, .row _ _ _ _ (.slice0 _ _ _) (by simp) (fun n hn => ?_), E, I⟩
 simp [Res.tip] at hn
 subst hn
 refine ⟨by simp, fun _ => ?_⟩
 rw [← hi.len]
 simp
theorem minted_ok : ∀ {zs : List Value} {fs : List FV} (n : Nat), constsOk zs fs = true → ∀ {S : Settled} {ρ : List RI} {h : List Res} {w : World},
  (allocCells (minted zs fs) n).1.length = zs.length ∧ (allocCells (minted zs fs) n).2 = List.replicate (allocCells (minted zs fs) n).2.length .nilrow ∧
  (∀ (j : Nat) (x : DV), (allocCells (minted zs fs) n).1[j]? = some x → (∃ f, x = .d f ∧ RepF S w (zs.getD j undef) f) ∨ (∃ sz k, x = .row sz [] (n + k) ∧ k < (allocCells (minted zs fs) n).2.length ∧ zs.getD j undef = .slice none 0 0)) := by
 intro zs
 induction zs with
 | nil => intro fs n hc S ρ h w; cases fs <;> simp [minted, allocCells]
 | cons z zs ih =>
  intro fs n hc S ρ h w
  cases fs with
  | nil => simp [constsOk] at hc
  | cons f fs =>
   simp only [constsOk, Bool.and_eq_true] at hc
   by_cases hm : ∃ sz l, z = .slice none 0 0 ∧ f = .slice sz l
   ·obtain ⟨sz, l, rfl, rfl⟩ := hm
    obtain ⟨l1, l2, l3⟩ := ih (n + 1) hc.2 (S := S) (ρ := ρ) (h := h) (w := w)
    simp only [minted, mint1, allocCells]
    refine ⟨by simp [l1], ?_, fun j x hx => ?_⟩
    ·rw [List.length_cons, List.replicate_succ, ← l2]
    ·cases j with
     | zero => simp at hx; subst hx; exact .inr ⟨sz, 0, rfl, by simp, rfl⟩
     | succ j =>
      rcases l3 j x (by simpa using hx) with ⟨g, rfl, hg⟩ | ⟨sz', k, rfl, hk, hz⟩
      ·exact .inl ⟨g, rfl, by simpa using hg⟩
      ·exact .inr ⟨sz', k + 1, by congr 1; omega, by simp; omega, by simpa using hz⟩
   ·have e : minted (z :: zs) (f :: fs) = .ok f :: minted zs fs := by
     have : mint1 z f = .ok f := by
      unfold mint1
      split
      ·rename_i sz l
       exact absurd ⟨sz, l, rfl, rfl⟩ hm
      ·rfl
     simp only [minted, this]
    rw [e]
    obtain ⟨l1, l2, l3⟩ := ih n hc.2 (S := S) (ρ := ρ) (h := h) (w := w)
    simp only [allocCells]
    refine ⟨by simp [l1], l2, fun j x hx => ?_⟩
    cases j with
    | zero => simp at hx; subst hx; exact .inl ⟨f, rfl, by simpa using rep_const hc.1⟩
    | succ j =>
     rcases l3 j x (by simpa using hx) with ⟨g, rfl, hg⟩ | ⟨sz', k, rfl, hk, hz⟩
     ·exact .inl ⟨g, rfl, by simpa using hg⟩
     ·exact .inr ⟨sz', k, rfl, hk, by simpa using hz⟩
theorem tagOf_ok (t : TypeId) : tagOf P t = 0 ∨ t = tagOf P t := by
 unfold tagOf
 split
 ·split
  ·split
   ·exact .inr rfl
   ·exact .inl rfl
  ·exact .inl rfl
 ·exact .inl rfl
theorem tagE_ok (e : TypeId) : tagE P e = 0 ∨ e = tagE P e := by
 unfold tagE
 split
 ·exact .inr rfl
 ·exact .inl rfl
theorem sim_alloc (hi : Inv P G S ρ h w) {t : TypeId} {z : List Value × List FV} (hz : zeroCellsOf P t = some z) (hd : dop call (.alloc (minted z.1 z.2) (tagOf P t)) ad h = some out) :
  SimOut P G S ρ h w ((do pure (Next.value (← Instr.alloc t true (.tuple #[]))) : Sem Next).run P w) out := by
 unfold zeroCellsOf at hz
 split at hz
 ·rename_i i hi'
  split at hz
  ·rename_i zv hzv
   split at hz
   ·rename_i fs hfs
    split at hz
    ·rename_i hk
     simp only [Option.some.injEq] at hz
     subst hz
     have run : (Instr.alloc t true (.tuple #[])).run P w = .ok (.pointer (some ⟨w.heap.size, 0, none⟩)) (w.alloc (.cells zv.cells t)) := by
      simp [Instr.alloc, zeroValue, typeInfo, hi', hzv, run_newVar]
     rw [run_v run]
     simp only [dop] at hd
     split at hd
     ·rename_i hone
      simp only [Option.some.injEq] at hd
      subst hd
      generalize hr : allocCells (minted zv.cells.toList fs) h.length = r at *
      have I1 := inv_rows hi r.2.length
      have E1 := ext_rows hi r.2.length
      obtain ⟨l1, l2, l3⟩ := minted_ok h.length hk (S := S) (ρ := ρ ++ List.replicate r.2.length (.row (.slice none 0 0))) (h := h ++ r.2) (w := w)
      rw [hr] at l1 l2 l3
      rw [← l2] at I1 E1
      have rep : ∀ (j : Nat) (x : DV), r.1[j]? = some x → RepD S (ρ ++ List.replicate r.2.length (.row (.slice none 0 0))) (h ++ r.2) w (zv.cells.getD j undef) x ∧ x.low (h ++ r.2).length = true := fun j x hx => by
       have e : zv.cells.getD j undef = zv.cells.toList.getD j undef := by simp [Array.getD_eq_getD_getElem?, List.getD_eq_getElem?_getD]
       rw [e]
       rcases l3 j x hx with ⟨f, rfl, hf⟩ | ⟨sz, k, rfl, hk, hz⟩
       ·exact ⟨.d _ _ hf, rfl⟩
       ·rw [hz]
        refine ⟨.row _ _ _ _ (.slice0 _ _ _) (by simp; omega) fun n hn => ?_, by simp [DV.low]; omega⟩
        rw [l2, List.getElem?_append_right (by omega)] at hn
        simp [hk, Res.tip] at hn
        subst hn
        refine ⟨by simp, fun _ => ?_⟩
        rw [List.getElem?_append_right (by rw [hi.len]; omega), hi.len]
        simp [hk]
      have lows : DV.lows (h ++ r.2).length r.1 = true := by
       have : ∀ (l : List DV), (∀ (j : Nat) (x : DV), l[j]? = some x → x.low (h ++ r.2).length = true) → DV.lows (h ++ r.2).length l = true := by
        intro l
        induction l with
        | nil => intro _; rfl
        | cons y l ih =>
         intro hl
         simp only [DV.lows, Bool.and_eq_true]
         exact ⟨hl 0 y rfl, ih fun j x hx => hl (j + 1) x (by simpa using hx)⟩
       exact this _ fun j x hx => (rep j x hx).2
      obtain ⟨S', E, I⟩ := box_new I1 (e := t) (c := zv.cells) (tag := tagOf P t) (tagOf_ok t) (by simpa using l1.symm) hone lows (fun j x hx => (rep j x hx).1)
      refine ⟨_, _, S', _, .inl rfl, .ptr _ _ _ ?_, E1.trans E, I⟩
      rw [List.getElem?_append_right (by simp [hi.len])]
      simp [hi.len]
     ·cases hd
    ·cases hz
   ·cases hz
  ·cases hz
 ·cases hz
theorem mintD_ok : ∀ (cs : List DV) (n : Nat), (mintD cs n).1.length = cs.length ∧ (mintD cs n).2 = List.replicate (mintD cs n).2.length .nilrow ∧
  (∀ (j : Nat) (x : DV), (mintD cs n).1[j]? = some x → cs[j]? = some x ∨ (∃ sz k, x = .row sz [] (n + k) ∧ k < (mintD cs n).2.length ∧ cs[j]? = some (.d (.nils sz)))) := by
 intro cs
 induction cs with
 | nil => intro n; simp [mintD]
 | cons z cs ih =>
  intro n
  by_cases hm : ∃ sz, z = .d (.nils sz)
  ·obtain ⟨sz, rfl⟩ := hm
   obtain ⟨l1, l2, l3⟩ := ih (n + 1)
   simp only [mintD]
   refine ⟨by simp [l1], ?_, fun j x hx => ?_⟩
   ·rw [List.length_cons, List.replicate_succ, ← l2]
   ·cases j with
    | zero => simp at hx; subst hx; exact .inr ⟨sz, 0, rfl, by simp, rfl⟩
    | succ j =>
     rcases l3 j x (by simpa using hx) with hg | ⟨sz', k, rfl, hk, hz⟩
     ·exact .inl (by simpa using hg)
     ·exact .inr ⟨sz', k + 1, by congr 1; omega, by simp; omega, by simpa using hz⟩
  ·have e : mintD (z :: cs) n = (z :: (mintD cs n).1, (mintD cs n).2) := by
    rcases z with v | _ | _ | _ | _ | _ | _ | _ | _ | _ | _ | _ | _
    ·cases v <;> first | rfl | exact absurd ⟨_, rfl⟩ hm
    all_goals rfl
   rw [e]
   obtain ⟨l1, l2, l3⟩ := ih n
   refine ⟨by simp [l1], l2, fun j x hx => ?_⟩
   cases j with
   | zero => simp at hx; subst hx; exact .inl rfl
   | succ j =>
    rcases l3 j x (by simpa using hx) with hg | ⟨sz', k, rfl, hk, hz⟩
    ·exact .inl (by simpa using hg)
    ·exact .inr ⟨sz', k, rfl, hk, by simpa using hz⟩
theorem sim_boxn (hi : Inv P G S ρ h w) (ha : RepA S ρ h w a.tmps ad) {t t1 : TypeId} {x : Operand} {x' : Opd} (h1 : trOpd P t1 x = some x') (hd : dop call (.boxn x') ad h = some out) :
  SimOut P G S ρ h w ((do pure (Next.value (← Instr.box t (a.eval x))) : Sem Next).run P w) out := by
 have g1 := rep_opd ha h1
 have run : (Instr.box t (a.eval x)).run P w = .ok (.pointer (some ⟨w.heap.size, 0, none⟩)) (w.alloc (.cells (a.eval x).cells t)) := by
  simp [Instr.box, run_newVar]
 rw [run_v run]
 simp only [dop] at hd
 split at hd
 ·rename_i hc
  obtain ⟨hone, hlow⟩ := hc
  obtain ⟨c1, c2, c3⟩ := rep_cells g1 hone
  simp only [Option.some.injEq] at hd
  subst hd
  obtain ⟨l1, l2, l3⟩ := mintD_ok (ev ad x').cells h.length
  generalize mintD (ev ad x').cells h.length = r at *
  generalize (ev ad x').cells = cs at *
  have I1 := inv_rows hi r.2.length
  have E1 := ext_rows hi r.2.length
  rw [← l2] at I1 E1
  have rep : ∀ (j : Nat) (x : DV), r.1[j]? = some x → RepD S (ρ ++ List.replicate r.2.length (.row (.slice none 0 0))) (h ++ r.2) w ((a.eval _).cells.getD j undef) x ∧ x.low (h ++ r.2).length = true ∧ x.one = true := fun j x hx => by
   rcases l3 j x hx with hg | ⟨sz, k, rfl, hk, hz⟩
   ·exact ⟨(c2 j x hg).mono E1, DV.low_mono (by simp) _ (DV.lows_at hlow hg), (List.all_eq_true.1 hone) _ (List.mem_of_getElem? hg)⟩
   ·have hr := c2 j _ hz
    generalize (a.eval _).cells.getD j undef = vv at *
    cases hr with
    | d _ _ hf =>
     cases hf
     refine ⟨.row _ _ _ _ (.slice0 _ _ _) (by simp; omega) fun n hn => ?_, by simp [DV.low]; omega, rfl⟩
     rw [l2, List.getElem?_append_right (by omega)] at hn
     simp [hk, Res.tip] at hn
     subst hn
     refine ⟨by simp, fun _ => ?_⟩
     rw [List.getElem?_append_right (by rw [hi.len]; omega), hi.len]
     simp [hk]
  have lows : ∀ (l : List DV), (∀ (j : Nat) (x : DV), l[j]? = some x → x.low (h ++ r.2).length = true ∧ x.one = true) → DV.lows (h ++ r.2).length l = true ∧ l.all DV.one = true := by
   intro l
   induction l with
   | nil => intro _; exact ⟨rfl, rfl⟩
   | cons y l ih =>
    intro hl
    obtain ⟨i1, i2⟩ := ih fun j x hx => hl (j + 1) x (by simpa using hx)
    have h0 := hl 0 y rfl
    simp only [DV.lows, Bool.and_eq_true, List.all_cons]
    exact ⟨⟨h0.1, i1⟩, h0.2, i2⟩
  obtain ⟨k1, k2⟩ := lows r.1 fun j x hx => (rep j x hx).2
  obtain ⟨S', E, I⟩ := box_new I1 (e := t) (c := (a.eval _).cells) (tag := 0) (.inl rfl) (by omega) k2 k1 (fun j x hx => (rep j x hx).1)
  refine ⟨_, _, S', _, .inl rfl, .ptr _ _ _ ?_, E1.trans E, I⟩
  rw [List.getElem?_append_right (by simp [hi.len])]
  simp [hi.len]
 ·cases hd
section
variable {S' : Settled} {ρ' : List RI} {h' : List Res} {w' : World}
theorem take_at {α : Type} {l : List α} {n i : Nat} (h : i < n) : (l.take n)[i]? = l[i]? := List.getElem?_take_of_lt h
theorem take_some {α : Type} {l : List α} {n i : Nat} {x : α} (h : (l.take n)[i]? = some x) : i < n ∧ l[i]? = some x := by
 rw [List.getElem?_take] at h
 split at h
 ·exact ⟨by assumption, h⟩
 ·cases h
theorem RepD.take {n : Nat} {v : Value} {x : DV} (hx : RepD S ρ h w v x) : x.low n = true → RepD S (ρ.take n) (h.take n) w v x := by
 induction hx with
 | d v x hx => exact fun _ => .d _ _ hx
 | ptr id off b hb => exact fun hl => .ptr _ _ _ (by rw [take_at (by simpa [DV.low] using hl)]; exact hb)
 | row v sz elems t hx ht hr =>
  intro hl
  have hl' : t < n := by simpa [DV.low] using hl
  refine .row _ _ _ _ hx (by simp; omega) fun k hk => ?_
  rw [take_at hl'] at hk
  obtain ⟨h1, h2⟩ := hr k hk
  exact ⟨h1, fun e => by rw [take_at hl']; exact h2 e⟩
 | agg cs fs hl hh ih => exact fun h1 => .agg _ _ hl fun j x hx => ih j x hx (DV.lows_at (by simpa [DV.low] using h1) hx)
 | clo fn p q fp fq hp hq h1 h2 ih1 ih2 =>
  intro hl
  simp only [DV.low, Bool.and_eq_true] at hl
  exact .clo _ _ _ _ _ hp hq (fun j x hx => ih1 j x hx (DV.lows_at hl.1 hx)) (fun j x hx => ih2 j x hx (DV.lows_at hl.2 hx))
 | tup cs fs hl hh ih => exact fun h1 => .tup _ _ hl fun j x hx => ih j x hx (DV.lows_at (by simpa [DV.low] using h1) hx)
 | iface t v x hh ih => exact fun hl => .iface _ _ _ (ih (by simpa [DV.low] using hl))
 | yld id b hb => exact fun hl => .yld _ _ (by rw [take_at (by simpa [DV.low] using hl)]; exact hb)
 | bslc id off n0 cap b hc hb => exact fun hl => .bslc _ _ _ _ _ hc (by rw [take_at (by simpa [DV.low] using hl)]; exact hb)
 | rptr A p n0 cap elems t hx hp ht hr =>
  intro hl
  have hl' : t < n := by simpa [DV.low] using hl
  refine .rptr _ _ _ _ _ _ hx hp (by simp; omega) fun k hk => ?_
  rw [take_at hl'] at hk
  obtain ⟨h1, h2⟩ := hr k hk
  exact ⟨h1, fun e => by rw [take_at hl']; exact h2 e⟩
 | vslc b o cap id g sz off k hc ht hr =>
  intro hl
  have hl' : id < n := by simpa [DV.low] using hl
  refine .vslc _ _ _ _ _ _ _ _ hc (by simp; omega) fun k hk => ?_
  rw [take_at hl'] at hk
  obtain ⟨h1, h2⟩ := hr k hk
  exact ⟨h1, fun e => by rw [take_at hl']; exact h2 e⟩
 | eptr b o' id g k o ht hr =>
  intro hl
  have hl' : id < n := by simpa [DV.low] using hl
  refine .eptr _ _ _ _ _ _ (by simp; omega) fun k hk => ?_
  rw [take_at hl'] at hk
  obtain ⟨h1, h2⟩ := hr k hk
  exact ⟨h1, fun e => by rw [take_at hl']; exact h2 e⟩
 | mref id b hb => exact fun hl => .mref _ _ (by rw [take_at (by simpa [DV.low] using hl)]; exact hb)
theorem Inv.take (hi : Inv P G S ρ h w) (n : Nat) : Inv P G S (ρ.take n) (h.take n) w where
 len := by simp [hi.len]
 bound := hi.bound
 glob := hi.glob
 low := fun i b r hr hb => hi.low i b r (take_some hr).2 hb
 apart := fun i j b r r' hr hr' hb hb' => hi.apart i j b r r' (take_some hr).2 (take_some hr').2 hb hb'
 box := fun i cells tag hc => by
  obtain ⟨hin, hc⟩ := take_some hc
  obtain ⟨b, c, e, g1, g2, g3, g4, g5⟩ := hi.box i cells _ hc
  exact ⟨b, c, e, by rw [take_at hin]; exact g1, g2, g3, fun j x hx => ⟨(g4 j x hx).1, (g4 j x hx).2.1, (g4 j x hx).2.2.take (DV.low_mono (by omega) _ (g4 j x hx).2.1)⟩, g5⟩
 nilrow := fun i hc => by
  obtain ⟨hin, hc⟩ := take_some hc
  rw [take_at hin]
  exact hi.nilrow i hc
 row := fun i sz k et hc => by
  obtain ⟨hin, hc⟩ := take_some hc
  obtain ⟨b, o, cap, c, e, g1, g⟩ := hi.row i sz k et hc
  exact ⟨b, o, cap, c, e, by rw [take_at hin]; exact g1, g⟩
 iter := fun i s pos hc => by
  obtain ⟨hin, hc⟩ := take_some hc
  obtain ⟨b, g1, g2⟩ := hi.iter i s pos hc
  exact ⟨b, by rw [take_at hin]; exact g1, g2⟩
 loop := fun i ps as_ bd snap st hc => by
  obtain ⟨hin, hc⟩ := take_some hc
  obtain ⟨b, r, g1, g2, g3, g4, g5⟩ := hi.loop i ps as_ bd snap st hc
  exact ⟨b, r, by rw [take_at hin]; exact g1, g2, g3, g4, fun j x hx => ⟨(g5 j x hx).1, (g5 j x hx).2.take (DV.low_mono (by omega) _ (g5 j x hx).1)⟩⟩
 own := fun i r hc => by
  obtain ⟨hin, hc⟩ := take_some hc
  obtain ⟨ri, g1, g2⟩ := hi.own i r hc
  exact ⟨ri, by rw [take_at hin]; exact g1, g2⟩
theorem Ext.takeN {n : Nat} (hln : h.length ≤ n) (hi : Inv P G S ρ h w) (E : Ext S ρ h w S' ρ' h' w') : Ext S ρ h w S' (ρ'.take n) (h'.take n) w' where
 settled := E.settled
 cells := E.cells
 len := by have := E.len; simp; omega
 boxes := fun id b hb => by
  have : id < h.length := by rw [← hi.len]; exact (List.getElem?_eq_some_iff.1 hb).1
  rw [take_at (by omega)]
  exact E.boxes id b hb
 rows := fun t n' ht hn => by
  rw [take_at (by omega)] at hn
  obtain ⟨n, h1, h2, h3⟩ := E.rows t n' ht hn
  exact ⟨n, h1, h2, fun e => by rw [take_at (by omega)]; exact h3 e⟩
 size := E.size
 os := E.os
 tape := E.tape
 output := E.output
 frame := E.frame
 blocks := fun i b r hr hb => E.blocks i b r (take_some hr).2 hb
 fresh := E.fresh
theorem Ext.take (hi : Inv P G S ρ h w) (E : Ext S ρ h w S' ρ' h' w') : Ext S ρ h w S' (ρ'.take h.length) (h'.take h.length) w' where
 settled := E.settled
 cells := E.cells
 len := by have := E.len; simp; omega
 boxes := fun id b hb => by
  have : id < h.length := by rw [← hi.len]; exact (List.getElem?_eq_some_iff.1 hb).1
  rw [take_at this]
  exact E.boxes id b hb
 rows := fun t n' ht hn => by
  rw [take_at ht] at hn
  obtain ⟨n, h1, h2, h3⟩ := E.rows t n' ht hn
  exact ⟨n, h1, h2, fun e => by rw [take_at ht]; exact h3 e⟩
 size := E.size
 os := E.os
 tape := E.tape
 output := E.output
 frame := E.frame
 blocks := fun i b r hr hb => E.blocks i b r (take_some hr).2 hb
 fresh := E.fresh
end
end
end Go.Deepv
namespace Go.Deepv
open Go.RowKit
section
variable {P : Program} {G : Glob} {S S' : Settled} {ρ : List RI} {h : List Res} {w w' : World} {a : Act} {ad : List DV} {call : Cle → List DV → List Res → Option DOut} {out : DOut}
theorem inv_upd (hi : Inv P G S ρ h w) {id : Nat} {r' : Res} {ri' : RI} (hid : id < h.length) (E : Ext S ρ h w S' (ρ.set id ri') (h.set id r') w')
  (hoth : ∀ (i b : Nat) (r : RI), i ≠ id → ρ[i]? = some r → r.block = some b → w'.heap[b]? = w.heap[b]? ∧ ∀ o, S' b o → S b o)
  (hb : ∀ b o, S' b o → b < w'.heap.size)
  (hri : ∀ b, ri'.block = some b → b < w'.heap.size ∧ ∀ (i : Nat) (r : RI), i ≠ id → ρ[i]? = some r → r.block ≠ some b)
  (hbox : ∀ cells tag, r' = .box cells tag → ∃ b c e, ri' = .box b ∧ w'.heap[b]? = some (.cells c e (0, 0)) ∧ (c.size = cells.length ∧ (tag = 0 ∨ e = tag)) ∧
   (∀ (j : Nat) (x : DV), cells[j]? = some x → x.one = true ∧ x.low (id + 1) = true ∧ RepD S' (ρ.set id ri') (h.set id r') w' (c.getD j undef) x) ∧ ∀ o, ¬ S' b o)
  (hnil : r' = .nilrow → ri' = .row (.slice none 0 0))
  (hrow : ∀ sz n et, r' = .row sz n et → ∃ b o cap c e, ri' = .row (.slice (some ⟨b, o, none⟩) n cap) ∧ w'.heap[b]? = some (.cells c e (0, 0)) ∧ (0 < sz ∧ (et = 0 ∨ (e = et ∧ o = 0))) ∧ n ≤ cap ∧ o + cap * sz ≤ c.size ∧ ∀ x, o + n * sz ≤ x → ¬ S' b x)
  (hiter : ∀ s pos, r' = .iter s pos → ∃ b, ri' = .box b ∧ w'.heap[b]? = some (.stringIter s pos))
  (hloop : ∀ ps as_ bd snap st, r' = .loop ps as_ bd snap st → ∃ b r, ri' = .box b ∧ w'.heap[b]? = some (.loop r) ∧ LoopOk P ps as_ bd st r ∧ r.tmps.size = snap.length ∧
   (∀ (j : Nat) (x : DV), snap[j]? = some x → x.low id = true ∧ RepD S' (ρ.set id ri') (h.set id r') w' (r.tmps.getD j undef) x) := by intro ps as_ bd snap st hc; cases hc)
  (hown : OwnOk S' w' ri' r' := by trivial) : Inv P G S' (ρ.set id ri') (h.set id r') w' := by
 have hid' : id < ρ.length := by rw [hi.len]; exact hid
 have look : ∀ (i : Nat) (r : Res), (h.set id r')[i]? = some r → (i = id ∧ r = r') ∨ (i ≠ id ∧ h[i]? = some r) := fun i r hr => by
  by_cases e : i = id
  ·subst e
   rw [List.getElem?_set_self hid] at hr
   exact .inl ⟨rfl, by simpa using hr.symm⟩
  ·rw [List.getElem?_set_ne (Ne.symm e)] at hr
   exact .inr ⟨e, hr⟩
 have lookρ : ∀ (i : Nat) (r : RI), (ρ.set id ri')[i]? = some r → (i = id ∧ r = ri') ∨ (i ≠ id ∧ ρ[i]? = some r) := fun i r hr => by
  by_cases e : i = id
  ·subst e
   rw [List.getElem?_set_self hid'] at hr
   exact .inl ⟨rfl, by simpa using hr.symm⟩
  ·rw [List.getElem?_set_ne (Ne.symm e)] at hr
   exact .inr ⟨e, hr⟩
 have at_ : (ρ.set id ri')[id]? = some ri' := List.getElem?_set_self hid'
 have ne_ : ∀ i, i ≠ id → (ρ.set id ri')[i]? = ρ[i]? := fun i e => List.getElem?_set_ne (Ne.symm e)
 constructor
 ·simp [hi.len]
 ·exact hb
 ·exact fun b x v g => ⟨E.settled _ _ (hi.glob b x v g).1, (E.cells _ _ (hi.glob b x v g).1).trans (hi.glob b x v g).2⟩
 ·intro i b r hr hbl
  rcases lookρ i r hr with ⟨rfl, rfl⟩ | ⟨_, hr⟩
  ·exact (hri b hbl).1
  ·exact Nat.lt_of_lt_of_le (hi.low i b r hr hbl) E.size
 ·intro i j b r r0 hr hr0 hbl hbl0
  rcases lookρ i r hr with ⟨ei, er⟩ | ⟨hne, hr2⟩ <;> rcases lookρ j r0 hr0 with ⟨ej, er0⟩ | ⟨hne0, hr3⟩
  ·rw [ei, ej]
  ·exact absurd hbl0 ((hri b (by rw [← er]; exact hbl)).2 j r0 hne0 hr3)
  ·exact absurd hbl ((hri b (by rw [← er0]; exact hbl0)).2 i r hne hr2)
  ·exact hi.apart i j b r r0 hr2 hr3 hbl hbl0
 ·intro i cells tag hc
  rcases look i _ hc with ⟨rfl, e⟩ | ⟨hne, hc⟩
  ·obtain ⟨b, c, e', g1, g⟩ := hbox cells _ e.symm
   exact ⟨b, c, e', by rw [at_, g1], g⟩
  ·obtain ⟨b, c, e', g1, g2, g3, g4, g5⟩ := hi.box i cells _ hc
   obtain ⟨o1, o2⟩ := hoth i b _ hne g1 rfl
   exact ⟨b, c, e', by rw [ne_ i hne]; exact g1, by rw [o1]; exact g2, g3, fun j x hx => ⟨(g4 j x hx).1, (g4 j x hx).2.1, (g4 j x hx).2.2.mono E⟩, fun o ho => g5 o (o2 o ho)⟩
 ·intro i hc
  rcases look i _ hc with ⟨rfl, e⟩ | ⟨hne, hc⟩
  ·rw [at_, hnil e.symm]
  ·rw [ne_ i hne]; exact hi.nilrow i hc
 ·intro i sz n et hc
  rcases look i _ hc with ⟨rfl, e⟩ | ⟨hne, hc⟩
  ·obtain ⟨b, o, cap, c, e', g1, g⟩ := hrow sz n et e.symm
   exact ⟨b, o, cap, c, e', by rw [at_, g1], g⟩
  ·obtain ⟨b, o, cap, c, e', g1, g2, g3, g4, g5, g7⟩ := hi.row i sz n et hc
   obtain ⟨o1, o2⟩ := hoth i b _ hne g1 rfl
   exact ⟨b, o, cap, c, e', by rw [ne_ i hne]; exact g1, by rw [o1]; exact g2, g3, g4, g5, fun x hx hs => g7 x hx (o2 x hs)⟩
 ·intro i s pos hc
  rcases look i _ hc with ⟨rfl, e⟩ | ⟨hne, hc⟩
  ·obtain ⟨b, g1, g⟩ := hiter s pos e.symm
   exact ⟨b, by rw [at_, g1], g⟩
  ·obtain ⟨b, g1, g2⟩ := hi.iter i s pos hc
   exact ⟨b, by rw [ne_ i hne]; exact g1, by rw [(hoth i b _ hne g1 rfl).1]; exact g2⟩
 ·intro i ps as_ bd snap st hc
  rcases look i _ hc with ⟨rfl, e⟩ | ⟨hne, hc⟩
  ·obtain ⟨b, r, g1, g⟩ := hloop ps as_ bd snap st e.symm
   exact ⟨b, r, by rw [at_, g1], g⟩
  ·obtain ⟨b, r, g1, g2, g3, g4, g5⟩ := hi.loop i ps as_ bd snap st hc
   exact ⟨b, r, by rw [ne_ i hne]; exact g1, by rw [(hoth i b _ hne g1 rfl).1]; exact g2, g3, g4, fun j x hx => ⟨(g5 j x hx).1, (g5 j x hx).2.mono E⟩⟩
 ·intro i r hc
  rcases look i _ hc with ⟨rfl, rfl⟩ | ⟨hne, hc⟩
  ·exact ⟨_, at_, hown⟩
  ·obtain ⟨ri, g1, g2⟩ := hi.own i r hc
   exact ⟨ri, by rw [ne_ i hne]; exact g1, g2.mono E.settled E.cells fun b hb => hoth i b _ hne g1 hb⟩
theorem set_self {α : Type} : ∀ (l : List α) (i : Nat) (x : α), l[i]? = some x → l.set i x = l
 | [], i, x, h => by simp at h
 | y :: l, 0, x, h => by simp at h; simp [h]
 | y :: l, i + 1, x, h => by simp only [List.set_cons_succ]; rw [set_self l i x (by simpa using h)]
theorem coe_one (x : DV) : x.coe.one = x.one := by
 cases x with
 | agg cs =>
  simp only [DV.coe, DV.mkAgg]
  split <;> rfl
 | tup vs =>
  simp only [DV.coe]
  split <;> rfl
 | _ => rfl
theorem rep_lowCells {k : Nat} {v : Value} {x : DV} (hx : RepD S ρ h w v x) (h1 : (lowCells k x.cells).all DV.one = true) : v.cells.size = (lowCells k x.cells).length ∧ (∀ (j : Nat) (y : DV), (lowCells k x.cells)[j]? = some y → RepD S ρ h w (v.cells.getD j undef) y) ∧ ∀ u ∈ v.cells.toList, u.oneCell' = true := by
 unfold lowCells at h1 ⊢
 split at h1
 ·rename_i hl
  simp only [if_pos hl]
  exact rep_cells hx h1
 ·rename_i hl
  simp only [if_neg hl]
  have h2 : x.cells.all DV.one = true := by
   rw [List.all_map] at h1
   simpa [Function.comp_def, coe_one] using h1
  obtain ⟨c1, c2, c3⟩ := rep_cells hx h2
  refine ⟨by simp [c1], fun j y hy => ?_, c3⟩
  simp only [List.getElem?_map, Option.map_eq_some_iff] at hy
  obtain ⟨z, hz, rfl⟩ := hy
  exact rep_coe (c2 j z hz)
theorem sim_put (hi : Inv P G S ρ h w) {t : TypeId} {info : TypeInfo} {vx vv : Value} {id off tag : Nat} {cells cs new : List DV} (hinf : P.info? t = some info) (g1 : RepD S ρ h w vx (.ptr id off)) (hcells : h[id]? = some (.box cells tag))
  (c1 : vv.cells.size = new.length) (c2 : ∀ (j : Nat) (y : DV), new[j]? = some y → RepD S ρ h w (vv.cells.getD j undef) y) (c3 : ∀ u ∈ vv.cells.toList, u.oneCell' = true)
  (hlen : new.length = info.size) (hlow : DV.lows (id + 1) new = true) (hput : putCells cells off new = some cs) :
  SimOut P G S ρ h w ((do Instr.storeAt t vx vv; pure Next.skip : Sem Next).run P w) (.val (.d (.tup [])) (h.set id (.box cs tag))) := by
 unfold putCells at hput
 split at hput
 ·rename_i hput'
  obtain ⟨hfit, hone⟩ := hput'
  have hcs := Option.some.inj hput
  obtain ⟨b, c, e, b1, b2, ⟨b3, btag⟩, b4, b5⟩ := hi.box id cells _ hcells
  cases g1 with
  | ptr id off b' hb' =>
   have hbb : b' = b := by rw [b1] at hb'; simpa using hb'.symm
   subst hbb
   have hidl : id < h.length := (List.getElem?_eq_some_iff.1 hcells).1
   have run := run_storeCells_at P b' off e vv.cells.toList 0 c w b2 (by simp; omega) c3
   simp only [Nat.add_zero] at run
   generalize hc' : (c.toList.take off ++ vv.cells.toList ++ c.toList.drop (off + vv.cells.toList.length)).toArray = c' at run
   have hrun : (do Instr.storeAt t (.pointer (some ⟨b', off, none⟩)) vv; pure Next.skip : Sem Next).run P w = .ok .skip (w.setRow b' c') := by
    simp [Instr.storeAt, Instr.sureAddr, storeVar, sizeOf, typeInfo, hinf, c1, hlen, run]
   rw [hrun]
   have size' : c'.size = cs.length := by
    rw [← hc', ← hcs]
    simp only [List.size_toArray, List.length_append, List.length_take, List.length_drop, Array.length_toList]
    omega
   have hbl : b' < w.heap.size := (Array.getElem?_eq_some_iff.1 b2).1
   have hset : ρ.set id (.box b') = ρ := set_self _ _ _ b1
   have E : Ext S ρ h w S (ρ.set id (.box b')) (h.set id (.box cs tag)) (w.setRow b' c') := by
    rw [hset]
    exact { Ext.refl S ρ h w with
     cells := fun b o hs => by
      rw [cell_setRow_other _ _ _ _ (by intro hh; exact b5 o (by simp at hh; rw [← hh]; exact hs))]
     len := by simp
     rows := fun t n' ht hn => by
      by_cases e : t = id
      ·subst e
       rw [List.getElem?_set_self ht] at hn
       simp [Res.tip] at hn
      ·rw [List.getElem?_set_ne (Ne.symm e)] at hn
       exact ⟨n', hn, Nat.le_refl _, fun _ => rfl⟩
     size := by simp
     os := rfl
     tape := rfl
     output := rfl
     frame := fun b hb hn => setRow_other _ _ _ _ (by rintro rfl; exact hn id _ b1 rfl) }
   have I : Inv P G S (ρ.set id (.box b')) (h.set id (.box cs tag)) (w.setRow b' c') := by
    refine inv_upd hi hidl E (fun i b r hne hr hbk => ?_) (fun b o hs => by simpa using hi.bound b o hs) (fun b hbk => ?_) (fun cells' tag' hce => ?_) (fun hh => by cases hh) (fun _ _ _ hh => by cases hh) (fun _ _ hh => by cases hh)
    ·have : b ≠ b' := by rintro rfl; exact hne (hi.apart i id _ r _ hr b1 hbk rfl)
     exact ⟨setRow_other _ _ _ _ this, fun o ho => ho⟩
    ·simp [RI.block] at hbk
     subst hbk
     refine ⟨by simpa using hbl, fun i r hne hr hbk => hne (hi.apart i id _ r _ hr b1 hbk rfl)⟩
    ·simp only [Res.box.injEq] at hce
     obtain ⟨rfl, rfl⟩ := hce
     refine ⟨b', c', e, rfl, setRow_heap _ _ _ _ _ _ b2, ⟨size', btag⟩, fun j y hy => ?_, b5⟩
     have look : (cs[j]? = some y ∧ (j < off ∨ off + new.length ≤ j) ∧ cells[j]? = some y ∧ c'.getD j undef = c.getD j undef) ∨ (∃ k, j = off + k ∧ new[k]? = some y ∧ c'.getD j undef = vv.cells.getD k undef) := by
      have hl1 : (cells.take off).length = off := by simp; omega
      have hl2 : (c.toList.take off).length = off := by simp; omega
      have hl3 : vv.cells.toList.length = new.length := by simpa using c1
      have hcg : c'.getD j undef = ((c.toList.take off ++ vv.cells.toList ++ c.toList.drop (off + vv.cells.toList.length))[j]?).getD undef := by
       rw [← hc']; simp [Array.getD_eq_getD_getElem?]
      rw [hcg]
      rw [← hcs] at hy ⊢
      rcases Nat.lt_or_ge j off with hj | hj
      ·rw [List.append_assoc, List.getElem?_append_left (by omega), List.getElem?_take_of_lt hj] at hy
       refine .inl ⟨by rw [List.append_assoc, List.getElem?_append_left (by omega), List.getElem?_take_of_lt hj]; exact hy, .inl hj, hy, ?_⟩
       rw [List.append_assoc, List.getElem?_append_left (by omega), List.getElem?_take_of_lt hj]
       simp [Array.getD_eq_getD_getElem?]
      ·rcases Nat.lt_or_ge j (off + new.length) with hj2 | hj2
       ·refine .inr ⟨j - off, by omega, ?_, ?_⟩
        ·rw [List.append_assoc, List.getElem?_append_right (by omega), hl1, List.getElem?_append_left (by omega)] at hy
         exact hy
        ·rw [List.append_assoc, List.getElem?_append_right (by omega), hl2, List.getElem?_append_left (by omega)]
         simp [Array.getD_eq_getD_getElem?]
       ·rw [List.getElem?_append_right (by simp; omega)] at hy
        have e3 : off + new.length + (j - (cells.take off ++ new).length) = j := by simp; omega
        rw [List.getElem?_drop, e3] at hy
        refine .inl ⟨by rw [List.getElem?_append_right (by simp; omega), List.getElem?_drop, e3]; exact hy, .inr hj2, hy, ?_⟩
        rw [List.getElem?_append_right (by simp at hl3 ⊢; omega), List.getElem?_drop]
        have e4 : off + vv.cells.toList.length + (j - (c.toList.take off ++ vv.cells.toList).length) = j := by simp at hl3 ⊢; omega
        rw [e4]
        simp [Array.getD_eq_getD_getElem?]
     rcases look with ⟨_, _, hy', hg⟩ | ⟨k, rfl, hy', hg⟩
     ·rw [hg]
      exact ⟨(b4 j y hy').1, (b4 j y hy').2.1, (b4 j y hy').2.2.mono E⟩
     ·rw [hg]
      exact ⟨(List.all_eq_true.1 hone) _ (List.mem_of_getElem? hy'), DV.lows_at hlow hy', (c2 k y hy').mono E⟩
   rw [hset] at E I
   exact ⟨undef, _, S, ρ, .inr ⟨rfl, rfl⟩, .d _ _ (.tup #[] [] rfl (fun j y hy => by simp at hy)), E, I⟩
 ·cases hput
theorem rep_flatCells {v : Value} {x : DV} (hx : RepD S ρ h w v x) {cs : List FV} (hf : flatCells x = some cs) (h1 : cs.all FV.one = true) : v.cells.size = cs.length ∧ ∀ (j : Nat) (y : FV), cs[j]? = some y → RepF S w (v.cells.getD j undef) y := by
 unfold flatCells at hf
 have hone : x.cells.all DV.one = true := by
  rw [List.all_eq_true]
  intro z hz
  obtain ⟨j, hj, rfl⟩ := List.getElem_of_mem hz
  have hl := (mapM_some hf).1
  have hj' : j < cs.length := by omega
  obtain ⟨z', hz', hfz⟩ := (mapM_some hf).2 j cs[j] (List.getElem?_eq_getElem hj')
  have e : z' = x.cells[j] := by rw [List.getElem?_eq_getElem hj] at hz'; simpa using hz'.symm
  subst e
  have := (List.all_eq_true.1 h1) _ (List.getElem_mem hj')
  generalize x.cells[j] = q at *
  cases q <;> simp only [DV.flat, Option.some.injEq, reduceCtorEq] at hfz
  ·subst hfz; exact this
  ·rfl
 obtain ⟨c1, c2, c3⟩ := rep_cells hx hone
 obtain ⟨m1, s1⟩ := rep_flats (u := fun j => v.cells.getD j undef) c2 hf
 exact ⟨by omega, s1⟩
theorem rep_unnil {v : Value} {x : FV} (hx : RepF S w v x) : RepF S w v (unnil x) := by
 cases hx with
 | nils sz => exact .slice0 _ _ _
 | fulls A n sz elems hf => exact hf
 | nonn a cap sz => exact .slice0 _ _ _
 | nilm => exact .nilm
 | nilx cap sz => exact .slice0 _ _ _
 | slice0 A cap sz => exact .slice0 _ _ _
 | slice b o n cap sz elems u hn hcap hsz hc hr h1 => exact .slice b o n cap sz elems u hn hcap hsz hc hr h1
 | agg cs fs hl hh => exact .agg cs fs hl hh
 | ref b o off cells u hc hr h1 => exact .ref b o off cells u hc hr h1
 | func fn p q fp fq hp hq h1 h2 => exact .func fn p q fp fq hp hq h1 h2
 | tup cs fs hl hh => exact .tup cs fs hl hh
 | iface t v x hh => exact .iface t v x hh
 | int k n => exact .int k n
 | bool b => exact .bool b
 | str s => exact .str s
 | nilp => exact .nilp
 | nili => exact .nili
 | nilf => exact .nilf
 | undef v => exact .undef v
theorem unnil_one {x : FV} (h1 : x.one = true) : (unnil x).one = true := by cases x <;> first | rfl | exact h1
theorem sim_estore (hi : Inv P G S ρ h w) {t : TypeId} {info : TypeInfo} {vx vv : Value} {id k o sz fz et : Nat} {l : List (List FV)} {c' fs : List FV} (hinf : P.info? t = some info) (g1 : RepD S ρ h w vx (.eptr id l.length k o)) (hv : h[id]? = some (.vec sz l fz et)) (hk : l[k]? = some c') (hfz : fz ≤ k)
  (hlen : fs.length = info.size) (hfit : o + info.size ≤ c'.length) (h1 : fs.all FV.one = true) (c1 : vv.cells.size = fs.length) (c2 : ∀ (j : Nat) (y : FV), fs[j]? = some y → RepF S w (vv.cells.getD j undef) y) :
  SimOut P G S ρ h w ((do Instr.storeAt t vx vv; pure Next.skip : Sem Next).run P w) (.val (.d (.tup [])) (h.set id (.vec sz (l.set k (c'.take o ++ fs.map unnil ++ c'.drop (o + info.size))) fz et))) := by
 have c3 : ∀ u ∈ vv.cells.toList, u.oneCell' = true := fun u hu => by
  obtain ⟨j, hj, rfl⟩ := List.getElem_of_mem hu
  have hj' : j < fs.length := by rw [← c1]; simpa using hj
  have r := c2 j _ (List.getElem?_eq_getElem hj')
  have e : vv.cells.getD j undef = vv.cells.toList[j] := by
   rw [Array.getD_eq_getD_getElem?, Array.getElem?_eq_getElem (by simpa using hj)]
   simp
  rw [e] at r
  exact r.one ((List.all_eq_true.1 h1) _ (List.getElem_mem hj'))
 obtain ⟨ri, r1, b, C, c, e, rfl, g2, g3, g4, g5, g6, g7, g8, g9⟩ := hi.own id _ hv
 obtain ⟨hl', hc'⟩ := g9 k c' hk
 have hkl : k < l.length := (List.getElem?_eq_some_iff.1 hk).1
 have hkC : (k + 1) * sz ≤ C * sz := Nat.mul_le_mul_right _ (by omega)
 rw [Nat.add_mul, Nat.one_mul] at hkC
 have hfzk : fz * sz ≤ k * sz := Nat.mul_le_mul_right _ hfz
 cases g1 with
 | eptr b' o' _ _ _ _ ht hr =>
  obtain ⟨C', sz', q1, q2⟩ := (hr l.length (by rw [hv]; rfl)).2 rfl
  rw [r1] at q1
  simp only [Option.some.injEq, RI.vec.injEq] at q1
  obtain ⟨rfl, rfl, rfl⟩ := q1
  subst q2
  have hidl : id < h.length := (List.getElem?_eq_some_iff.1 hv).1
  have hl3 : vv.cells.toList.length = fs.length := by simpa using c1
  have run := run_storeCells_at P b (k * sz + o) e vv.cells.toList 0 c w g2 (by simp; omega) c3
  simp only [Nat.add_zero] at run
  generalize hcn : (c.toList.take (k * sz + o) ++ vv.cells.toList ++ c.toList.drop (k * sz + o + vv.cells.toList.length)).toArray = cn at run
  have hrun : (do Instr.storeAt t (.pointer (some ⟨b, k * sz + o, none⟩)) vv; pure Next.skip : Sem Next).run P w = .ok .skip (w.setRow b cn) := by
   simp [Instr.storeAt, Instr.sureAddr, storeVar, sizeOf, typeInfo, hinf, c1, hlen, run]
  rw [hrun]
  have size' : cn.size = c.size := by
   rw [← hcn]
   simp only [List.size_toArray, List.length_append, List.length_take, List.length_drop, Array.length_toList]
   omega
  have hbl : b < w.heap.size := (Array.getElem?_eq_some_iff.1 g2).1
  have hset : ρ.set id (.vec b C sz) = ρ := set_self _ _ _ r1
  have cell : ∀ x, x < c.size → cn.getD x undef = if k * sz + o ≤ x ∧ x < k * sz + o + fs.length then vv.cells.getD (x - (k * sz + o)) undef else c.getD x undef := fun x hx => by
   have hl2 : (c.toList.take (k * sz + o)).length = k * sz + o := by simp; omega
   have hcg : cn.getD x undef = ((c.toList.take (k * sz + o) ++ vv.cells.toList ++ c.toList.drop (k * sz + o + vv.cells.toList.length))[x]?).getD undef := by
    rw [← hcn]; simp [Array.getD_eq_getD_getElem?]
   rw [hcg]
   rcases Nat.lt_or_ge x (k * sz + o) with hj | hj
   ·rw [List.append_assoc, List.getElem?_append_left (by omega), List.getElem?_take_of_lt hj, if_neg (by omega)]
    simp [Array.getD_eq_getD_getElem?]
   ·rcases Nat.lt_or_ge x (k * sz + o + fs.length) with hj2 | hj2
    ·rw [List.append_assoc, List.getElem?_append_right (by omega), hl2, List.getElem?_append_left (by omega), if_pos ⟨hj, hj2⟩]
     simp [Array.getD_eq_getD_getElem?]
    ·rw [List.getElem?_append_right (by simp at hl3 ⊢; omega), List.getElem?_drop, if_neg (by omega)]
     have e4 : k * sz + o + vv.cells.toList.length + (x - (c.toList.take (k * sz + o) ++ vv.cells.toList).length) = x := by simp at hl3 ⊢; omega
     rw [e4]
     simp [Array.getD_eq_getD_getElem?]
  generalize hcs : c'.take o ++ fs.map unnil ++ c'.drop (o + info.size) = cs'
  have hcsl : cs'.length = sz := by rw [← hcs]; simp; omega
  have E : Ext S ρ h w S (ρ.set id (.vec b C sz)) (h.set id (.vec sz (l.set k cs') fz et)) (w.setRow b cn) := by
   rw [hset]
   exact { Ext.refl S ρ h w with
    cells := fun b' x hs => by
     by_cases hbb : b' = b
     ·subst hbb
      have hx : x < fz * sz := by
       rcases Nat.lt_or_ge x (fz * sz) with h | h
       ·exact h
       ·exact absurd hs (g8 x h)
      have := cell x (by omega)
      rw [if_neg (by omega)] at this
      simp only [World.cell?, setRow_heap _ _ _ _ _ _ g2, g2]
      simp only [Array.getD_eq_getD_getElem?] at this
      have l1 : x < cn.size := by omega
      have l2 : x < c.size := by omega
      simp [l1, l2] at this ⊢
      exact this
     ·rw [cell_setRow_other _ _ _ _ (by intro hh; exact hbb (by simpa using hh))]
    len := by simp
    rows := fun t' n' ht' hn => by
     by_cases e : t' = id
     ·subst e
      rw [List.getElem?_set_self ht'] at hn
      simp [Res.tip] at hn
      exact ⟨l.length, by rw [hv]; rfl, by omega, fun _ => rfl⟩
     ·rw [List.getElem?_set_ne (Ne.symm e)] at hn
      exact ⟨n', hn, Nat.le_refl _, fun _ => rfl⟩
    size := by simp
    os := rfl
    tape := rfl
    output := rfl
    frame := fun b' hb hn => setRow_other _ _ _ _ (by rintro rfl; exact hn id _ r1 rfl) }
  have I : Inv P G S (ρ.set id (.vec b C sz)) (h.set id (.vec sz (l.set k cs') fz et)) (w.setRow b cn) := by
   refine inv_upd hi hidl E (fun i b' r hne hr9 hbk => ?_) (fun b o hs => by simpa using hi.bound b o hs) (fun b' hbk => ?_) (fun cells' tag' hce => by cases hce) (fun hh => by cases hh) (fun _ _ _ hh => by cases hh) (fun _ _ hh => by cases hh) (fun _ _ _ _ _ hh => by cases hh) ?_
   ·have : b' ≠ b := by rintro rfl; exact hne (hi.apart i id _ r _ hr9 r1 hbk rfl)
    exact ⟨setRow_other _ _ _ _ this, fun o ho => ho⟩
   ·simp [RI.block] at hbk
    subst hbk
    refine ⟨by simpa using hbl, fun i r hne hr hbk => hne (hi.apart i id _ r _ hr r1 hbk rfl)⟩
   ·refine ⟨b, C, cn, e, rfl, setRow_heap _ _ _ _ _ _ g2, g3, g4, by omega, by simpa using g6, by simpa using g7, g8, fun k' c'' hk' => ?_⟩
    by_cases hkk : k' = k
    ·subst hkk
     rw [List.getElem?_set_self hkl] at hk'
     simp only [Option.some.injEq] at hk'
     subst hk'
     refine ⟨hcsl, fun j x hx => ?_⟩
     have hjs : j < sz := by rw [← hcsl]; exact (List.getElem?_eq_some_iff.1 hx).1
     rw [cell (k' * sz + j) (by omega)]
     rw [← hcs] at hx
     rcases Nat.lt_or_ge j o with hj | hj
     ·rw [List.append_assoc, List.getElem?_append_left (by simp; omega), List.getElem?_take_of_lt hj] at hx
      rw [if_neg (by omega)]
      exact ⟨(hc' j x hx).1, ((hc' j x hx).2).mono E.settled E.cells⟩
     ·rcases Nat.lt_or_ge j (o + fs.length) with hj2 | hj2
      ·rw [List.append_assoc, List.getElem?_append_right (by simp; omega), List.getElem?_append_left (by simp; omega)] at hx
       have e5 : j - (c'.take o).length = j - o := by simp; omega
       rw [e5, List.getElem?_map, Option.map_eq_some_iff] at hx
       obtain ⟨f, hf, rfl⟩ := hx
       rw [if_pos (by omega), show k' * sz + j - (k' * sz + o) = j - o by omega]
       exact ⟨unnil_one ((List.all_eq_true.1 h1) _ (List.mem_of_getElem? hf)), (rep_unnil (c2 _ f hf)).mono E.settled E.cells⟩
      ·rw [List.getElem?_append_right (by simp; omega), List.getElem?_drop] at hx
       have e5 : o + info.size + (j - (c'.take o ++ fs.map unnil).length) = j := by simp; omega
       rw [e5] at hx
       rw [if_neg (by omega)]
       exact ⟨(hc' j x hx).1, ((hc' j x hx).2).mono E.settled E.cells⟩
    ·rw [List.getElem?_set_ne (Ne.symm hkk)] at hk'
     obtain ⟨z1, z2⟩ := g9 k' c'' hk'
     refine ⟨z1, fun j x hx => ?_⟩
     have hjs : j < sz := by rw [← z1]; exact (List.getElem?_eq_some_iff.1 hx).1
     have hkl' : k' < l.length := (List.getElem?_eq_some_iff.1 hk').1
     have hkC' : (k' + 1) * sz ≤ C * sz := Nat.mul_le_mul_right _ (by omega)
     rw [Nat.add_mul, Nat.one_mul] at hkC'
     rw [cell (k' * sz + j) (by omega), if_neg (by
      rcases Nat.lt_or_gt_of_ne hkk with h | h
      ·have : (k' + 1) * sz ≤ k * sz := Nat.mul_le_mul_right _ (by omega)
       rw [Nat.add_mul, Nat.one_mul] at this
       omega
      ·have : (k + 1) * sz ≤ k' * sz := Nat.mul_le_mul_right _ (by omega)
       rw [Nat.add_mul, Nat.one_mul] at this
       omega)]
     exact ⟨(z2 j x hx).1, ((z2 j x hx).2).mono E.settled E.cells⟩
  rw [hset] at E I
  exact ⟨undef, _, S, ρ, .inr ⟨rfl, rfl⟩, .d _ _ (.tup #[] [] rfl (fun j y hy => by simp at hy)), E, I⟩
theorem sim_store (hi : Inv P G S ρ h w) (ha : RepA S ρ h w a.tmps ad) {t t1 t2 : TypeId} {info : TypeInfo} {x v : Operand} {x' v' : Opd} (hinf : P.info? t = some info) (h1 : trOpd P t1 x = some x') (h2 : trOpd P t2 v = some v')
  (hd : dop call (.store info.size x' v') ad h = some out) : SimOut P G S ρ h w ((do Instr.storeAt t (a.eval x) (a.eval v); pure Next.skip : Sem Next).run P w) out := by
 have g1 := rep_opd ha h1
 have g2 := rep_opd ha h2
 simp only [dop] at hd
 split at hd
 ·rename_i id off e1
  split at hd
  ·rename_i cells tag hcells
   split at hd
   ·rename_i hn
    obtain ⟨hlen, hlow⟩ := hn
    simp only [Option.map_eq_some_iff] at hd
    obtain ⟨cs, hcs, rfl⟩ := hd
    have hone : (lowCells (id + 1) (ev ad v').cells).all DV.one = true := by
     unfold putCells at hcs
     split at hcs
     ·rename_i hp
      exact hp.2
     ·cases hcs
    obtain ⟨c1, c2, c3⟩ := rep_lowCells g2 hone
    rw [e1] at g1
    exact sim_put hi hinf g1 hcells c1 c2 c3 hlen hlow hcs
   ·cases hd
  ·cases hd
 ·rename_i id g k o e1
  split at hd
  ·rename_i sz l fz et hv
   split at hd
   ·rename_i c' fs hk hf
    split at hd
    ·rename_i hc
     obtain ⟨rfl, hfz, hlen, hfit, h1⟩ := hc
     simp only [Option.some.injEq] at hd
     subst hd
     rw [e1] at g1
     obtain ⟨c1, c2⟩ := rep_flatCells g2 hf h1
     exact sim_estore hi hinf g1 hv hk hfz hlen hfit h1 c1 c2
    ·cases hd
   ·cases hd
  ·cases hd
 ·cases hd
theorem keepNil_len (h : List Res) : ∀ (xs cs : List DV), (keepNil h cs xs).length = xs.length
 | [], cs => by cases cs <;> rfl
 | x :: xs, [] => by simp [keepNil, keepNil_len h xs []]
 | x :: xs, c :: cs => by simp [keepNil, keepNil_len h xs cs]
theorem keepNil_at (h : List Res) : ∀ (xs cs : List DV) (j : Nat) (y : DV), (keepNil h cs xs)[j]? = some y → ∃ x, xs[j]? = some x ∧
  (y = x ∨ ∃ sz, x = .d (.nils sz) ∧ (y = .d (.slice sz []) ∨ ∃ s t, cs[j]? = some (.row s [] t) ∧ h[t]? = some .nilrow ∧ y = .row s [] t))
 | [], cs, j, y, hy => by cases cs <;> simp [keepNil] at hy
 | x :: xs, [], 0, y, hy => by
  simp only [keepNil, List.getElem?_cons_zero, Option.some.injEq] at hy
  refine ⟨x, rfl, ?_⟩
  split at hy
  ·rename_i sz
   exact .inr ⟨sz, rfl, .inl hy.symm⟩
  ·exact .inl hy.symm
 | x :: xs, [], j + 1, y, hy => by
  simp only [keepNil, List.getElem?_cons_succ] at hy
  obtain ⟨x', h1, h2⟩ := keepNil_at h xs [] j y hy
  exact ⟨x', by simpa using h1, by simpa using h2⟩
 | x :: xs, c :: cs, 0, y, hy => by
  simp only [keepNil, List.getElem?_cons_zero, Option.some.injEq] at hy
  refine ⟨x, rfl, ?_⟩
  split at hy
  ·rename_i sz
   split at hy
   ·rename_i s t
    split at hy
    ·rename_i hn
     exact .inr ⟨sz, rfl, .inr ⟨s, t, rfl, hn, hy.symm⟩⟩
    ·exact .inr ⟨sz, rfl, .inl hy.symm⟩
   ·exact .inr ⟨sz, rfl, .inl hy.symm⟩
  ·exact .inl hy.symm
 | x :: xs, c :: cs, j + 1, y, hy => by
  simp only [keepNil, List.getElem?_cons_succ] at hy
  obtain ⟨x', h1, h2⟩ := keepNil_at h xs cs j y hy
  exact ⟨x', by simpa using h1, by simpa using h2⟩
theorem keepNil_one (h : List Res) (xs cs : List DV) (h1 : (keepNil h cs xs).all DV.one = true) : xs.all DV.one = true := by
 rw [List.all_eq_true]
 intro x hx
 obtain ⟨j, hj⟩ := List.getElem?_of_mem hx
 have hl := (List.getElem?_eq_some_iff.1 hj).1
 have hy : (keepNil h cs xs)[j]? = some ((keepNil h cs xs)[j]'(by rw [keepNil_len]; exact hl)) := List.getElem?_eq_getElem _
 obtain ⟨x', e1, e2⟩ := keepNil_at h xs cs j _ hy
 rw [hj] at e1
 obtain rfl := Option.some.inj e1
 have ho := List.all_eq_true.1 h1 _ (List.mem_of_getElem? hy)
 rcases e2 with e | ⟨sz, rfl, _⟩
 ·rw [← e]
  exact ho
 ·rfl
theorem sim_storen (hi : Inv P G S ρ h w) (ha : RepA S ρ h w a.tmps ad) {t t1 t2 : TypeId} {info : TypeInfo} {x v : Operand} {x' v' : Opd} (hinf : P.info? t = some info) (h1 : trOpd P t1 x = some x') (h2 : trOpd P t2 v = some v')
  (hd : dop call (.storen info.size x' v') ad h = some out) : SimOut P G S ρ h w ((do Instr.storeAt t (a.eval x) (a.eval v); pure Next.skip : Sem Next).run P w) out := by
 have g1 := rep_opd ha h1
 have g2 := rep_opd ha h2
 simp only [dop] at hd
 split at hd
 ·rename_i id off e1
  split at hd
  ·rename_i cells tag hcells
   split at hd
   ·rename_i hn
    obtain ⟨hlen, hlow⟩ := hn
    simp only [Option.map_eq_some_iff] at hd
    obtain ⟨cs, hcs, rfl⟩ := hd
    have hone : (keepNil h (cells.drop off) (lowCells (id + 1) (ev ad v').cells)).all DV.one = true := by
     unfold putCells at hcs
     split at hcs
     ·rename_i hp
      exact hp.2
     ·cases hcs
    obtain ⟨c1, c2, c3⟩ := rep_lowCells g2 (keepNil_one _ _ _ hone)
    rw [e1] at g1
    refine sim_put hi hinf g1 hcells (by rw [keepNil_len]; exact c1) (fun j y hy => ?_) c3 hlen hlow hcs
    obtain ⟨z, z1, z2⟩ := keepNil_at _ _ _ _ _ hy
    have hr := c2 j z z1
    rcases z2 with rfl | ⟨sz, rfl, rfl | ⟨s, t', k1, k2, rfl⟩⟩
    ·exact hr
    ·have hv : (a.eval v).cells.getD j undef = .slice none 0 0 := by
      generalize (a.eval v).cells.getD j undef = u at hr
      cases hr with
      | d _ _ hf => cases hf; rfl
     rw [hv]
     exact .d _ _ (.slice0 none 0 _)
    ·have hv : (a.eval v).cells.getD j undef = .slice none 0 0 := by
      generalize (a.eval v).cells.getD j undef = u at hr
      cases hr with
      | d _ _ hf => cases hf; rfl
     rw [hv]
     refine .row _ _ _ _ (.slice0 none 0 _) (List.getElem?_eq_some_iff.1 k2).1 fun n hn => ?_
     rw [k2] at hn
     simp [Res.tip] at hn
     subst hn
     exact ⟨Nat.le_refl _, fun _ => hi.nilrow _ k2⟩
   ·cases hd
  ·cases hd
 ·rename_i id g k o e1
  split at hd
  ·rename_i sz l fz et hv
   split at hd
   ·rename_i c' fs hk hf
    split at hd
    ·rename_i hc
     obtain ⟨rfl, hfz, hlen, hfit, h1⟩ := hc
     simp only [Option.some.injEq] at hd
     subst hd
     rw [e1] at g1
     obtain ⟨c1, c2⟩ := rep_flatCells g2 hf h1
     exact sim_estore hi hinf g1 hv hk hfz hlen hfit h1 c1 c2
    ·cases hd
   ·cases hd
  ·cases hd
 ·cases hd
end
end Go.Deepv
