/-
  Operations that make no memory, kind by kind: the deep machine's answer is the machine's.
  Conditions: none.
-/
import Derived.Test.YtpemlmhggiaflaaGreatDoorDE
import Derived.Laws.StructEq
set_option linter.unusedVariables false
set_option linter.unusedSimpArgs false
namespace Go.Deepv
open Go.RowKit

section
variable {P : Program} {G : Glob} {S : Settled} {ρ : List RI} {h : List Res} {w : World} {a : Act} {ad : List DV} {call : Cle → List DV → List Res → Option DOut} {out : DOut}

theorem run_v {s : Sem Value} {x : Value} {w' : World} (e : s.run P w = .ok x w') : (do pure (Next.value (← s)) : Sem Next).run P w = .ok (.value x) w' := by
  simp [e]

def binS (op : BinOp) (t : TypeId) (x y : Operand) (vx vy : Value) : Sem Value := do
  eqGuard op t x y vx vy
  binOp op t vx vy

inductive NilVal : Nat → Bool → Value → Prop
  | p0 : NilVal 0 true (.pointer none)
  | p1 (a : Addr) : NilVal 0 false (.pointer (some a))
  | i0 : NilVal 1 true .nilIface
  | i1 (t : TypeId) (v : Value) : NilVal 1 false (.iface t v)
  | f0 : NilVal 2 true .nilFunc
  | f1 (fn : Fn) (p q : Array Value) : NilVal 2 false (.func fn p q)

theorem nil_val {k : Nat} {v : Value} {x : DV} {b : Bool} (hx : RepD S ρ h w v x) (hb : nilness k x = some b) : NilVal k b v := by
  unfold nilness at hb
  split at hb <;> first
    | (cases hb; done)
    | skip
  all_goals
    simp only [Option.some.injEq] at hb
    subst hb
    cases hx
    all_goals first
      | constructor
      | (rename_i hx; cases hx; constructor)

def KindOf (k : Nat) (u : TypeDesc) : Prop := match k, u with
  | 0, .pointer _ => True
  | 1, .interface _ => True
  | 2, .func _ _ _ => True
  | _, _ => False

theorem equal_nil {k : Nat} {u : TypeDesc} {xt : TypeId} {v n : Value} {b : Bool} (hu : P.underlying xt = some u) (hk : KindOf k u) (hv : NilVal k b v) (hn : NilVal k true n) :
    (Op.equal xt v n).run P w = .ok b w ∧ (Op.equal xt n v).run P w = .ok b w := by
  unfold Op.equal
  rw [show Op.maxDepth = 9999 + 1 from rfl]
  unfold Op.equalIn
  unfold KindOf at hk
  split at hk <;> first
    | (cases hk; done)
    | skip
  all_goals
    cases hn
    cases hv <;> simp [underlying, hu]

theorem guard_nil {op : BinOp} {k : Nat} {xt : TypeId} {x y : Operand} {v n : Value} {b : Bool} (hv : NilVal k b v) (hn : NilVal k true n) (hc : isNilConst k x = true ∨ isNilConst k y = true) : (eqGuard op xt x y v n).run P w = .ok () w ∧ (eqGuard op xt x y n v).run P w = .ok () w := by
  have key : ∀ {z : Operand}, isNilConst k z = true → ∃ c, z = .const c := by
    intro z hz
    unfold isNilConst at hz
    split at hz <;> first | exact ⟨_, rfl⟩ | cases hz
  unfold eqGuard
  rcases hc with hc | hc <;> obtain ⟨c, rfl⟩ := key hc <;> cases hn <;> cases hv <;> cases op <;> simp

theorem bin_nil {neq : Bool} {k : Nat} {u : TypeDesc} {xt : TypeId} {x y : Operand} {v n : Value} {b : Bool} (hu : P.underlying xt = some u) (hk : KindOf k u) (hv : NilVal k b v) (hn : NilVal k true n) (hc : isNilConst k x = true ∨ isNilConst k y = true) :
    (binS (if neq then .neq else .eql) xt x y v n).run P w = .ok (.bool (if neq then !b else b)) w ∧ (binS (if neq then .neq else .eql) xt x y n v).run P w = .ok (.bool (if neq then !b else b)) w := by
  obtain ⟨e1, e2⟩ := equal_nil (w := w) hu hk hv hn
  obtain ⟨g1, g2⟩ := guard_nil (P := P) (w := w) (op := if neq then .neq else .eql) (xt := xt) hv hn hc
  have r1 : ∀ (p q : Value), (Op.equal xt p q).run P w = .ok b w → (eqGuard (if neq then .neq else .eql) xt x y p q).run P w = .ok () w → ((binOp (if neq then .neq else .eql) xt p q).run P w = (Op.equal xt p q >>= fun b => pure (.bool (if neq then !b else b)) : Sem Value).run P w) → (binS (if neq then .neq else .eql) xt x y p q).run P w = .ok (.bool (if neq then !b else b)) w := by
    intro p q he hg hb
    simp only [binS, Sem.run_bind, hg, Result.andThen_ok, hb, he]
    rfl
  refine ⟨r1 _ _ e1 g1 ?_, r1 _ _ e2 g2 ?_⟩ <;> cases neq <;> cases hn <;> cases hv <;> simp [binOp]

theorem nil_const {y : Operand} {k : Nat} (hy : isNilConst k y = true) : NilVal k true (a.eval y) := by
  unfold isNilConst at hy
  split at hy
  · simp only [beq_iff_eq] at hy; subst hy; constructor
  · simp only [beq_iff_eq] at hy; subst hy; constructor
  · simp only [beq_iff_eq] at hy; subst hy; constructor
  · cases hy

theorem sim_mv (hi : Inv P G S ρ h w) {v : Value} {x : Opd} (hx : RepD S ρ h w v (ev ad x)) (hd : dop call (.mv x) ad h = some out) : SimOut P G S ρ h w (.ok (.value v) w) out := by
  simp only [dop, Option.some.injEq] at hd
  subst hd
  exact SimOut.plain hi hx

theorem sim_pick (hi : Inv P G S ρ h w) (ha : RepA S ρ h w a.tmps ad) {t1 t2 t3 : TypeId} {c x y : Operand} {c' x' y' : Opd} (h1 : trOpd P t1 c = some c') (h2 : trOpd P t2 x = some x') (h3 : trOpd P t3 y = some y') (hd : dop call (.pick c' x' y') ad h = some out) :
    SimOut P G S ρ h w ((do pure (Next.value (if ← asBool (a.eval c) then a.eval x else a.eval y)) : Sem Next).run P w) out := by
  have g1 := rep_opd ha h1
  have g2 := rep_opd ha h2
  have g3 := rep_opd ha h3
  simp only [dop] at hd
  split at hd
  · rename_i b eb
    simp only [Option.some.injEq] at hd
    subst hd
    rw [eb] at g1
    rw [repF_bool (repD_d g1)]
    have : (do pure (Next.value (if ← asBool (.bool b) then a.eval x else a.eval y)) : Sem Next).run P w = .ok (.value (if b then a.eval x else a.eval y)) w := by simp [asBool]
    rw [this]
    refine SimOut.plain hi ?_
    cases b
    · exact g3
    · exact g2
  · cases hd

theorem sim_un (hi : Inv P G S ρ h w) (ha : RepA S ρ h w a.tmps ad) {op : UnOp} {t : TypeId} {x : Operand} {x' : Opd} (h1 : trOpd P t x = some x') (hd : dop call (.un op x') ad h = some out) :
    SimOut P G S ρ h w ((do pure (Next.value (← Op.unary op (a.eval x))) : Sem Next).run P w) out := by
  have g1 := rep_opd ha h1
  simp only [dop] at hd
  split at hd
  · rename_i f ef
    simp only [Option.map_eq_some_iff] at hd
    obtain ⟨v, hv, rfl⟩ := hd
    rw [ef] at g1
    have g := repD_d g1
    cases op <;> cases f <;> simp only [dun, Option.some.injEq, reduceCtorEq] at hv
    · subst hv
      rw [repF_int g, run_v (s := Op.unary .neg (.int _ _)) (w' := w) rfl]
      exact SimOut.plain hi (.d _ _ (.int _ _))
    · subst hv
      rw [repF_bool g, run_v (s := Op.unary .not (.bool _)) (w' := w) rfl]
      exact SimOut.plain hi (.d _ _ (.bool _))
  · cases hd

theorem sim_cvt (hi : Inv P G S ρ h w) (ha : RepA S ρ h w a.tmps ad) {src dst t : TypeId} {u : TypeDesc} {k : IntKind} {x : Operand} {x' : Opd} (hs : P.underlying src = some u) (hk : P.underlying dst = some (.int k)) (h1 : trOpd P t x = some x') (hd : dop call (.cvt k x') ad h = some out) :
    SimOut P G S ρ h w ((do pure (Next.value (← convert src dst (a.eval x))) : Sem Next).run P w) out := by
  have g1 := rep_opd ha h1
  simp only [dop] at hd
  split at hd
  · rename_i k' n ef
    simp only [Option.some.injEq] at hd
    subst hd
    rw [ef] at g1
    rw [repF_int (repD_d g1)]
    have : (convert src dst (.int k' n)).run P w = .ok (.int k (k.wrap n)) w := by
      simp [convert, underlying, hs, hk, Conv.intToInt]
    rw [run_v this]
    exact SimOut.plain hi (.d _ _ (.int _ _))
  · cases hd

theorem nums_at : ∀ {l : List (List FV)} {ns : List Int}, numsOf l = some ns → ns.length = l.length ∧ ∀ (i : Nat) (c : List FV), l[i]? = some c → c = [.int .u8 (ns.getD i 0)]
  | [], ns, h => by
    simp [numsOf] at h
    subst h
    exact ⟨rfl, fun i c hc => by simp at hc⟩
  | c :: l, ns, h => by
    simp only [numsOf, List.mapM_cons, Option.pure_def, Option.bind_eq_bind, Option.bind_eq_some_iff, Option.some.injEq] at h
    obtain ⟨n, hn, ns', hns, rfl⟩ := h
    obtain ⟨h1, h2⟩ := nums_at (l := l) (ns := ns') hns
    refine ⟨by simp [h1], fun i c' hc => ?_⟩
    cases i with
    | zero =>
      simp at hc
      subst hc
      split at hn
      · simp only [Option.some.injEq] at hn; subst hn; rfl
      · cases hn
    | succ i => simpa using h2 i c' (by simpa using hc)

theorem sim_addOff (hi : Inv P G S ρ h w) (ha : RepA S ρ h w a.tmps ad) {s t : TypeId} {fields : Array Field} {f : Nat} {fl : Field} {i : TypeInfo} {x : Operand} {x' : Opd} (hs : P.underlying s = some (.struct fields)) (hf : fields[f]? = some fl) (hinf : P.info? fl.type = some i) (h0 : ¬ i.size = 0)
    (h1 : trOpd P t x = some x') (hd : dop call (.addOff fl.offset x') ad h = some out) :
    SimOut P G S ρ h w ((do pure (Next.value (← Instr.fieldAt s (a.eval x) f)) : Sem Next).run P w) out := by
  have g1 := rep_opd ha h1
  have run : ∀ b o : Nat, (Instr.fieldAt s (.pointer (some ⟨b, o, none⟩)) f).run P w = .ok (.pointer (some ⟨b, o + fl.offset, none⟩)) w := fun b o => by
    simp [Instr.fieldAt, underlying, hs, hf, Instr.sureAddr, fieldPlace, sizeOf, typeInfo, hinf, h0, add_none]
  simp only [dop] at hd
  split at hd
  · rename_i cells off ef
    simp only [Option.some.injEq] at hd
    subst hd
    rw [ef] at g1
    have g := repD_d g1
    generalize a.eval x = vx at *
    cases g with
    | ref b o off cells u hc hr ho1 =>
      rw [run_v (run b (o + off)), Nat.add_assoc]
      exact SimOut.plain hi (.d _ _ (.ref _ _ _ _ u hc hr ho1))
  · rename_i id off ef
    simp only [Option.some.injEq] at hd
    subst hd
    rw [ef] at g1
    generalize a.eval x = vx at *
    cases g1 with
    | ptr id off b hb =>
      rw [run_v (run b off)]
      exact SimOut.plain hi (.ptr _ _ _ hb)
  · rename_i id g k o ef
    simp only [Option.some.injEq] at hd
    subst hd
    rw [ef] at g1
    generalize a.eval x = vx at *
    cases g1 with
    | eptr b o' _ _ _ _ ht hr =>
      rw [run_v (run b o')]
      refine SimOut.plain hi (.eptr _ _ _ _ _ _ ht fun m hm => ⟨(hr m hm).1, fun e => ?_⟩)
      obtain ⟨C, sz, q1, q2⟩ := (hr m hm).2 e
      exact ⟨C, sz, q1, by rw [q2, Nat.add_assoc]⟩
  · cases hd

theorem run_part {t : TypeId} {n : Option Nat} (hn : isAggB P t = some n) (cs : Array Value) (off : Nat) (hl : off + n.getD 1 ≤ cs.size) : (part t cs off).run P w = .ok (pack n fun j => cs.getD (off + j) undef) w := by
  obtain ⟨h1, h2⟩ := run_isAgg (w := w) hn
  cases n with
  | none =>
    have hl' : off < cs.size := by simp at hl; omega
    simp [part, h1, hl', pack, Array.getD_eq_getD_getElem?]
  | some k =>
    have hk := h2 k rfl
    simp only [part, Sem.run_bind, h1, Result.andThen_ok, Option.isSome_some, if_true, hk, Sem.run_pure, pack]
    congr 2
    apply Array.ext
    · simp at hl ⊢; omega
    · intro i h1 h2
      simp at h1 h2 hl
      simp [Array.getD_eq_getD_getElem?, show off + i < cs.size by omega]

theorem sim_fld (hi : Inv P G S ρ h w) (ha : RepA S ρ h w a.tmps ad) {s t : TypeId} {fields : Array Field} {f : Nat} {fl : Field} {n : Option Nat} {x : Operand} {x' : Opd} (hs : P.underlying s = some (.struct fields)) (hf : fields[f]? = some fl) (hn : isAggB P fl.type = some n)
    (h1 : trOpd P t x = some x') (hd : dop call (.fld n fl.offset x') ad h = some out) :
    SimOut P G S ρ h w ((do pure (Next.value (← Instr.field s (a.eval x) f)) : Sem Next).run P w) out := by
  have g1 := rep_opd ha h1
  have key : ∀ (cs : Array Value) (ds : List DV) (v : DV), a.eval x = .agg cs → cs.size = ds.length → (∀ (j : Nat) (y : DV), ds[j]? = some y → RepD S ρ h w (cs.getD j undef) y) → dload n ds fl.offset = some v →
      SimOut P G S ρ h w ((do pure (Next.value (← Instr.field s (a.eval x) f)) : Sem Next).run P w) (.val v h) := by
    intro cs ds v e hl hr hv
    obtain ⟨l1, l2⟩ := rep_dload (fun j => cs.getD j undef) hr hv
    have hp := run_part (P := P) (w := w) hn cs fl.offset (by omega)
    have : (Instr.field s (.agg cs) f).run P w = .ok (pack n fun j => cs.getD (fl.offset + j) undef) w := by
      simp [Instr.field, underlying, hs, hf, asAgg, hp]
    rw [e, run_v this]
    exact SimOut.plain hi l2
  simp only [dop] at hd
  split at hd
  · rename_i fs e
    simp only [Option.map_eq_some_iff] at hd
    obtain ⟨v, hv, rfl⟩ := hd
    rw [e] at g1
    have g := repD_d g1
    generalize hvx : a.eval x = vx at *
    cases g with
    | agg cs fs hl hr =>
      refine key cs _ v rfl (by simp [hl]) (fun j y hy => ?_) hv
      simp only [List.getElem?_map, Option.map_eq_some_iff] at hy
      obtain ⟨z, hz, rfl⟩ := hy
      exact .d _ _ (hr j z hz)
  · rename_i cs e
    simp only [Option.map_eq_some_iff] at hd
    obtain ⟨v, hv, rfl⟩ := hd
    rw [e] at g1
    generalize hvx : a.eval x = vx at *
    cases g1 with
    | agg vs cs hl hr => exact key vs cs v rfl hl (fun j y hy => hr j y hy) hv
  · cases hd

/-- A slice that is read: where it lies. -/
theorem rep_elems {v : Value} {x : DV} (hx : RepD S ρ h w v x) {sz : Nat} {l : List (List FV)} (he : x.elems = some (sz, l)) : RepF S w v (.slice sz l) := by
  cases hx with
  | d v x hx =>
    cases x <;> simp only [DV.elems, Option.some.injEq, Prod.mk.injEq, reduceCtorEq] at he
    obtain ⟨rfl, rfl⟩ := he
    exact hx
  | row v sz' elems t hx ht hr =>
    simp only [DV.elems, Option.some.injEq, Prod.mk.injEq] at he
    obtain ⟨rfl, rfl⟩ := he
    exact hx
  | _ => simp [DV.elems] at he

theorem rep_int {v : Value} {x : DV} (hx : RepD S ρ h w v x) {n : Int} (he : x.int = some n) : ∃ k, v = .int k n := by
  cases hx with
  | d v x hx =>
    cases x <;> simp only [DV.int, Option.some.injEq, reduceCtorEq] at he
    subst he
    exact ⟨_, repF_int hx⟩
  | _ => simp [DV.int] at he

theorem sim_idxAddr (hi : Inv P G S ρ h w) (ha : RepA S ρ h w a.tmps ad) {t e t1 t2 : TypeId} {info : TypeInfo} {x i : Operand} {x' i' : Opd} (ht : P.underlying t = some (.slice e)) (hinf : P.info? e = some info) (h1 : trOpd P t1 x = some x') (h2 : trOpd P t2 i = some i')
    (hd : dop call (.idxAddr info.size x' i') ad h = some out) : SimOut P G S ρ h w ((do pure (Next.value (← Instr.indexAt t (a.eval x) (a.eval i))) : Sem Next).run P w) out := by
  have g1 := rep_opd ha h1
  have g2 := rep_opd ha h2
  simp only [dop] at hd
  split at hd
  · rename_i s l i he hi'
    split at hd
    · rename_i hs
      obtain ⟨rfl, h0⟩ := hs
      simp only [Option.map_eq_some_iff] at hd
      obtain ⟨c, hc, rfl⟩ := hd
      have gl := rep_elems g1 he
      obtain ⟨k, hk⟩ := rep_int g2 hi'
      rw [hk]
      have hlt := (List.getElem?_eq_some_iff.1 hc).1
      generalize a.eval x = vx at *
      cases gl with
      | slice0 A cap => simp at hlt
      | slice b o n cap _ elems u hn hcap hsz hcc hr ho1 =>
        have hin : 0 ≤ i ∧ i < (n : Int) := ⟨h0, by omega⟩
        have run : (Instr.indexAt t (.slice (some ⟨b, o, none⟩) n cap) (.int k i)).run P w = .ok (.pointer (some ⟨b, o + i.toNat * info.size, none⟩)) w := by
          simp [Instr.indexAt, asIntOf, underlying, ht, hin, sizeOf, typeInfo, hinf, add_none]
        rw [run_v run]
        exact SimOut.plain hi (.d _ _ (.ref b (o + i.toNat * info.size) 0 c (u i.toNat) (fun j hj => hcc i.toNat j (by omega) (by rw [← hsz _ _ hc]; exact hj)) (fun j y hy => hr i.toNat j c y hc hy) (fun j y hy => ho1 i.toNat j c y hc hy)))

    · cases hd
  · rename_i i he hi'
    split at hd
    · rename_i id off n hb
      split at hd
      · rename_i hin
        simp only [Option.some.injEq] at hd
        subst hd
        obtain ⟨k, hk⟩ := rep_int g2 hi'
        rw [hk]
        rw [hb] at g1
        generalize a.eval x = vx at *
        cases g1 with
        | bslc id off n cap b hc hbb =>
          have run : (Instr.indexAt t (.slice (some ⟨b, off, none⟩) n cap) (.int k i)).run P w = .ok (.pointer (some ⟨b, off + i.toNat * info.size, none⟩)) w := by
            simp [Instr.indexAt, asIntOf, underlying, ht, hin, sizeOf, typeInfo, hinf, add_none]
          rw [run_v run]
          exact SimOut.plain hi (.ptr _ _ _ hbb)
      · cases hd
    · rename_i id g s off n hb
      split at hd
      · rename_i hin
        obtain ⟨hs, hin⟩ := hin
        simp only [Option.some.injEq] at hd
        subst hd
        obtain ⟨k, hk⟩ := rep_int g2 hi'
        rw [hk]
        rw [hb] at g1
        generalize a.eval x = vx at *
        cases g1 with
        | vslc b o cap _ _ _ _ _ hc htt hr =>
          have run : (Instr.indexAt t (.slice (some ⟨b, o, none⟩) n cap) (.int k i)).run P w = .ok (.pointer (some ⟨b, o + i.toNat * info.size, none⟩)) w := by
            simp [Instr.indexAt, asIntOf, underlying, ht, hin, sizeOf, typeInfo, hinf, add_none]
          rw [run_v run]
          refine SimOut.plain hi (.eptr _ _ _ _ _ _ htt fun m hm => ⟨(hr m hm).1, fun e => ?_⟩)
          obtain ⟨C, q1, q2, q3, q4⟩ := (hr m hm).2 e
          exact ⟨C, s, q1, by rw [q2, ← hs, Nat.add_mul, Nat.add_zero]⟩
      · cases hd
    · cases hd
  · cases hd

theorem sim_idxArr (hi : Inv P G S ρ h w) (ha : RepA S ρ h w a.tmps ad) {t e t1 t2 : TypeId} {len : Nat} {info : TypeInfo} {x i : Operand} {x' i' : Opd} (ht : P.underlying t = some (.array len e)) (hinf : P.info? e = some info) (h1 : trOpd P t1 x = some x') (h2 : trOpd P t2 i = some i')
    (hd : dop call (.idxArr len info.size x' i') ad h = some out) : SimOut P G S ρ h w ((do pure (Next.value (← Instr.indexAt t (a.eval x) (a.eval i))) : Sem Next).run P w) out := by
  have g1 := rep_opd ha h1
  have g2 := rep_opd ha h2
  have run : ∀ (b o : Nat) (k : IntKind) (i : Int), 0 ≤ i ∧ i < (len : Int) → (Instr.indexAt t (.pointer (some ⟨b, o, none⟩)) (.int k i)).run P w = .ok (.pointer (some ⟨b, o + i.toNat * info.size, none⟩)) w := fun b o k i hin => by
    simp [Instr.indexAt, asIntOf, underlying, ht, Instr.sureAddr, hin, sizeOf, typeInfo, hinf, add_none]
  simp only [dop] at hd
  split at hd
  · rename_i cells off i he hi'
    split at hd
    · rename_i hin
      simp only [Option.some.injEq] at hd
      subst hd
      obtain ⟨k, hk⟩ := rep_int g2 hi'
      rw [hk]
      rw [he] at g1
      have g := repD_d g1
      generalize a.eval x = vx at *
      cases g with
      | ref b o off cells u hc hr ho1 =>
        rw [run_v (run b (o + off) k i hin), Nat.add_assoc]
        exact SimOut.plain hi (.d _ _ (.ref _ _ _ _ u hc hr ho1))
    · cases hd
  · rename_i id off i he hi'
    split at hd
    · rename_i hin
      simp only [Option.some.injEq] at hd
      subst hd
      obtain ⟨k, hk⟩ := rep_int g2 hi'
      rw [hk]
      rw [he] at g1
      generalize a.eval x = vx at *
      cases g1 with
      | ptr id off b hb =>
        rw [run_v (run b off k i hin)]
        exact SimOut.plain hi (.ptr _ _ _ hb)
    · cases hd
  · cases hd

theorem sim_idxVal (hi : Inv P G S ρ h w) (ha : RepA S ρ h w a.tmps ad) {t e t1 t2 : TypeId} {len : Nat} {info : TypeInfo} {m : Option Nat} {x i : Operand} {x' i' : Opd} (ht : P.underlying t = some (.array len e)) (hinf : P.info? e = some info) (hm : isAggB P e = some m) (h1 : trOpd P t1 x = some x') (h2 : trOpd P t2 i = some i')
    (hd : dop call (.idxVal len info.size m x' i') ad h = some out) : SimOut P G S ρ h w ((do pure (Next.value (← Instr.index t (a.eval x) (a.eval i))) : Sem Next).run P w) out := by
  have g1 := rep_opd ha h1
  have g2 := rep_opd ha h2
  simp only [dop] at hd
  split at hd
  · rename_i i hi'
    obtain ⟨k, hk⟩ := rep_int g2 hi'
    rw [hk]
    split at hd
    · rename_i hin
      have key : ∀ (cs : Array Value) (ds : List DV) (v : DV), a.eval x = .agg cs → cs.size = ds.length → (∀ (j : Nat) (y : DV), ds[j]? = some y → RepD S ρ h w (cs.getD j undef) y) → dload m ds (i.toNat * info.size) = some v →
          SimOut P G S ρ h w ((do pure (Next.value (← Instr.index t (a.eval x) (.int k i))) : Sem Next).run P w) (.val v h) := by
        intro cs ds v e hl hr hv
        obtain ⟨l1, l2⟩ := rep_dload (fun j => cs.getD j undef) hr hv
        have hp := run_part (P := P) (w := w) hm cs (i.toNat * info.size) (by omega)
        have : (Instr.index t (.agg cs) (.int k i)).run P w = .ok (pack m fun j => cs.getD (i.toNat * info.size + j) undef) w := by
          simp [Instr.index, asIntOf, underlying, ht, hin, sizeOf, typeInfo, hinf, hp]
        rw [e, run_v this]
        exact SimOut.plain hi l2
      split at hd
      · rename_i fs e
        simp only [Option.map_eq_some_iff] at hd
        obtain ⟨v, hv, rfl⟩ := hd
        rw [e] at g1
        have g := repD_d g1
        generalize hvx : a.eval x = vx at *
        cases g with
        | agg cs fs hl hr =>
          refine key cs _ v rfl (by simp [hl]) (fun j y hy => ?_) hv
          simp only [List.getElem?_map, Option.map_eq_some_iff] at hy
          obtain ⟨z, hz, rfl⟩ := hy
          exact .d _ _ (hr j z hz)
      · rename_i cs e
        simp only [Option.map_eq_some_iff] at hd
        obtain ⟨v, hv, rfl⟩ := hd
        rw [e] at g1
        generalize hvx : a.eval x = vx at *
        cases g1 with
        | agg vs cs hl hr => exact key vs cs v rfl hl (fun j y hy => hr j y hy) hv
      · cases hd
    · cases hd
  · cases hd

theorem sim_idxStr (hi : Inv P G S ρ h w) (ha : RepA S ρ h w a.tmps ad) {t t1 t2 : TypeId} {x i : Operand} {x' i' : Opd} (ht : P.underlying t = some .string) (h1 : trOpd P t1 x = some x') (h2 : trOpd P t2 i = some i')
    (hd : dop call (.idxStr x' i') ad h = some out) : SimOut P G S ρ h w ((do pure (Next.value (← Instr.index t (a.eval x) (a.eval i))) : Sem Next).run P w) out := by
  have g1 := rep_opd ha h1
  have g2 := rep_opd ha h2
  simp only [dop] at hd
  split at hd
  · rename_i s i he hi'
    split at hd
    · rename_i h0
      simp only [Option.map_eq_some_iff] at hd
      obtain ⟨b, hb, rfl⟩ := hd
      obtain ⟨k, hk⟩ := rep_int g2 hi'
      rw [hk]
      rw [he] at g1
      rw [repF_str (repD_d g1)]
      have run : (Instr.index t (.string s) (.int k i)).run P w = .ok (.int .u8 b.toNat) w := by
        simp [Instr.index, asIntOf, underlying, ht, h0, hb]
      rw [run_v run]
      exact SimOut.plain hi (.d _ _ (.int _ _))
    · cases hd
  · cases hd

theorem sim_lenStr (hi : Inv P G S ρ h w) (ha : RepA S ρ h w a.tmps ad) {t t1 rt : TypeId} {ts : Array TypeId} {x : Operand} {x' : Opd} (h1 : trOpd P t1 x = some x') (h0 : ts[0]? = some t) (hu : P.underlying t = some .string)
    (hd : dop call (.len true x') ad h = some out) : SimOut P G S ρ h w ((do pure (Next.value (← Builtin.len_ ts rt #[a.eval x])) : Sem Next).run P w) out := by
  have g1 := rep_opd ha h1
  simp only [dop] at hd
  split at hd
  · rename_i s he
    simp only [Option.some.injEq] at hd
    subst hd
    rw [he] at g1
    rw [repF_str (repD_d g1)]
    have run : (Builtin.len_ ts rt #[.string s]).run P w = .ok (.int .i64 s.size) w := by
      simp [Builtin.len_, h0, underlying, hu, goInt]
    rw [run_v run]
    exact SimOut.plain hi (.d _ _ (.int _ _))
  · cases hd

theorem sim_lenSlc (hi : Inv P G S ρ h w) (ha : RepA S ρ h w a.tmps ad) {t t1 rt e : TypeId} {ts : Array TypeId} {x : Operand} {x' : Opd} (h1 : trOpd P t1 x = some x') (h0 : ts[0]? = some t) (hu : P.underlying t = some (.slice e))
    (hd : dop call (.len false x') ad h = some out) : SimOut P G S ρ h w ((do pure (Next.value (← Builtin.len_ ts rt #[a.eval x])) : Sem Next).run P w) out := by
  have g1 := rep_opd ha h1
  simp only [dop] at hd
  split at hd
  · rename_i sz l he
    simp only [Option.some.injEq] at hd
    subst hd
    have g := rep_elems g1 he
    have run : ∀ (A : Option Addr) (n cap : Nat), (Builtin.len_ ts rt #[.slice A n cap]).run P w = .ok (.int .i64 n) w := fun A n cap => by
      simp [Builtin.len_, h0, underlying, hu, goInt]
    generalize a.eval x = vx at *
    cases g with
    | slice0 A cap => rw [run_v (run A 0 cap)]; exact SimOut.plain hi (.d _ _ (.int _ _))
    | slice b o n cap _ elems u hn hcap hsz hcc hr ho1 => rw [run_v (run _ n cap), ← hn]; exact SimOut.plain hi (.d _ _ (.int _ _))
  · split at hd
    · rename_i id off n hb
      simp only [Option.some.injEq] at hd
      subst hd
      rw [hb] at g1
      have run : ∀ (A : Option Addr) (n cap : Nat), (Builtin.len_ ts rt #[.slice A n cap]).run P w = .ok (.int .i64 n) w := fun A n cap => by
        simp [Builtin.len_, h0, underlying, hu, goInt]
      generalize a.eval x = vx at *
      cases g1 with
      | bslc id off n cap b hc hbb => rw [run_v (run _ n cap)]; exact SimOut.plain hi (.d _ _ (.int _ _))
    · rename_i id g s off n hb
      simp only [Option.some.injEq] at hd
      subst hd
      rw [hb] at g1
      have run : ∀ (A : Option Addr) (n cap : Nat), (Builtin.len_ ts rt #[.slice A n cap]).run P w = .ok (.int .i64 n) w := fun A n cap => by
        simp [Builtin.len_, h0, underlying, hu, goInt]
      generalize a.eval x = vx at *
      cases g1 with
      | vslc b o cap _ _ _ _ _ hc ht hr => rw [run_v (run _ n cap)]; exact SimOut.plain hi (.d _ _ (.int _ _))
    · cases hd

theorem sim_bstr (hi : Inv P G S ρ h w) (ha : RepA S ρ h w a.tmps ad) {src dst t e : TypeId} {x : Operand} {x' : Opd} (hs : P.underlying src = some (.slice e)) (hk : P.underlying dst = some .string) (he : P.underlying e = some (.int .u8)) (h1 : trOpd P t x = some x') (hd : dop call (.bstr x') ad h = some out) :
    SimOut P G S ρ h w ((do pure (Next.value (← convert src dst (a.eval x))) : Sem Next).run P w) out := by
  have g1 := rep_opd ha h1
  simp only [dop] at hd
  split at hd
  · rename_i s l ef
    simp only [Option.map_eq_some_iff] at hd
    obtain ⟨ns, hns, rfl⟩ := hd
    obtain ⟨n1, n2⟩ := nums_at hns
    have g := rep_elems g1 ef
    generalize a.eval x = vx at *
    have : (convert src dst vx).run P w = .ok (.string (strOfNums ns)) w := by
      cases g with
      | slice0 A cap sz =>
        have : ns = [] := List.eq_nil_of_length_eq_zero n1
        subst this
        cases A with
        | none => rw [run_convert_bytes_nil w src e hs he 0 cap dst hk]; rfl
        | some A =>
          rw [run_convert_bytes_string w src dst e (some A) 0 cap hs he hk, run_bytesToString w A 0 cap [] (by simp [loadCells, loadCellsFrom])]
          rfl
      | slice b o n cap sz elems u hn hcap hsz hc hr h1 =>
        refine run_convert_bytes_arg w src e hs he b o n cap ns (by omega) (fun i hi => ?_) dst hk
        have hl : l[i]? = some l[i] := List.getElem?_eq_getElem (by omega)
        have hci := n2 i _ hl
        have hz := hsz i _ hl
        rw [hci] at hz
        simp at hz
        subst hz
        have hcell := (hc i 0 hi (by omega)).2
        have hrep := hr i 0 _ (.int .u8 (ns.getD i 0)) hl (by rw [hci]; rfl)
        simp only [Nat.mul_one, Nat.add_zero] at hcell
        rw [hcell, repF_int hrep]
    rw [run_v this]
    exact SimOut.plain hi (.d _ _ (.str _))
  · cases hd

theorem take_get {α : Type} {l : List α} {n j : Nat} {x : α} (h : (l.take n)[j]? = some x) : l[j]? = some x := by
  rw [List.getElem?_take] at h
  split at h
  · exact h
  · cases h
theorem eqCells_lens : ∀ {ks : List Nat} {fs gs : List FV} {b : Bool}, eqCells ks fs gs = some b → fs.length = ks.length ∧ gs.length = ks.length
  | [], [], [], _, _ => ⟨rfl, rfl⟩
  | k :: ks, x :: xs, y :: ys, b, h => by
    simp only [eqCells] at h
    split at h
    · rename_i a c ha hc
      have := eqCells_lens hc
      simp [this]
    · cases h
  | [], _ :: _, _, _, h => by simp [eqCells] at h
  | [], [], _ :: _, _, h => by simp [eqCells] at h
  | _ :: _, [], _, _, h => by simp [eqCells] at h
  | _ :: _, _ :: _, [], _, h => by simp [eqCells] at h
theorem eqCells_len {ks : List Nat} {fs gs : List FV} {b : Bool} (h : eqCells ks fs gs = some b) {j : Nat} {f : FV} (hf : fs[j]? = some f) : j < ks.length := by
  rw [← (eqCells_lens h).1]; exact (List.getElem?_eq_some_iff.1 hf).1
theorem eqCells_len' {ks : List Nat} {fs gs : List FV} {b : Bool} (h : eqCells ks fs gs = some b) {j : Nat} {f : FV} (hf : gs[j]? = some f) : j < ks.length := by
  rw [← (eqCells_lens h).2]; exact (List.getElem?_eq_some_iff.1 hf).1

/-! ### Structs compared -/
theorem eqCells_split : ∀ (ks ks' : List Nat) (fs gs : List FV) (b : Bool), eqCells (ks ++ ks') fs gs = some b → ∃ b1 b2, eqCells ks (fs.take ks.length) (gs.take ks.length) = some b1 ∧ eqCells ks' (fs.drop ks.length) (gs.drop ks.length) = some b2 ∧ b = (b1 && b2)
  | [], ks', fs, gs, b, h => ⟨true, b, by simp [eqCells], by simpa using h, by simp⟩
  | k :: ks, ks', x :: xs, y :: ys, b, h => by
    simp only [List.cons_append, eqCells] at h
    split at h
    · rename_i a c ha hc
      simp only [Option.some.injEq] at h
      obtain ⟨b1, b2, h1, h2, h3⟩ := eqCells_split ks ks' xs ys c hc
      refine ⟨a && b1, b2, by simp only [List.length_cons, List.take_succ_cons, eqCells, ha, h1], by simpa using h2, by rw [← h, h3, Bool.and_assoc]⟩
    · cases h
  | k :: ks, ks', [], [], b, h => by simp [eqCells] at h
  | k :: ks, ks', [], _ :: _, b, h => by simp [eqCells] at h
  | k :: ks, ks', _ :: _, [], b, h => by simp [eqCells] at h

theorem consec_at : ∀ (fl : List Field) (o n : Nat), consec P fl o = some n → o ≤ n ∧ ∀ f fl', fl = f :: fl' → f.offset = o ∧ o + P.cellsOf f.type ≤ n ∧ consec P fl' (o + P.cellsOf f.type) = some n
  | [], o, n, h => by
    simp only [consec, Option.some.injEq] at h
    exact ⟨by omega, fun f fl' he => by cases he⟩
  | f :: fl, o, n, h => by
    simp only [consec] at h
    split at h
    · rename_i ho
      have := consec_at fl _ _ h
      exact ⟨by omega, fun f' fl' he => by cases he; exact ⟨ho, by omega, h⟩⟩
    · cases h

theorem eq_type : ∀ (n : Nat) (t : TypeId) (ks : List Nat), leafs P n t = some ks → ks.length = P.cellsOf t → ∀ (d : Nat) (xs ys : Array Value) (off : Nat) (fs gs : List FV) (b : Bool), off + P.cellsOf t ≤ xs.size → off + P.cellsOf t ≤ ys.size →
    (∀ (j : Nat) (f : FV), fs[j]? = some f → RepF S w (xs.getD (off + j) undef) f) → (∀ (j : Nat) (f : FV), gs[j]? = some f → RepF S w (ys.getD (off + j) undef) f) → eqCells ks fs gs = some b →
    ∃ va vb, (part t xs off).run P w = .ok va w ∧ (part t ys off).run P w = .ok vb w ∧ (Op.equalIn (d + n) t va vb).run P w = .ok b w := by
  intro n
  induction n with
  | zero => intro t ks h; simp [leafs] at h
  | succ n ih =>
    intro t ks h hlen d xs ys off fs gs b hx hy rx ry he
    have scalar : ∀ (k : Nat), ks = [k] → P.cellsOf t = 1 → isAggB P t = some none → (∀ va vb f g, RepF S w va f → RepF S w vb g → eqFV k f g = some b → (Op.equalIn (d + n + 1) t va vb).run P w = .ok b w) → ∃ va vb, (part t xs off).run P w = .ok va w ∧ (part t ys off).run P w = .ok vb w ∧ (Op.equalIn (d + (n + 1)) t va vb).run P w = .ok b w := by
      rintro k rfl hc hagg hrun
      rw [hc] at hx hy
      match fs, gs, he with
      | [f], [g], he =>
        simp only [eqCells] at he
        split at he
        · rename_i a c ha hc'
          simp only [Option.some.injEq] at hc' he
          subst hc'
          have : a = b := by simpa using he
          subst this
          refine ⟨_, _, run_part hagg xs off (by simpa using hx), run_part hagg ys off (by simpa using hy), hrun _ _ f g ?_ ?_ ha⟩
          · simpa [pack] using rx 0 f rfl
          · simpa [pack] using ry 0 g rfl
        · cases he
      | [], [], he => simp [eqCells] at he
      | [], _ :: _, he => simp [eqCells] at he
      | _ :: _, [], he => simp [eqCells] at he
      | f :: _ :: _, [g], he =>
        simp only [eqCells] at he
        split at he <;> simp_all
      | [f], g :: _ :: _, he =>
        simp only [eqCells] at he
        split at he <;> simp_all
      | f :: _ :: _, g :: _ :: _, he =>
        simp only [eqCells] at he
        split at he <;> simp_all
    unfold leafs at h
    split at h
    · rename_i kd hu
      split at h
      · rename_i hc
        simp only [Bool.and_eq_true, beq_iff_eq] at hc
        simp only [Option.some.injEq] at h
        refine scalar 0 h.symm hc.1 hc.2 fun va vb f g ha hb hf => ?_
        cases f <;> cases g <;> simp only [eqFV, reduceCtorEq] at hf
        split at hf
        · rename_i hkk
          subst hkk
          simp only [Option.some.injEq] at hf
          subst hf
          rw [repF_int ha, repF_int hb]
          exact run_equalIn_int w _ t _ kd _ _ hu
        · cases hf
      · cases h
    · rename_i hu
      split at h
      · rename_i hc
        simp only [Bool.and_eq_true, beq_iff_eq] at hc
        simp only [Option.some.injEq] at h
        refine scalar 1 h.symm hc.1 hc.2 fun va vb f g ha hb hf => ?_
        cases f <;> cases g <;> simp only [eqFV, reduceCtorEq, Option.some.injEq] at hf
        subst hf
        rw [repF_str ha, repF_str hb]
        exact run_equalIn_string w _ t _ _ hu
      · cases h
    · rename_i hu
      split at h
      · rename_i hc
        simp only [Bool.and_eq_true, beq_iff_eq] at hc
        simp only [Option.some.injEq] at h
        refine scalar 2 h.symm hc.1 hc.2 fun va vb f g ha hb hf => ?_
        cases f <;> cases g <;> simp only [eqFV, reduceCtorEq, Option.some.injEq] at hf
        subst hf
        rw [repF_bool ha, repF_bool hb]
        exact run_equalIn_bool' w _ t _ _ hu
      · cases h
    · rename_i fl hu
      split at h
      · rename_i hc
        simp only [Bool.and_eq_true, beq_iff_eq, Bool.not_eq_true', List.all_eq_true, bne_iff_ne, ne_eq] at hc
        obtain ⟨⟨⟨hst, hnames⟩, hcon⟩, hagg⟩ := hc
        split at h
        · rename_i kss hkss
          simp only [Option.some.injEq] at h
          subst h
          refine ⟨_, _, run_part hagg xs off (by simpa using hx), run_part hagg ys off (by simpa using hy), ?_⟩
          have hfo : P.underlying t = some (.struct (P.fieldsOf t)) := by rw [hu]; simp [Program.fieldsOf, hu]
          have hfl : (P.fieldsOf t).toList = fl.toList := by simp [Program.fieldsOf, hu]
          simp only [pack]
          rw [show d + (n + 1) = (d + n) + 1 from rfl, run_equalIn_struct w (d + n) t _ _ hfo hst, hfl]
          generalize hA : ((List.range (P.cellsOf t)).map fun j => xs.getD (off + j) undef).toArray = A
          generalize hB : ((List.range (P.cellsOf t)).map fun j => ys.getD (off + j) undef).toArray = B
          have sA : A.size = P.cellsOf t := by rw [← hA]; simp
          have sB : B.size = P.cellsOf t := by rw [← hB]; simp
          have hat : ∀ (zs Z : Array Value), ((List.range (P.cellsOf t)).map fun j => zs.getD (off + j) undef).toArray = Z → ∀ j, j < P.cellsOf t → Z.getD j undef = zs.getD (off + j) undef := by
            rintro zs Z rfl j hj
            simp [Array.getD_eq_getD_getElem?, hj]
          have key : ∀ (fl : List Field) (kss : List (List Nat)) (o : Nat) (fs gs : List FV) (b : Bool), (∀ f ∈ fl, ¬ f.name = "_") → consec P fl o = some (P.cellsOf t) → (fl.mapM fun f => (leafs P n f.type).bind fun ks => if ks.length = P.cellsOf f.type then some ks else none) = some kss →
              (∀ (j : Nat) (f : FV), fs[j]? = some f → RepF S w (A.getD (o + j) undef) f) → (∀ (j : Nat) (f : FV), gs[j]? = some f → RepF S w (B.getD (o + j) undef) f) → eqCells kss.flatten fs gs = some b → (Op.eqFields (d + n) A B fl).run P w = .ok b w := by
            intro fl
            induction fl with
            | nil =>
              intro kss o fs gs b hn hcon hm ra rb he
              simp at hm
              subst hm
              match fs, gs, he with
              | [], [], he =>
                simp only [List.flatten_nil, eqCells, Option.some.injEq] at he
                subst he
                simp [Op.eqFields]
              | [], _ :: _, he => simp [eqCells] at he
              | _ :: _, _, he => simp [eqCells] at he
            | cons f fl ihf =>
              intro kss o fs gs b hn hcon hm ra rb he
              simp only [List.mapM_cons, Option.pure_def, Option.bind_eq_bind, Option.bind_eq_some_iff, Option.some.injEq] at hm
              obtain ⟨k1, ⟨k0, hk1, hk2⟩, ks', hks', rfl⟩ := hm
              split at hk2
              · rename_i hkl
                simp only [Option.some.injEq] at hk2
                subst hk2
                obtain ⟨_, hcc⟩ := consec_at (P := P) (f :: fl) o _ hcon
                obtain ⟨ho, hle, hcon'⟩ := hcc f fl rfl
                rw [List.flatten_cons] at he
                obtain ⟨b1, b2, e1, e2, e3⟩ := eqCells_split k0 ks'.flatten fs gs b he
                obtain ⟨va, vb, p1, p2, p3⟩ := ih f.type k0 hk1 hkl d A B o _ _ b1 (by omega) (by omega) (fun j g hg => ra j g (take_get hg)) (fun j g hg => rb j g (take_get hg)) e1
                have rest := ihf ks' (o + P.cellsOf f.type) _ _ b2 (fun g hg => hn g (by simp [hg])) hcon' hks' (fun j g hg => by
                  rw [List.getElem?_drop, hkl] at hg
                  rw [Nat.add_assoc]; exact ra _ g hg) (fun j g hg => by
                  rw [List.getElem?_drop, hkl] at hg
                  rw [Nat.add_assoc]; exact rb _ g hg) e2
                simp only [Op.eqFields]
                rw [if_pos (hn f (by simp)), ho]
                simp only [Sem.run_bind, p1, p2, p3, Result.andThen_ok]
                subst e3
                cases b1
                · simp
                · simpa using rest
              · cases hk2
          refine key fl.toList kss 0 fs gs b hnames hcon hkss (fun j f hf => ?_) (fun j f hf => ?_) he
          · have hj : j < P.cellsOf t := by
              rw [← hlen]; exact eqCells_len he hf
            rw [Nat.zero_add, hat xs A hA j hj]
            exact rx j f hf
          · have hj : j < P.cellsOf t := by
              rw [← hlen]; exact eqCells_len' he hf
            rw [Nat.zero_add, hat ys B hB j hj]
            exact ry j f hf
        · cases h
      · cases h
    · cases h

theorem sim_eqs (hi : Inv P G S ρ h w) (ha : RepA S ρ h w a.tmps ad) {neq : Bool} {xt : TypeId} {ks : List Nat} {x y : Operand} {x' y' : Opd} (hl : leafs P 12 xt = some ks) (hk : ks.length = P.cellsOf xt) (hg : P.eqGuardType P.depth xt = false) (hu : ∃ fl, P.underlying xt = some (.struct fl))
    {t1 t2 : TypeId} (h1 : trOpd P t1 x = some x') (h2 : trOpd P t2 y = some y') (hd : dop call (.eqs neq ks x' y') ad h = some out) :
    SimOut P G S ρ h w ((do pure (Next.value (← binS (if neq then .neq else .eql) xt x y (a.eval x) (a.eval y))) : Sem Next).run P w) out := by
  have g1 := rep_opd ha h1
  have g2 := rep_opd ha h2
  simp only [dop] at hd
  split at hd
  · rename_i fs gs e1 e2
    simp only [Option.map_eq_some_iff] at hd
    obtain ⟨b, hb, rfl⟩ := hd
    rw [e1] at g1
    rw [e2] at g2
    have r1 := repD_d g1
    have r2 := repD_d g2
    generalize a.eval x = vx at *
    generalize a.eval y = vy at *
    cases r1 with
    | agg cs _ hl1 hr1 =>
      cases r2 with
      | agg ds _ hl2 hr2 =>
        obtain ⟨q1, q2⟩ := eqCells_lens hb
        obtain ⟨va, vb, p1, p2, p3⟩ := eq_type (P := P) (S := S) (w := w) 12 xt ks hl hk 9988 cs ds 0 fs gs b (by omega) (by omega) (fun j f hf => by simpa using hr1 j f hf) (fun j f hf => by simpa using hr2 j f hf) hb
        -- the parts are the whole
        have hagg : isAggB P xt = some (some (P.cellsOf xt)) := by
          obtain ⟨fl, hu⟩ := hu
          have := hl
          unfold leafs at this
          rw [hu] at this
          simp only at this
          split at this
          · rename_i hc
            simp only [Bool.and_eq_true, beq_iff_eq] at hc
            exact hc.2
          · cases this
        have whole : ∀ zs : Array Value, zs.size = P.cellsOf xt → (part xt zs 0).run P w = .ok (.agg zs) w := fun zs hz => by
          rw [run_part hagg zs 0 (by simp [hz])]
          simp only [pack, Nat.zero_add]
          congr 2
          apply Array.ext
          · simp [hz]
          · intro i h1 h2
            simp [Array.getD_eq_getD_getElem?, h2]
        rw [whole cs (by omega)] at p1
        rw [whole ds (by omega)] at p2
        cases p1
        cases p2
        have hge := run_eqGuard_agg (P := P) w (if neq then .neq else .eql) xt x y cs ds hg
        have : (binS (if neq then .neq else .eql) xt x y (.agg cs) (.agg ds)).run P w = .ok (.bool (if neq then !b else b)) w := by
          simp only [binS, Sem.run_bind, hge, Result.andThen_ok]
          cases neq
          · simp only [Bool.false_eq_true, if_false]
            rw [run_eql_struct, p3]
            rfl
          · simp only [if_true]
            rw [run_neq_struct, p3]
            rfl
        rw [run_v this]
        exact SimOut.plain hi (.d _ _ (.bool _))
  · cases hd

theorem sim_bin (hi : Inv P G S ρ h w) (ha : RepA S ρ h w a.tmps ad) {op : BinOp} {xt yt : TypeId} {x y : Operand} {d : DOp} (ht : trBin P op xt yt x y = some d) (hd : dop call d ad h = some out) :
    SimOut P G S ρ h w ((do pure (Next.value (← binS op xt x y (a.eval x) (a.eval y))) : Sem Next).run P w) out := by
  unfold trBin at ht
  split at ht
  · rename_i x' y' hx' hy'
    have hx := rep_opd ha hx'
    have hy := rep_opd ha hy'
    have plain : d = .bin op x' y' → SimOut P G S ρ h w ((do pure (Next.value (← binS op xt x y (a.eval x) (a.eval y))) : Sem Next).run P w) out := by
      rintro rfl
      simp only [dop] at hd
      split at hd
      · rename_i fx fy ex ey
        simp only [Option.map_eq_some_iff] at hd
        obtain ⟨f, hf, rfl⟩ := hd
        rw [ex] at hx
        rw [ey] at hy
        obtain ⟨v, hv, hr⟩ := run_bin (P := P) (t := xt) (x := x) (y := y) (repD_d hx) (repD_d hy) hf
        rw [run_v (s := binS op xt x y (a.eval x) (a.eval y)) hv]
        exact SimOut.plain hi (.d _ _ hr)
      · cases hd
    have bools : ∀ neq : Bool, op = (if neq then .neq else .eql) → P.underlying xt = some .bool → d = .eqb neq x' y' → SimOut P G S ρ h w ((do pure (Next.value (← binS op xt x y (a.eval x) (a.eval y))) : Sem Next).run P w) out := by
      rintro neq rfl hu rfl
      simp only [dop] at hd
      split at hd
      · rename_i bx by_ ex ey
        simp only [Option.some.injEq] at hd
        subst hd
        rw [ex] at hx
        rw [ey] at hy
        rw [repF_bool (repD_d hx), repF_bool (repD_d hy)]
        have hg : (eqGuard (if neq then .neq else .eql) xt x y (.bool bx) (.bool by_)).run P w = .ok () w := by
          unfold eqGuard
          split <;> rfl
        have he : (Op.equal xt (.bool bx) (.bool by_)).run P w = .ok (bx == by_) w := by
          unfold Op.equal
          rw [show Op.maxDepth = 9999 + 1 from rfl]
          unfold Op.equalIn
          simp [underlying, hu]
        have : (binS (if neq then .neq else .eql) xt x y (.bool bx) (.bool by_)).run P w = .ok (.bool (if neq then !(bx == by_) else bx == by_)) w := by
          simp only [binS, Sem.run_bind, hg, Result.andThen_ok]
          cases neq <;> simp [binOp, he]
        rw [run_v this]
        exact SimOut.plain hi (.d _ _ (.bool _))
      · cases hd
    have nils : ∀ (k : Nat) (u : TypeDesc), P.underlying xt = some u → KindOf k u → trNil op k x y x' y' = some d → SimOut P G S ρ h w ((do pure (Next.value (← binS op xt x y (a.eval x) (a.eval y))) : Sem Next).run P w) out := by
      intro k u hu hk ht
      have one : ∀ (neq : Bool), op = (if neq then .neq else .eql) → (if isNilConst k y then some (DOp.isnil k neq x') else if isNilConst k x then some (DOp.isnil k neq y') else none) = some d → SimOut P G S ρ h w ((do pure (Next.value (← binS op xt x y (a.eval x) (a.eval y))) : Sem Next).run P w) out := by
        rintro neq rfl ht
        split at ht
        · rename_i hc
          simp only [Option.some.injEq] at ht
          subst ht
          simp only [dop, Option.map_eq_some_iff] at hd
          obtain ⟨b, hb, rfl⟩ := hd
          have hv := nil_val hx hb
          have hn : NilVal k true (a.eval y) := nil_const hc
          rw [run_v (bin_nil (w := w) hu hk hv hn (.inr hc)).1]
          exact SimOut.plain hi (.d _ _ (.bool _))
        · split at ht
          · rename_i hc
            simp only [Option.some.injEq] at ht
            subst ht
            simp only [dop, Option.map_eq_some_iff] at hd
            obtain ⟨b, hb, rfl⟩ := hd
            have hv := nil_val hy hb
            have hn : NilVal k true (a.eval x) := nil_const hc
            rw [run_v (bin_nil (w := w) hu hk hv hn (.inl hc)).2]
            exact SimOut.plain hi (.d _ _ (.bool _))
          · cases ht
      unfold trNil at ht
      split at ht
      · exact one false rfl ht
      · exact one true rfl ht
      · cases ht
    split at ht
    · exact plain (by simpa using ht.symm)
    · exact plain (by simpa using ht.symm)
    · rename_i hu
      split at ht
      · exact bools false rfl hu (by simpa using ht.symm)
      · exact bools true rfl hu (by simpa using ht.symm)
      · cases ht
    · rename_i hu; exact nils 0 _ hu trivial ht
    · rename_i hu; exact nils 1 _ hu trivial ht
    · rename_i hu; exact nils 2 _ hu trivial ht
    · rename_i fl hu
      split at ht
      · rename_i ks hks
        split at ht
        · rename_i hc
          split at ht
          · simp only [Option.some.injEq] at ht
            subst ht
            exact sim_eqs (neq := false) hi ha hks hc.1 hc.2 ⟨fl, hu⟩ hx' hy' hd
          · simp only [Option.some.injEq] at ht
            subst ht
            exact sim_eqs (neq := true) hi ha hks hc.1 hc.2 ⟨fl, hu⟩ hx' hy' hd
          · cases ht
        · cases ht
      · cases ht
    · cases ht
  · cases ht


end
end Go.Deepv
