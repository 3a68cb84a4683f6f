/-
  Operations that make no memory, kind by kind: the deep machine's answer is the machine's.
  Conditions: none.
-/
import Derived.Test.YtoadpaaghjomnaaDE
set_option linter.unusedVariables false
set_option linter.unusedSimpArgs false
namespace Go.Deepv
open Go.RowKit

section
variable {P : Program} {S : Settled} {ρ : List RI} {h : List Res} {w : World} {a : Act} {ad : List DV} {call : Cle → List DV → List Res → Option DOut} {out : DOut}

theorem run_v {s : Sem Value} {x : Value} {w' : World} (e : s.run P w = .ok x w') : (do pure (Next.value (← s)) : Sem Next).run P w = .ok (.value x) w' := by
  simp [e]

def binS (op : BinOp) (t : TypeId) (x y : Operand) (vx vy : Value) : Sem Value := do
  eqGuard op t x y vx vy
  binOp op t vx vy

inductive NilVal : Nat → Bool → Value → Prop
  | p0 : NilVal 0 true (.pointer none)
  | p1 (a : Addr) : NilVal 0 false (.pointer (some a))
  | i0 : NilVal 1 true .nilIface
  | i1 (t : TypeId) (v : Value) : NilVal 1 false (.iface t v)
  | f0 : NilVal 2 true .nilFunc
  | f1 (fn : Fn) (p q : Array Value) : NilVal 2 false (.func fn p q)

theorem nil_val {k : Nat} {v : Value} {x : DV} {b : Bool} (hx : RepD S ρ h w v x) (hb : nilness k x = some b) : NilVal k b v := by
  unfold nilness at hb
  split at hb <;> first
    | (cases hb; done)
    | skip
  all_goals
    simp only [Option.some.injEq] at hb
    subst hb
    cases hx
    all_goals first
      | constructor
      | (rename_i hx; cases hx; constructor)

def KindOf (k : Nat) (u : TypeDesc) : Prop := match k, u with
  | 0, .pointer _ => True
  | 1, .interface _ => True
  | 2, .func _ _ _ => True
  | _, _ => False

theorem equal_nil {k : Nat} {u : TypeDesc} {xt : TypeId} {v n : Value} {b : Bool} (hu : P.underlying xt = some u) (hk : KindOf k u) (hv : NilVal k b v) (hn : NilVal k true n) :
    (Op.equal xt v n).run P w = .ok b w ∧ (Op.equal xt n v).run P w = .ok b w := by
  unfold Op.equal
  rw [show Op.maxDepth = 9999 + 1 from rfl]
  unfold Op.equalIn
  unfold KindOf at hk
  split at hk <;> first
    | (cases hk; done)
    | skip
  all_goals
    cases hn
    cases hv <;> simp [underlying, hu]

theorem guard_nil {op : BinOp} {k : Nat} {xt : TypeId} {x y : Operand} {v n : Value} {b : Bool} (hv : NilVal k b v) (hn : NilVal k true n) (hc : isNilConst k x = true ∨ isNilConst k y = true) : (eqGuard op xt x y v n).run P w = .ok () w ∧ (eqGuard op xt x y n v).run P w = .ok () w := by
  have key : ∀ {z : Operand}, isNilConst k z = true → ∃ c, z = .const c := by
    intro z hz
    unfold isNilConst at hz
    split at hz <;> first | exact ⟨_, rfl⟩ | cases hz
  unfold eqGuard
  rcases hc with hc | hc <;> obtain ⟨c, rfl⟩ := key hc <;> cases hn <;> cases hv <;> cases op <;> simp

theorem bin_nil {neq : Bool} {k : Nat} {u : TypeDesc} {xt : TypeId} {x y : Operand} {v n : Value} {b : Bool} (hu : P.underlying xt = some u) (hk : KindOf k u) (hv : NilVal k b v) (hn : NilVal k true n) (hc : isNilConst k x = true ∨ isNilConst k y = true) :
    (binS (if neq then .neq else .eql) xt x y v n).run P w = .ok (.bool (if neq then !b else b)) w ∧ (binS (if neq then .neq else .eql) xt x y n v).run P w = .ok (.bool (if neq then !b else b)) w := by
  obtain ⟨e1, e2⟩ := equal_nil (w := w) hu hk hv hn
  obtain ⟨g1, g2⟩ := guard_nil (P := P) (w := w) (op := if neq then .neq else .eql) (xt := xt) hv hn hc
  have r1 : ∀ (p q : Value), (Op.equal xt p q).run P w = .ok b w → (eqGuard (if neq then .neq else .eql) xt x y p q).run P w = .ok () w → ((binOp (if neq then .neq else .eql) xt p q).run P w = (Op.equal xt p q >>= fun b => pure (.bool (if neq then !b else b)) : Sem Value).run P w) → (binS (if neq then .neq else .eql) xt x y p q).run P w = .ok (.bool (if neq then !b else b)) w := by
    intro p q he hg hb
    simp only [binS, Sem.run_bind, hg, Result.andThen_ok, hb, he]
    rfl
  refine ⟨r1 _ _ e1 g1 ?_, r1 _ _ e2 g2 ?_⟩ <;> cases neq <;> cases hn <;> cases hv <;> simp [binOp]

theorem nil_const {y : Operand} {k : Nat} (hy : isNilConst k y = true) : NilVal k true (a.eval y) := by
  unfold isNilConst at hy
  split at hy
  · simp only [beq_iff_eq] at hy; subst hy; constructor
  · simp only [beq_iff_eq] at hy; subst hy; constructor
  · simp only [beq_iff_eq] at hy; subst hy; constructor
  · cases hy

theorem sim_bin (hi : Inv P S ρ h w) (ha : RepA S ρ h w a.tmps ad) {op : BinOp} {xt yt : TypeId} {x y : Operand} {d : DOp} (ht : trBin P op xt yt x y = some d) (hd : dop call d ad h = some out) :
    SimOut P S ρ h w ((do pure (Next.value (← binS op xt x y (a.eval x) (a.eval y))) : Sem Next).run P w) out := by
  unfold trBin at ht
  split at ht
  · rename_i x' y' hx' hy'
    have hx := rep_opd ha hx'
    have hy := rep_opd ha hy'
    have plain : d = .bin op x' y' → SimOut P S ρ h w ((do pure (Next.value (← binS op xt x y (a.eval x) (a.eval y))) : Sem Next).run P w) out := by
      rintro rfl
      simp only [dop] at hd
      split at hd
      · rename_i fx fy ex ey
        simp only [Option.map_eq_some_iff] at hd
        obtain ⟨f, hf, rfl⟩ := hd
        rw [ex] at hx
        rw [ey] at hy
        obtain ⟨v, hv, hr⟩ := run_bin (P := P) (t := xt) (x := x) (y := y) (repD_d hx) (repD_d hy) hf
        rw [run_v (s := binS op xt x y (a.eval x) (a.eval y)) hv]
        exact SimOut.plain hi (.d _ _ hr)
      · cases hd
    have bools : ∀ neq : Bool, op = (if neq then .neq else .eql) → P.underlying xt = some .bool → d = .eqb neq x' y' → SimOut P S ρ h w ((do pure (Next.value (← binS op xt x y (a.eval x) (a.eval y))) : Sem Next).run P w) out := by
      rintro neq rfl hu rfl
      simp only [dop] at hd
      split at hd
      · rename_i bx by_ ex ey
        simp only [Option.some.injEq] at hd
        subst hd
        rw [ex] at hx
        rw [ey] at hy
        rw [repF_bool (repD_d hx), repF_bool (repD_d hy)]
        have hg : (eqGuard (if neq then .neq else .eql) xt x y (.bool bx) (.bool by_)).run P w = .ok () w := by
          unfold eqGuard
          split <;> rfl
        have he : (Op.equal xt (.bool bx) (.bool by_)).run P w = .ok (bx == by_) w := by
          unfold Op.equal
          rw [show Op.maxDepth = 9999 + 1 from rfl]
          unfold Op.equalIn
          simp [underlying, hu]
        have : (binS (if neq then .neq else .eql) xt x y (.bool bx) (.bool by_)).run P w = .ok (.bool (if neq then !(bx == by_) else bx == by_)) w := by
          simp only [binS, Sem.run_bind, hg, Result.andThen_ok]
          cases neq <;> simp [binOp, he]
        rw [run_v this]
        exact SimOut.plain hi (.d _ _ (.bool _))
      · cases hd
    have nils : ∀ (k : Nat) (u : TypeDesc), P.underlying xt = some u → KindOf k u → trNil op k x y x' y' = some d → SimOut P S ρ h w ((do pure (Next.value (← binS op xt x y (a.eval x) (a.eval y))) : Sem Next).run P w) out := by
      intro k u hu hk ht
      have one : ∀ (neq : Bool), op = (if neq then .neq else .eql) → (if isNilConst k y then some (DOp.isnil k neq x') else if isNilConst k x then some (DOp.isnil k neq y') else none) = some d → SimOut P S ρ h w ((do pure (Next.value (← binS op xt x y (a.eval x) (a.eval y))) : Sem Next).run P w) out := by
        rintro neq rfl ht
        split at ht
        · rename_i hc
          simp only [Option.some.injEq] at ht
          subst ht
          simp only [dop, Option.map_eq_some_iff] at hd
          obtain ⟨b, hb, rfl⟩ := hd
          have hv := nil_val hx hb
          have hn : NilVal k true (a.eval y) := nil_const hc
          rw [run_v (bin_nil (w := w) hu hk hv hn (.inr hc)).1]
          exact SimOut.plain hi (.d _ _ (.bool _))
        · split at ht
          · rename_i hc
            simp only [Option.some.injEq] at ht
            subst ht
            simp only [dop, Option.map_eq_some_iff] at hd
            obtain ⟨b, hb, rfl⟩ := hd
            have hv := nil_val hy hb
            have hn : NilVal k true (a.eval x) := nil_const hc
            rw [run_v (bin_nil (w := w) hu hk hv hn (.inl hc)).2]
            exact SimOut.plain hi (.d _ _ (.bool _))
          · cases ht
      unfold trNil at ht
      split at ht
      · exact one false rfl ht
      · exact one true rfl ht
      · cases ht
    split at ht
    · exact plain (by simpa using ht.symm)
    · exact plain (by simpa using ht.symm)
    · rename_i hu
      split at ht
      · exact bools false rfl hu (by simpa using ht.symm)
      · exact bools true rfl hu (by simpa using ht.symm)
      · cases ht
    · rename_i hu; exact nils 0 _ hu trivial ht
    · rename_i hu; exact nils 1 _ hu trivial ht
    · rename_i hu; exact nils 2 _ hu trivial ht
    · cases ht
  · cases ht

theorem sim_mv (hi : Inv P S ρ h w) {v : Value} {x : Opd} (hx : RepD S ρ h w v (ev ad x)) (hd : dop call (.mv x) ad h = some out) : SimOut P S ρ h w (.ok (.value v) w) out := by
  simp only [dop, Option.some.injEq] at hd
  subst hd
  exact SimOut.plain hi hx

theorem sim_pick (hi : Inv P S ρ h w) (ha : RepA S ρ h w a.tmps ad) {t1 t2 t3 : TypeId} {c x y : Operand} {c' x' y' : Opd} (h1 : trOpd P t1 c = some c') (h2 : trOpd P t2 x = some x') (h3 : trOpd P t3 y = some y') (hd : dop call (.pick c' x' y') ad h = some out) :
    SimOut P S ρ h w ((do pure (Next.value (if ← asBool (a.eval c) then a.eval x else a.eval y)) : Sem Next).run P w) out := by
  have g1 := rep_opd ha h1
  have g2 := rep_opd ha h2
  have g3 := rep_opd ha h3
  simp only [dop] at hd
  split at hd
  · rename_i b eb
    simp only [Option.some.injEq] at hd
    subst hd
    rw [eb] at g1
    rw [repF_bool (repD_d g1)]
    have : (do pure (Next.value (if ← asBool (.bool b) then a.eval x else a.eval y)) : Sem Next).run P w = .ok (.value (if b then a.eval x else a.eval y)) w := by simp [asBool]
    rw [this]
    refine SimOut.plain hi ?_
    cases b
    · exact g3
    · exact g2
  · cases hd

theorem sim_un (hi : Inv P S ρ h w) (ha : RepA S ρ h w a.tmps ad) {op : UnOp} {t : TypeId} {x : Operand} {x' : Opd} (h1 : trOpd P t x = some x') (hd : dop call (.un op x') ad h = some out) :
    SimOut P S ρ h w ((do pure (Next.value (← Op.unary op (a.eval x))) : Sem Next).run P w) out := by
  have g1 := rep_opd ha h1
  simp only [dop] at hd
  split at hd
  · rename_i f ef
    simp only [Option.map_eq_some_iff] at hd
    obtain ⟨v, hv, rfl⟩ := hd
    rw [ef] at g1
    have g := repD_d g1
    cases op <;> cases f <;> simp only [dun, Option.some.injEq, reduceCtorEq] at hv
    · subst hv
      rw [repF_int g, run_v (s := Op.unary .neg (.int _ _)) (w' := w) rfl]
      exact SimOut.plain hi (.d _ _ (.int _ _))
    · subst hv
      rw [repF_bool g, run_v (s := Op.unary .not (.bool _)) (w' := w) rfl]
      exact SimOut.plain hi (.d _ _ (.bool _))
  · cases hd

theorem sim_cvt (hi : Inv P S ρ h w) (ha : RepA S ρ h w a.tmps ad) {src dst t : TypeId} {u : TypeDesc} {k : IntKind} {x : Operand} {x' : Opd} (hs : P.underlying src = some u) (hk : P.underlying dst = some (.int k)) (h1 : trOpd P t x = some x') (hd : dop call (.cvt k x') ad h = some out) :
    SimOut P S ρ h w ((do pure (Next.value (← convert src dst (a.eval x))) : Sem Next).run P w) out := by
  have g1 := rep_opd ha h1
  simp only [dop] at hd
  split at hd
  · rename_i k' n ef
    simp only [Option.some.injEq] at hd
    subst hd
    rw [ef] at g1
    rw [repF_int (repD_d g1)]
    have : (convert src dst (.int k' n)).run P w = .ok (.int k (k.wrap n)) w := by
      simp [convert, underlying, hs, hk, Conv.intToInt]
    rw [run_v this]
    exact SimOut.plain hi (.d _ _ (.int _ _))
  · cases hd

theorem nums_at : ∀ {l : List (List FV)} {ns : List Int}, numsOf l = some ns → ns.length = l.length ∧ ∀ (i : Nat) (c : List FV), l[i]? = some c → c = [.int .u8 (ns.getD i 0)]
  | [], ns, h => by
    simp [numsOf] at h
    subst h
    exact ⟨rfl, fun i c hc => by simp at hc⟩
  | c :: l, ns, h => by
    simp only [numsOf, List.mapM_cons, Option.pure_def, Option.bind_eq_bind, Option.bind_eq_some_iff, Option.some.injEq] at h
    obtain ⟨n, hn, ns', hns, rfl⟩ := h
    obtain ⟨h1, h2⟩ := nums_at (l := l) (ns := ns') hns
    refine ⟨by simp [h1], fun i c' hc => ?_⟩
    cases i with
    | zero =>
      simp at hc
      subst hc
      split at hn
      · simp only [Option.some.injEq] at hn; subst hn; rfl
      · cases hn
    | succ i => simpa using h2 i c' (by simpa using hc)

theorem sim_addOff (hi : Inv P S ρ h w) (ha : RepA S ρ h w a.tmps ad) {s t : TypeId} {fields : Array Field} {f : Nat} {fl : Field} {i : TypeInfo} {x : Operand} {x' : Opd} (hs : P.underlying s = some (.struct fields)) (hf : fields[f]? = some fl) (hinf : P.info? fl.type = some i) (h0 : ¬ i.size = 0)
    (h1 : trOpd P t x = some x') (hd : dop call (.addOff fl.offset x') ad h = some out) :
    SimOut P S ρ h w ((do pure (Next.value (← Instr.fieldAt s (a.eval x) f)) : Sem Next).run P w) out := by
  have g1 := rep_opd ha h1
  have run : ∀ b o : Nat, (Instr.fieldAt s (.pointer (some ⟨b, o, none⟩)) f).run P w = .ok (.pointer (some ⟨b, o + fl.offset, none⟩)) w := fun b o => by
    simp [Instr.fieldAt, underlying, hs, hf, Instr.sureAddr, fieldPlace, sizeOf, typeInfo, hinf, h0, add_none]
  simp only [dop] at hd
  split at hd
  · rename_i cells off ef
    simp only [Option.some.injEq] at hd
    subst hd
    rw [ef] at g1
    have g := repD_d g1
    generalize a.eval x = vx at *
    cases g with
    | ref b o off cells u hc hr ho1 =>
      rw [run_v (run b (o + off)), Nat.add_assoc]
      exact SimOut.plain hi (.d _ _ (.ref _ _ _ _ u hc hr ho1))
  · rename_i id off ef
    simp only [Option.some.injEq] at hd
    subst hd
    rw [ef] at g1
    generalize a.eval x = vx at *
    cases g1 with
    | ptr id off b hb =>
      rw [run_v (run b off)]
      exact SimOut.plain hi (.ptr _ _ _ hb)
  · cases hd

theorem run_part {t : TypeId} {n : Option Nat} (hn : isAggB P t = some n) (cs : Array Value) (off : Nat) (hl : off + n.getD 1 ≤ cs.size) : (part t cs off).run P w = .ok (pack n fun j => cs.getD (off + j) undef) w := by
  obtain ⟨h1, h2⟩ := run_isAgg (w := w) hn
  cases n with
  | none =>
    have hl' : off < cs.size := by simp at hl; omega
    simp [part, h1, hl', pack, Array.getD_eq_getD_getElem?]
  | some k =>
    have hk := h2 k rfl
    simp only [part, Sem.run_bind, h1, Result.andThen_ok, Option.isSome_some, if_true, hk, Sem.run_pure, pack]
    congr 2
    apply Array.ext
    · simp at hl ⊢; omega
    · intro i h1 h2
      simp at h1 h2 hl
      simp [Array.getD_eq_getD_getElem?, show off + i < cs.size by omega]

theorem sim_fld (hi : Inv P S ρ h w) (ha : RepA S ρ h w a.tmps ad) {s t : TypeId} {fields : Array Field} {f : Nat} {fl : Field} {n : Option Nat} {x : Operand} {x' : Opd} (hs : P.underlying s = some (.struct fields)) (hf : fields[f]? = some fl) (hn : isAggB P fl.type = some n)
    (h1 : trOpd P t x = some x') (hd : dop call (.fld n fl.offset x') ad h = some out) :
    SimOut P S ρ h w ((do pure (Next.value (← Instr.field s (a.eval x) f)) : Sem Next).run P w) out := by
  have g1 := rep_opd ha h1
  have key : ∀ (cs : Array Value) (ds : List DV) (v : DV), a.eval x = .agg cs → cs.size = ds.length → (∀ (j : Nat) (y : DV), ds[j]? = some y → RepD S ρ h w (cs.getD j undef) y) → dload n ds fl.offset = some v →
      SimOut P S ρ h w ((do pure (Next.value (← Instr.field s (a.eval x) f)) : Sem Next).run P w) (.val v h) := by
    intro cs ds v e hl hr hv
    obtain ⟨l1, l2⟩ := rep_dload (fun j => cs.getD j undef) hr hv
    have hp := run_part (P := P) (w := w) hn cs fl.offset (by omega)
    have : (Instr.field s (.agg cs) f).run P w = .ok (pack n fun j => cs.getD (fl.offset + j) undef) w := by
      simp [Instr.field, underlying, hs, hf, asAgg, hp]
    rw [e, run_v this]
    exact SimOut.plain hi l2
  simp only [dop] at hd
  split at hd
  · rename_i fs e
    simp only [Option.map_eq_some_iff] at hd
    obtain ⟨v, hv, rfl⟩ := hd
    rw [e] at g1
    have g := repD_d g1
    generalize hvx : a.eval x = vx at *
    cases g with
    | agg cs fs hl hr =>
      refine key cs _ v rfl (by simp [hl]) (fun j y hy => ?_) hv
      simp only [List.getElem?_map, Option.map_eq_some_iff] at hy
      obtain ⟨z, hz, rfl⟩ := hy
      exact .d _ _ (hr j z hz)
  · rename_i cs e
    simp only [Option.map_eq_some_iff] at hd
    obtain ⟨v, hv, rfl⟩ := hd
    rw [e] at g1
    generalize hvx : a.eval x = vx at *
    cases g1 with
    | agg vs cs hl hr => exact key vs cs v rfl hl (fun j y hy => hr j y hy) hv
  · cases hd

/-- A slice that is read: where it lies. -/
theorem rep_elems {v : Value} {x : DV} (hx : RepD S ρ h w v x) {sz : Nat} {l : List (List FV)} (he : x.elems = some (sz, l)) : RepF S w v (.slice sz l) := by
  cases hx with
  | d v x hx =>
    cases x <;> simp only [DV.elems, Option.some.injEq, Prod.mk.injEq, reduceCtorEq] at he
    obtain ⟨rfl, rfl⟩ := he
    exact hx
  | row v sz' elems t hx ht hr =>
    simp only [DV.elems, Option.some.injEq, Prod.mk.injEq] at he
    obtain ⟨rfl, rfl⟩ := he
    exact hx
  | _ => simp [DV.elems] at he

theorem rep_int {v : Value} {x : DV} (hx : RepD S ρ h w v x) {n : Int} (he : x.int = some n) : ∃ k, v = .int k n := by
  cases hx with
  | d v x hx =>
    cases x <;> simp only [DV.int, Option.some.injEq, reduceCtorEq] at he
    subst he
    exact ⟨_, repF_int hx⟩
  | _ => simp [DV.int] at he

theorem sim_idxAddr (hi : Inv P S ρ h w) (ha : RepA S ρ h w a.tmps ad) {t e t1 t2 : TypeId} {info : TypeInfo} {x i : Operand} {x' i' : Opd} (ht : P.underlying t = some (.slice e)) (hinf : P.info? e = some info) (h1 : trOpd P t1 x = some x') (h2 : trOpd P t2 i = some i')
    (hd : dop call (.idxAddr info.size x' i') ad h = some out) : SimOut P S ρ h w ((do pure (Next.value (← Instr.indexAt t (a.eval x) (a.eval i))) : Sem Next).run P w) out := by
  have g1 := rep_opd ha h1
  have g2 := rep_opd ha h2
  simp only [dop] at hd
  split at hd
  · rename_i s l i he hi'
    split at hd
    · rename_i hs
      obtain ⟨rfl, h0⟩ := hs
      simp only [Option.map_eq_some_iff] at hd
      obtain ⟨c, hc, rfl⟩ := hd
      have gl := rep_elems g1 he
      obtain ⟨k, hk⟩ := rep_int g2 hi'
      rw [hk]
      have hlt := (List.getElem?_eq_some_iff.1 hc).1
      generalize a.eval x = vx at *
      cases gl with
      | slice0 A cap => simp at hlt
      | slice b o n cap _ elems u hn hcap hsz hcc hr ho1 =>
        have hin : 0 ≤ i ∧ i < (n : Int) := ⟨h0, by omega⟩
        have run : (Instr.indexAt t (.slice (some ⟨b, o, none⟩) n cap) (.int k i)).run P w = .ok (.pointer (some ⟨b, o + i.toNat * info.size, none⟩)) w := by
          simp [Instr.indexAt, asIntOf, underlying, ht, hin, sizeOf, typeInfo, hinf, add_none]
        rw [run_v run]
        exact SimOut.plain hi (.d _ _ (.ref b (o + i.toNat * info.size) 0 c (u i.toNat) (fun j hj => hcc i.toNat j (by omega) (by rw [← hsz _ _ hc]; exact hj)) (fun j y hy => hr i.toNat j c y hc hy) (fun j y hy => ho1 i.toNat j c y hc hy)))

    · cases hd
  · cases hd

theorem sim_idxArr (hi : Inv P S ρ h w) (ha : RepA S ρ h w a.tmps ad) {t e t1 t2 : TypeId} {len : Nat} {info : TypeInfo} {x i : Operand} {x' i' : Opd} (ht : P.underlying t = some (.array len e)) (hinf : P.info? e = some info) (h1 : trOpd P t1 x = some x') (h2 : trOpd P t2 i = some i')
    (hd : dop call (.idxArr len info.size x' i') ad h = some out) : SimOut P S ρ h w ((do pure (Next.value (← Instr.indexAt t (a.eval x) (a.eval i))) : Sem Next).run P w) out := by
  have g1 := rep_opd ha h1
  have g2 := rep_opd ha h2
  have run : ∀ (b o : Nat) (k : IntKind) (i : Int), 0 ≤ i ∧ i < (len : Int) → (Instr.indexAt t (.pointer (some ⟨b, o, none⟩)) (.int k i)).run P w = .ok (.pointer (some ⟨b, o + i.toNat * info.size, none⟩)) w := fun b o k i hin => by
    simp [Instr.indexAt, asIntOf, underlying, ht, Instr.sureAddr, hin, sizeOf, typeInfo, hinf, add_none]
  simp only [dop] at hd
  split at hd
  · rename_i cells off i he hi'
    split at hd
    · rename_i hin
      simp only [Option.some.injEq] at hd
      subst hd
      obtain ⟨k, hk⟩ := rep_int g2 hi'
      rw [hk]
      rw [he] at g1
      have g := repD_d g1
      generalize a.eval x = vx at *
      cases g with
      | ref b o off cells u hc hr ho1 =>
        rw [run_v (run b (o + off) k i hin), Nat.add_assoc]
        exact SimOut.plain hi (.d _ _ (.ref _ _ _ _ u hc hr ho1))
    · cases hd
  · rename_i id off i he hi'
    split at hd
    · rename_i hin
      simp only [Option.some.injEq] at hd
      subst hd
      obtain ⟨k, hk⟩ := rep_int g2 hi'
      rw [hk]
      rw [he] at g1
      generalize a.eval x = vx at *
      cases g1 with
      | ptr id off b hb =>
        rw [run_v (run b off k i hin)]
        exact SimOut.plain hi (.ptr _ _ _ hb)
    · cases hd
  · cases hd

theorem sim_idxStr (hi : Inv P S ρ h w) (ha : RepA S ρ h w a.tmps ad) {t t1 t2 : TypeId} {x i : Operand} {x' i' : Opd} (ht : P.underlying t = some .string) (h1 : trOpd P t1 x = some x') (h2 : trOpd P t2 i = some i')
    (hd : dop call (.idxStr x' i') ad h = some out) : SimOut P S ρ h w ((do pure (Next.value (← Instr.index t (a.eval x) (a.eval i))) : Sem Next).run P w) out := by
  have g1 := rep_opd ha h1
  have g2 := rep_opd ha h2
  simp only [dop] at hd
  split at hd
  · rename_i s i he hi'
    split at hd
    · rename_i h0
      simp only [Option.map_eq_some_iff] at hd
      obtain ⟨b, hb, rfl⟩ := hd
      obtain ⟨k, hk⟩ := rep_int g2 hi'
      rw [hk]
      rw [he] at g1
      rw [repF_str (repD_d g1)]
      have run : (Instr.index t (.string s) (.int k i)).run P w = .ok (.int .u8 b.toNat) w := by
        simp [Instr.index, asIntOf, underlying, ht, h0, hb]
      rw [run_v run]
      exact SimOut.plain hi (.d _ _ (.int _ _))
    · cases hd
  · cases hd

theorem sim_lenStr (hi : Inv P S ρ h w) (ha : RepA S ρ h w a.tmps ad) {t t1 rt : TypeId} {ts : Array TypeId} {x : Operand} {x' : Opd} (h1 : trOpd P t1 x = some x') (h0 : ts[0]? = some t) (hu : P.underlying t = some .string)
    (hd : dop call (.len true x') ad h = some out) : SimOut P S ρ h w ((do pure (Next.value (← Builtin.len_ ts rt #[a.eval x])) : Sem Next).run P w) out := by
  have g1 := rep_opd ha h1
  simp only [dop] at hd
  split at hd
  · rename_i s he
    simp only [Option.some.injEq] at hd
    subst hd
    rw [he] at g1
    rw [repF_str (repD_d g1)]
    have run : (Builtin.len_ ts rt #[.string s]).run P w = .ok (.int .i64 s.size) w := by
      simp [Builtin.len_, h0, underlying, hu, goInt]
    rw [run_v run]
    exact SimOut.plain hi (.d _ _ (.int _ _))
  · cases hd

theorem sim_lenSlc (hi : Inv P S ρ h w) (ha : RepA S ρ h w a.tmps ad) {t t1 rt e : TypeId} {ts : Array TypeId} {x : Operand} {x' : Opd} (h1 : trOpd P t1 x = some x') (h0 : ts[0]? = some t) (hu : P.underlying t = some (.slice e))
    (hd : dop call (.len false x') ad h = some out) : SimOut P S ρ h w ((do pure (Next.value (← Builtin.len_ ts rt #[a.eval x])) : Sem Next).run P w) out := by
  have g1 := rep_opd ha h1
  simp only [dop] at hd
  split at hd
  · rename_i sz l he
    simp only [Option.some.injEq] at hd
    subst hd
    have g := rep_elems g1 he
    have run : ∀ (A : Option Addr) (n cap : Nat), (Builtin.len_ ts rt #[.slice A n cap]).run P w = .ok (.int .i64 n) w := fun A n cap => by
      simp [Builtin.len_, h0, underlying, hu, goInt]
    generalize a.eval x = vx at *
    cases g with
    | slice0 A cap => rw [run_v (run A 0 cap)]; exact SimOut.plain hi (.d _ _ (.int _ _))
    | slice b o n cap _ elems u hn hcap hsz hcc hr ho1 => rw [run_v (run _ n cap), ← hn]; exact SimOut.plain hi (.d _ _ (.int _ _))
  · cases hd

theorem sim_bstr (hi : Inv P S ρ h w) (ha : RepA S ρ h w a.tmps ad) {src dst t e : TypeId} {x : Operand} {x' : Opd} (hs : P.underlying src = some (.slice e)) (hk : P.underlying dst = some .string) (he : P.underlying e = some (.int .u8)) (h1 : trOpd P t x = some x') (hd : dop call (.bstr x') ad h = some out) :
    SimOut P S ρ h w ((do pure (Next.value (← convert src dst (a.eval x))) : Sem Next).run P w) out := by
  have g1 := rep_opd ha h1
  simp only [dop] at hd
  split at hd
  · rename_i s l ef
    simp only [Option.map_eq_some_iff] at hd
    obtain ⟨ns, hns, rfl⟩ := hd
    obtain ⟨n1, n2⟩ := nums_at hns
    have g := rep_elems g1 ef
    generalize a.eval x = vx at *
    have : (convert src dst vx).run P w = .ok (.string (strOfNums ns)) w := by
      cases g with
      | slice0 A cap sz =>
        have : ns = [] := List.eq_nil_of_length_eq_zero n1
        subst this
        cases A with
        | none => rw [run_convert_bytes_nil w src e hs he 0 cap dst hk]; rfl
        | some A =>
          rw [run_convert_bytes_string w src dst e (some A) 0 cap hs he hk, run_bytesToString w A 0 cap [] (by simp [loadCells, loadCellsFrom])]
          rfl
      | slice b o n cap sz elems u hn hcap hsz hc hr h1 =>
        refine run_convert_bytes_arg w src e hs he b o n cap ns (by omega) (fun i hi => ?_) dst hk
        have hl : l[i]? = some l[i] := List.getElem?_eq_getElem (by omega)
        have hci := n2 i _ hl
        have hz := hsz i _ hl
        rw [hci] at hz
        simp at hz
        subst hz
        have hcell := (hc i 0 hi (by omega)).2
        have hrep := hr i 0 _ (.int .u8 (ns.getD i 0)) hl (by rw [hci]; rfl)
        simp only [Nat.mul_one, Nat.add_zero] at hcell
        rw [hcell, repF_int hrep]
    rw [run_v this]
    exact SimOut.plain hi (.d _ _ (.str _))
  · cases hd

end
end Go.Deepv
