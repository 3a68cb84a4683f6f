/-
  Operations that make no memory: the deep machine's answer is the machine's.
  Conditions: none.
-/
import Derived.Test.YtpemlmhggiaflaaGreatDoorDD
import Derived.WalkKit
set_option linter.unusedVariables false
set_option linter.unusedSimpArgs false
namespace Go.Deepv
open Go.RowKit

structure RepA (S : Settled) (ρ : List RI) (h : List Res) (w : World) (a : Array Value) (ad : List DV) : Prop where
  len : a.size = ad.length
  at_ : ∀ (j : Nat) (x : DV), ad[j]? = some x → RepD S ρ h w (a.getD j undef) x

theorem RepA.mono {S S' : Settled} {ρ ρ' : List RI} {h h' : List Res} {w w' : World} {a : Array Value} {ad : List DV} (E : Ext S ρ h w S' ρ' h' w') (ha : RepA S ρ h w a ad) : RepA S' ρ' h' w' a ad :=
  ⟨ha.len, fun j x hx => (ha.at_ j x hx).mono E⟩

def SimOut (P : Program) (G : Glob) (S : Settled) (ρ : List RI) (h : List Res) (w : World) (r : Result Next) : DOut → Prop
  | .val v h' => ∃ x w' S' ρ', (r = .ok (.value x) w' ∨ (r = .ok .skip w' ∧ x = undef)) ∧ RepD S' ρ' h' w' x v ∧ Ext S ρ h w S' ρ' h' w' ∧ Inv P G S' ρ' h' w'
  | .pan v h' => ∃ x w' S' ρ', r = .halt (.panic x) w' ∧ RepD S' ρ' h' w' x v ∧ Ext S ρ h w S' ρ' h' w' ∧ Inv P G S' ρ' h' w'

section
variable {P : Program} {G : Glob} {S : Settled} {ρ : List RI} {h : List Res} {w : World} {a : Act} {ad : List DV}

theorem SimOut.plain (hi : Inv P G S ρ h w) {x : Value} {v : DV} (hx : RepD S ρ h w x v) : SimOut P G S ρ h w (.ok (.value x) w) (.val v h) :=
  ⟨x, w, S, ρ, .inl rfl, hx, Ext.refl _ _ _ _, hi⟩

theorem rep_const {v : Value} {x : FV} (hc : constOk v x = true) : RepF S w v x := by
  unfold constOk at hc
  split at hc
  · simp at hc; obtain ⟨rfl, rfl⟩ := hc; exact .int _ _
  · simp at hc; subst hc; exact .bool _
  · rename_i s s'
    have : s = s' := by cases s; cases s'; simp at hc; simpa using hc
    subst this; exact .str _
  · exact .slice0 _ _ _
  · exact .nils _
  · exact .nilp
  · exact .nili
  · exact .nilf
  · cases hc

theorem rep_consts : ∀ {vs : List Value} {fs : List FV}, constsOk vs fs = true → vs.length = fs.length ∧ ∀ (j : Nat) (x : FV), fs[j]? = some x → RepF S w (vs.getD j undef) x
  | [], [], _ => ⟨rfl, fun j x hx => by simp at hx⟩
  | v :: vs, f :: fs, hc => by
    simp only [constsOk, Bool.and_eq_true] at hc
    obtain ⟨l, r⟩ := rep_consts hc.2
    refine ⟨by simp [l], fun j x hx => ?_⟩
    cases j with
    | zero => simp at hx; subst hx; simpa using rep_const hc.1
    | succ j => simpa using r j x (by simpa using hx)
  | [], _ :: _, hc => by simp [constsOk] at hc
  | _ :: _, [], hc => by simp [constsOk] at hc

theorem rep_trConst {t : TypeId} {v : Value} {x : FV} (hc : trConst P t v = some x) : RepF S w v x := by
  unfold trConst at hc
  split at hc
  · split at hc
    · rename_i fs _ cs
      split at hc
      · rename_i hk
        simp at hc
        subst hc
        obtain ⟨l, r⟩ := rep_consts (S := S) (w := w) hk
        exact .agg _ _ (by simpa using l) (fun j x hx => by simpa [Array.getD_eq_getD_getElem?, List.getD_eq_getElem?_getD] using r j x hx)
      · cases hc
    · split at hc
      · split at hc
        · rename_i hk
          simp at hc
          subst hc
          exact rep_const hk
        · cases hc
      · cases hc
  · cases hc

theorem rep_opd (ha : RepA S ρ h w a.tmps ad) {t : TypeId} {x : Operand} {y : Opd} (ht : trOpd P t x = some y) : RepD S ρ h w (a.eval x) (ev ad y) := by
  cases x with
  | tmp t =>
    simp only [trOpd, Option.some.injEq] at ht
    subst ht
    simp only [Act.eval, ev]
    rcases Nat.lt_or_ge t ad.length with hl | hl
    · rw [List.getD_eq_getElem?_getD, List.getElem?_eq_getElem hl, Option.getD_some]
      exact ha.at_ t _ (List.getElem?_eq_getElem hl)
    · rw [List.getD_eq_getElem?_getD, List.getElem?_eq_none hl, Option.getD_none]
      exact .d _ _ (.undef _)
  | const v =>
    simp only [trOpd, Option.map_eq_some_iff] at ht
    obtain ⟨f, hf, rfl⟩ := ht
    exact .d _ _ (rep_trConst hf)
  | global g => simp [trOpd] at ht
  | func f =>
    simp only [trOpd, Option.some.injEq] at ht
    subst ht
    exact .d _ _ (.func _ _ _ _ _ rfl rfl (fun j x hx => by simp at hx) (fun j x hx => by simp at hx))

theorem repD_d {v : Value} {x : FV} (hx : RepD S ρ h w v (.d x)) : RepF S w v x := by cases hx; assumption

theorem repF_int {v : Value} {k : IntKind} {n : Int} (hx : RepF S w v (.int k n)) : v = .int k n := by cases hx; rfl
theorem repF_bool {v : Value} {b : Bool} (hx : RepF S w v (.bool b)) : v = .bool b := by cases hx; rfl
theorem repF_str {v : Value} {s : ByteArray} (hx : RepF S w v (.str s)) : v = .string s := by cases hx; rfl

theorem run_bin {op : BinOp} {t : TypeId} {x y : Operand} {vx vy : Value} {fx fy f : FV} (hx : RepF S w vx fx) (hy : RepF S w vy fy) (hd : dbin op fx fy = some f) :
    ∃ v, ((do eqGuard op t x y vx vy; binOp op t vx vy : Sem Value)).run P w = .ok v w ∧ RepF S w v f := by
  cases fx with
  | int k n =>
    cases fy with
    | int k' m =>
      obtain rfl := repF_int hx
      obtain rfl := repF_int hy
      have hg : (eqGuard op t x y (.int k n) (.int k' m)).run P w = .ok () w := by
        unfold eqGuard
        split <;> rfl
      simp only [Sem.run_bind, hg, Result.andThen_ok]
      by_cases h1 : op = .shl
      · subst h1
        simp only [dbin] at hd
        split at hd
        · cases hd
        · rename_i hn
          simp at hd
          subst hd
          exact ⟨_, by simp only [binOp, Op.shift]; rw [if_neg hn]; rfl, .int _ _⟩
      by_cases h2 : op = .shr
      · subst h2
        simp only [dbin] at hd
        split at hd
        · cases hd
        · rename_i hn
          simp at hd
          subst hd
          exact ⟨_, by simp only [binOp, Op.shift]; rw [if_neg hn]; rfl, .int _ _⟩
      have hkk : k = k' := by
        by_cases hk : k = k'
        · exact hk
        · cases op <;> simp_all [dbin]
      subst hkk
      cases op <;> simp only [dbin, ne_eq, not_true_eq_false, if_false, Option.some.injEq, reduceCtorEq] at hd h1 h2 <;> first
        | contradiction
        | (subst hd; first
            | exact ⟨_, by simp only [binOp, ne_eq, not_true_eq_false, if_false, Op.intArith, Op.intBits, Op.intCmp]; rfl, .int _ _⟩
            | exact ⟨_, by simp only [binOp, ne_eq, not_true_eq_false, if_false, Op.intArith, Op.intBits, Op.intCmp]; rfl, .bool _⟩)
        | (split at hd
           · cases hd
           · rename_i hn
             simp at hd
             subst hd
             exact ⟨_, by simp only [binOp, ne_eq, not_true_eq_false, if_false, Op.intDiv]; rw [if_neg hn]; rfl, .int _ _⟩)
    | _ => cases op <;> simp [dbin] at hd
  | str s =>
    cases fy with
    | str s' =>
      obtain rfl := repF_str hx
      obtain rfl := repF_str hy
      have hg : (eqGuard op t x y (.string s) (.string s')).run P w = .ok () w := by
        unfold eqGuard
        split <;> rfl
      simp only [Sem.run_bind, hg, Result.andThen_ok]
      cases op <;> simp only [dbin, Option.some.injEq, reduceCtorEq] at hd
      case add =>
        split at hd
        · rename_i hn
          simp at hd
          subst hd
          refine ⟨_, ?_, .str _⟩
          have hm : ¬ (((s.size + s'.size : Nat) : Int) > IntKind.i64.max) := by
            have : IntKind.i64.max = 9223372036854775807 := by decide
            rw [this]
            omega
          simp only [binOp, Op.stringOp]
          rw [if_neg hm]
          rfl
        · cases hd
      all_goals
        subst hd
        exact ⟨_, by simp only [binOp, Op.stringOp]; rfl, .bool _⟩
    | _ => cases op <;> simp [dbin] at hd
  | _ => cases op <;> simp [dbin] at hd

theorem mapM_some {α β : Type} {f : α → Option β} : ∀ {l : List α} {r : List β}, l.mapM f = some r → r.length = l.length ∧ ∀ (j : Nat) (y : β), r[j]? = some y → ∃ x, l[j]? = some x ∧ f x = some y
  | [], r, h => by
    simp at h
    subst h
    exact ⟨rfl, fun j y hy => by simp at hy⟩
  | x :: l, r, h => by
    simp only [List.mapM_cons, Option.pure_def, Option.bind_eq_bind, Option.bind_eq_some_iff, Option.some.injEq] at h
    obtain ⟨y, hy, r', hr, rfl⟩ := h
    obtain ⟨h1, h2⟩ := mapM_some hr
    refine ⟨by simp [h1], fun j z hz => ?_⟩
    cases j with
    | zero => simp at hz; subst hz; exact ⟨x, rfl, hy⟩
    | succ j => simpa using h2 j z (by simpa using hz)

theorem rep_flat {v : Value} {x : DV} {f : FV} (hx : RepD S ρ h w v x) (hf : x.flat = some f) : RepF S w v f := by
  cases hx with
  | d v x hx => simp [DV.flat] at hf; subst hf; exact hx
  | row v sz elems t hx ht hr => simp [DV.flat] at hf; subst hf; exact hx
  | _ => simp [DV.flat] at hf

theorem rep_flats {u : Nat → Value} {cs : List DV} {fs : List FV} (hx : ∀ (j : Nat) (x : DV), cs[j]? = some x → RepD S ρ h w (u j) x) (hf : cs.mapM DV.flat = some fs) :
    fs.length = cs.length ∧ ∀ (j : Nat) (x : FV), fs[j]? = some x → RepF S w (u j) x := by
  obtain ⟨h1, h2⟩ := mapM_some hf
  refine ⟨h1, fun j x hj => ?_⟩
  obtain ⟨y, hy, hfy⟩ := h2 j x hj
  exact rep_flat (hx j y hy) hfy

theorem rep_mkAgg {cs : Array Value} {fs : List DV} (hl : cs.size = fs.length) (hx : ∀ (j : Nat) (x : DV), fs[j]? = some x → RepD S ρ h w (cs.getD j undef) x) : RepD S ρ h w (.agg cs) (DV.mkAgg fs) := by
  unfold DV.mkAgg
  split
  · rename_i gs hg
    obtain ⟨h1, h2⟩ := rep_flats hx hg
    exact .d _ _ (.agg _ _ (by rw [hl, h1]) h2)
  · exact .agg _ _ hl hx

theorem rep_coe {v : Value} {x : DV} (hx : RepD S ρ h w v x) : RepD S ρ h w v x.coe := by
  cases hx with
  | d v x hx => exact .d _ _ hx
  | ptr id off b hb => exact .ptr _ _ _ hb
  | row v sz elems t hx ht hr => exact .d _ _ hx
  | agg cs fs hl hh => exact rep_mkAgg hl hh
  | clo fn p q fp fq hp hq h1 h2 => exact .clo _ _ _ _ _ hp hq h1 h2
  | tup cs fs hl hh =>
    simp only [DV.coe]
    split
    · rename_i gs hg
      obtain ⟨h1, h2⟩ := rep_flats hh hg
      exact .d _ _ (.tup _ _ (by rw [hl, h1]) h2)
    · exact .tup _ _ hl hh
  | iface t v x hh => exact .iface _ _ _ hh
  | yld id b hb => exact .yld _ _ hb
  | bslc id off n cap b hc hb => exact .bslc _ _ _ _ _ hc hb
  | rptr A p n cap elems t hx hp ht hr => exact .rptr _ _ _ _ _ _ hx hp ht hr
  | vslc b o cap id g sz off n hc ht hr => exact .vslc _ _ _ _ _ _ _ _ hc ht hr
  | eptr b o' id g k o ht hr => exact .eptr _ _ _ _ _ _ ht hr
  | mref id b hb => exact .mref _ _ hb

/-- A value's cells. -/
theorem rep_cells {v : Value} {x : DV} (hx : RepD S ρ h w v x) (h1 : x.cells.all DV.one = true) : v.cells.size = x.cells.length ∧ (∀ (j : Nat) (y : DV), x.cells[j]? = some y → RepD S ρ h w (v.cells.getD j undef) y) ∧ ∀ u ∈ v.cells.toList, u.oneCell' = true := by
  have key : v.cells.size = x.cells.length ∧ (∀ (j : Nat) (y : DV), x.cells[j]? = some y → RepD S ρ h w (v.cells.getD j undef) y) := by
    have plain : v.cells = #[v] → x.cells = [x] → v.cells.size = x.cells.length ∧ (∀ (j : Nat) (y : DV), x.cells[j]? = some y → RepD S ρ h w (v.cells.getD j undef) y) := fun e1 e2 => by
      rw [e1, e2]
      refine ⟨rfl, fun j y hy => ?_⟩
      cases j with
      | zero => simp at hy; subst hy; simpa using hx
      | succ j => simp at hy
    cases hx with
    | d v x hf =>
      cases hf with
      | agg cs fs hl hh =>
        refine ⟨by simp [Value.cells, DV.cells, hl], fun j y hy => ?_⟩
        simp only [DV.cells, List.getElem?_map, Option.map_eq_some_iff] at hy
        obtain ⟨f, hf, rfl⟩ := hy
        exact .d _ _ (hh j f hf)
      | undef v => simp [DV.cells, DV.one, FV.one] at h1
      | _ => exact plain rfl rfl
    | agg cs fs hl hh => exact ⟨by simp [Value.cells, DV.cells, hl], fun j y hy => hh j y hy⟩
    | row v sz elems t hx0 ht hr =>
      cases hx0 <;> exact plain rfl rfl
    | _ => exact plain rfl rfl
  refine ⟨key.1, key.2, fun u hu => ?_⟩
  obtain ⟨j, hj, rfl⟩ := List.getElem_of_mem hu
  have hj' : j < x.cells.length := by rw [← key.1]; simpa using hj
  have := key.2 j _ (List.getElem?_eq_getElem hj')
  have e : v.cells.getD j undef = v.cells.toList[j] := by
    rw [Array.getD_eq_getD_getElem?, Array.getElem?_eq_getElem (by simpa using hj)]
    simp
  rw [e] at this
  exact this.one ((List.all_eq_true.1 h1) _ (List.getElem_mem hj'))

theorem add_none (b o j : Nat) : (⟨b, o, none⟩ : Addr).add j = ⟨b, o + j, none⟩ := by unfold Addr.add; split <;> simp_all

theorem run_isAgg {t : TypeId} {n : Option Nat} (hn : isAggB P t = some n) : (isAgg t).run P w = .ok n.isSome w ∧ ∀ k, n = some k → (sizeOf t).run P w = .ok k w := by
  unfold isAggB at hn
  split at hn
  · rename_i h1
    simp only [Option.map_eq_some_iff] at hn
    obtain ⟨i, hi, rfl⟩ := hn
    exact ⟨by simp [isAgg, underlying, h1], fun k hk => by simp at hk; subst hk; simp [sizeOf, typeInfo, hi]⟩
  · rename_i h1
    simp only [Option.map_eq_some_iff] at hn
    obtain ⟨i, hi, rfl⟩ := hn
    exact ⟨by simp [isAgg, underlying, h1], fun k hk => by simp at hk; subst hk; simp [sizeOf, typeInfo, hi]⟩
  · rename_i d h1 h2 h3
    simp only [Option.some.injEq] at hn
    subst hn
    refine ⟨?_, fun k hk => by cases hk⟩
    cases d <;> simp_all [isAgg, underlying]
  · cases hn

def pack : Option Nat → (Nat → Value) → Value
  | none, u => u 0
  | some k, u => .agg ((List.range k).map u).toArray

/-- A variable read, its cells being known. -/
theorem run_loadVar {t : TypeId} {n : Option Nat} (hn : isAggB P t = some n) (b o : Nat) (u : Nat → Value) (hc : ∀ j, j < n.getD 1 → w.cell? ⟨b, o + j, none⟩ = some (u j)) :
    (loadVar t ⟨b, o, none⟩).run P w = .ok (pack n u) w := by
  obtain ⟨h1, h2⟩ := run_isAgg (w := w) hn
  cases n with
  | none =>
    have := hc 0 (by simp)
    simp only [Nat.add_zero] at this
    simp [loadVar, h1, this, pack]
  | some k =>
    have hk := h2 k rfl
    have hl := run_loadCells (P := P) w ⟨b, o, none⟩ k u (fun j hj => by rw [add_none]; exact hc j hj)
    simp [loadVar, h1, hk, hl, pack]

theorem rep_dload {n : Option Nat} {cells : List DV} {off : Nat} {v : DV} (u : Nat → Value) (hu : ∀ (j : Nat) (x : DV), cells[j]? = some x → RepD S ρ h w (u j) x) (hd : dload n cells off = some v) :
    off + n.getD 1 ≤ cells.length ∧ RepD S ρ h w (pack n fun j => u (off + j)) v := by
  unfold dload at hd
  cases n with
  | none =>
    simp only at hd
    have := (List.getElem?_eq_some_iff.1 hd).1
    exact ⟨by simp; omega, hu off v hd⟩
  | some k =>
    simp only at hd
    split at hd
    · rename_i hk
      simp only [Option.some.injEq] at hd
      subst hd
      refine ⟨by simpa using hk, rep_mkAgg (by simp; omega) fun j x hx => ?_⟩
      have hj : j < k := by
        have := (List.getElem?_eq_some_iff.1 hx).1
        simp at this
        omega
      rw [List.getElem?_take_of_lt hj, List.getElem?_drop] at hx
      have := hu (off + j) x hx
      simpa [Array.getD_eq_getD_getElem?, hj] using this
    · cases hd

/-- An element of a row that is stored into. -/
theorem own_elem (hi : Inv P G S ρ h w) {id sz k fz et : Nat} {l : List (List FV)} {c' : List FV} (hv : h[id]? = some (.vec sz l fz et)) (hk : l[k]? = some c') :
    ∃ b C c e, ρ[id]? = some (.vec b C sz) ∧ w.heap[b]? = some (.cells c e (0, 0)) ∧ 0 < sz ∧ k * sz + c'.length ≤ c.size ∧ c'.length = sz ∧ (∀ (j : Nat) (x : FV), c'[j]? = some x → x.one = true ∧ RepF S w (c.getD (k * sz + j) undef) x) := by
  obtain ⟨ri, r1, b, C, c, e, rfl, g2, g3, g4, g5, g6, g7, g8, g9⟩ := hi.own id _ hv
  obtain ⟨h1, h2⟩ := g9 k c' hk
  refine ⟨b, C, c, e, r1, g2, g3, ?_, h1, h2⟩
  have : k < l.length := (List.getElem?_eq_some_iff.1 hk).1
  have h3 : (k + 1) * sz ≤ C * sz := Nat.mul_le_mul_right _ (by omega)
  rw [Nat.add_mul, Nat.one_mul] at h3
  omega
/-- A pointer that can be read: where its cells lie, and what they hold. -/
theorem rep_place (hi : Inv P G S ρ h w) {v : Value} {x : DV} (hx : RepD S ρ h w v x) {cells : List DV} {off : Nat}
    (hp : (∃ fs, x = .d (.ref fs off) ∧ cells = fs.map .d) ∨ (∃ id tag, x = .ptr id off ∧ h[id]? = some (.box cells tag)) ∨ (∃ id k sz l fz et c, x = .eptr id l.length k off ∧ h[id]? = some (.vec sz l fz et) ∧ l[k]? = some c ∧ cells = c.map .d)) :
    ∃ (b o : Nat) (u : Nat → Value), v = .pointer (some ⟨b, o + off, none⟩) ∧ (∀ j, j < cells.length → w.cell? ⟨b, o + j, none⟩ = some (u j)) ∧ ∀ (j : Nat) (y : DV), cells[j]? = some y → RepD S ρ h w (u j) y := by
  rcases hp with ⟨fs, rfl, rfl⟩ | ⟨id, tag, rfl, hb⟩ | ⟨id, k, sz, l, fz, et, c', rfl, hv, hk, rfl⟩
  · have := repD_d hx
    cases this with
    | ref b o off cells u hc hr ho1 =>
      refine ⟨b, o, u, rfl, fun j hj => (hc j (by simpa using hj)).2, fun j y hy => ?_⟩
      simp only [List.getElem?_map, Option.map_eq_some_iff] at hy
      obtain ⟨f, hf, rfl⟩ := hy
      exact .d _ _ (hr j f hf)
  · cases hx with
    | ptr id off b hid =>
      obtain ⟨b', c, e, g1, g2, ⟨g3, _⟩, g4, g5⟩ := hi.box id cells _ hb
      have : b = b' := by rw [hid] at g1; simpa using g1
      subst this
      refine ⟨b, 0, fun j => c.getD j undef, by simp, fun j hj => ?_, fun j y hy => (g4 j y hy).2.2⟩
      simp only [World.cell?, g2, Nat.zero_add]
      have hj' : j < c.size := by omega
      simp [Array.getD_eq_getD_getElem?, hj']
  · obtain ⟨b, C, c, e, g1, g2, g3, g4, g5, g6⟩ := own_elem hi hv hk
    cases hx with
    | eptr b' o' _ _ _ _ ht hr =>
      obtain ⟨C', sz', q1, q2⟩ := (hr l.length (by rw [hv]; rfl)).2 rfl
      rw [g1] at q1
      simp only [Option.some.injEq, RI.vec.injEq] at q1
      obtain ⟨rfl, rfl, rfl⟩ := q1
      refine ⟨b, k * sz, fun j => c.getD (k * sz + j) undef, by rw [q2], fun j hj => ?_, fun j y hy => ?_⟩
      · simp only [World.cell?, g2]
        have hj' : k * sz + j < c.size := by simp at hj; omega
        simp [Array.getD_eq_getD_getElem?, hj']
      · simp only [List.getElem?_map, Option.map_eq_some_iff] at hy
        obtain ⟨f, hf, rfl⟩ := hy
        exact .d _ _ (g6 j f hf).2

theorem sim_load (hi : Inv P G S ρ h w) (ha : RepA S ρ h w a.tmps ad) {t : TypeId} {x : Operand} {n : Option Nat} {y : Opd} (hn : isAggB P t = some n) (ho : trOpd P 0 x = some y) {call : Cle → List DV → List Res → Option DOut} {out : DOut}
    (hd : dop call (.load n y) ad h = some out) : SimOut P G S ρ h w ((do pure (Next.value (← Instr.loadAt t (a.eval x))) : Sem Next).run P w) out := by
  have hx := rep_opd ha ho
  simp only [dop] at hd
  have key : ∀ (cells : List DV) (off : Nat) (v : DV), ((∃ fs, ev ad y = .d (.ref fs off) ∧ cells = fs.map .d) ∨ (∃ id tag, ev ad y = .ptr id off ∧ h[id]? = some (.box cells tag)) ∨ (∃ id k sz l fz et c, ev ad y = .eptr id l.length k off ∧ h[id]? = some (.vec sz l fz et) ∧ l[k]? = some c ∧ cells = c.map .d)) → dload n cells off = some v → out = .val v h →
      SimOut P G S ρ h w ((do pure (Next.value (← Instr.loadAt t (a.eval x))) : Sem Next).run P w) out := by
    intro cells off v hp hv he
    obtain ⟨b, o, u, e, hc, hr⟩ := rep_place hi hx hp
    obtain ⟨l1, l2⟩ := rep_dload u hr hv
    have hl := run_loadVar (P := P) (w := w) hn b (o + off) (fun j => u (off + j)) (fun j hj => by rw [Nat.add_assoc]; exact hc _ (by omega))
    subst he
    have e2 : ((do pure (Next.value (← Instr.loadAt t (a.eval x))) : Sem Next).run P w) = .ok (.value (pack n fun j => u (off + j))) w := by
      rw [e]
      simp only [Instr.loadAt, Instr.sureAddr, pure_bind, Sem.run_bind, hl, Result.andThen_ok, Sem.run_pure]
    rw [e2]
    exact SimOut.plain hi l2
  split at hd
  · rename_i cells off hev
    simp only [Option.map_eq_some_iff] at hd
    obtain ⟨v, hv, rfl⟩ := hd
    exact key _ off v (.inl ⟨cells, hev, rfl⟩) hv rfl
  · rename_i id off hev
    split at hd
    · rename_i cells hb
      simp only [Option.map_eq_some_iff] at hd
      obtain ⟨v, hv, rfl⟩ := hd
      exact key _ off v (.inr (.inl ⟨id, _, hev, hb⟩)) hv rfl
    · cases hd
  · rename_i id g k o hev
    split at hd
    · rename_i sz l fz et hb
      split at hd
      · rename_i hg
        subst hg
        split at hd
        · rename_i c hk
          simp only [Option.map_eq_some_iff] at hd
          obtain ⟨v, hv, rfl⟩ := hd
          exact key _ o v (.inr (.inr ⟨id, k, _, l, _, _, c, hev, hb, hk, rfl⟩)) hv rfl
        · cases hd
      · cases hd
    · cases hd
  · cases hd

end
end Go.Deepv
