/-
  Maps: each operation does what the deep machine says.
  Conditions: none.
-/
import Derived.Test.YtpemlmhggiaflaaGreatDoorKE
set_option linter.unusedVariables false
set_option linter.unusedSimpArgs false
namespace Go.Deepv
open Go.RowKit Go.MapKept

section
variable {P : Program} {G : Glob} {S : Settled} {ρ : List RI} {h : List Res} {w : World} {a : Act} {ad : List DV} {call : Cle → List DV → List Res → Option DOut} {out : DOut}

theorem bytes_eq (a b : ByteArray) : (a == b) = (a.toList == b.toList) := by
  rw [Bool.eq_iff_iff]
  constructor
  · intro h
    have : a = b := (bytes_beq a b).1 h
    subst this
    exact beq_self_eq_true _
  · intro h
    have h := eq_of_beq h
    rw [ByteArray.toList_eq, ByteArray.toList_eq] at h
    exact (bytes_beq a b).2 (ByteArray.ext (Array.ext' h))
theorem key_is {kt : TypeId} {d : TypeDesc} {kz k : FV} {v : Value} (hd : P.underlying kt = some d) (hz : keyZero P kt = some kz) (hk : keyOk kz k = true) (hr : RepF S w v k) : IsKey d v := by
  unfold keyZero at hz
  rw [hd] at hz
  split at hz
  · rename_i k0 he
    simp only [Option.some.injEq] at hz he
    subst hz
    subst he
    cases k <;> simp [keyOk] at hk
    rw [repF_int hr]
    exact hk.symm
  · rename_i he
    simp only [Option.some.injEq] at hz he
    subst hz
    subst he
    cases k <;> simp [keyOk] at hk
    rw [repF_str hr]
    trivial
  · rename_i he
    simp only [Option.some.injEq] at hz he
    subst hz
    subst he
    cases k <;> simp [keyOk] at hk
    rw [repF_bool hr]
    trivial
  · cases hz
theorem key_same {d : TypeDesc} {k k' : FV} {v v' : Value} {b : Bool} (hv : IsKey d v) (hr : RepF S w v k) (hr' : RepF S w v' k') (he : keyEq k k' = some b) : Instr.sameNow d v v' = some b := by
  cases k <;> cases k' <;> simp only [keyEq, reduceCtorEq] at he
  · split at he
    · rename_i hk
      subst hk
      rw [repF_int hr] at hv ⊢
      rw [repF_int hr']
      cases d <;> simp only [IsKey] at hv
      simp only [Instr.sameNow, if_true]
      exact he
    · cases he
  · rw [repF_bool hr] at hv ⊢
    rw [repF_bool hr']
    cases d <;> simp only [IsKey] at hv
    exact he
  · rw [repF_str hr] at hv ⊢
    rw [repF_str hr']
    cases d <;> simp only [IsKey] at hv
    simp only [Instr.sameNow, bytes_eq]
    exact he
theorem find_sim {d : TypeDesc} {k : FV} {v : Value} (hv : IsKey d v) (hr : RepF S w v k) : ∀ (l : List (FV × FV)) (es : List MapEntry) (i : Nat) (r : Option (Nat × FV)), es.length = l.length →
    (∀ (j : Nat) (k v : FV), l[j]? = some (k, v) → ∃ e, es[j]? = some e ∧ RepF S w e.key k ∧ RepF S w e.val v) → findE k l i = some r →
    (r = none ∧ Instr.findNow d v es i = some none) ∨ ∃ j x e, r = some (i + j, x) ∧ j < l.length ∧ es[j]? = some e ∧ e.key = v ∧ RepF S w e.val x ∧ Instr.findNow d v es i = some (some (i + j, e.val))
  | [], es, i, r, hl, _, hf => by
    have : es = [] := List.eq_nil_of_length_eq_zero hl
    subst this
    simp only [findE, Option.some.injEq] at hf
    exact .inl ⟨hf.symm, rfl⟩
  | (k', x) :: l, es, i, r, hl, hm, hf => by
    cases es with
    | nil => simp at hl
    | cons e es =>
      obtain ⟨e', he', hk, hx⟩ := hm 0 k' x rfl
      simp only [List.getElem?_cons_zero, Option.some.injEq] at he'
      subst he'
      simp only [findE] at hf
      split at hf
      · rename_i hb
        have hs := key_same hv hr hk hb
        simp only [Option.some.injEq] at hf
        subst hf
        refine .inr ⟨0, x, e, rfl, by simp, rfl, ?_, hx, by simp [Instr.findNow, hs]⟩
        cases k <;> cases k' <;> simp only [keyEq, reduceCtorEq] at hb
        · split at hb
          · rename_i hkk
            subst hkk
            simp only [Option.some.injEq, beq_iff_eq] at hb
            subst hb
            rw [repF_int hk, repF_int hr]
          · cases hb
        · simp only [Option.some.injEq, beq_iff_eq] at hb
          subst hb
          rw [repF_bool hk, repF_bool hr]
        · simp only [Option.some.injEq, beq_iff_eq] at hb
          rw [repF_str hk, repF_str hr]
          congr 1
          rw [ByteArray.toList_eq, ByteArray.toList_eq] at hb
          exact (ByteArray.ext (Array.ext' hb)).symm
      · rename_i hb
        have hs := key_same hv hr hk hb
        rcases find_sim hv hr l es (i + 1) r (by simpa using hl) (fun j k v hj => by simpa using hm (j + 1) k v (by simpa using hj)) hf with ⟨h1, h2⟩ | ⟨j, y, e', h1, h2, h3, h4, h5, h6⟩
        · exact .inl ⟨h1, by simp [Instr.findNow, hs, h2]⟩
        · exact .inr ⟨j + 1, y, e', by rw [h1]; congr 2; omega, by simp; omega, by simpa using h3, h4, h5, by simp [Instr.findNow, hs, h6]; omega⟩
      · cases hf

theorem sim_mkmap (hi : Inv P G S ρ h w) {t : TypeId} (hd : dop call .mkmap ad h = some out) : SimOut P G S ρ h w ((do pure (Next.value (← Instr.makeMap t none)) : Sem Next).run P w) out := by
  simp only [dop, Option.some.injEq] at hd
  subst hd
  rw [run_v (run_makeMap t w)]
  have E := ext_alloc hi (.map #[] 0) (fun _ => False) [.box w.heap.size] [.map []] (fun r b hr hb => by simp at hr; subst hr; simpa [RI.block] using hb.symm)
  refine ⟨_, _, _, _, .inl rfl, .mref _ _ (by rw [← hi.len]; simp), E, inv_alloc_old hi _ (fun _ => False) _ _ (fun r b hr hb => by simp at hr; subst hr; simpa [RI.block] using hb.symm) rfl ?_ ?_ ?_ ?_ ?_ ?_ ?_⟩
  · intro i j b r r' hr hr' _ _
    have a1 := (List.getElem?_eq_some_iff.1 hr).1
    have a2 := (List.getElem?_eq_some_iff.1 hr').1
    simp at a1 a2
    omega
  all_goals try (intro i; intros; rename_i hc; rcases i with _ | i <;> simp at hc; done)
  intro i r hc
  rcases i with _ | i
  · simp at hc
    subst hc
    refine ⟨_, rfl, w.heap.size, #[], 0, rfl, heap_alloc_at _ _, rfl, fun o ho => ?_, fun j k v hj => by simp at hj⟩
    rcases ho with ho | ho
    · have := hi.bound _ _ ho
      omega
    · exact ho.2
  · simp at hc

/-- A map: where it lies. -/
theorem map_at (hi : Inv P G S ρ h w) {v : Value} {id : Nat} {l : List (FV × FV)} (hx : RepD S ρ h w v (.mref id)) (hm : h[id]? = some (.map l)) :
    ∃ b es ck, v = .map (some b) ∧ ρ[id]? = some (.box b) ∧ w.heap[b]? = some (.map es ck) ∧ es.size = l.length ∧ (∀ o, ¬ S b o) ∧ ∀ (j : Nat) (k v : FV), l[j]? = some (k, v) → ∃ e, es.toList[j]? = some e ∧ RepF S w e.key k ∧ RepF S w e.val v := by
  obtain ⟨ri, r1, b, es, ck, rfl, g2, g3, g4, g5⟩ := hi.own id _ hm
  cases hx with
  | mref _ b' hb =>
    rw [r1] at hb
    simp only [Option.some.injEq, RI.box.injEq] at hb
    subst hb
    exact ⟨b, es, ck, rfl, r1, g2, g3, g4, fun j k v hj => by simpa using g5 j k v hj⟩

theorem sim_mlook (hi : Inv P G S ρ h w) (ha : RepA S ρ h w a.tmps ad) {t kt et : TypeId} {info : TypeInfo} {zv : Value} {x i : Operand} {x' i' : Opd} {kz zf : FV} {comma : Bool} (ht : P.underlying t = some (.map kt et)) (hinf : P.info? et = some info) (hz : info.zero = some zv) (hzf : trConst P et zv = some zf) (hkz : keyZero P kt = some kz)
    {t1 t2 : TypeId} (h1 : trOpd P t1 x = some x') (h2 : trOpd P t2 i = some i') (hd : dop call (.mlook comma kz zf x' i') ad h = some out) :
    SimOut P G S ρ h w ((do pure (Next.value (← Instr.lookup t (a.eval x) (a.eval i) comma)) : Sem Next).run P w) out := by
  have g1 := rep_opd ha h1
  have g2 := rep_opd ha h2
  have gz : RepF S w zv zf := rep_trConst hzf
  simp only [dop] at hd
  split at hd
  · rename_i id k e1 e2
    split at hd
    · rename_i hko
      split at hd
      · rename_i l hm
        rw [e1] at g1
        rw [e2] at g2
        obtain ⟨b, es, ck, hv, r1, b2, b3, b4, b5⟩ := map_at hi g1 hm
        have gk := repD_d g2
        obtain ⟨d, hkd⟩ : ∃ d, P.underlying kt = some d := by
          unfold keyZero at hkz
          cases hh : P.underlying kt with
          | none => rw [hh] at hkz; simp at hkz
          | some d => exact ⟨d, rfl⟩
        have hik := key_is hkd hkz hko gk
        rw [hv]
        generalize a.eval i = vi at *
        have fs := fun r hf => find_sim hik gk l es.toList 0 r (by simpa using b3) b5 hf
        have two : ∀ (u : Value) (y : FV) (c : Bool), RepF S w u y → RepF S w (.tuple #[u, .bool c]) (.tup [y, .bool c]) := fun u y c hu => .tup _ _ rfl fun j z hz => by
          match j, hz with
          | 0, hz => simp at hz; subst hz; exact hu
          | 1, hz => simp at hz; subst hz; exact .bool _
          | j + 2, hz => simp at hz
        split at hd
        · rename_i j0 v0 hf
          simp only [Option.some.injEq] at hd
          subst hd
          rcases fs _ hf with ⟨h, _⟩ | ⟨j, y, e, h1, h2, h3, h4, h5, h6⟩
          · cases h
          · simp only [Option.some.injEq, Prod.mk.injEq] at h1
            obtain ⟨rfl, rfl⟩ := h1
            have run : (Instr.lookup t (.map (some b)) vi comma).run P w = .ok (if comma then .tuple #[e.val, .bool true] else e.val) w := by
              simp [Instr.lookup, run_underlying ht, Go.MapKept.run_getObj_map b2, Go.MapKept.run_checkKey hkd hik, Go.MapKept.run_findKey hkd h6, Result.andThen]
            rw [run_v run]
            cases comma with
            | true => exact SimOut.plain hi (.d _ _ (two _ _ _ h5))
            | false => exact SimOut.plain hi (.d _ _ h5)
        · rename_i hf
          simp only [Option.some.injEq] at hd
          subst hd
          rcases fs _ hf with ⟨_, h6⟩ | ⟨j, y, e, h1, _⟩
          · have run : (Instr.lookup t (.map (some b)) vi comma).run P w = .ok (if comma then .tuple #[zv, .bool false] else zv) w := by
              simp [Instr.lookup, run_underlying ht, Go.MapKept.run_getObj_map b2, Go.MapKept.run_checkKey hkd hik, Go.MapKept.run_findKey hkd h6, Result.andThen, zeroValue, typeInfo, hinf, hz]
            rw [run_v run]
            cases comma with
            | true => exact SimOut.plain hi (.d _ _ (two _ _ _ gz))
            | false => exact SimOut.plain hi (.d _ _ gz)
          · cases h1
        · cases hd
      · cases hd
    · cases hd
  · cases hd

/-- A map has turned. -/
theorem map_set (hi : Inv P G S ρ h w) {id b ck ck' : Nat} {es es' : Array MapEntry} {l l' : List (FV × FV)} (hm : h[id]? = some (.map l)) (r1 : ρ[id]? = some (.box b)) (b2 : w.heap[b]? = some (.map es ck)) (b4 : ∀ o, ¬ S b o)
    (hs : es'.size = l'.length) (hr : ∀ (j : Nat) (k v : FV), l'[j]? = some (k, v) → ∃ e, es'[j]? = some e ∧ RepF S w e.key k ∧ RepF S w e.val v) :
    Ext S ρ h w S ρ (h.set id (.map l')) { w with heap := w.heap.setIfInBounds b (.map es' ck') } ∧ Inv P G S ρ (h.set id (.map l')) { w with heap := w.heap.setIfInBounds b (.map es' ck') } := by
  have hidl : id < h.length := (List.getElem?_eq_some_iff.1 hm).1
  obtain ⟨s1, s2⟩ := Go.MapKept.heap_set (w := w) (o' := .map es' ck') b2
  have hset : ρ.set id (.box b) = ρ := set_self _ _ _ r1
  have hbl : b < w.heap.size := (Array.getElem?_eq_some_iff.1 b2).1
  generalize hw' : ({ w with heap := w.heap.setIfInBounds b (.map es' ck') } : World) = w'
  have hh : w'.heap = w.heap.setIfInBounds b (.map es' ck') := by rw [← hw']
  have E : Ext S ρ h w S (ρ.set id (.box b)) (h.set id (.map l')) w' := by
    rw [hset]
    exact { Ext.refl S ρ h w with
      cells := fun b' x hs => by
        have : b' ≠ b := by rintro rfl; exact b4 x hs
        exact cell?_heap (by rw [hh]; exact s2 b' this)
      len := by simp
      rows := fun t' n' ht' hn => by
        by_cases e : t' = id
        · subst e
          rw [List.getElem?_set_self ht'] at hn
          simp [Res.tip] at hn
        · rw [List.getElem?_set_ne (Ne.symm e)] at hn
          exact ⟨n', hn, Nat.le_refl _, fun _ => rfl⟩
      size := by rw [hh]; simp
      os := by rw [← hw']
      tape := by rw [← hw']
      output := by rw [← hw']
      frame := fun b' hb hn => by rw [hh]; exact s2 b' (by rintro rfl; exact hn id _ r1 rfl) }
  have I : Inv P G S (ρ.set id (.box b)) (h.set id (.map l')) w' := by
    refine inv_upd hi hidl E (fun i b' r hne hr9 hbk => ?_) (fun b' o' hs => by rw [hh]; simpa using hi.bound b' o' hs) (fun b' hbk => ?_) (fun cells' tag' hce => by cases hce) (fun hh => by cases hh) (fun _ _ _ hh => by cases hh) (fun _ _ hh => by cases hh) (fun _ _ _ _ _ hh => by cases hh) ?_
    · have : b' ≠ b := by rintro rfl; exact hne (hi.apart i id _ r _ hr9 r1 hbk rfl)
      exact ⟨by rw [hh]; exact s2 b' this, fun o ho => ho⟩
    · simp [RI.block] at hbk
      subst hbk
      exact ⟨by rw [hh]; simpa using hbl, fun i r hne hr9 hbk => hne (hi.apart i id _ r _ hr9 r1 hbk rfl)⟩
    · refine ⟨b, es', ck', rfl, by rw [hh]; exact s1, hs, b4, fun j k v hj => ?_⟩
      obtain ⟨e, e1, e2, e3⟩ := hr j k v hj
      exact ⟨e, e1, e2.mono E.settled E.cells, e3.mono E.settled E.cells⟩
  rw [hset] at E I
  exact ⟨E, I⟩

theorem sim_mupd (hi : Inv P G S ρ h w) (ha : RepA S ρ h w a.tmps ad) {t kt et : TypeId} {m k v : Operand} {m' k' v' : Opd} {kz : FV} (ht : P.underlying t = some (.map kt et)) (hkz : keyZero P kt = some kz)
    {t1 t2 t3 : TypeId} (h1 : trOpd P t1 m = some m') (h2 : trOpd P t2 k = some k') (h3 : trOpd P t3 v = some v') (hd : dop call (.mupd kz m' k' v') ad h = some out) :
    SimOut P G S ρ h w ((do Instr.mapUpdate t (a.eval m) (a.eval k) (a.eval v); pure Next.skip : Sem Next).run P w) out := by
  have g1 := rep_opd ha h1
  have g2 := rep_opd ha h2
  have g3 := rep_opd ha h3
  simp only [dop] at hd
  split at hd
  · rename_i id kk vv e1 e2 e3
    split at hd
    · rename_i hko
      split at hd
      · rename_i l hm
        rw [e1] at g1
        rw [e2] at g2
        have gv := rep_unnil (rep_flat g3 e3)
        obtain ⟨b, es, ck, hv, r1, b2, b3, b4, b5⟩ := map_at hi g1 hm
        have gk := repD_d g2
        obtain ⟨d, hkd⟩ : ∃ d, P.underlying kt = some d := by
          unfold keyZero at hkz
          cases hh : P.underlying kt with
          | none => rw [hh] at hkz; simp at hkz
          | some d => exact ⟨d, rfl⟩
        have hik := key_is hkd hkz hko gk
        rw [hv]
        generalize a.eval k = vk at *
        generalize a.eval v = vu at *
        have fs := fun r hf => find_sim hik gk l es.toList 0 r (by simpa using b3) b5 hf
        split at hd
        · rename_i j0 v0 hf
          simp only [Option.some.injEq] at hd
          subst hd
          rcases fs _ hf with ⟨h, _⟩ | ⟨j, y, e, q1, q2, q3, q4, q5, q6⟩
          · cases h
          · simp only [Option.some.injEq, Prod.mk.injEq, Nat.zero_add] at q1
            obtain ⟨rfl, rfl⟩ := q1
            have hj : es[j0]? = some e := by simpa using q3
            have run : (do Instr.mapUpdate t (.map (some b)) vk vu; pure Next.skip : Sem Next).run P w = .ok .skip { w with heap := w.heap.setIfInBounds b (.map (es.modify j0 fun e => { e with key := vk, val := vu }) ck) } := by
              simp [Instr.mapUpdate, run_underlying ht, Go.MapKept.run_getObj_map b2, Go.MapKept.run_checkKey hkd hik, Go.MapKept.run_findKey hkd q6, hj, q4, Go.MapKept.run_keyThatStays hik, Go.MapKept.run_setObj_map _ b2, Result.andThen]
            rw [run]
            obtain ⟨E, I⟩ := map_set (ck' := ck) (es' := es.modify j0 fun e => { e with key := vk, val := vu }) (l' := l.set j0 (kk, unnil vv)) hi hm r1 b2 b4 (by simp [b3]) (fun j k v hj' => by
              by_cases hjj : j = j0
              · subst hjj
                rw [List.getElem?_set_self q2] at hj'
                simp only [Option.some.injEq, Prod.mk.injEq] at hj'
                obtain ⟨rfl, rfl⟩ := hj'
                exact ⟨{ e with key := vk, val := vu }, by simp [Array.getElem?_modify, hj], gk, gv⟩
              · rw [List.getElem?_set_ne (Ne.symm hjj)] at hj'
                obtain ⟨e', h1, h2, h3⟩ := b5 j k v hj'
                exact ⟨e', by rw [Array.getElem?_modify, if_neg (Ne.symm hjj)]; simpa using h1, h2, h3⟩)
            exact ⟨undef, _, S, ρ, .inr ⟨rfl, rfl⟩, .d _ _ (.tup #[] [] rfl (fun j y hy => by simp at hy)), E, I⟩
        · rename_i hf
          simp only [Option.some.injEq] at hd
          subst hd
          rcases fs _ hf with ⟨_, q6⟩ | ⟨j, y, e, q1, _⟩
          · have run : (do Instr.mapUpdate t (.map (some b)) vk vu; pure Next.skip : Sem Next).run P w = .ok .skip { w with heap := w.heap.setIfInBounds b (.map (es.push { key := vk, val := vu, born := ck }) (ck + 1)) } := by
              simp [Instr.mapUpdate, run_underlying ht, Go.MapKept.run_getObj_map b2, Go.MapKept.run_checkKey hkd hik, Go.MapKept.run_findKey hkd q6, Go.MapKept.run_setObj_map _ b2, Result.andThen]
            rw [run]
            obtain ⟨E, I⟩ := map_set (ck' := ck + 1) (es' := es.push { key := vk, val := vu, born := ck }) (l' := l ++ [(kk, unnil vv)]) hi hm r1 b2 b4 (by simp [b3]) (fun j k v hj' => by
              rcases Nat.lt_or_ge j l.length with hjl | hjl
              · rw [List.getElem?_append_left hjl] at hj'
                obtain ⟨e', h1, h2, h3⟩ := b5 j k v hj'
                exact ⟨e', by rw [Array.getElem?_push, if_neg (by omega)]; simpa using h1, h2, h3⟩
              · rw [List.getElem?_append_right hjl] at hj'
                have := (List.getElem?_eq_some_iff.1 hj').1
                simp at this
                have hj0 : j = l.length := by omega
                subst hj0
                simp at hj'
                obtain ⟨rfl, rfl⟩ := hj'
                exact ⟨_, by rw [← b3, Array.getElem?_push_size], gk, gv⟩)
            exact ⟨undef, _, S, ρ, .inr ⟨rfl, rfl⟩, .d _ _ (.tup #[] [] rfl (fun j y hy => by simp at hy)), E, I⟩
          · cases q1
        · cases hd
      · cases hd
    · cases hd
  · cases hd
end
end Go.Deepv
