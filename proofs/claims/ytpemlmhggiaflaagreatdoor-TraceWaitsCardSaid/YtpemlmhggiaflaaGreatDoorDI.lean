/-
  Operations that turn memory: stores into a variable of the call's own, appends to a row of the call's own.
  Conditions: none.
-/
import Derived.Test.YtpemlmhggiaflaaGreatDoorDH
set_option linter.unusedVariables false
set_option linter.unusedSimpArgs false
namespace Go.Deepv
open Go.RowKit

section
variable {P : Program} {G : Glob} {S S' : Settled} {ρ : List RI} {h : List Res} {w w' : World} {a : Act} {ad : List DV} {call : Cle → List DV → List Res → Option DOut} {out : DOut}

/-- One thing of the call's own has turned. -/
theorem inv_upd (hi : Inv P G S ρ h w) {id : Nat} {r' : Res} {ri' : RI} (hid : id < h.length) (E : Ext S ρ h w S' (ρ.set id ri') (h.set id r') w')
    (hoth : ∀ (i b : Nat) (r : RI), i ≠ id → ρ[i]? = some r → r.block = some b → w'.heap[b]? = w.heap[b]? ∧ ∀ o, S' b o → S b o)
    (hb : ∀ b o, S' b o → b < w'.heap.size)
    (hri : ∀ b, ri'.block = some b → b < w'.heap.size ∧ ∀ (i : Nat) (r : RI), i ≠ id → ρ[i]? = some r → r.block ≠ some b)
    (hbox : ∀ cells tag, r' = .box cells tag → ∃ b c e, ri' = .box b ∧ w'.heap[b]? = some (.cells c e (0, 0)) ∧ (c.size = cells.length ∧ (tag = 0 ∨ e = tag)) ∧
      (∀ (j : Nat) (x : DV), cells[j]? = some x → x.one = true ∧ x.low (id + 1) = true ∧ RepD S' (ρ.set id ri') (h.set id r') w' (c.getD j undef) x) ∧ ∀ o, ¬ S' b o)
    (hnil : r' = .nilrow → ri' = .row (.slice none 0 0))
    (hrow : ∀ sz n et, r' = .row sz n et → ∃ b o cap c e, ri' = .row (.slice (some ⟨b, o, none⟩) n cap) ∧ w'.heap[b]? = some (.cells c e (0, 0)) ∧ (0 < sz ∧ (et = 0 ∨ (e = et ∧ o = 0))) ∧ n ≤ cap ∧ o + cap * sz ≤ c.size ∧ ∀ x, o + n * sz ≤ x → ¬ S' b x)
    (hiter : ∀ s pos, r' = .iter s pos → ∃ b, ri' = .box b ∧ w'.heap[b]? = some (.stringIter s pos))
    (hloop : ∀ ps as bd snap st, r' = .loop ps as bd snap st → ∃ b r, ri' = .box b ∧ w'.heap[b]? = some (.loop r) ∧ LoopOk P ps as bd st r ∧ r.tmps.size = snap.length ∧
      (∀ (j : Nat) (x : DV), snap[j]? = some x → x.low id = true ∧ RepD S' (ρ.set id ri') (h.set id r') w' (r.tmps.getD j undef) x) := by intro ps as bd snap st hc; cases hc)
    (hown : OwnOk S' w' ri' r' := by trivial) : Inv P G S' (ρ.set id ri') (h.set id r') w' := by
  have hid' : id < ρ.length := by rw [hi.len]; exact hid
  have look : ∀ (i : Nat) (r : Res), (h.set id r')[i]? = some r → (i = id ∧ r = r') ∨ (i ≠ id ∧ h[i]? = some r) := fun i r hr => by
    by_cases e : i = id
    · subst e
      rw [List.getElem?_set_self hid] at hr
      exact .inl ⟨rfl, by simpa using hr.symm⟩
    · rw [List.getElem?_set_ne (Ne.symm e)] at hr
      exact .inr ⟨e, hr⟩
  have lookρ : ∀ (i : Nat) (r : RI), (ρ.set id ri')[i]? = some r → (i = id ∧ r = ri') ∨ (i ≠ id ∧ ρ[i]? = some r) := fun i r hr => by
    by_cases e : i = id
    · subst e
      rw [List.getElem?_set_self hid'] at hr
      exact .inl ⟨rfl, by simpa using hr.symm⟩
    · rw [List.getElem?_set_ne (Ne.symm e)] at hr
      exact .inr ⟨e, hr⟩
  have at_ : (ρ.set id ri')[id]? = some ri' := List.getElem?_set_self hid'
  have ne_ : ∀ i, i ≠ id → (ρ.set id ri')[i]? = ρ[i]? := fun i e => List.getElem?_set_ne (Ne.symm e)
  constructor
  · simp [hi.len]
  · exact hb
  · exact fun b x v g => ⟨E.settled _ _ (hi.glob b x v g).1, (E.cells _ _ (hi.glob b x v g).1).trans (hi.glob b x v g).2⟩
  · intro i b r hr hbl
    rcases lookρ i r hr with ⟨rfl, rfl⟩ | ⟨_, hr⟩
    · exact (hri b hbl).1
    · exact Nat.lt_of_lt_of_le (hi.low i b r hr hbl) E.size
  · intro i j b r r0 hr hr0 hbl hbl0
    rcases lookρ i r hr with ⟨ei, er⟩ | ⟨hne, hr2⟩ <;> rcases lookρ j r0 hr0 with ⟨ej, er0⟩ | ⟨hne0, hr3⟩
    · rw [ei, ej]
    · exact absurd hbl0 ((hri b (by rw [← er]; exact hbl)).2 j r0 hne0 hr3)
    · exact absurd hbl ((hri b (by rw [← er0]; exact hbl0)).2 i r hne hr2)
    · exact hi.apart i j b r r0 hr2 hr3 hbl hbl0
  · intro i cells tag hc
    rcases look i _ hc with ⟨rfl, e⟩ | ⟨hne, hc⟩
    · obtain ⟨b, c, e', g1, g⟩ := hbox cells _ e.symm
      exact ⟨b, c, e', by rw [at_, g1], g⟩
    · obtain ⟨b, c, e', g1, g2, g3, g4, g5⟩ := hi.box i cells _ hc
      obtain ⟨o1, o2⟩ := hoth i b _ hne g1 rfl
      exact ⟨b, c, e', by rw [ne_ i hne]; exact g1, by rw [o1]; exact g2, g3, fun j x hx => ⟨(g4 j x hx).1, (g4 j x hx).2.1, (g4 j x hx).2.2.mono E⟩, fun o ho => g5 o (o2 o ho)⟩
  · intro i hc
    rcases look i _ hc with ⟨rfl, e⟩ | ⟨hne, hc⟩
    · rw [at_, hnil e.symm]
    · rw [ne_ i hne]; exact hi.nilrow i hc
  · intro i sz n et hc
    rcases look i _ hc with ⟨rfl, e⟩ | ⟨hne, hc⟩
    · obtain ⟨b, o, cap, c, e', g1, g⟩ := hrow sz n et e.symm
      exact ⟨b, o, cap, c, e', by rw [at_, g1], g⟩
    · obtain ⟨b, o, cap, c, e', g1, g2, g3, g4, g5, g7⟩ := hi.row i sz n et hc
      obtain ⟨o1, o2⟩ := hoth i b _ hne g1 rfl
      exact ⟨b, o, cap, c, e', by rw [ne_ i hne]; exact g1, by rw [o1]; exact g2, g3, g4, g5, fun x hx hs => g7 x hx (o2 x hs)⟩
  · intro i s pos hc
    rcases look i _ hc with ⟨rfl, e⟩ | ⟨hne, hc⟩
    · obtain ⟨b, g1, g⟩ := hiter s pos e.symm
      exact ⟨b, by rw [at_, g1], g⟩
    · obtain ⟨b, g1, g2⟩ := hi.iter i s pos hc
      exact ⟨b, by rw [ne_ i hne]; exact g1, by rw [(hoth i b _ hne g1 rfl).1]; exact g2⟩
  · intro i ps as bd snap st hc
    rcases look i _ hc with ⟨rfl, e⟩ | ⟨hne, hc⟩
    · obtain ⟨b, r, g1, g⟩ := hloop ps as bd snap st e.symm
      exact ⟨b, r, by rw [at_, g1], g⟩
    · obtain ⟨b, r, g1, g2, g3, g4, g5⟩ := hi.loop i ps as bd snap st hc
      exact ⟨b, r, by rw [ne_ i hne]; exact g1, by rw [(hoth i b _ hne g1 rfl).1]; exact g2, g3, g4, fun j x hx => ⟨(g5 j x hx).1, (g5 j x hx).2.mono E⟩⟩
  · intro i r hc
    rcases look i _ hc with ⟨rfl, rfl⟩ | ⟨hne, hc⟩
    · exact ⟨_, at_, hown⟩
    · obtain ⟨ri, g1, g2⟩ := hi.own i r hc
      exact ⟨ri, by rw [ne_ i hne]; exact g1, g2.mono E.settled E.cells fun b hb => hoth i b _ hne g1 hb⟩

theorem set_self {α : Type} : ∀ (l : List α) (i : Nat) (x : α), l[i]? = some x → l.set i x = l
  | [], i, x, h => by simp at h
  | y :: l, 0, x, h => by simp at h; simp [h]
  | y :: l, i + 1, x, h => by simp only [List.set_cons_succ]; rw [set_self l i x (by simpa using h)]

theorem coe_one (x : DV) : x.coe.one = x.one := by
  cases x with
  | agg cs =>
    simp only [DV.coe, DV.mkAgg]
    split <;> rfl
  | tup vs =>
    simp only [DV.coe]
    split <;> rfl
  | _ => rfl
theorem rep_lowCells {k : Nat} {v : Value} {x : DV} (hx : RepD S ρ h w v x) (h1 : (lowCells k x.cells).all DV.one = true) : v.cells.size = (lowCells k x.cells).length ∧ (∀ (j : Nat) (y : DV), (lowCells k x.cells)[j]? = some y → RepD S ρ h w (v.cells.getD j undef) y) ∧ ∀ u ∈ v.cells.toList, u.oneCell' = true := by
  unfold lowCells at h1 ⊢
  split at h1
  · rename_i hl
    simp only [if_pos hl]
    exact rep_cells hx h1
  · rename_i hl
    simp only [if_neg hl]
    have h2 : x.cells.all DV.one = true := by
      rw [List.all_map] at h1
      simpa [Function.comp_def, coe_one] using h1
    obtain ⟨c1, c2, c3⟩ := rep_cells hx h2
    refine ⟨by simp [c1], fun j y hy => ?_, c3⟩
    simp only [List.getElem?_map, Option.map_eq_some_iff] at hy
    obtain ⟨z, hz, rfl⟩ := hy
    exact rep_coe (c2 j z hz)

theorem sim_put (hi : Inv P G S ρ h w) {t : TypeId} {info : TypeInfo} {vx vv : Value} {id off tag : Nat} {cells cs new : List DV} (hinf : P.info? t = some info) (g1 : RepD S ρ h w vx (.ptr id off)) (hcells : h[id]? = some (.box cells tag))
    (c1 : vv.cells.size = new.length) (c2 : ∀ (j : Nat) (y : DV), new[j]? = some y → RepD S ρ h w (vv.cells.getD j undef) y) (c3 : ∀ u ∈ vv.cells.toList, u.oneCell' = true)
    (hlen : new.length = info.size) (hlow : DV.lows (id + 1) new = true) (hput : putCells cells off new = some cs) :
    SimOut P G S ρ h w ((do Instr.storeAt t vx vv; pure Next.skip : Sem Next).run P w) (.val (.d (.tup [])) (h.set id (.box cs tag))) := by
  unfold putCells at hput
  split at hput
  · rename_i hput'
    obtain ⟨hfit, hone⟩ := hput'
    have hcs := Option.some.inj hput
    obtain ⟨b, c, e, b1, b2, ⟨b3, btag⟩, b4, b5⟩ := hi.box id cells _ hcells
    cases g1 with
    | ptr id off b' hb' =>
      have hbb : b' = b := by rw [b1] at hb'; simpa using hb'.symm
      subst hbb
      have hidl : id < h.length := (List.getElem?_eq_some_iff.1 hcells).1
      have run := run_storeCells_at P b' off e vv.cells.toList 0 c w b2 (by simp; omega) c3
      simp only [Nat.add_zero] at run
      generalize hc' : (c.toList.take off ++ vv.cells.toList ++ c.toList.drop (off + vv.cells.toList.length)).toArray = c' at run
      have hrun : (do Instr.storeAt t (.pointer (some ⟨b', off, none⟩)) vv; pure Next.skip : Sem Next).run P w = .ok .skip (w.setRow b' c') := by
        simp [Instr.storeAt, Instr.sureAddr, storeVar, sizeOf, typeInfo, hinf, c1, hlen, run]
      rw [hrun]
      have size' : c'.size = cs.length := by
        rw [← hc', ← hcs]
        simp only [List.size_toArray, List.length_append, List.length_take, List.length_drop, Array.length_toList]
        omega
      have hbl : b' < w.heap.size := (Array.getElem?_eq_some_iff.1 b2).1
      have hset : ρ.set id (.box b') = ρ := set_self _ _ _ b1
      have E : Ext S ρ h w S (ρ.set id (.box b')) (h.set id (.box cs tag)) (w.setRow b' c') := by
        rw [hset]
        exact { Ext.refl S ρ h w with
          cells := fun b o hs => by
            rw [cell_setRow_other _ _ _ _ (by intro hh; exact b5 o (by simp at hh; rw [← hh]; exact hs))]
          len := by simp
          rows := fun t n' ht hn => by
            by_cases e : t = id
            · subst e
              rw [List.getElem?_set_self ht] at hn
              simp [Res.tip] at hn
            · rw [List.getElem?_set_ne (Ne.symm e)] at hn
              exact ⟨n', hn, Nat.le_refl _, fun _ => rfl⟩
          size := by simp
          os := rfl
          tape := rfl
          output := rfl
          frame := fun b hb hn => setRow_other _ _ _ _ (by rintro rfl; exact hn id _ b1 rfl) }
      have I : Inv P G S (ρ.set id (.box b')) (h.set id (.box cs tag)) (w.setRow b' c') := by
        refine inv_upd hi hidl E (fun i b r hne hr hbk => ?_) (fun b o hs => by simpa using hi.bound b o hs) (fun b hbk => ?_) (fun cells' tag' hce => ?_) (fun hh => by cases hh) (fun _ _ _ hh => by cases hh) (fun _ _ hh => by cases hh)
        · have : b ≠ b' := by rintro rfl; exact hne (hi.apart i id _ r _ hr b1 hbk rfl)
          exact ⟨setRow_other _ _ _ _ this, fun o ho => ho⟩
        · simp [RI.block] at hbk
          subst hbk
          refine ⟨by simpa using hbl, fun i r hne hr hbk => hne (hi.apart i id _ r _ hr b1 hbk rfl)⟩
        · simp only [Res.box.injEq] at hce
          obtain ⟨rfl, rfl⟩ := hce
          refine ⟨b', c', e, rfl, setRow_heap _ _ _ _ _ _ b2, ⟨size', btag⟩, fun j y hy => ?_, b5⟩
          have look : (cs[j]? = some y ∧ (j < off ∨ off + new.length ≤ j) ∧ cells[j]? = some y ∧ c'.getD j undef = c.getD j undef) ∨ (∃ k, j = off + k ∧ new[k]? = some y ∧ c'.getD j undef = vv.cells.getD k undef) := by
            have hl1 : (cells.take off).length = off := by simp; omega
            have hl2 : (c.toList.take off).length = off := by simp; omega
            have hl3 : vv.cells.toList.length = new.length := by simpa using c1
            have hcg : c'.getD j undef = ((c.toList.take off ++ vv.cells.toList ++ c.toList.drop (off + vv.cells.toList.length))[j]?).getD undef := by
              rw [← hc']; simp [Array.getD_eq_getD_getElem?]
            rw [hcg]
            rw [← hcs] at hy ⊢
            rcases Nat.lt_or_ge j off with hj | hj
            · rw [List.append_assoc, List.getElem?_append_left (by omega), List.getElem?_take_of_lt hj] at hy
              refine .inl ⟨by rw [List.append_assoc, List.getElem?_append_left (by omega), List.getElem?_take_of_lt hj]; exact hy, .inl hj, hy, ?_⟩
              rw [List.append_assoc, List.getElem?_append_left (by omega), List.getElem?_take_of_lt hj]
              simp [Array.getD_eq_getD_getElem?]
            · rcases Nat.lt_or_ge j (off + new.length) with hj2 | hj2
              · refine .inr ⟨j - off, by omega, ?_, ?_⟩
                · rw [List.append_assoc, List.getElem?_append_right (by omega), hl1, List.getElem?_append_left (by omega)] at hy
                  exact hy
                · rw [List.append_assoc, List.getElem?_append_right (by omega), hl2, List.getElem?_append_left (by omega)]
                  simp [Array.getD_eq_getD_getElem?]
              · rw [List.getElem?_append_right (by simp; omega)] at hy
                have e3 : off + new.length + (j - (cells.take off ++ new).length) = j := by simp; omega
                rw [List.getElem?_drop, e3] at hy
                refine .inl ⟨by rw [List.getElem?_append_right (by simp; omega), List.getElem?_drop, e3]; exact hy, .inr hj2, hy, ?_⟩
                rw [List.getElem?_append_right (by simp at hl3 ⊢; omega), List.getElem?_drop]
                have e4 : off + vv.cells.toList.length + (j - (c.toList.take off ++ vv.cells.toList).length) = j := by simp at hl3 ⊢; omega
                rw [e4]
                simp [Array.getD_eq_getD_getElem?]
          rcases look with ⟨_, _, hy', hg⟩ | ⟨k, rfl, hy', hg⟩
          · rw [hg]
            exact ⟨(b4 j y hy').1, (b4 j y hy').2.1, (b4 j y hy').2.2.mono E⟩
          · rw [hg]
            exact ⟨(List.all_eq_true.1 hone) _ (List.mem_of_getElem? hy'), DV.lows_at hlow hy', (c2 k y hy').mono E⟩
      rw [hset] at E I
      exact ⟨undef, _, S, ρ, .inr ⟨rfl, rfl⟩, .d _ _ (.tup #[] [] rfl (fun j y hy => by simp at hy)), E, I⟩
  · cases hput

theorem rep_flatCells {v : Value} {x : DV} (hx : RepD S ρ h w v x) {cs : List FV} (hf : flatCells x = some cs) (h1 : cs.all FV.one = true) : v.cells.size = cs.length ∧ ∀ (j : Nat) (y : FV), cs[j]? = some y → RepF S w (v.cells.getD j undef) y := by
  unfold flatCells at hf
  have hone : x.cells.all DV.one = true := by
    rw [List.all_eq_true]
    intro z hz
    obtain ⟨j, hj, rfl⟩ := List.getElem_of_mem hz
    have hl := (mapM_some hf).1
    have hj' : j < cs.length := by omega
    obtain ⟨z', hz', hfz⟩ := (mapM_some hf).2 j cs[j] (List.getElem?_eq_getElem hj')
    have e : z' = x.cells[j] := by rw [List.getElem?_eq_getElem hj] at hz'; simpa using hz'.symm
    subst e
    have := (List.all_eq_true.1 h1) _ (List.getElem_mem hj')
    generalize x.cells[j] = q at *
    cases q <;> simp only [DV.flat, Option.some.injEq, reduceCtorEq] at hfz
    · subst hfz; exact this
    · rfl
  obtain ⟨c1, c2, c3⟩ := rep_cells hx hone
  obtain ⟨m1, s1⟩ := rep_flats (u := fun j => v.cells.getD j undef) c2 hf
  exact ⟨by omega, s1⟩


theorem rep_unnil {v : Value} {x : FV} (hx : RepF S w v x) : RepF S w v (unnil x) := by
  cases hx with
  | nils sz => exact .slice0 _ _ _
  | slice0 A cap sz => exact .slice0 _ _ _
  | slice b o n cap sz elems u hn hcap hsz hc hr h1 => exact .slice b o n cap sz elems u hn hcap hsz hc hr h1
  | agg cs fs hl hh => exact .agg cs fs hl hh
  | ref b o off cells u hc hr h1 => exact .ref b o off cells u hc hr h1
  | func fn p q fp fq hp hq h1 h2 => exact .func fn p q fp fq hp hq h1 h2
  | tup cs fs hl hh => exact .tup cs fs hl hh
  | iface t v x hh => exact .iface t v x hh
  | int k n => exact .int k n
  | bool b => exact .bool b
  | str s => exact .str s
  | nilp => exact .nilp
  | nili => exact .nili
  | nilf => exact .nilf
  | undef v => exact .undef v
theorem unnil_one {x : FV} (h1 : x.one = true) : (unnil x).one = true := by cases x <;> first | rfl | exact h1
/-- A store into an element of a row. -/
theorem sim_estore (hi : Inv P G S ρ h w) {t : TypeId} {info : TypeInfo} {vx vv : Value} {id k o sz fz et : Nat} {l : List (List FV)} {c' fs : List FV} (hinf : P.info? t = some info) (g1 : RepD S ρ h w vx (.eptr id l.length k o)) (hv : h[id]? = some (.vec sz l fz et)) (hk : l[k]? = some c') (hfz : fz ≤ k)
    (hlen : fs.length = info.size) (hfit : o + info.size ≤ c'.length) (h1 : fs.all FV.one = true) (c1 : vv.cells.size = fs.length) (c2 : ∀ (j : Nat) (y : FV), fs[j]? = some y → RepF S w (vv.cells.getD j undef) y) :
    SimOut P G S ρ h w ((do Instr.storeAt t vx vv; pure Next.skip : Sem Next).run P w) (.val (.d (.tup [])) (h.set id (.vec sz (l.set k (c'.take o ++ fs.map unnil ++ c'.drop (o + info.size))) fz et))) := by
  have c3 : ∀ u ∈ vv.cells.toList, u.oneCell' = true := fun u hu => by
    obtain ⟨j, hj, rfl⟩ := List.getElem_of_mem hu
    have hj' : j < fs.length := by rw [← c1]; simpa using hj
    have r := c2 j _ (List.getElem?_eq_getElem hj')
    have e : vv.cells.getD j undef = vv.cells.toList[j] := by
      rw [Array.getD_eq_getD_getElem?, Array.getElem?_eq_getElem (by simpa using hj)]
      simp
    rw [e] at r
    exact r.one ((List.all_eq_true.1 h1) _ (List.getElem_mem hj'))
  obtain ⟨ri, r1, b, C, c, e, rfl, g2, g3, g4, g5, g6, g7, g8, g9⟩ := hi.own id _ hv
  obtain ⟨hl', hc'⟩ := g9 k c' hk
  have hkl : k < l.length := (List.getElem?_eq_some_iff.1 hk).1
  have hkC : (k + 1) * sz ≤ C * sz := Nat.mul_le_mul_right _ (by omega)
  rw [Nat.add_mul, Nat.one_mul] at hkC
  have hfzk : fz * sz ≤ k * sz := Nat.mul_le_mul_right _ hfz
  cases g1 with
  | eptr b' o' _ _ _ _ ht hr =>
    obtain ⟨C', sz', q1, q2⟩ := (hr l.length (by rw [hv]; rfl)).2 rfl
    rw [r1] at q1
    simp only [Option.some.injEq, RI.vec.injEq] at q1
    obtain ⟨rfl, rfl, rfl⟩ := q1
    subst q2
    have hidl : id < h.length := (List.getElem?_eq_some_iff.1 hv).1
    have hl3 : vv.cells.toList.length = fs.length := by simpa using c1
    have run := run_storeCells_at P b (k * sz + o) e vv.cells.toList 0 c w g2 (by simp; omega) c3
    simp only [Nat.add_zero] at run
    generalize hcn : (c.toList.take (k * sz + o) ++ vv.cells.toList ++ c.toList.drop (k * sz + o + vv.cells.toList.length)).toArray = cn at run
    have hrun : (do Instr.storeAt t (.pointer (some ⟨b, k * sz + o, none⟩)) vv; pure Next.skip : Sem Next).run P w = .ok .skip (w.setRow b cn) := by
      simp [Instr.storeAt, Instr.sureAddr, storeVar, sizeOf, typeInfo, hinf, c1, hlen, run]
    rw [hrun]
    have size' : cn.size = c.size := by
      rw [← hcn]
      simp only [List.size_toArray, List.length_append, List.length_take, List.length_drop, Array.length_toList]
      omega
    have hbl : b < w.heap.size := (Array.getElem?_eq_some_iff.1 g2).1
    have hset : ρ.set id (.vec b C sz) = ρ := set_self _ _ _ r1
    have cell : ∀ x, x < c.size → cn.getD x undef = if k * sz + o ≤ x ∧ x < k * sz + o + fs.length then vv.cells.getD (x - (k * sz + o)) undef else c.getD x undef := fun x hx => by
      have hl2 : (c.toList.take (k * sz + o)).length = k * sz + o := by simp; omega
      have hcg : cn.getD x undef = ((c.toList.take (k * sz + o) ++ vv.cells.toList ++ c.toList.drop (k * sz + o + vv.cells.toList.length))[x]?).getD undef := by
        rw [← hcn]; simp [Array.getD_eq_getD_getElem?]
      rw [hcg]
      rcases Nat.lt_or_ge x (k * sz + o) with hj | hj
      · rw [List.append_assoc, List.getElem?_append_left (by omega), List.getElem?_take_of_lt hj, if_neg (by omega)]
        simp [Array.getD_eq_getD_getElem?]
      · rcases Nat.lt_or_ge x (k * sz + o + fs.length) with hj2 | hj2
        · rw [List.append_assoc, List.getElem?_append_right (by omega), hl2, List.getElem?_append_left (by omega), if_pos ⟨hj, hj2⟩]
          simp [Array.getD_eq_getD_getElem?]
        · rw [List.getElem?_append_right (by simp at hl3 ⊢; omega), List.getElem?_drop, if_neg (by omega)]
          have e4 : k * sz + o + vv.cells.toList.length + (x - (c.toList.take (k * sz + o) ++ vv.cells.toList).length) = x := by simp at hl3 ⊢; omega
          rw [e4]
          simp [Array.getD_eq_getD_getElem?]
    generalize hcs : c'.take o ++ fs.map unnil ++ c'.drop (o + info.size) = cs'
    have hcsl : cs'.length = sz := by rw [← hcs]; simp; omega
    have E : Ext S ρ h w S (ρ.set id (.vec b C sz)) (h.set id (.vec sz (l.set k cs') fz et)) (w.setRow b cn) := by
      rw [hset]
      exact { Ext.refl S ρ h w with
        cells := fun b' x hs => by
          by_cases hbb : b' = b
          · subst hbb
            have hx : x < fz * sz := by
              rcases Nat.lt_or_ge x (fz * sz) with h | h
              · exact h
              · exact absurd hs (g8 x h)
            have := cell x (by omega)
            rw [if_neg (by omega)] at this
            simp only [World.cell?, setRow_heap _ _ _ _ _ _ g2, g2]
            simp only [Array.getD_eq_getD_getElem?] at this
            have l1 : x < cn.size := by omega
            have l2 : x < c.size := by omega
            simp [l1, l2] at this ⊢
            exact this
          · rw [cell_setRow_other _ _ _ _ (by intro hh; exact hbb (by simpa using hh))]
        len := by simp
        rows := fun t' n' ht' hn => by
          by_cases e : t' = id
          · subst e
            rw [List.getElem?_set_self ht'] at hn
            simp [Res.tip] at hn
            exact ⟨l.length, by rw [hv]; rfl, by omega, fun _ => rfl⟩
          · rw [List.getElem?_set_ne (Ne.symm e)] at hn
            exact ⟨n', hn, Nat.le_refl _, fun _ => rfl⟩
        size := by simp
        os := rfl
        tape := rfl
        output := rfl
        frame := fun b' hb hn => setRow_other _ _ _ _ (by rintro rfl; exact hn id _ r1 rfl) }
    have I : Inv P G S (ρ.set id (.vec b C sz)) (h.set id (.vec sz (l.set k cs') fz et)) (w.setRow b cn) := by
      refine inv_upd hi hidl E (fun i b' r hne hr9 hbk => ?_) (fun b o hs => by simpa using hi.bound b o hs) (fun b' hbk => ?_) (fun cells' tag' hce => by cases hce) (fun hh => by cases hh) (fun _ _ _ hh => by cases hh) (fun _ _ hh => by cases hh) (fun _ _ _ _ _ hh => by cases hh) ?_
      · have : b' ≠ b := by rintro rfl; exact hne (hi.apart i id _ r _ hr9 r1 hbk rfl)
        exact ⟨setRow_other _ _ _ _ this, fun o ho => ho⟩
      · simp [RI.block] at hbk
        subst hbk
        refine ⟨by simpa using hbl, fun i r hne hr hbk => hne (hi.apart i id _ r _ hr r1 hbk rfl)⟩
      · refine ⟨b, C, cn, e, rfl, setRow_heap _ _ _ _ _ _ g2, g3, g4, by omega, by simpa using g6, by simpa using g7, g8, fun k' c'' hk' => ?_⟩
        by_cases hkk : k' = k
        · subst hkk
          rw [List.getElem?_set_self hkl] at hk'
          simp only [Option.some.injEq] at hk'
          subst hk'
          refine ⟨hcsl, fun j x hx => ?_⟩
          have hjs : j < sz := by rw [← hcsl]; exact (List.getElem?_eq_some_iff.1 hx).1
          rw [cell (k' * sz + j) (by omega)]
          rw [← hcs] at hx
          rcases Nat.lt_or_ge j o with hj | hj
          · rw [List.append_assoc, List.getElem?_append_left (by simp; omega), List.getElem?_take_of_lt hj] at hx
            rw [if_neg (by omega)]
            exact ⟨(hc' j x hx).1, ((hc' j x hx).2).mono E.settled E.cells⟩
          · rcases Nat.lt_or_ge j (o + fs.length) with hj2 | hj2
            · rw [List.append_assoc, List.getElem?_append_right (by simp; omega), List.getElem?_append_left (by simp; omega)] at hx
              have e5 : j - (c'.take o).length = j - o := by simp; omega
              rw [e5, List.getElem?_map, Option.map_eq_some_iff] at hx
              obtain ⟨f, hf, rfl⟩ := hx
              rw [if_pos (by omega), show k' * sz + j - (k' * sz + o) = j - o by omega]
              exact ⟨unnil_one ((List.all_eq_true.1 h1) _ (List.mem_of_getElem? hf)), (rep_unnil (c2 _ f hf)).mono E.settled E.cells⟩
            · rw [List.getElem?_append_right (by simp; omega), List.getElem?_drop] at hx
              have e5 : o + info.size + (j - (c'.take o ++ fs.map unnil).length) = j := by simp; omega
              rw [e5] at hx
              rw [if_neg (by omega)]
              exact ⟨(hc' j x hx).1, ((hc' j x hx).2).mono E.settled E.cells⟩
        · rw [List.getElem?_set_ne (Ne.symm hkk)] at hk'
          obtain ⟨z1, z2⟩ := g9 k' c'' hk'
          refine ⟨z1, fun j x hx => ?_⟩
          have hjs : j < sz := by rw [← z1]; exact (List.getElem?_eq_some_iff.1 hx).1
          have hkl' : k' < l.length := (List.getElem?_eq_some_iff.1 hk').1
          have hkC' : (k' + 1) * sz ≤ C * sz := Nat.mul_le_mul_right _ (by omega)
          rw [Nat.add_mul, Nat.one_mul] at hkC'
          rw [cell (k' * sz + j) (by omega), if_neg (by
            rcases Nat.lt_or_gt_of_ne hkk with h | h
            · have : (k' + 1) * sz ≤ k * sz := Nat.mul_le_mul_right _ (by omega)
              rw [Nat.add_mul, Nat.one_mul] at this
              omega
            · have : (k + 1) * sz ≤ k' * sz := Nat.mul_le_mul_right _ (by omega)
              rw [Nat.add_mul, Nat.one_mul] at this
              omega)]
          exact ⟨(z2 j x hx).1, ((z2 j x hx).2).mono E.settled E.cells⟩
    rw [hset] at E I
    exact ⟨undef, _, S, ρ, .inr ⟨rfl, rfl⟩, .d _ _ (.tup #[] [] rfl (fun j y hy => by simp at hy)), E, I⟩

theorem sim_store (hi : Inv P G S ρ h w) (ha : RepA S ρ h w a.tmps ad) {t t1 t2 : TypeId} {info : TypeInfo} {x v : Operand} {x' v' : Opd} (hinf : P.info? t = some info) (h1 : trOpd P t1 x = some x') (h2 : trOpd P t2 v = some v')
    (hd : dop call (.store info.size x' v') ad h = some out) : SimOut P G S ρ h w ((do Instr.storeAt t (a.eval x) (a.eval v); pure Next.skip : Sem Next).run P w) out := by
  have g1 := rep_opd ha h1
  have g2 := rep_opd ha h2
  simp only [dop] at hd
  split at hd
  · rename_i id off e1
    split at hd
    · rename_i cells tag hcells
      split at hd
      · rename_i hn
        obtain ⟨hlen, hlow⟩ := hn
        simp only [Option.map_eq_some_iff] at hd
        obtain ⟨cs, hcs, rfl⟩ := hd
        have hone : (lowCells (id + 1) (ev ad v').cells).all DV.one = true := by
          unfold putCells at hcs
          split at hcs
          · rename_i hp
            exact hp.2
          · cases hcs
        obtain ⟨c1, c2, c3⟩ := rep_lowCells g2 hone
        rw [e1] at g1
        exact sim_put hi hinf g1 hcells c1 c2 c3 hlen hlow hcs
      · cases hd
    · cases hd
  · rename_i id g k o e1
    split at hd
    · rename_i sz l fz et hv
      split at hd
      · rename_i c' fs hk hf
        split at hd
        · rename_i hc
          obtain ⟨rfl, hfz, hlen, hfit, h1⟩ := hc
          simp only [Option.some.injEq] at hd
          subst hd
          rw [e1] at g1
          obtain ⟨c1, c2⟩ := rep_flatCells g2 hf h1
          exact sim_estore hi hinf g1 hv hk hfz hlen hfit h1 c1 c2
        · cases hd
      · cases hd
    · cases hd
  · cases hd

theorem keepNil_len (h : List Res) : ∀ (xs cs : List DV), (keepNil h cs xs).length = xs.length
  | [], cs => by cases cs <;> rfl
  | x :: xs, [] => by simp [keepNil, keepNil_len h xs []]
  | x :: xs, c :: cs => by simp [keepNil, keepNil_len h xs cs]
theorem keepNil_at (h : List Res) : ∀ (xs cs : List DV) (j : Nat) (y : DV), (keepNil h cs xs)[j]? = some y → ∃ x, xs[j]? = some x ∧
    (y = x ∨ ∃ sz, x = .d (.nils sz) ∧ (y = .d (.slice sz []) ∨ ∃ s t, cs[j]? = some (.row s [] t) ∧ h[t]? = some .nilrow ∧ y = .row s [] t))
  | [], cs, j, y, hy => by cases cs <;> simp [keepNil] at hy
  | x :: xs, [], 0, y, hy => by
    simp only [keepNil, List.getElem?_cons_zero, Option.some.injEq] at hy
    refine ⟨x, rfl, ?_⟩
    split at hy
    · rename_i sz
      exact .inr ⟨sz, rfl, .inl hy.symm⟩
    · exact .inl hy.symm
  | x :: xs, [], j + 1, y, hy => by
    simp only [keepNil, List.getElem?_cons_succ] at hy
    obtain ⟨x', h1, h2⟩ := keepNil_at h xs [] j y hy
    exact ⟨x', by simpa using h1, by simpa using h2⟩
  | x :: xs, c :: cs, 0, y, hy => by
    simp only [keepNil, List.getElem?_cons_zero, Option.some.injEq] at hy
    refine ⟨x, rfl, ?_⟩
    split at hy
    · rename_i sz
      split at hy
      · rename_i s t
        split at hy
        · rename_i hn
          exact .inr ⟨sz, rfl, .inr ⟨s, t, rfl, hn, hy.symm⟩⟩
        · exact .inr ⟨sz, rfl, .inl hy.symm⟩
      · exact .inr ⟨sz, rfl, .inl hy.symm⟩
    · exact .inl hy.symm
  | x :: xs, c :: cs, j + 1, y, hy => by
    simp only [keepNil, List.getElem?_cons_succ] at hy
    obtain ⟨x', h1, h2⟩ := keepNil_at h xs cs j y hy
    exact ⟨x', by simpa using h1, by simpa using h2⟩
theorem keepNil_one (h : List Res) (xs cs : List DV) (h1 : (keepNil h cs xs).all DV.one = true) : xs.all DV.one = true := by
  rw [List.all_eq_true]
  intro x hx
  obtain ⟨j, hj⟩ := List.getElem?_of_mem hx
  have hl := (List.getElem?_eq_some_iff.1 hj).1
  have hy : (keepNil h cs xs)[j]? = some ((keepNil h cs xs)[j]'(by rw [keepNil_len]; exact hl)) := List.getElem?_eq_getElem _
  obtain ⟨x', e1, e2⟩ := keepNil_at h xs cs j _ hy
  rw [hj] at e1
  obtain rfl := Option.some.inj e1
  have ho := List.all_eq_true.1 h1 _ (List.mem_of_getElem? hy)
  rcases e2 with e | ⟨sz, rfl, _⟩
  · rw [← e]
    exact ho
  · rfl
theorem sim_storen (hi : Inv P G S ρ h w) (ha : RepA S ρ h w a.tmps ad) {t t1 t2 : TypeId} {info : TypeInfo} {x v : Operand} {x' v' : Opd} (hinf : P.info? t = some info) (h1 : trOpd P t1 x = some x') (h2 : trOpd P t2 v = some v')
    (hd : dop call (.storen info.size x' v') ad h = some out) : SimOut P G S ρ h w ((do Instr.storeAt t (a.eval x) (a.eval v); pure Next.skip : Sem Next).run P w) out := by
  have g1 := rep_opd ha h1
  have g2 := rep_opd ha h2
  simp only [dop] at hd
  split at hd
  · rename_i id off e1
    split at hd
    · rename_i cells tag hcells
      split at hd
      · rename_i hn
        obtain ⟨hlen, hlow⟩ := hn
        simp only [Option.map_eq_some_iff] at hd
        obtain ⟨cs, hcs, rfl⟩ := hd
        have hone : (keepNil h (cells.drop off) (lowCells (id + 1) (ev ad v').cells)).all DV.one = true := by
          unfold putCells at hcs
          split at hcs
          · rename_i hp
            exact hp.2
          · cases hcs
        obtain ⟨c1, c2, c3⟩ := rep_lowCells g2 (keepNil_one _ _ _ hone)
        rw [e1] at g1
        refine sim_put hi hinf g1 hcells (by rw [keepNil_len]; exact c1) (fun j y hy => ?_) c3 hlen hlow hcs
        obtain ⟨z, z1, z2⟩ := keepNil_at _ _ _ _ _ hy
        have hr := c2 j z z1
        rcases z2 with rfl | ⟨sz, rfl, rfl | ⟨s, t', k1, k2, rfl⟩⟩
        · exact hr
        · have hv : (a.eval v).cells.getD j undef = .slice none 0 0 := by
            generalize (a.eval v).cells.getD j undef = u at hr
            cases hr with
            | d _ _ hf => cases hf; rfl
          rw [hv]
          exact .d _ _ (.slice0 none 0 _)
        · have hv : (a.eval v).cells.getD j undef = .slice none 0 0 := by
            generalize (a.eval v).cells.getD j undef = u at hr
            cases hr with
            | d _ _ hf => cases hf; rfl
          rw [hv]
          refine .row _ _ _ _ (.slice0 none 0 _) (List.getElem?_eq_some_iff.1 k2).1 fun n hn => ?_
          rw [k2] at hn
          simp [Res.tip] at hn
          subst hn
          exact ⟨Nat.le_refl _, fun _ => hi.nilrow _ k2⟩
      · cases hd
    · cases hd
  · rename_i id g k o e1
    split at hd
    · rename_i sz l fz et hv
      split at hd
      · rename_i c' fs hk hf
        split at hd
        · rename_i hc
          obtain ⟨rfl, hfz, hlen, hfit, h1⟩ := hc
          simp only [Option.some.injEq] at hd
          subst hd
          rw [e1] at g1
          obtain ⟨c1, c2⟩ := rep_flatCells g2 hf h1
          exact sim_estore hi hinf g1 hv hk hfz hlen hfit h1 c1 c2
        · cases hd
      · cases hd
    · cases hd
  · cases hd

end
end Go.Deepv
