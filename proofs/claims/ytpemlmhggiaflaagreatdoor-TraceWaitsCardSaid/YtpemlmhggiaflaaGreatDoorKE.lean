/-
  A row that is stored into grows.
  Conditions: none.
-/
import Derived.Test.YtpemlmhggiaflaaGreatDoorKD
set_option linter.unusedVariables false
set_option linter.unusedSimpArgs false
namespace Go.Deepv
open Go.RowKit

section
variable {P : Program} {G : Glob} {S : Settled} {ρ : List RI} {h : List Res} {w : World} {a : Act} {ad : List DV} {call : Cle → List DV → List Res → Option DOut} {out : DOut}

/-- It has moved to a new block. -/
theorem vec_moved (hi : Inv P G S ρ h w) {tk n0 sz et fz : Nat} {l new : List (List FV)} (htip : (h[tk]?).bind Res.tip = some n0) (hn0 : n0 < l.length + new.length) (hρ : ∃ r, ρ[tk]? = some r ∧ r.isRow = true) (h0 : 0 < sz) (hfz : fz ≤ l.length + new.length)
    (u v : Nat → Value) (hl : ∀ (i j : Nat) (c : List FV) (y : FV), l[i]? = some c → c[j]? = some y → RepF S w (u (i * sz + j)) y ∧ y.one = true) (hl' : ∀ (i : Nat) (c : List FV), l[i]? = some c → c.length = sz)
    (hnew : ∀ (i j : Nat) (c : List FV) (y : FV), new[i]? = some c → c[j]? = some y → RepF S w (v (i * sz + j)) y ∧ y.one = true) (hnew' : ∀ (i : Nat) (c : List FV), new[i]? = some c → c.length = sz)
    (arr : Array Value) (e : TypeId) (het : et = 0 ∨ e = et) (gcap : Nat) (hg : l.length + new.length ≤ gcap) (hsize : arr.size = gcap * sz)
    (ha1 : ∀ k, k < l.length * sz → arr.getD k undef = u k) (ha2 : ∀ k, k < new.length * sz → arr.getD (l.length * sz + k) undef = v k) :
    ∃ ρ', RepD S ρ' (h.set tk (.vec sz (l ++ new) fz et)) (w.drew.alloc (.cells arr e)) (.slice (some ⟨w.heap.size, 0, none⟩) (l.length + new.length) gcap) (.vslc tk (l.length + new.length) sz 0 (l.length + new.length)) ∧
      Ext S ρ h w S ρ' (h.set tk (.vec sz (l ++ new) fz et)) (w.drew.alloc (.cells arr e)) ∧ Inv P G S ρ' (h.set tk (.vec sz (l ++ new) fz et)) (w.drew.alloc (.cells arr e)) := by
  obtain ⟨r0, hρ, hrow0⟩ := hρ
  have htk : tk < h.length := by
    cases hh : h[tk]? with
    | none => simp [hh] at htip
    | some r => exact (List.getElem?_eq_some_iff.1 hh).1
  have htk' : tk < ρ.length := by rw [hi.len]; exact htk
  have hw : ∀ b, b < w.heap.size → (w.drew.alloc (.cells arr e)).heap[b]? = w.heap[b]? := fun b hb => heap_alloc_lt w.drew _ hb
  have hwn : (w.drew.alloc (.cells arr e)).heap[w.heap.size]? = some (.cells arr e (0, 0)) := heap_alloc_at w.drew _
  have hws : (w.drew.alloc (.cells arr e)).heap.size = w.heap.size + 1 := size_alloc w.drew _
  have E : Ext S ρ h w S (ρ.set tk (.vec w.heap.size gcap sz)) (h.set tk (.vec sz (l ++ new) fz et)) (w.drew.alloc (.cells arr e)) :=
    { settled := fun b o x => x
      cells := fun b x hx => cell?_heap (hw b (hi.bound b x hx))
      len := by simp
      boxes := fun id b hb => by
        have : id ≠ tk := by rintro rfl; rw [hρ] at hb; simp at hb; subst hb; simp [RI.isRow] at hrow0
        rw [List.getElem?_set_ne (Ne.symm this)]
        exact hb
      rows := fun t n' ht hn => by
        by_cases e : t = tk
        · subst e
          rw [List.getElem?_set_self ht] at hn
          simp [Res.tip] at hn
          exact ⟨n0, htip, by omega, fun h => by omega⟩
        · rw [List.getElem?_set_ne (Ne.symm e)] at hn
          exact ⟨n', hn, Nat.le_refl _, fun _ => List.getElem?_set_ne (Ne.symm e)⟩
      size := by omega
      os := rfl, tape := rfl, output := rfl
      frame := fun b hb _ => hw b hb
      blocks := fun i b r hr hb => by
        by_cases e : i = tk
        · subst e
          rw [List.getElem?_set_self htk'] at hr
          simp at hr
          subst hr
          simp [RI.block] at hb
          exact .inl (by omega)
        · rw [List.getElem?_set_ne (Ne.symm e)] at hr
          exact .inr ⟨i, r, hr, hb, id⟩
      fresh := fun b o x => .inl x }
  refine ⟨_, ?_, E, ?_⟩
  · refine .vslc _ _ _ _ _ _ _ _ hg (by simpa using htk) fun m hm => ?_
    rw [List.getElem?_set_self htk] at hm
    simp [Res.tip] at hm
    exact ⟨by omega, fun _ => ⟨gcap, List.getElem?_set_self htk', by simp, rfl, by omega⟩⟩
  · refine inv_upd hi htk E (fun i b r hne hr hb => ?_) (fun b o hs => ?_) (fun b hb => ?_) (fun cells tag hh => by cases hh) (fun hh => by cases hh) (fun sz' n et' hh => by cases hh) (fun s pos hh => by cases hh) (fun _ _ _ _ _ hh => by cases hh) ?_
    · have := hi.low i b r hr hb
      exact ⟨hw b this, fun o ho => ho⟩
    · have := hi.bound b o hs
      omega
    · simp [RI.block] at hb
      subst hb
      refine ⟨by omega, fun i r hne hr hb => ?_⟩
      have := hi.low i _ r hr hb
      omega
    · have hle : (l.length + new.length) * sz ≤ gcap * sz := Nat.mul_le_mul_right _ hg
      rw [Nat.add_mul] at hle
      refine ⟨w.heap.size, gcap, arr, e, rfl, hwn, h0, het, by omega, by simpa using hg, by simpa using hfz, fun x _ hs => by have := hi.bound _ _ hs; omega, fun k c' hk => ?_⟩
      rcases Nat.lt_or_ge k l.length with hkl | hkl
      · rw [List.getElem?_append_left hkl] at hk
        refine ⟨hl' k c' hk, fun j x hx => ?_⟩
        have hj : j < sz := by rw [← hl' k c' hk]; exact (List.getElem?_eq_some_iff.1 hx).1
        have := row_le (sz := sz) hkl
        rw [ha1 _ (by omega)]
        exact ⟨(hl k j c' x hk hx).2, ((hl k j c' x hk hx).1).mono E.settled E.cells⟩
      · rw [List.getElem?_append_right hkl] at hk
        have hkn := (List.getElem?_eq_some_iff.1 hk).1
        refine ⟨hnew' _ c' hk, fun j x hx => ?_⟩
        have hj : j < sz := by rw [← hnew' _ c' hk]; exact (List.getElem?_eq_some_iff.1 hx).1
        have := row_le (sz := sz) hkn
        have e1 : k * sz + j = l.length * sz + ((k - l.length) * sz + j) := by
          rw [← Nat.add_assoc, ← Nat.add_mul]
          congr 2
          omega
        rw [e1, ha2 _ (by omega)]
        exact ⟨(hnew _ j c' x hk hx).2, ((hnew _ j c' x hk hx).1).mono E.settled E.cells⟩

/-- It has room: what is new stands from an element on. -/
theorem vec_room (hi : Inv P G S ρ h w) {id sz et fz p b C e : Nat} {c : Array Value} {l new l' : List (List FV)} (hv : h[id]? = some (.vec sz l fz et)) (r1 : ρ[id]? = some (.vec b C sz)) (g2 : w.heap[b]? = some (.cells c e (0, 0)))
    (g3 : 0 < sz) (g4 : et = 0 ∨ e = et) (g5 : C * sz ≤ c.size) (g7 : fz ≤ l.length) (g8 : ∀ x, fz * sz ≤ x → ¬ S b x) (g9 : ∀ (k : Nat) (c' : List FV), l[k]? = some c' → c'.length = sz ∧ ∀ (j : Nat) (x : FV), c'[j]? = some x → x.one = true ∧ RepF S w (c.getD (k * sz + j) undef) x)
    (hp : fz ≤ p) (hpl : p ≤ l.length) (hpC : p + new.length ≤ C) (hl' : l' = l.take p ++ new ++ l.drop (p + new.length)) (v : Nat → Value)
    (hnew : ∀ (i j : Nat) (c : List FV) (y : FV), new[i]? = some c → c[j]? = some y → RepF S w (v (i * sz + j)) y ∧ y.one = true) (hnew' : ∀ (i : Nat) (c : List FV), new[i]? = some c → c.length = sz) (hlC : l.length ≤ C) :
    Ext S ρ h w S ρ (h.set id (.vec sz l' fz et)) (w.setCells b (p * sz) ((List.range (new.length * sz)).map v)) ∧ Inv P G S ρ (h.set id (.vec sz l' fz et)) (w.setCells b (p * sz) ((List.range (new.length * sz)).map v)) := by
  have hidl : id < h.length := (List.getElem?_eq_some_iff.1 hv).1
  have hpc : (p + new.length) * sz ≤ C * sz := Nat.mul_le_mul_right _ hpC
  rw [Nat.add_mul] at hpc
  have hpf : fz * sz ≤ p * sz := Nat.mul_le_mul_right _ hp
  have hlen' : l'.length = max l.length (p + new.length) := by rw [hl']; simp; omega
  obtain ⟨c', c1, c2, c3, c4, c5, c6, c7, c8⟩ := setCells_block b ((List.range (new.length * sz)).map v) (p * sz) w c e (0, 0) g2 (by simp; omega)
  have newsAt : ∀ k, k < new.length * sz → ((List.range (new.length * sz)).map v).getD k undef = v k := fun k hk => by
    simp [List.getD_eq_getElem?_getD, hk]
  generalize hw' : w.setCells b (p * sz) ((List.range (new.length * sz)).map v) = w' at *
  have hbl : b < w.heap.size := (Array.getElem?_eq_some_iff.1 g2).1
  have keep : ∀ x, (x < p * sz ∨ p * sz + new.length * sz ≤ x) → c'.getD x undef = c.getD x undef := fun x hx => by
    rw [c3 x, if_neg (by simp; omega)]
  have hset : ρ.set id (.vec b C sz) = ρ := set_self _ _ _ r1
  have E : Ext S ρ h w S (ρ.set id (.vec b C sz)) (h.set id (.vec sz l' fz et)) w' := by
    rw [hset]
    exact { Ext.refl S ρ h w with
      cells := fun b' x hs => by
        by_cases hbb : b' = b
        · subst hbb
          have hx : x < fz * sz := by
            rcases Nat.lt_or_ge x (fz * sz) with h | h
            · exact h
            · exact absurd hs (g8 x h)
          have := keep x (by omega)
          simp only [World.cell?, c1, g2]
          simp only [Array.getD_eq_getD_getElem?] at this
          have l1 : x < c'.size := by omega
          have l2 : x < c.size := by omega
          simp [l1, l2] at this ⊢
          exact this
        · exact cell?_heap (c4 b' hbb)
      len := by simp
      rows := fun t' n' ht' hn => by
        by_cases e : t' = id
        · subst e
          rw [List.getElem?_set_self ht'] at hn
          simp [Res.tip] at hn
          exact ⟨l.length, by rw [hv]; rfl, by omega, fun _ => rfl⟩
        · rw [List.getElem?_set_ne (Ne.symm e)] at hn
          exact ⟨n', hn, Nat.le_refl _, fun _ => rfl⟩
      size := by omega
      os := c6
      tape := c7
      output := c8
      frame := fun b' hb hn => c4 b' (by rintro rfl; exact hn id _ r1 rfl) }
  have I : Inv P G S (ρ.set id (.vec b C sz)) (h.set id (.vec sz l' fz et)) w' := by
    refine inv_upd hi hidl E (fun i b' r hne hr9 hbk => ?_) (fun b' o' hs => by rw [c5]; exact hi.bound b' o' hs) (fun b' hbk => ?_) (fun cells' tag' hce => by cases hce) (fun hh => by cases hh) (fun _ _ _ hh => by cases hh) (fun _ _ hh => by cases hh) (fun _ _ _ _ _ hh => by cases hh) ?_
    · have : b' ≠ b := by rintro rfl; exact hne (hi.apart i id _ r _ hr9 r1 hbk rfl)
      exact ⟨c4 b' this, fun o ho => ho⟩
    · simp [RI.block] at hbk
      subst hbk
      exact ⟨by rw [c5]; exact hbl, fun i r hne hr9 hbk => hne (hi.apart i id _ r _ hr9 r1 hbk rfl)⟩
    · refine ⟨b, C, c', e, rfl, c1, g3, g4, by omega, by omega, by omega, g8, fun k c'' hk => ?_⟩
      have old : l[k]? = some c'' → (k < p ∨ p + new.length ≤ k) → c''.length = sz ∧ ∀ (j : Nat) (x : FV), c''[j]? = some x → x.one = true ∧ RepF S w' (c'.getD (k * sz + j) undef) x := fun hk hkk => by
        obtain ⟨z1, z2⟩ := g9 k c'' hk
        refine ⟨z1, fun j x hx => ?_⟩
        have hj : j < sz := by rw [← z1]; exact (List.getElem?_eq_some_iff.1 hx).1
        rw [keep (k * sz + j) (by
          rcases hkk with h | h
          · have := row_le (sz := sz) h
            omega
          · have : (p + new.length) * sz ≤ k * sz := Nat.mul_le_mul_right _ h
            rw [Nat.add_mul] at this
            omega)]
        exact ⟨(z2 j x hx).1, ((z2 j x hx).2).mono E.settled E.cells⟩
      have ltp : (l.take p).length = p := by simp; omega
      rw [hl'] at hk
      rcases Nat.lt_or_ge k p with h1 | h1
      · rw [List.append_assoc, List.getElem?_append_left (by omega), List.getElem?_take_of_lt h1] at hk
        exact old hk (.inl h1)
      · rcases Nat.lt_or_ge k (p + new.length) with h2 | h2
        · rw [List.append_assoc, List.getElem?_append_right (by omega), ltp, List.getElem?_append_left (by omega)] at hk
          refine ⟨hnew' _ c'' hk, fun j x hx => ?_⟩
          have hj : j < sz := by rw [← hnew' _ c'' hk]; exact (List.getElem?_eq_some_iff.1 hx).1
          have := row_le (sz := sz) (show k - p < new.length by omega)
          have e1 : k * sz + j = p * sz + ((k - p) * sz + j) := by
            rw [← Nat.add_assoc, ← Nat.add_mul]
            congr 2
            omega
          rw [c3, e1, if_pos (by simp; omega), show p * sz + ((k - p) * sz + j) - p * sz = (k - p) * sz + j by omega, newsAt _ (by omega)]
          exact ⟨(hnew _ j c'' x hk hx).2, ((hnew _ j c'' x hk hx).1).mono E.settled E.cells⟩
        · rw [List.getElem?_append_right (by simp; omega), List.getElem?_drop] at hk
          have e3 : p + new.length + (k - (l.take p ++ new).length) = k := by simp; omega
          rw [e3] at hk
          exact old hk (.inr h2)
  rw [hset] at E I
  exact ⟨E, I⟩

theorem sim_vapp (hi : Inv P G S ρ h w) (ha : RepA S ρ h w a.tmps ad) {t tx e e' rt t1 t2 : TypeId} {i : TypeInfo} {z : Value} {s x : Operand} {s' x' : Opd} (ht : P.underlying t = some (.slice e)) (hk : P.underlying tx = some (.slice e')) (hinf : P.info? e = some i) (hz : i.zero = some z) (hzs : z.cells.size = i.size)
    (h1 : trOpd P t1 s = some s') (h2 : trOpd P t2 x = some x') (hd : dop call (.vapp (tagE P e) i.size i.bytes s' x') ad h = some out) :
    SimOut P G S ρ h w ((do pure (Next.value (← Builtin.append_ #[t, tx] rt #[a.eval s, a.eval x])) : Sem Next).run P w) out := by
  have g1 := rep_opd ha h1
  have g2 := rep_opd ha h2
  simp only [dop] at hd
  generalize hxe : (ev ad x').elems = xe at hd
  unfold appVec at hd
  split at hd
  · rename_i s1 l tk s2 new e1
    split at hd
    · rename_i hc
      obtain ⟨hs2, hlim, hsz, hby, rfl⟩ := hc
      rw [e1] at g1
      obtain ⟨_, ⟨v, hsrc, hv⟩, hv'⟩ := src_row hk hs2 hsz (rep_elems g2 hxe)
      generalize a.eval x = vx at *
      generalize a.eval s = vs at *
      split at hd
      · rename_i hnr
        cases g1 with
        | row _ _ _ _ hl htk hr =>
          obtain ⟨_, hρ⟩ := hr 0 (by simp [hnr, Res.tip])
          have hρ' := hρ rfl
          have hvs0 : vs = .slice none 0 0 := by
            have := hi.nilrow tk hnr
            rw [hρ'] at this
            simpa using this
          subst hvs0
          split at hd
          · rename_i hn0
            subst hn0
            simp only [Option.some.injEq] at hd
            subst hd
            have run := run_append_nothing (P := P) w t tx rt e i ht hinf none 0 0 (Nat.le_refl _) vx (by simpa using hsrc)
            rw [run_v run]
            exact SimOut.plain hi (.row _ _ _ _ (.slice0 _ _ _) htk hr)
          · rename_i hn0
            simp only [Option.some.injEq] at hd
            subst hd
            have hpos : 0 < new.length := List.length_pos_iff.2 hn0
            have lim63 : ((0 + new.length : Nat) : Int) ≤ 9223372036854775807 := by
              have : new.length * 1 ≤ new.length * i.bytes := Nat.mul_le_mul_left _ hby
              omega
            have hcap : 0 < 0 + new.length := by omega
            have hfit : Builtin.nextslicecap (0 + new.length) 0 * i.bytes ≤ 281474976710656 := by
              have := nextslicecap_le hcap
              have h3 : Builtin.nextslicecap (0 + new.length) 0 * i.bytes ≤ (2 * (0 + new.length)) * i.bytes := Nat.mul_le_mul_right _ this
              rw [Nat.mul_assoc, Nat.zero_add] at h3
              simp only [Nat.zero_add] at h3 ⊢
              omega
            have run := run_append_grow_src (P := P) w t tx rt e i z ht hinf hz none 0 0 [] (by simpa using run_firstCells_none (P := P) w.drew i.size 0 0 0) vx new.length _ hsrc hcap lim63 hfit
            rw [run_v run]
            have hgc := grownCap_ge w (0 + new.length) 0 e
            generalize grownCap w (0 + new.length) 0 e = gcap at *
            have hzc : (Builtin.zeroCells z.cells (gcap - (0 + new.length))).size = (gcap - (0 + new.length)) * i.size := by simp [Builtin.zeroCells, hzs]
            obtain ⟨ρ', R, E, I⟩ := vec_moved hi (sz := i.size) (et := tagE P e) (fz := 0) (l := []) (new := new) (tk := tk) (n0 := 0) (by simp [hnr, Res.tip]) (by simpa using hpos) ⟨_, hρ', rfl⟩ hsz (Nat.zero_le _) (fun _ => undef) v (fun _ _ _ _ hc => by simp at hc) (fun _ _ hc => by simp at hc) (fun i' j c y hc hy => (hv i' j c y hc hy).2) hv'
              (([] ++ (List.range (new.length * i.size)).map v).toArray ++ Builtin.zeroCells z.cells (gcap - (0 + new.length))) e (tagE_ok e) gcap (by simpa using hgc)
              (by
                rw [Array.size_append, hzc]
                simp only [List.nil_append, List.size_toArray, List.length_map, List.length_range]
                rw [← Nat.add_mul]
                congr 1
                omega)
              (fun k hk => by simp at hk)
              (fun k hk => by
                rw [List.length_nil, Nat.zero_mul, Nat.zero_add, Array.getD_eq_getD_getElem?, Array.getElem?_append_left (by simp; omega)]
                simp [hk])
            simp only [List.nil_append, List.length_nil, Nat.zero_add] at R E I ⊢
            exact ⟨_, _, S, ρ', .inl rfl, R, E, I⟩
      · cases hd
    · cases hd
  · rename_i id g s1 off n s2 new e1
    split at hd
    · rename_i s3 l fz et3 hvv
      split at hd
      · rename_i hc
        obtain ⟨hs2, hlim, hby, rfl, rfl, rfl, rfl⟩ := hc
        rw [e1] at g1
        obtain ⟨ri, r1, b, C, c, e0, rfl, b2, b3, b4, b5, b6, b7, b8, b9⟩ := hi.own id _ hvv
        obtain ⟨_, ⟨v, hsrc, hv⟩, hv'⟩ := src_row hk hs2 b3 (rep_elems g2 hxe)
        generalize a.eval x = vx at *
        generalize a.eval s = vs at *
        have lim63 : ((n + new.length : Nat) : Int) ≤ 9223372036854775807 := by
          have : (n + new.length) * 1 ≤ (n + new.length) * i.bytes := Nat.mul_le_mul_left _ hby
          omega
        have frozen : ∀ j, w.frozen? ⟨b, j, none⟩ = false := fun j => by simp [World.frozen?, b2]
        cases g1 with
        | vslc b' o cap _ _ _ _ _ hnc htt hr =>
          obtain ⟨C', q1, q2, q3, q4⟩ := (hr l.length (by rw [hvv]; rfl)).2 rfl
          rw [r1] at q1
          simp only [Option.some.injEq, RI.vec.injEq, and_true] at q1
          obtain ⟨rfl, rfl⟩ := q1
          have room : off + n + new.length ≤ C → (Builtin.append_ #[t, tx] rt #[.slice (some ⟨b, o, none⟩) n cap, vx]).run P w = .ok (.slice (some ⟨b, o, none⟩) (n + new.length) cap) (w.setCells b ((off + n) * i.size) ((List.range (new.length * i.size)).map v)) := fun hC => by
            have hcz : (off + n + new.length) * i.size ≤ C * i.size := Nat.mul_le_mul_right _ hC
            rw [Nat.add_mul] at hcz
            have run := run_append_room_src (P := P) w t tx rt e i ht hinf b o n cap vx new.length _ hsrc (by omega)
              (fun j hj => by
                simp at hj
                simp only [World.cell?, b2]
                rw [q2, ← Nat.add_mul]
                simp [show (off + n) * i.size + j < c.size by omega])
              (fun j hj => frozen _)
            rw [run, q2, ← Nat.add_mul]
          split at hd
          · rename_i htip
            split at hd
            · rename_i hoff
              subst hoff
              simp only [Option.some.injEq] at hd
              subst hd
              by_cases hroom : 0 + n + new.length ≤ C
              · rw [run_v (room hroom)]
                obtain ⟨E, I⟩ := vec_room hi (p := 0 + n) (l' := l ++ new) hvv r1 b2 b3 b4 b5 b7 b8 b9 (by omega) (by omega) hroom (by rw [htip, List.take_length, List.drop_of_length_le (by omega), List.append_nil]) v (fun i' j c y hc hy => (hv i' j c y hc hy).2) hv' b6
                refine ⟨_, _, S, ρ, .inl rfl, .vslc _ _ _ _ _ _ _ _ (by omega) (by simpa using htt) (fun m hm => ?_), E, I⟩
                rw [List.getElem?_set_self htt] at hm
                simp [Res.tip] at hm
                exact ⟨by omega, fun _ => ⟨C, r1, q2, q3, by omega⟩⟩
              · have hcap : cap < n + new.length := by omega
                have hfit : Builtin.nextslicecap (n + new.length) cap * i.bytes ≤ 281474976710656 := by
                  have := nextslicecap_le hcap
                  have h3 : Builtin.nextslicecap (n + new.length) cap * i.bytes ≤ (2 * (n + new.length)) * i.bytes := Nat.mul_le_mul_right _ this
                  rw [Nat.mul_assoc] at h3
                  omega
                have hnl : n = l.length := by omega
                have hlc : l.length * i.size ≤ c.size := Nat.le_trans (Nat.mul_le_mul_right _ b6) b5
                have hold := run_firstCells_some (P := P) w.drew i.size n ⟨b, o, none⟩ n cap ((List.range (n * i.size)).map fun k => c.getD k undef) (by simp) (fun j v hv => by
                  simp only [List.getElem?_map, Option.map_eq_some_iff] at hv
                  obtain ⟨k, hk, rfl⟩ := hv
                  have hj := (List.getElem?_eq_some_iff.1 hk).1
                  simp at hj
                  have : k = j := by simpa [List.getElem?_range hj] using hk.symm
                  subst this
                  rw [add_none, q2, Nat.zero_mul, Nat.zero_add]
                  have hh : w.drew.heap[b]? = some (.cells c e0 (0, 0)) := b2
                  simp only [World.cell?, hh]
                  rw [hnl] at hj
                  have : k < c.size := by omega
                  simp [Array.getD_eq_getD_getElem?, this])
                have run := run_append_grow_src (P := P) w t tx rt e i z ht hinf hz (some ⟨b, o, none⟩) n cap _ hold vx new.length _ hsrc hcap lim63 hfit
                rw [run_v run]
                have hgc := grownCap_ge w (n + new.length) cap e
                generalize grownCap w (n + new.length) cap e = gcap at *
                have hzc : (Builtin.zeroCells z.cells (gcap - (n + new.length))).size = (gcap - (n + new.length)) * i.size := by simp [Builtin.zeroCells, hzs]
                subst hnl
                obtain ⟨ρ', R, E, I⟩ := vec_moved hi (sz := i.size) (et := tagE P e) (fz := fz) (l := l) (new := new) (tk := id) (n0 := l.length) (by rw [hvv]; rfl) (by omega) ⟨_, r1, rfl⟩ b3 (by omega) (fun k => c.getD k undef) v (fun i' j c y hc hy => ⟨((b9 i' c hc).2 j y hy).2, ((b9 i' c hc).2 j y hy).1⟩) (fun i' c hc => (b9 i' c hc).1) (fun i' j c y hc hy => (hv i' j c y hc hy).2) hv'
                  (((List.range (l.length * i.size)).map (fun k => c.getD k undef) ++ (List.range (new.length * i.size)).map v).toArray ++ Builtin.zeroCells z.cells (gcap - (l.length + new.length))) e (tagE_ok e) gcap hgc
                  (by
                    rw [Array.size_append, hzc]
                    simp only [List.size_toArray, List.length_append, List.length_map, List.length_range]
                    rw [← Nat.add_mul, ← Nat.add_mul]
                    congr 1
                    omega)
                  (fun k hk => by
                    have : k < ((List.range (l.length * i.size)).map (fun k => c.getD k undef) ++ (List.range (new.length * i.size)).map v).toArray.size := by simp; omega
                    rw [Array.getD_eq_getD_getElem?, Array.getElem?_append_left this]
                    simp [List.getElem?_append_left, hk])
                  (fun k hk => by
                    have : l.length * i.size + k < ((List.range (l.length * i.size)).map (fun k => c.getD k undef) ++ (List.range (new.length * i.size)).map v).toArray.size := by simp; omega
                    rw [Array.getD_eq_getD_getElem?, Array.getElem?_append_left this]
                    simp [List.getElem?_append_right, hk])
                exact ⟨_, _, S, ρ', .inl rfl, R, E, I⟩
            · cases hd
          · rename_i htip
            split at hd
            · rename_i hin
              simp only [Option.some.injEq] at hd
              subst hd
              rw [run_v (room (by omega))]
              obtain ⟨E, I⟩ := vec_room hi (p := off + n) hvv r1 b2 b3 b4 b5 b7 b8 b9 (by omega) (by omega) (by omega) rfl v (fun i' j c y hc hy => (hv i' j c y hc hy).2) hv' b6
              refine ⟨_, _, S, ρ, .inl rfl, .vslc _ _ _ _ _ _ _ _ (by omega) (by simpa using htt) (fun m hm => ?_), E, I⟩
              rw [List.getElem?_set_self htt] at hm
              simp [Res.tip] at hm
              exact ⟨by omega, fun _ => ⟨C, r1, q2, q3, by omega⟩⟩
            · cases hd
      · cases hd
    · cases hd
  · cases hd
end
end Go.Deepv
