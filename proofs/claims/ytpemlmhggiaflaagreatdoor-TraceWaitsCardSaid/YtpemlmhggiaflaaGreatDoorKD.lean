/-
  Rows that are stored into, and maps: each operation does what the deep machine says.
  Conditions: none.
-/
import Derived.Test.YtpemlmhggiaflaaGreatDoorDK
import Derived.MapKept
import Derived.Carry
import Derived.Laws.MakeOwn
set_option linter.unusedVariables false
set_option linter.unusedSimpArgs false
namespace Go.Deepv
open Go.RowKit

section
variable {P : Program} {G : Glob} {S : Settled} {ρ : List RI} {h : List Res} {w : World} {a : Act} {ad : List DV} {call : Cle → List DV → List Res → Option DOut} {out : DOut}

theorem row_le {k n sz : Nat} (h : k < n) : k * sz + sz ≤ n * sz := by
  have : (k + 1) * sz ≤ n * sz := Nat.mul_le_mul_right _ h
  rwa [Nat.add_mul, Nat.one_mul] at this

/-- A new row that is stored into. -/
theorem vec_new (hi : Inv P G S ρ h w) {c : Array Value} {e sz et C : Nat} {l : List (List FV)} (hs : 0 < sz) (het : et = 0 ∨ e = et) (hC : C * sz ≤ c.size) (hl : l.length ≤ C)
    (hel : ∀ (k : Nat) (c' : List FV), l[k]? = some c' → c'.length = sz ∧ ∀ (j : Nat) (x : FV), c'[j]? = some x → x.one = true ∧ RepF S w (c.getD (k * sz + j) undef) x) :
    ∃ S', Ext S ρ h w S' (ρ ++ [.vec w.heap.size C sz]) (h ++ [.vec sz l 0 et]) (w.alloc (.cells c e)) ∧ Inv P G S' (ρ ++ [.vec w.heap.size C sz]) (h ++ [.vec sz l 0 et]) (w.alloc (.cells c e)) := by
  have E := ext_alloc hi (.cells c e) (fun _ => False) [.vec w.heap.size C sz] [.vec sz l 0 et] (fun r b hr hb => by simp at hr; subst hr; simpa [RI.block] using hb.symm)
  refine ⟨_, E, inv_alloc_old hi _ (fun _ => False) _ _ (fun r b hr hb => by simp at hr; subst hr; simpa [RI.block] using hb.symm) rfl ?_ ?_ ?_ ?_ ?_ ?_ ?_⟩
  · intro i j b r r' hr hr' _ _
    have a1 := (List.getElem?_eq_some_iff.1 hr).1
    have a2 := (List.getElem?_eq_some_iff.1 hr').1
    simp at a1 a2
    omega
  all_goals try (intro i; intros; rename_i hc; rcases i with _ | i <;> simp at hc; done)
  intro i r hc
  rcases i with _ | i
  · simp at hc
    subst hc
    refine ⟨_, rfl, w.heap.size, C, c, e, rfl, heap_alloc_at _ _, hs, het, hC, hl, Nat.zero_le _, fun x _ hx => ?_, fun k c' hk => ⟨(hel k c' hk).1, fun j x hx => ⟨((hel k c' hk).2 j x hx).1, ((hel k c' hk).2 j x hx).2.mono E.settled E.cells⟩⟩⟩
    rcases hx with hx | hx
    · have := hi.bound _ _ hx
      omega
    · exact hx.2
  · simp at hc
theorem vslc_new (hi : Inv P G S ρ h w) {S' : Settled} {sz et C n : Nat} {l : List (List FV)} {w' : World} (hn : n ≤ l.length) (hl : l.length ≤ C) :
    RepD S' (ρ ++ [.vec w.heap.size C sz]) (h ++ [.vec sz l 0 et]) w' (.slice (some ⟨w.heap.size, 0, none⟩) n C) (.vslc h.length l.length sz 0 n) := by
  refine .vslc _ _ _ _ _ _ _ _ (by omega) (by simp) fun m hm => ?_
  simp [Res.tip] at hm
  subst hm
  exact ⟨Nat.le_refl _, fun _ => ⟨C, by rw [← hi.len]; simp, by simp, rfl, by omega⟩⟩

theorem sim_vlit (hi : Inv P G S ρ h w) (ha : RepA S ρ h w a.tmps ad) {t e : TypeId} {len : Nat} {i : TypeInfo} {z : List Value × List FV} {parts : Array (Nat × Operand)} {ps : List (Nat × Opd)} (ht : P.underlying t = some (.slice e)) (hinf : P.info? e = some i) (hz : zeroCellsOf P e = some z)
    (hps : parts.toList.mapM (fun p => (trOpd P e p.2).map (Prod.mk p.1)) = some ps) (hd : dop call (.vlit (tagE P e) i.size len z.2 ps) ad h = some out) :
    SimOut P G S ρ h w ((do pure (Next.value (← Instr.buildSlice t len (parts.map fun (i, x) => (i, a.eval x)))) : Sem Next).run P w) out := by
  simp only [dop] at hd
  split at hd
  · cases hd
  · rename_i hcond
    split at hd
    · rename_i qs hqs
      split at hd
      · rename_i l hl
        split at hd
        · rename_i hz1
          simp only [Option.some.injEq] at hd
          subst hd
          obtain ⟨c', run, f2, hll⟩ := lit_parts (S := S) (w := w) ha ht hinf hz hps (by omega) (by omega) (by omega) hqs hl hz1
          rw [run_v run]
          obtain ⟨S', E, I⟩ := vec_new hi (c := c') (e := e) (sz := i.size) (et := tagE P e) (C := len) (l := l) (by omega) (tagE_ok e) (by rw [f2.size, hll]; exact Nat.le_refl _) (by omega)
            (fun k x hx => ⟨f2.len k x hx, fun j y hy => ⟨(f2.rep k j x y hx hy).2, (f2.rep k j x y hx hy).1⟩⟩)
          have R := vslc_new (S' := S') (sz := i.size) (et := tagE P e) (w' := w.alloc (.cells c' e)) hi (n := len) (C := len) (l := l) (by omega) (by omega)
          rw [hll] at R
          exact ⟨_, _, _, _, .inl rfl, R, E, I⟩
        · cases hd
      · cases hd
    · cases hd

theorem sim_vmake (hi : Inv P G S ρ h w) (ha : RepA S ρ h w a.tmps ad) {t e t1 t2 : TypeId} {i : TypeInfo} {z : List Value × List FV} {n c : Operand} {n' c' : Opd} {imm : Bool} (ht : P.underlying t = some (.slice e)) (hinf : P.info? e = some i) (hz : zeroCellsOf P e = some z)
    (h1 : trOpd P t1 n = some n') (h2 : trOpd P t2 c = some c') (hd : dop call (.vmake imm (tagE P e) i.size i.bytes z.2 n' c') ad h = some out) :
    SimOut P G S ρ h w ((do pure (Next.value (← Instr.makeSlice t (a.eval n) (a.eval c))) : Sem Next).run P w) out := by
  obtain ⟨zv, hzv, hk, hzz⟩ : ∃ zv, i.zero = some zv ∧ constsOk zv.cells.toList z.2 = true ∧ z.1 = zv.cells.toList := by
    unfold zeroCellsOf at hz
    simp only [hinf] at hz
    split at hz
    · rename_i zv hzv
      split at hz
      · split at hz
        · rename_i hk
          simp only [Option.some.injEq] at hz
          subst hz
          exact ⟨zv, hzv, hk, rfl⟩
        · cases hz
      · cases hz
    · cases hz
  obtain ⟨zl, zr⟩ := rep_consts (S := S) (w := w) hk
  have g1 := rep_opd ha h1
  have g2 := rep_opd ha h2
  simp only [dop] at hd
  split at hd
  · rename_i nn cc en ec
    split at hd
    · rename_i hc
      obtain ⟨c1, c2, c3, c4, c5, c6, c7, c8⟩ := hc
      simp only [Option.some.injEq] at hd
      obtain ⟨kn, hkn⟩ := rep_int g1 en
      obtain ⟨kc, hkc⟩ := rep_int g2 ec
      rw [hkn, hkc]
      have zsize : zv.cells.size = i.size := by simp at zl; omega
      have run := run_make (P := P) w t e i zv ht hinf hzv kn kc nn cc c1 c2 (by rw [Int.mul_comm]; omega) (by omega)
      rw [run_v run]
      have hE : ∀ (k : Nat) (x : List FV), (List.replicate nn.toNat z.2)[k]? = some x → x.length = i.size ∧ ∀ (j : Nat) (y : FV), x[j]? = some y → y.one = true ∧ RepF S w ((madeCells zv.cells (cc.toNat * i.size)).getD (k * i.size + j) undef) y := fun k x hx => by
        have hm := List.mem_of_getElem? hx
        have hkl := (List.getElem?_eq_some_iff.1 hx).1
        simp at hm hkl
        rw [hm.2]
        refine ⟨c7, fun j y hy => ⟨(List.all_eq_true.1 c8) _ (List.mem_of_getElem? hy), ?_⟩⟩
        have hj : j < i.size := by rw [← c7]; exact (List.getElem?_eq_some_iff.1 hy).1
        have hb : k * i.size + j < cc.toNat * i.size := by
          have := row_le (sz := i.size) (show k < cc.toNat by omega)
          omega
        have e2 : (k * i.size + j) % i.size = j := by rw [Nat.add_comm, Nat.add_mul_mod_self_right, Nat.mod_eq_of_lt hj]
        have : (madeCells zv.cells (cc.toNat * i.size)).getD (k * i.size + j) undef = zv.cells.toList.getD j undef := by
          simp [madeCells, Array.getD_eq_getD_getElem?, hb, zsize, e2, List.getD_eq_getElem?_getD, hj]
        rw [this]
        exact zr j y hy
      subst hd
      cases imm with
      | false =>
        simp only [Bool.false_eq_true, if_false]
        obtain ⟨S', E, I⟩ := vec_new hi (c := madeCells zv.cells (cc.toNat * i.size)) (e := e) (sz := i.size) (et := tagE P e) (C := cc.toNat) (l := List.replicate nn.toNat z.2) c6 (tagE_ok e) (by rw [size_madeCells]; exact Nat.le_refl _) (by simp; omega) hE
        have R := vslc_new (S' := S') (sz := i.size) (et := tagE P e) (w' := w.alloc (.cells (madeCells zv.cells (cc.toNat * i.size)) e)) hi (n := nn.toNat) (C := cc.toNat) (l := List.replicate nn.toNat z.2) (by simp) (by simp; omega)
        rw [List.length_replicate] at R
        exact ⟨_, _, _, _, .inl rfl, R, E, I⟩
      | true =>
        simp only [if_true]
        have E := ext_alloc hi (.cells (madeCells zv.cells (cc.toNat * i.size)) e) (fun x => x < cc.toNat * i.size) [] [] (fun r b hr hb => by simp at hr)
        have I := inv_alloc_old hi (.cells (madeCells zv.cells (cc.toNat * i.size)) e) (fun x => x < cc.toNat * i.size) [] [] (fun r b hr hb => by simp at hr) rfl (fun i j b r r' hr => by simp at hr) (fun i cells tag hc => by simp at hc) (fun i hc => by simp at hc) (fun i sz n et hc => by simp at hc) (fun i s pos hc => by simp at hc)
        simp only [List.append_nil] at E I
        refine ⟨_, _, _, _, .inl rfl, .d _ _ ?_, E, I⟩
        refine .slice w.heap.size 0 nn.toNat cc.toNat i.size _ (fun k j => (madeCells zv.cells (cc.toNat * i.size)).getD (k * i.size + j) undef) (by simp) (by omega) (fun k x hx => (hE k x hx).1) (fun k j hk hj => ?_) (fun k j x y hx hy => ((hE k x hx).2 j y hy).2.mono E.settled E.cells) (fun k j x y hx hy => ((hE k x hx).2 j y hy).1)
        have hb : k * i.size + j < cc.toNat * i.size := by
          have := row_le (sz := i.size) (show k < cc.toNat by omega)
          omega
        refine ⟨.inr ⟨rfl, by omega⟩, ?_⟩
        simp only [World.cell?, heap_alloc_at, Nat.zero_add]
        have : k * i.size + j < (madeCells zv.cells (cc.toNat * i.size)).size := by rw [size_madeCells]; exact hb
        simp [Array.getD_eq_getD_getElem?, this]
    · cases hd
  · cases hd

/-- Data taken of a row that is stored into. -/
theorem sim_frz (hi : Inv P G S ρ h w) {v : Value} {x : Opd} (hx : RepD S ρ h w v (ev ad x)) (hd : dop call (.frz x) ad h = some out) : SimOut P G S ρ h w (.ok (.value v) w) out := by
  simp only [dop] at hd
  split at hd
  · rename_i id g s off n ex
    split at hd
    · rename_i sz l fz et hv
      split at hd
      · rename_i hc
        obtain ⟨rfl, rfl⟩ := hc
        simp only [Option.some.injEq] at hd
        subst hd
        rw [ex] at hx
        obtain ⟨ri, r1, b, C, c, e, rfl, g2, g3, g4, g5, g6, g7, g8, g9⟩ := hi.own id _ hv
        have hidl : id < h.length := (List.getElem?_eq_some_iff.1 hv).1
        have hidl' : id < ρ.length := by rw [hi.len]; exact hidl
        have hbl : b < w.heap.size := (Array.getElem?_eq_some_iff.1 g2).1
        cases hx with
        | vslc b' o cap _ _ _ _ _ hc ht hr =>
          obtain ⟨C', q1, q2, q3, q4⟩ := (hr l.length (by rw [hv]; rfl)).2 rfl
          rw [r1] at q1
          simp only [Option.some.injEq, RI.vec.injEq, and_true] at q1
          obtain ⟨rfl, rfl⟩ := q1
          let S' : Settled := fun b' x => S b' x ∨ (b' = b ∧ x < (off + n) * s)
          have hset : ρ.set id (.vec b C s) = ρ := set_self _ _ _ r1
          have hcl : (off + n) * s ≤ c.size := Nat.le_trans (Nat.mul_le_mul_right _ (by omega : off + n ≤ C)) g5
          have E : Ext S ρ h w S' (ρ.set id (.vec b C s)) (h.set id (.vec s l (max fz (off + n)) et)) w := by
            rw [hset]
            exact { Ext.refl S ρ h w with
              settled := fun b o x => .inl x
              len := by simp
              rows := fun t' n' ht' hn => by
                by_cases e : t' = id
                · subst e
                  rw [List.getElem?_set_self ht'] at hn
                  simp [Res.tip] at hn
                  exact ⟨l.length, by rw [hv]; rfl, by omega, fun _ => rfl⟩
                · rw [List.getElem?_set_ne (Ne.symm e)] at hn
                  exact ⟨n', hn, Nat.le_refl _, fun _ => rfl⟩
              fresh := fun b' o' x => by
                rcases x with x | ⟨rfl, _⟩
                · exact .inl x
                · exact .inr (.inr ⟨id, _, r1, rfl, rfl⟩) }
          have I : Inv P G S' (ρ.set id (.vec b C s)) (h.set id (.vec s l (max fz (off + n)) et)) w := by
            refine inv_upd hi hidl E (fun i b' r hne hr9 hbk => ?_) (fun b' o' hs => ?_) (fun b' hbk => ?_) (fun cells' tag' hce => by cases hce) (fun hh => by cases hh) (fun _ _ _ hh => by cases hh) (fun _ _ hh => by cases hh) (fun _ _ _ _ _ hh => by cases hh) ?_
            · have : b' ≠ b := by rintro rfl; exact hne (hi.apart i id _ r _ hr9 r1 hbk rfl)
              exact ⟨rfl, fun o ho => ho.elim _root_.id fun ho => absurd ho.1 this⟩
            · rcases hs with hs | ⟨rfl, _⟩
              · exact hi.bound b' o' hs
              · exact hbl
            · simp [RI.block] at hbk
              subst hbk
              exact ⟨hbl, fun i r hne hr9 hbk => hne (hi.apart i id _ r _ hr9 r1 hbk rfl)⟩
            · refine ⟨b, C, c, e, rfl, g2, g3, g4, g5, g6, by omega, fun x hx hs => ?_, fun k c' hk => ⟨(g9 k c' hk).1, fun j x hx => ⟨((g9 k c' hk).2 j x hx).1, ((g9 k c' hk).2 j x hx).2.mono E.settled E.cells⟩⟩⟩
              have m1 : fz * s ≤ max fz (off + n) * s := Nat.mul_le_mul_right _ (Nat.le_max_left _ _)
              have m2 : (off + n) * s ≤ max fz (off + n) * s := Nat.mul_le_mul_right _ (Nat.le_max_right _ _)
              rcases hs with hs | ⟨_, hs⟩
              · exact g8 x (by omega) hs
              · omega
          rw [hset] at E I
          refine ⟨_, w, S', ρ, .inl rfl, .d _ _ ?_, E, I⟩
          subst q2
          have hlen : ((l.drop off).take n).length = n := by simp; omega
          have hat : ∀ (k : Nat) (c' : List FV), ((l.drop off).take n)[k]? = some c' → k < n ∧ l[off + k]? = some c' := fun k c' hk => by
            rw [List.getElem?_take] at hk
            split at hk
            · rw [List.getElem?_drop] at hk
              exact ⟨by assumption, hk⟩
            · cases hk
          refine .slice b (off * s) n cap s _ (fun k j => c.getD ((off + k) * s + j) undef) hlen hc (fun k c' hk => (g9 _ c' (hat k c' hk).2).1) (fun k j hk hj => ?_) (fun k j c' x hk hx => ((g9 _ c' (hat k c' hk).2).2 j x hx).2.mono E.settled E.cells) (fun k j c' x hk hx => ((g9 _ c' (hat k c' hk).2).2 j x hx).1)
          have e1 : off * s + k * s + j = (off + k) * s + j := by rw [Nat.add_mul]
          have := row_le (sz := s) (show off + k < off + n by omega)
          rw [e1]
          refine ⟨.inr ⟨rfl, by omega⟩, ?_⟩
          simp only [World.cell?, g2]
          have h3 : (off + k) * s + j < c.size := by omega
          simp [Array.getD_eq_getD_getElem?, h3]
      · cases hd
    · cases hd
  · rename_i sz l t ex
    simp only [Option.some.injEq] at hd
    subst hd
    rw [ex] at hx
    cases hx with
    | row _ _ _ _ hl _ _ => exact SimOut.plain hi (.d _ _ hl)
  · rename_i y ex
    simp only [Option.some.injEq] at hd
    subst hd
    rw [ex] at hx
    exact SimOut.plain hi hx
  · cases hd
end
end Go.Deepv
