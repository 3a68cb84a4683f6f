/-
  The deep machine over all numbers of rounds, and its soundness.
  Conditions: the functions' deep codes are those of their codes.
-/
import Derived.Test.YtpemlmhggiaflaaGreatDoorDN
set_option linter.unusedVariables false
set_option linter.unusedSimpArgs false
namespace Go.Deepv
open Go.RowKit

section
variable {P : Program} {G : Glob} {S S' : Settled} {ρ ρ' : List RI} {h h' : List Res} {w w' : World} {a : Act} {ad : List DV} {call : Cle → List DV → List Res → Option DOut} {out : DOut}

theorem run_mapM {α : Type} {f : α → Sem Value} : ∀ (l : List α) (u : α → Value), (∀ x ∈ l, (f x).run P w = .ok (u x) w) → (l.mapM f).run P w = .ok (l.map u) w
  | [], u, h => by simp
  | x :: l, u, h => by
    have h1 := h x (by simp)
    have h2 := run_mapM l u fun y hy => h y (by simp [hy])
    simp [List.mapM_cons, h1, h2]

def resF (tmps : Array Value) : ResultVar → Sem Value
  | .tmp t => pure (tmps.getD t undef)
  | .cell a t => do loadVar t (← asAddr (tmps.getD a undef))
theorem results_eq (fn : Func) (tmps : Array Value) : results fn tmps = (do
    let vs ← fn.results.mapM (resF tmps)
    pure (if h : vs.size = 1 then vs[0] else .tuple vs)) := by
  unfold results
  have : (fun x : ResultVar => (match x with | .tmp t => pure (tmps.getD t undef) | .cell a t => do loadVar t (← asAddr (tmps.getD a undef)) : Sem Value)) = resF tmps := by
    funext x
    cases x <;> rfl
  rw [← this]
  rfl

theorem run_res (hi : Inv P G S ρ h w) (ha : RepA S ρ h w a.tmps ad) {r : ResultVar} {d : DRes} (ht : trRes P r = some d) {x : DV} (hx : dresult ad h d = some x) :
    ∃ v, (resF a.tmps r).run P w = .ok v w ∧ RepD S ρ h w v x := by
  have get : ∀ t, RepD S ρ h w (a.tmps.getD t undef) (ad.getD t (.d .undef)) := fun t => by
    rcases Nat.lt_or_ge t ad.length with hl | hl
    · rw [List.getD_eq_getElem?_getD, List.getElem?_eq_getElem hl, Option.getD_some]
      exact ha.at_ t _ (List.getElem?_eq_getElem hl)
    · rw [List.getD_eq_getElem?_getD, List.getElem?_eq_none hl, Option.getD_none]
      exact .d _ _ (.undef _)
  cases r with
  | tmp t =>
    simp only [trRes, Option.some.injEq] at ht
    subst ht
    simp only [dresult, Option.some.injEq] at hx
    subst hx
    exact ⟨_, rfl, get t⟩
  | cell c t =>
    simp only [trRes, Option.map_eq_some_iff] at ht
    obtain ⟨n, hn, rfl⟩ := ht
    have g := get c
    simp only [dresult] at hx
    have key : ∀ (cells : List DV) (off : Nat), ((∃ fs, ad.getD c (.d .undef) = .d (.ref fs off) ∧ cells = fs.map .d) ∨ (∃ id tag, ad.getD c (.d .undef) = .ptr id off ∧ h[id]? = some (.box cells tag))) → dload n cells off = some x →
        ∃ v, (do loadVar t (← asAddr (a.tmps.getD c undef)) : Sem Value).run P w = .ok v w ∧ RepD S ρ h w v x := by
      intro cells off hp hv
      obtain ⟨b, o, u, e, hc, hr⟩ := rep_place hi g (hp.elim Or.inl fun x => .inr (.inl x))
      obtain ⟨l1, l2⟩ := rep_dload u hr hv
      have hl := run_loadVar (P := P) (w := w) hn b (o + off) (fun j => u (off + j)) (fun j hj => by rw [Nat.add_assoc]; exact hc _ (by omega))
      refine ⟨_, ?_, l2⟩
      rw [e]
      simp [asAddr, hl]
    split at hx
    · rename_i id off he
      split at hx
      · rename_i cells tag hb
        exact key cells off (.inr ⟨id, _, he, hb⟩) hx
      · cases hx
    · rename_i cells off he
      exact key _ off (.inl ⟨cells, he, rfl⟩) hx
    · cases hx

theorem run_results (hi : Inv P G S ρ h w) (ha : RepA S ρ h w a.tmps ad) {fn : Func} {rs : List DRes} (ht : fn.results.toList.mapM (trRes P) = some rs) {vs : List DV} (hv : rs.mapM (dresult ad h) = some vs) :
    ∃ x, (results fn a.tmps).run P w = .ok x w ∧ ∀ co, RepD S ρ h w x (dresults co vs) := by
  have key : ∀ (l : List ResultVar) (rs : List DRes) (vs : List DV), l.mapM (trRes P) = some rs → rs.mapM (dresult ad h) = some vs →
      ∃ us, (l.mapM (resF a.tmps)).run P w = .ok us w ∧ us.length = vs.length ∧ ∀ (j : Nat) (x : DV), vs[j]? = some x → RepD S ρ h w (us.getD j undef) x := by
    intro l
    induction l with
    | nil =>
      intro rs vs h1 h2
      simp at h1
      subst h1
      simp at h2
      subst h2
      exact ⟨[], by simp, rfl, fun j x hx => by simp at hx⟩
    | cons r l ih =>
      intro rs vs h1 h2
      simp only [List.mapM_cons, Option.pure_def, Option.bind_eq_bind, Option.bind_eq_some_iff, Option.some.injEq] at h1
      obtain ⟨d, hd, ds, hds, rfl⟩ := h1
      simp only [List.mapM_cons, Option.pure_def, Option.bind_eq_bind, Option.bind_eq_some_iff, Option.some.injEq] at h2
      obtain ⟨y, hy, ys, hys, rfl⟩ := h2
      obtain ⟨v, e1, r1⟩ := run_res hi ha hd hy
      obtain ⟨us, e2, l2, r2⟩ := ih ds ys hds hys
      refine ⟨v :: us, ?_, by simp [l2], fun j x hx => ?_⟩
      · rw [List.mapM_cons]
        simp only [Sem.run_bind, e1, Result.andThen_ok, e2, Sem.run_pure]
      · cases j with
        | zero => simp at hx; subst hx; exact r1
        | succ j => simpa using r2 j x (by simpa using hx)
  obtain ⟨us, e, l, r⟩ := key _ rs vs ht hv
  have hrun : (results fn a.tmps).run P w = .ok (if h : us.toArray.size = 1 then us.toArray[0] else .tuple us.toArray) w := by
    rw [results_eq, Array.mapM_eq_mapM_toList]
    simp only [Sem.run_bind, Sem.run_map]
    rw [e]
    rfl
  refine ⟨_, hrun, ?_⟩
  have many : us.length ≠ 1 → dresults true vs = (DV.tup (vs.map DV.coe)).coe → dresults false vs = .tup vs → ∀ co, RepD S ρ h w (if h : us.toArray.size = 1 then us.toArray[0] else .tuple us.toArray) (dresults co vs) := by
    intro h1 h2 h3 co
    cases co
    · rw [h3, dif_neg (by simpa using h1)]
      exact .tup _ _ (by simp [l]) fun j x hx => by
        have := r j x hx
        simpa [Array.getD_eq_getD_getElem?, List.getD_eq_getElem?_getD] using this
    rw [h2, dif_neg (by simpa using h1)]
    refine rep_coe (.tup _ _ (by simp [l]) fun j x hx => ?_)
    simp only [List.getElem?_map, Option.map_eq_some_iff] at hx
    obtain ⟨y, hy, rfl⟩ := hx
    have := rep_coe (r j y hy)
    simpa [Array.getD_eq_getD_getElem?, List.getD_eq_getElem?_getD] using this
  match vs, l, r, many with
  | [], l, r, many => exact many (by simp at l; simp [l]) rfl rfl
  | [x], l, r, many =>
    have h1 : us.length = 1 := by simpa using l
    have := r 0 x rfl
    rw [dif_pos (by simpa using h1)]
    have e2 : us.toArray[0]'(by simp [h1]) = us.getD 0 undef := by simp [List.getD_eq_getElem?_getD, h1]
    rw [e2]
    intro co
    cases co
    · exact this
    · exact rep_coe this
  | x :: y :: vs, l, r, many => exact many (by simp at l; omega) rfl rfl

/-! ### The marks are taken off as a function leaves -/
def shut (l : List Nat) (w : World) : World := l.foldl (fun w D => w.putObj D (.deferred none)) w
theorem leaves_marks {F : Fence} {n : Nat} {fn : Func} {tmps : Array Value} {R : Ending → World → Prop} {u : FrameMode} (hu : u ≠ .run) : ∀ (l : List Nat) (w : World), l.Nodup → (∀ D ∈ l, w.heap[D]? = some (.deferred (some []))) → LeavesInM F n P fn tmps R [] u (shut l w) → LeavesInM F n P fn tmps R (l.map mark) u w
  | [], w, _, _, h => h
  | D :: l, w, hn, hl, h => by
    refine ⟨hu, .inl ⟨D, w.putObj D (.deferred none), rfl, run_takeDeferred (hl D (by simp)), leaves_marks hu l _ (List.nodup_cons.1 hn).2 (fun k hk => ?_) h⟩⟩
    rw [World.putObj_heap_other (fun e => (List.nodup_cons.1 hn).1 (by rw [← e]; exact hk))]
    exact hl k (by simp [hk])
theorem shut_ok : ∀ (l : List Nat) (w' : World), l.Nodup → (∀ D ∈ l, w.heap.size ≤ D ∧ w'.heap[D]? = some (.deferred (some [])) ∧ ∀ (i : Nat) (r : RI), ρ'[i]? = some r → r.block ≠ some D) → Ext S ρ h w S' ρ' h' w' → Inv P G S' ρ' h' w' →
    (∀ v x, RepD S' ρ' h' w' v x → RepD S' ρ' h' (shut l w') v x) ∧ Ext S ρ h w S' ρ' h' (shut l w') ∧ Inv P G S' ρ' h' (shut l w')
  | [], w', _, _, E, I => ⟨fun _ _ h => h, E, I⟩
  | D :: l, w', hn, hl, E, I => by
    have nc : ∀ (r : Option (List Deferred)) c e p, Obj.deferred r ≠ .cells c e p := fun r c e p h => by cases h
    obtain ⟨h1, h2, h3⟩ := hl D (by simp)
    obtain ⟨k1, k2, k3⟩ := shut_ok l (w'.putObj D (.deferred none)) (List.nodup_cons.1 hn).2 (fun k hk => by
      refine ⟨(hl k (by simp [hk])).1, ?_, (hl k (by simp [hk])).2.2⟩
      rw [World.putObj_heap_other (fun e => (List.nodup_cons.1 hn).1 (by rw [← e]; exact hk))]
      exact (hl k (by simp [hk])).2.1) (ext_put E h2 (nc _) (nc _) h1) (inv_put I h2 (nc _) (nc _) h3)
    exact ⟨fun v x hx => k1 v x (rep_put h2 (nc _) (nc _) hx), k2, k3⟩
theorem shut_marks {ds : List Deferred} (E : Ext S ρ h w S' ρ' h' w') (I : Inv P G S' ρ' h' w') (m : Marked (w.heap.size, []) ρ' w' ds) :
    ∃ ws, (∀ v x, RepD S' ρ' h' w' v x → RepD S' ρ' h' ws v x) ∧ Ext S ρ h w S' ρ' h' ws ∧ Inv P G S' ρ' h' ws ∧
      ∀ (u : FrameMode), u ≠ .run → ∀ (fn : Func) (tmps : Array Value) (R : Ending → World → Prop) (n : Nat), LeavesIn Fence.wide n P fn tmps R [] u ws → LeavesInM Fence.wide n P fn tmps R ds u w' := by
  obtain ⟨_, l, e, hn, hl⟩ := m
  simp only [List.append_nil] at e
  subst e
  obtain ⟨k1, k2, k3⟩ := shut_ok l w' hn hl E I
  exact ⟨shut l w', k1, k2, k3, fun u hu fn tmps R n hleave => leaves_marks hu l w' hn (fun D hD => (hl D hD).2.1) hleave⟩

theorem body_sim (hc : CallsOk P call) (hS : CallS P G call) {k : Nat} {loop : LoopF} (hL : LoopS P G k loop) {g : FuncId} {fn : Func} {M : Marks} {co : Bool} {F : AFunc} (hf : P.funcs[g]? = some fn) (ht : trFunc P M co fn = some F)
    (hi : Inv P G S ρ h w) {args : Array Value} {dargs : List DV} (hl : args.size = dargs.length) (hr : ∀ (j : Nat) (x : DV), dargs[j]? = some x → RepD S ρ h w (args.getD j undef) x) (hd : dbody call loop F dargs h = some out) :
    Calls P g args w (CallPost P G S ρ h w out) := by
  unfold trFunc at ht
  split at ht
  · rename_i b rs hb hrs
    simp only [Option.map_eq_some_iff] at ht
    obtain ⟨A, hA, rfl⟩ := ht
    refine (callsIn_wide (n := 0)).1 (callsIn_of_wp_marks hf hb trivial ?_)
    have ha : RepA S ρ h w (args ++ Array.replicate (fn.ntmps - args.size) undef) (dargs ++ List.replicate (fn.ntmps - dargs.length) (.d .undef)) := by
      refine ⟨by simp [hl], fun j x hx => ?_⟩
      rw [getD_append]
      rcases Nat.lt_or_ge j dargs.length with hj | hj
      · rw [List.getElem?_append_left hj] at hx
        rw [if_pos (by omega)]
        exact hr j x hx
      · rw [List.getElem?_append_right hj] at hx
        have := List.mem_of_getElem? hx
        simp at this
        rw [this.2]
        exact .d _ _ (.undef _)
    unfold dbody at hd
    split at hd
    · rename_i v a1 h1 hx
      split at hd
      · rename_i hlow
        simp only [Option.some.injEq] at hd
        subst hd
        refine code_sim wide_wide hc hS hL M b A hA (.inl rfl) ⟨_, []⟩ _ S ρ h w _ _ _ (w.heap.size, []) _ hi ha (.nil (Nat.le_refl _)) hx fun e' a' w' hp => ?_
        obtain ⟨S1, ρ1, p1, p2, p3, p4, p5⟩ := hp
        cases e' <;> simp only [ExitOk] at p5
        obtain ⟨x, rfl, hxr⟩ := p5
        obtain ⟨ws, w1, w2, w3, w4⟩ := shut_marks p2 p3 p4
        exact w4 _ (fun h => by cases h) _ _ _ _ ⟨x, S1, _, rfl, (w1 _ _ hxr).take hlow, w2.take hi, w3.take _⟩
      · cases hd
    · rename_i a1 h1 hx
      split at hd
      · rename_i vs hvs
        split at hd
        · rename_i hlow
          simp only [Option.some.injEq] at hd
          subst hd
          refine code_sim wide_wide hc hS hL M b A hA (.inl rfl) ⟨_, []⟩ _ S ρ h w _ _ _ (w.heap.size, []) _ hi ha (.nil (Nat.le_refl _)) hx fun e' a' w' hp => ?_
          obtain ⟨S1, ρ1, p1, p2, p3, p4, p5⟩ := hp
          cases e' <;> simp only [ExitOk] at p5
          obtain ⟨ws, w1, w2, w3, w4⟩ := shut_marks p2 p3 p4
          obtain ⟨x, hrun, hxr⟩ := run_results w3 ⟨p1.len, fun j x hx => w1 _ _ (p1.at_ j x hx)⟩ hrs hvs
          exact w4 _ (fun h => by cases h) _ _ _ _ ⟨x, hrun, x, S1, _, rfl, (hxr _).take hlow, w2.takeN (Nat.le_add_right _ _) hi, w3.take _⟩
        · cases hd
      · cases hd
    · rename_i a1 h1 hx
      split at hd
      · rename_i vs hvs
        split at hd
        · rename_i hlow
          simp only [Option.some.injEq] at hd
          subst hd
          refine code_sim wide_wide hc hS hL M b A hA (.inl rfl) ⟨_, []⟩ _ S ρ h w _ _ _ (w.heap.size, []) _ hi ha (.nil (Nat.le_refl _)) hx fun e' a' w' hp => ?_
          obtain ⟨S1, ρ1, p1, p2, p3, p4, p5⟩ := hp
          cases e' <;> simp only [ExitOk] at p5
          obtain ⟨ws, w1, w2, w3, w4⟩ := shut_marks p2 p3 p4
          obtain ⟨x, hrun, hxr⟩ := run_results w3 ⟨p1.len, fun j x hx => w1 _ _ (p1.at_ j x hx)⟩ hrs hvs
          exact w4 _ (fun h => by cases h) _ _ _ _ ⟨x, hrun, x, S1, _, rfl, (hxr _).take hlow, w2.takeN (Nat.le_add_right _ _) hi, w3.take _⟩
        · cases hd
      · cases hd
    · cases hd
  · cases ht

/-- The functions that the deep machine knows are those of the program; what is told otherwise holds. -/
structure EnvOk (P : Program) (G : Glob) (E : Env) : Prop where
  af : ∀ g F, E.af g = some F → ∃ fn M co, P.funcs[g]? = some fn ∧ (fn.name == "runtime.NumGoroutine") = false ∧ trFunc P M co fn = some F
  ext : ∀ g F, E.ext g = some F → (∃ fn, P.funcs[g]? = some fn ∧ (fn.name == "runtime.NumGoroutine") = false ∧ fn.body.isNone = false) ∧
    ∀ (args : Array Value) (dargs : List DV) (S : Settled) (ρ : List RI) (h : List Res) (w : World) (out : DOut), Inv P G S ρ h w → args.size = dargs.length → (∀ (j : Nat) (x : DV), dargs[j]? = some x → RepD S ρ h w (args.getD j undef) x) →
      F dargs h = some out → Calls P g args w (CallPost P G S ρ h w out)

theorem call_sim {E : Env} (EO : EnvOk P G E) (hc : CallsOk P call) (hS : CallS P G call) {k : Nat} {loop : LoopF} (hL : LoopS P G k loop) : CallS P G (dcall call loop E) := by
  refine ⟨?_, fun id l args dargs S ρ h w out hi hρ hl hr hd => yield_sim hc hS hL id l args dargs S ρ h w out hi hρ hl hr hd⟩
  intro g args dargs S ρ h w out hi hl hr hd
  simp only [dcall] at hd
  unfold dcallF at hd
  split at hd
  · rename_i F hF
    exact (EO.ext g F hF).2 args dargs S ρ h w out hi hl hr hd
  · split at hd
    · cases hd
    · rename_i F hF
      obtain ⟨fn, M, co, hf, hname, ht⟩ := EO.af g F hF
      generalize hda : (if F.coe then dargs.map DV.coe else dargs) = da at hd
      have hl' : args.size = da.length := by rw [← hda]; split <;> simp [hl]
      have hr' : ∀ (j : Nat) (x : DV), da[j]? = some x → RepD S ρ h w (args.getD j undef) x := fun j x hx => by
        rw [← hda] at hx
        split at hx
        · simp only [List.getElem?_map, Option.map_eq_some_iff] at hx
          obtain ⟨y, hy, rfl⟩ := hx
          exact rep_coe (hr j y hy)
        · exact hr j x hx
      simp only at hd
      split at hd
      · rename_i hall
        simp only [Bool.and_eq_true, beq_iff_eq] at hall
        obtain ⟨hkeep, hall⟩ := hall
        simp only [Option.map_eq_some_iff] at hd
        obtain ⟨out0, h0, rfl⟩ := hd
        have hr0 : ∀ (j : Nat) (x : DV), da[j]? = some x → RepD S [] [] w (args.getD j undef) x := fun j x hx => by
          have := (List.all_eq_true.1 hall) x (List.mem_of_getElem? hx)
          cases x <;> simp [DV.isD] at this
          exact .d _ _ (repD_d (hr' j _ hx))
        refine (body_sim hc hS hL hf ht (inv_none hi) hl' hr0 h0).mono fun e w' hp => ?_
        cases out0 with
        | val v h1 =>
          obtain ⟨x, S1, ρ1, he, hx, hE, hI⟩ := hp
          have hlow : v.low 0 = true ∧ h1 = [] := by
            unfold dbody at h0
            split at h0
            · split at h0 <;> simp at h0
            · split at h0
              · split at h0
                · rename_i hlow
                  simp only [Option.some.injEq, DOut.val.injEq] at h0
                  obtain ⟨rfl, rfl⟩ := h0
                  rw [hkeep] at hlow ⊢
                  exact ⟨hlow, by simp⟩
                · cases h0
              · cases h0
            · split at h0
              · split at h0
                · rename_i hlow
                  simp only [Option.some.injEq, DOut.val.injEq] at h0
                  obtain ⟨rfl, rfl⟩ := h0
                  rw [hkeep] at hlow ⊢
                  exact ⟨hlow, by simp⟩
                · cases h0
              · cases h0
            · cases h0
          obtain ⟨E2, I2⟩ := ext_lift hi hE hI
          have : ρ1 = [] := List.eq_nil_of_length_eq_zero (by rw [hI.len, hlow.2]; rfl)
          subst this
          rw [hlow.2] at hx
          exact ⟨x, S1, ρ, he, hx.lift, E2, I2⟩
        | pan v h1 =>
          obtain ⟨x, S1, ρ1, he, hx, hE, hI⟩ := hp
          have hlow : h1 = [] := by
            unfold dbody at h0
            split at h0
            · split at h0
              · simp only [Option.some.injEq, DOut.pan.injEq] at h0
                rw [← h0.2]; simp
              · cases h0
            · split at h0
              · split at h0 <;> simp at h0
              · cases h0
            · split at h0
              · split at h0 <;> simp at h0
              · cases h0
            · cases h0
          obtain ⟨E2, I2⟩ := ext_lift hi hE hI
          have : ρ1 = [] := List.eq_nil_of_length_eq_zero (by rw [hI.len, hlow]; rfl)
          subst this
          rw [hlow] at hx
          exact ⟨x, S1, ρ, he, hx.lift, E2, I2⟩
      · exact body_sim hc hS hL hf ht hi hl' hr' hd

/-! ### All numbers of rounds -/
noncomputable def drec (E : Env) : Nat → (Cle → List DV → List Res → Option DOut) × LoopF
  | 0 => (fun _ _ _ => none, fun _ _ _ _ _ _ _ => none)
  | k + 1 => (dcall (drec E k).1 (drec E k).2 E, dround (drec E k).1 (drec E k).2)

theorem callsOk_rec {E : Env} (EO : EnvOk P G E) : ∀ k, CallsOk P (drec E k).1
  | 0 => fun g args h out hh => by simp [drec] at hh
  | k + 1 => fun g args h out hh => by
    simp only [drec, dcall, dcallF] at hh
    split at hh
    · rename_i F hF
      exact (EO.ext g F hF).1
    · split at hh
      · cases hh
      · rename_i F hF
        obtain ⟨fn, M, co, hf, hname, ht⟩ := EO.af g F hF
        refine ⟨fn, hf, hname, ?_⟩
        unfold trFunc at ht
        split at ht
        · rename_i b rs hb hrs
          simp [hb]
        · cases ht

theorem sound {E : Env} (EO : EnvOk P G E) : ∀ k, CallS P G (drec E k).1 ∧ LoopS P G k (drec E k).2
  | 0 => ⟨⟨fun g args dargs S ρ h w out hi hl hr hd => by simp [drec] at hd, fun id l args dargs S ρ h w out hi hρ hl hr hd => by simp [drec] at hd⟩, fun F hF M n0 cut hd ex c A ht hR a ad S ρ h w e ad' h' N0 Q hi ha hdf hn hr hQ => by simp [drec] at hr⟩
  | k + 1 => by
    obtain ⟨h1, h2⟩ := sound EO k
    exact ⟨call_sim EO (callsOk_rec EO k) h1 h2, round_sim (callsOk_rec EO k) h1 h2⟩

end
end Go.Deepv
