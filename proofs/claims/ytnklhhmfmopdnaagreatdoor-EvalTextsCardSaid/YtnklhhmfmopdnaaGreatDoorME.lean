/-
  The deep machine over all numbers of rounds, and its soundness; The deep machine's limit: what a call comes to with enough rounds; its equations; its soundness; The deep machine in use: what its proofs lean on
  Conditions: none.
-/
import Derived.Test.YtnklhhmfmopdnaaGreatDoorMD
import Derived.RecoverIn
set_option linter.unusedVariables false
set_option linter.unusedSimpArgs false
namespace Go.Deepv
open Go.RowKit
section
variable {P : Program} {G : Glob} {S S' : Settled} {ρ ρ' : List RI} {h h' : List Res} {w w' : World} {a : Act} {ad : List DV} {call : Cle → List DV → List Res → Option DOut} {out : DOut}
theorem run_mapM {α : Type} {f : α → Sem Value} : ∀ (l : List α) (u : α → Value), (∀ x ∈ l, (f x).run P w = .ok (u x) w) → (l.mapM f).run P w = .ok (l.map u) w
 | [], u, h => by simp
 | x :: l, u, h => by
  have h1 := h x (by simp)
  have h2 := run_mapM l u fun y hy => h y (by simp [hy])
  simp [List.mapM_cons, h1, h2]
def resF (tmps : Array Value) : ResultVar → Sem Value
 | .tmp t => pure (tmps.getD t undef)
 | .cell a t => do loadVar t (← asAddr (tmps.getD a undef))
theorem results_eq (fn : Func) (tmps : Array Value) : results fn tmps = (do
  let vs ← fn.results.mapM (resF tmps)
  pure (if h : vs.size = 1 then vs[0] else .tuple vs)) := by
 unfold results
 have : (fun x : ResultVar => (match x with | .tmp t => pure (tmps.getD t undef) | .cell a t => do loadVar t (← asAddr (tmps.getD a undef)) : Sem Value)) = resF tmps := by
  funext x
  cases x <;> rfl
 rw [← this]
 rfl
theorem run_res (hi : Inv P G S ρ h w) (ha : RepA S ρ h w a.tmps ad) {r : ResultVar} {d : DRes} (ht : trRes P r = some d) {x : DV} (hx : dresult ad h d = some x) :
  ∃ v, (resF a.tmps r).run P w = .ok v w ∧ RepD S ρ h w v x := by
 have get : ∀ t, RepD S ρ h w (a.tmps.getD t undef) (ad.getD t (.d .undef)) := fun t => by
  rcases Nat.lt_or_ge t ad.length with hl | hl
  ·rw [List.getD_eq_getElem?_getD, List.getElem?_eq_getElem hl, Option.getD_some]
   exact ha.at_ t _ (List.getElem?_eq_getElem hl)
  ·rw [List.getD_eq_getElem?_getD, List.getElem?_eq_none hl, Option.getD_none]
   exact .d _ _ (.undef _)
 cases r with
 | tmp t =>
  simp only [trRes, Option.some.injEq] at ht
  subst ht
  simp only [dresult, Option.some.injEq] at hx
  subst hx
  exact ⟨_, rfl, get t⟩
 | cell c t =>
  simp only [trRes, Option.map_eq_some_iff] at ht
  obtain ⟨n, hn, rfl⟩ := ht
  have g := get c
  simp only [dresult] at hx
  have key : ∀ (cells : List DV) (off : Nat), ((∃ fs, ad.getD c (.d .undef) = .d (.ref fs off) ∧ cells = fs.map .d) ∨ (∃ id tag, ad.getD c (.d .undef) = .ptr id off ∧ h[id]? = some (.box cells tag))) → dload n cells off = some x →
    ∃ v, (do loadVar t (← asAddr (a.tmps.getD c undef)) : Sem Value).run P w = .ok v w ∧ RepD S ρ h w v x := by
   intro cells off hp hv
   obtain ⟨b, o, u, e, hc, hr⟩ := rep_place hi g (hp.elim Or.inl fun x => .inr (.inl x))
   obtain ⟨l1, l2⟩ := rep_dload u hr hv
   have hl := run_loadVar (P := P) (w := w) hn b (o + off) (fun j => u (off + j)) (fun j hj => by rw [Nat.add_assoc]; exact hc _ (by omega))
   refine ⟨_, ?_, l2⟩
   rw [e]
   simp [asAddr, hl]
  split at hx
  ·rename_i id off he
   split at hx
   ·rename_i cells tag hb
    exact key cells off (.inr ⟨id, _, he, hb⟩) hx
   ·cases hx
  ·rename_i cells off he
   exact key _ off (.inl ⟨cells, he, rfl⟩) hx
  ·cases hx
theorem run_results (hi : Inv P G S ρ h w) (ha : RepA S ρ h w a.tmps ad) {fn : Func} {rs : List DRes} (ht : fn.results.toList.mapM (trRes P) = some rs) {vs : List DV} (hv : rs.mapM (dresult ad h) = some vs) :
  ∃ x, (results fn a.tmps).run P w = .ok x w ∧ ∀ co, RepD S ρ h w x (dresults co vs) := by
 have key : ∀ (l : List ResultVar) (rs : List DRes) (vs : List DV), l.mapM (trRes P) = some rs → rs.mapM (dresult ad h) = some vs →
   ∃ us, (l.mapM (resF a.tmps)).run P w = .ok us w ∧ us.length = vs.length ∧ ∀ (j : Nat) (x : DV), vs[j]? = some x → RepD S ρ h w (us.getD j undef) x := by
  intro l
  induction l with
  | nil =>
   intro rs vs h1 h2
   simp at h1
   subst h1
   simp at h2
   subst h2
   exact ⟨[], by simp, rfl, fun j x hx => by simp at hx⟩
  | cons r l ih =>
   intro rs vs h1 h2
   simp only [List.mapM_cons, Option.pure_def, Option.bind_eq_bind, Option.bind_eq_some_iff, Option.some.injEq] at h1
   obtain ⟨d, hd, ds, hds, rfl⟩ := h1
   simp only [List.mapM_cons, Option.pure_def, Option.bind_eq_bind, Option.bind_eq_some_iff, Option.some.injEq] at h2
   obtain ⟨y, hy, ys, hys, rfl⟩ := h2
   obtain ⟨v, e1, r1⟩ := run_res hi ha hd hy
   obtain ⟨us, e2, l2, r2⟩ := ih ds ys hds hys
   refine ⟨v :: us, ?_, by simp [l2], fun j x hx => ?_⟩
   ·rw [List.mapM_cons]
    simp only [Sem.run_bind, e1, Result.andThen_ok, e2, Sem.run_pure]
   ·cases j with
    | zero => simp at hx; subst hx; exact r1
    | succ j => simpa using r2 j x (by simpa using hx)
 obtain ⟨us, e, l, r⟩ := key _ rs vs ht hv
 have hrun : (results fn a.tmps).run P w = .ok (if h : us.toArray.size = 1 then us.toArray[0] else .tuple us.toArray) w := by
  rw [results_eq, Array.mapM_eq_mapM_toList]
  simp only [Sem.run_bind, Sem.run_map]
  rw [e]
  rfl
 refine ⟨_, hrun, ?_⟩
 have many : us.length ≠ 1 → dresults true vs = (DV.tup (vs.map DV.coe)).coe → dresults false vs = .tup vs → ∀ co, RepD S ρ h w (if h : us.toArray.size = 1 then us.toArray[0] else .tuple us.toArray) (dresults co vs) := by
  intro h1 h2 h3 co
  cases co
  ·rw [h3, dif_neg (by simpa using h1)]
   exact .tup _ _ (by simp [l]) fun j x hx => by
    have := r j x hx
    simpa [Array.getD_eq_getD_getElem?, List.getD_eq_getElem?_getD] using this
  rw [h2, dif_neg (by simpa using h1)]
  refine rep_coe (.tup _ _ (by simp [l]) fun j x hx => ?_)
  simp only [List.getElem?_map, Option.map_eq_some_iff] at hx
  obtain ⟨y, hy, rfl⟩ := hx
  have := rep_coe (r j y hy)
  simpa [Array.getD_eq_getD_getElem?, List.getD_eq_getElem?_getD] using this
 match vs, l, r, many with
 | [], l, r, many => exact many (by simp at l; simp [l]) rfl rfl
 | [x], l, r, many =>
  have h1 : us.length = 1 := by simpa using l
  have := r 0 x rfl
  rw [dif_pos (by simpa using h1)]
  have e2 : us.toArray[0]'(by simp [h1]) = us.getD 0 undef := by simp [List.getD_eq_getElem?_getD, h1]
  rw [e2]
  intro co
  cases co
  ·exact this
  ·exact rep_coe this
 | x :: y :: vs, l, r, many => exact many (by simp at l; omega) rfl rfl
def shut (l : List Nat) (w : World) : World := l.foldl (fun w D => w.putObj D (.deferred none)) w
theorem leaves_marks {F : Fence} {n : Nat} {fn : Func} {tmps : Array Value} {R : Ending → World → Prop} {U : List Deferred} {u : FrameMode} (hu : u ≠ .run) : ∀ (l : List Nat) (w : World), l.Nodup → (∀ D ∈ l, w.heap[D]? = some (.deferred (some []))) → LeavesInM F n P fn tmps R U u (shut l w) → LeavesInM F n P fn tmps R (l.map mark ++ U) u w
 | [], w, _, _, h => h
 | D :: l, w, hn, hl, h => by
  refine ⟨hu, .inl ⟨D, w.putObj D (.deferred none), rfl, run_takeDeferred (hl D (by simp)), leaves_marks hu l _ (List.nodup_cons.1 hn).2 (fun k hk => ?_) h⟩⟩
  rw [World.putObj_heap_other (fun e => (List.nodup_cons.1 hn).1 (by rw [← e]; exact hk))]
  exact hl k (by simp [hk])
theorem shut_ok : ∀ (l : List Nat) (w' : World), l.Nodup → (∀ D ∈ l, w.heap.size ≤ D ∧ w'.heap[D]? = some (.deferred (some [])) ∧ ∀ (i : Nat) (r : RI), ρ'[i]? = some r → r.block ≠ some D) → Ext S ρ h w S' ρ' h' w' → Inv P G S' ρ' h' w' →
  (∀ v x, RepD S' ρ' h' w' v x → RepD S' ρ' h' (shut l w') v x) ∧ Ext S ρ h w S' ρ' h' (shut l w') ∧ Inv P G S' ρ' h' (shut l w')
 | [], w', _, _, E, I => ⟨fun _ _ h => h, E, I⟩
 | D :: l, w', hn, hl, E, I => by
  have nc : ∀ (r : Option (List Deferred)) c e p, Obj.deferred r ≠ .cells c e p := fun r c e p h => by cases h
  obtain ⟨h1, h2, h3⟩ := hl D (by simp)
  obtain ⟨k1, k2, k3⟩ := shut_ok l (w'.putObj D (.deferred none)) (List.nodup_cons.1 hn).2 (fun k hk => by
   refine ⟨(hl k (by simp [hk])).1, ?_, (hl k (by simp [hk])).2.2⟩
   rw [World.putObj_heap_other (fun e => (List.nodup_cons.1 hn).1 (by rw [← e]; exact hk))]
   exact (hl k (by simp [hk])).2.1) (ext_put E h2 (nc _) (nc _) h1) (inv_put I h2 (nc _) (nc _) h3)
  exact ⟨fun v x hx => k1 v x (rep_put h2 (nc _) (nc _) hx), k2, k3⟩
theorem shut_marksU {U ds : List Deferred} {b : Bool} (E : Ext S ρ h w S' ρ' h' w') (I : Inv P G S' ρ' h' w') (m : Marked (w.heap.size, U, b) ρ' w' ds) :
  ∃ ws, (∀ v x, RepD S' ρ' h' w' v x → RepD S' ρ' h' ws v x) ∧ Ext S ρ h w S' ρ' h' ws ∧ Inv P G S' ρ' h' ws ∧
   ∀ (u : FrameMode), u ≠ .run → ∀ (fn : Func) (tmps : Array Value) (R : Ending → World → Prop) (n : Nat), LeavesInM Fence.wide n P fn tmps R U u ws → LeavesInM Fence.wide n P fn tmps R ds u w' := by
 obtain ⟨_, l, e, _, hn, hl⟩ := m
 subst e
 obtain ⟨k1, k2, k3⟩ := shut_ok l w' hn hl E I
 exact ⟨shut l w', k1, k2, k3, fun u hu fn tmps R n hleave => leaves_marks hu l w' hn (fun D hD => (hl D hD).2.1) hleave⟩
theorem shut_marks {ds : List Deferred} (E : Ext S ρ h w S' ρ' h' w') (I : Inv P G S' ρ' h' w') (m : Marked (w.heap.size, [], false) ρ' w' ds) :
  ∃ ws, (∀ v x, RepD S' ρ' h' w' v x → RepD S' ρ' h' ws v x) ∧ Ext S ρ h w S' ρ' h' ws ∧ Inv P G S' ρ' h' ws ∧
   ∀ (u : FrameMode), u ≠ .run → ∀ (fn : Func) (tmps : Array Value) (R : Ending → World → Prop) (n : Nat), LeavesIn Fence.wide n P fn tmps R [] u ws → LeavesInM Fence.wide n P fn tmps R ds u w' := shut_marksU E I m
theorem body_sim (hc : CallsOk P call) (hS : CallS P G call) {k : Nat} {loop : LoopF} (hL : LoopS P G k loop) (hJ : GotoS P G k loop) {g : FuncId} {fn : Func} {M : Marks} {co : Bool} {F : AFunc} (hf : P.funcs[g]? = some fn) (ht : trFunc P M co fn = some F)
  (hi : Inv P G S ρ h w) {args : Array Value} {dargs : List DV} (hl : args.size = dargs.length) (hr : ∀ (j : Nat) (x : DV), dargs[j]? = some x → RepD S ρ h w (args.getD j undef) x) (hd : dbody call loop F dargs h = some out) :
  Calls P g args w (CallPost P G S ρ h w out) := by
 unfold trFunc at ht
 split at ht
 ·rename_i b rs hb hrs
  simp only [Option.map_eq_some_iff] at ht
  obtain ⟨A, hA, rfl⟩ := ht
  refine (callsIn_wide (n := 0)).1 (callsIn_of_wp_marks hf hb trivial ?_)
  have ha : RepA S ρ h w (args ++ Array.replicate (fn.ntmps - args.size) undef) (dargs ++ List.replicate (fn.ntmps - dargs.length) (.d .undef)) := by
   refine ⟨by simp [hl], fun j x hx => ?_⟩
   rw [getD_append]
   rcases Nat.lt_or_ge j dargs.length with hj | hj
   ·rw [List.getElem?_append_left hj] at hx
    rw [if_pos (by omega)]
    exact hr j x hx
   ·rw [List.getElem?_append_right hj] at hx
    have := List.mem_of_getElem? hx
    simp at this
    rw [this.2]
    exact .d _ _ (.undef _)
  unfold dbody at hd
  simp only [drun] at hd
  split at hd
  ·rename_i v a1 h1 hx
   split at hd
   ·rename_i hlow
    simp only [Option.some.injEq] at hd
    subst hd
    refine code_sim wide_wide hc hS hL hJ M b A hA (.inl rfl) ⟨_, []⟩ _ S ρ h w _ _ _ (w.heap.size, [], false) _ hi ha (.nil (Nat.le_refl _)) (.inl rfl) hx fun e' a' w' hp => ?_
    obtain ⟨S1, ρ1, p1, p2, p3, p4, p5⟩ := hp
    cases e' <;> simp only [ExitOk] at p5
    obtain ⟨x, rfl, hxr⟩ := p5
    obtain ⟨ws, w1, w2, w3, w4⟩ := shut_marks p2 p3 p4
    exact w4 _ (fun h => by cases h) _ _ _ _ ⟨x, S1, _, rfl, (w1 _ _ hxr).take hlow, w2.take hi, w3.take _⟩
   ·cases hd
  ·rename_i a1 h1 hx
   split at hd
   ·rename_i vs hvs
    split at hd
    ·rename_i hlow
     simp only [Option.some.injEq] at hd
     subst hd
     refine code_sim wide_wide hc hS hL hJ M b A hA (.inl rfl) ⟨_, []⟩ _ S ρ h w _ _ _ (w.heap.size, [], false) _ hi ha (.nil (Nat.le_refl _)) (.inl rfl) hx fun e' a' w' hp => ?_
     obtain ⟨S1, ρ1, p1, p2, p3, p4, p5⟩ := hp
     cases e' <;> simp only [ExitOk] at p5
     obtain ⟨ws, w1, w2, w3, w4⟩ := shut_marks p2 p3 p4
     obtain ⟨x, hrun, hxr⟩ := run_results w3 ⟨p1.len, fun j x hx => w1 _ _ (p1.at_ j x hx)⟩ hrs hvs
     exact w4 _ (fun h => by cases h) _ _ _ _ ⟨x, hrun, x, S1, _, rfl, (hxr _).take hlow, w2.takeN (Nat.le_add_right _ _) hi, w3.take _⟩
    ·cases hd
   ·cases hd
  ·rename_i a1 h1 hx
   split at hd
   ·rename_i vs hvs
    split at hd
    ·rename_i hlow
     simp only [Option.some.injEq] at hd
     subst hd
     refine code_sim wide_wide hc hS hL hJ M b A hA (.inl rfl) ⟨_, []⟩ _ S ρ h w _ _ _ (w.heap.size, [], false) _ hi ha (.nil (Nat.le_refl _)) (.inl rfl) hx fun e' a' w' hp => ?_
     obtain ⟨S1, ρ1, p1, p2, p3, p4, p5⟩ := hp
     cases e' <;> simp only [ExitOk] at p5
     obtain ⟨ws, w1, w2, w3, w4⟩ := shut_marks p2 p3 p4
     obtain ⟨x, hrun, hxr⟩ := run_results w3 ⟨p1.len, fun j x hx => w1 _ _ (p1.at_ j x hx)⟩ hrs hvs
     exact w4 _ (fun h => by cases h) _ _ _ _ ⟨x, hrun, x, S1, _, rfl, (hxr _).take hlow, w2.takeN (Nat.le_add_right _ _) hi, w3.take _⟩
    ·cases hd
   ·cases hd
  ·cases hd
 ·cases ht
def nestG : List Code → Code → Code
 | [], c => c
 | x :: l, c => .seq x (nestG l c)
theorem peel_nest : ∀ (b : Code) (pre : List Code) (ops : Array Oper) (rest : Code), peelG b = some (pre, ops, rest) → ∃ id, b = nestG pre (.seq (.region id ops false) rest)
 | .seq x y, pre, ops, rest, h => by
  have other : ∀ r, (peelG y).map (fun r => (x :: r.1, r.2)) = some r → r = (pre, ops, rest) → ∃ id, Code.seq x y = nestG pre (.seq (.region id ops false) rest) := by
   intro r hr he
   subst he
   simp only [Option.map_eq_some_iff] at hr
   obtain ⟨⟨p, o, t⟩, hp, hq⟩ := hr
   simp only [Prod.mk.injEq] at hq
   obtain ⟨rfl, rfl, rfl⟩ := hq
   obtain ⟨id, e⟩ := peel_nest y p o t hp
   exact ⟨id, by rw [e]; rfl⟩
  unfold peelG at h
  split at h
  ·rename_i id ops'
   split at h
   ·simp only [Option.some.injEq, Prod.mk.injEq] at h
    obtain ⟨rfl, rfl, rfl⟩ := h
    exact ⟨id, rfl⟩
   ·exact other _ h rfl
  ·exact other _ h rfl
 | .skip, _, _, _, h => by simp [peelG] at h
 | .region .., _, _, _, h => by simp [peelG] at h
 | .cond .., _, _, _, h => by simp [peelG] at h
 | .block .., _, _, _, h => by simp [peelG] at h
 | .loop .., _, _, _, h => by simp [peelG] at h
 | .rangeFunc .., _, _, _, h => by simp [peelG] at h
 | .exit .., _, _, _, h => by simp [peelG] at h
 | .ret, _, _, _, h => by simp [peelG] at h
 | .refuse .., _, _, _, h => by simp [peelG] at h
 | .scope .., _, _, _, h => by simp [peelG] at h
 | .label .., _, _, _, h => by simp [peelG] at h
 | .goto .., _, _, _, h => by simp [peelG] at h
theorem pre_sim {F : Fence} (hF : Wide F) (hro : F.round = none) (hc : CallsOk P call) (hS : CallS P G call) {k : Nat} {loop : LoopF} (hL : LoopS P G k loop) (hJ : GotoS P G k loop) {M : Marks} {c : Code} {Q : Exit → Act → World → Prop} {N0 : Base} :
  ∀ (pre : List Code) (pre' : List ACode), pre.mapM (trCode P M) = some pre' → pre'.all ACode.noRange = true → ∀ (a : Act) (ad : List DV) (S : Settled) (ρ : List RI) (h : List Res) (w : World) (e : DExit) (ad' : List DV) (h' : List Res),
   Inv P G S ρ h w → RepA S ρ h w a.tmps ad → Marked N0 ρ w a.defers → dpre call loop pre' ad h = some (e, ad', h') →
   (e = .normal → ∀ a' w', (∃ S' ρ', RepA S' ρ' h' w' a'.tmps ad' ∧ Ext S ρ h w S' ρ' h' w' ∧ Inv P G S' ρ' h' w' ∧ Marked N0 ρ' w' a'.defers) → c.wpIn F 0 P Q a' w') →
   (e ≠ .normal → ∀ e' a' w', Post P G N0 S ρ h w e ad' h' e' a' w' → Q e' a' w') → (nestG pre c).wpIn F 0 P Q a w
 | [], pre', ht, hn, a, ad, S, ρ, h, w, e, ad', h', hi, ha, hm, hr, hN, hE => by
  simp at ht
  subst ht
  simp only [dpre, Option.some.injEq, Prod.mk.injEq] at hr
  obtain ⟨rfl, rfl, rfl⟩ := hr
  exact hN rfl a w ⟨S, ρ, ha, Ext.refl _ _ _ _, hi, hm⟩
 | x :: l, pre', ht, hn, a, ad, S, ρ, h, w, e, ad', h', hi, ha, hm, hr, hN, hE => by
  simp only [List.mapM_cons, Option.pure_def, Option.bind_eq_bind, Option.bind_eq_some_iff, Option.some.injEq] at ht
  obtain ⟨X, hX, L', hL', rfl⟩ := ht
  simp only [List.all_cons, Bool.and_eq_true] at hn
  simp only [dpre] at hr
  refine wpIn_seq ?_
  cases hx : dexec call loop X ad h with
  | none => rw [hx] at hr; cases hr
  | some r =>
   obtain ⟨e1, ad1, h1⟩ := r
   rw [hx] at hr
   refine code_sim hF hc hS hL hJ M x X hX (.inl hro) a ad S ρ h w e1 ad1 h1 N0 _ hi ha hm (.inr hn.1) hx fun e' a' w' hp => ?_
   cases e1 with
   | normal =>
    simp only at hr
    obtain ⟨S1, ρ1, p1, p2, p3, p4, p5⟩ := hp
    cases e' <;> simp only [ExitOk] at p5
    simp only [Exit.then]
    refine pre_sim hF hro hc hS hL hJ l L' hL' hn.2 a' ad1 S1 ρ1 h1 w' e ad' h' p3 p1 p4 hr (fun he a2 w2 hp2 => ?_) fun he e2 a2 w2 hp2 => ?_
    ·obtain ⟨S2, ρ2, q1, q2, q3, q4⟩ := hp2
     exact hN he a2 w2 ⟨S2, ρ2, q1, p2.trans q2, q3, q4⟩
    ·obtain ⟨S2, ρ2, q1, q2, q3, q4, q5⟩ := hp2
     exact hE he _ _ _ ⟨S2, ρ2, q1, p2.trans q2, q3, q4, q5⟩
   | _ =>
    simp only [Option.some.injEq, Prod.mk.injEq] at hr
    obtain ⟨rfl, rfl, rfl⟩ := hr
    have hp' := hp
    obtain ⟨S1, ρ1, p1, p2, p3, p4, p5⟩ := hp
    cases e' <;> simp only [ExitOk] at p5 <;> simp only [Exit.then] <;> exact hE (by simp) _ _ _ hp'
theorem mv_sim {F : Fence} (hF : Wide F) {n : Nat} {ops : Array Oper} {Q : Exit → Act → List Frame → World → Prop} {cs : List Frame} : ∀ (os : List Oper) (l : List (Nat × Opd)), os.mapM (trMv P) = some l → ∀ (k : Nat), (∀ j, os[j]? = ops[k + j]?) → ∀ (a : Act) (ad : List DV),
  RepA S ρ h w a.tmps ad → (∀ a', RepA S ρ h w a'.tmps (mvs l ad) → a'.defers = a.defers → Q .normal a' cs w) → wpOpsSIn F n P ops Q (List.range' k os.length) a cs w
 | [], l, ht, k, hk, a, ad, ha, hQ => by
  simp at ht
  subst ht
  exact hQ a ha rfl
 | o :: os, l, ht, k, hk, a, ad, ha, hQ => by
  simp only [List.mapM_cons, Option.pure_def, Option.bind_eq_bind, Option.bind_eq_some_iff, Option.some.injEq] at ht
  obtain ⟨p, hp, l', hl', rfl⟩ := ht
  have h0 : ops[k]? = some o := by simpa using (hk 0).symm
  have ih := fun a ad => mv_sim hF (n := n) (Q := Q) (cs := cs) os l' hl' (k + 1) (fun j => by have := hk (j + 1); simpa [Nat.add_assoc, Nat.add_comm 1 j] using this) a ad
  simp only [List.length_cons, List.range'_succ, wpOpsSIn, h0]
  have key : ∃ d x, o.dst = some d ∧ o.guard = none ∧ p = (d, x) ∧ ∃ y, (o.op = .move y ∨ o.op = .assign y) ∧ trOpd P o.type y = some x := by
   unfold trMv at hp
   split at hp
   ·rename_i d y h1 h2 h3
    simp only [Option.map_eq_some_iff] at hp
    obtain ⟨x, hx, rfl⟩ := hp
    exact ⟨d, x, h1, h3, rfl, y, .inl h2, hx⟩
   ·rename_i d y h1 h2 h3
    simp only [Option.map_eq_some_iff] at hp
    obtain ⟨x, hx, rfl⟩ := hp
    exact ⟨d, x, h1, h3, rfl, y, .inr h2, hx⟩
   ·cases hp
  obtain ⟨d, x, h1, h2, rfl, y, h3, h4⟩ := key
  have hrun : (execOp a.eval o).run P w = .ok (.value (a.eval y)) w := by
   unfold execOp
   rcases h3 with h3 | h3 <;> rw [h3] <;> rfl
  refine ⟨fun f _ => hF.fn f, ?_⟩
  have hw : Region.wanted o (yielded ops a.tmps) = true := by simp [Region.wanted, h2]
  simp only [hw, if_true, hrun]
  have hx := rep_opd ha h4
  have ha' := RepA.put (a := a) ha hx o.dst
  rw [h1] at ha' ⊢
  exact ih (a.put (some d) (a.eval y)) _ ha' fun a' g1 g2 => hQ a' g1 (by rw [g2]; rfl)
theorem clo_sim (hc : CallsOk P call) (hS : CallS P G call) {k : Nat} {loop : LoopF} (hL : LoopS P G k loop) (hJ : GotoS P G k loop) {f : FuncId} {cl : Func} {Mc : Marks} {d : Nat} {l : List (Nat × Opd)} {A : ACode} (hf : P.funcs[f]? = some cl) (ht : trClo P Mc cl = some (d, l, A))
  (hi : Inv P G S ρ h w) {args : Array Value} {cs : List DV} (hl : args.size = cs.length) (hr : ∀ (j : Nat) (x : DV), cs[j]? = some x → RepD S ρ h w (args.getD j undef) x) {u : FrameMode} {v : Value} {x : DV}
  (hu : (u = .returning ∧ v = .nilIface) ∨ u = .panicking [{ v := v, recovered := false }]) (hx : RepD S ρ h w v x) {e : DExit} {a2 : List DV} {h' : List Res}
  (hd : dexec call loop A (mvs l ((cs ++ List.replicate (cl.ntmps - cs.length) (DV.d .undef)).set d x)) h = some (e, a2, h')) (he : e = .normal ∨ e = .ret) :
  CallsDIn Fence.wide 0 P f args u w fun e u' w' => (∃ y, e = .returned y) ∧ settle u' = .returning ∧ ∃ S' ρ', Ext S ρ h w S' ρ' h' w' ∧ Inv P G S' ρ' h' w' := by
 unfold trClo at ht
 split at ht
 ·rename_i id ops y hb
  split at ht
  ·rename_i o os hos
   split at ht
   ·rename_i d' c l' A' h1 h2 h3 h4 h5
    split at ht
    ·rename_i hcond
     simp only [Option.some.injEq, Prod.mk.injEq] at ht
     obtain ⟨rfl, rfl, rfl⟩ := ht
     obtain ⟨hrec, hres, hno⟩ := hcond
     have ha : RepA S ρ h w (args ++ Array.replicate (cl.ntmps - args.size) undef) (cs ++ List.replicate (cl.ntmps - cs.length) (.d .undef)) := by
      refine ⟨by simp [hl], fun j x hx => ?_⟩
      rw [getD_append]
      rcases Nat.lt_or_ge j cs.length with hj | hj
      ·rw [List.getElem?_append_left hj] at hx
       rw [if_pos (by omega)]
       exact hr j x hx
      ·rw [List.getElem?_append_right hj] at hx
       have := List.mem_of_getElem? hx
       simp at this
       rw [this.2]
       exact .d _ _ (.undef _)
     refine callsDIn_of_wpSIn hf hb trivial fun c₀ cs0 hmode => ?_
     refine wpSIn_seq (wpSIn_region ?_)
     have hops : ∀ j, (o :: os)[j]? = ops[0 + j]? := fun j => by rw [← hos]; simp
     have hsz : ops.size = os.length + 1 := by rw [← Array.length_toList, hos]; rfl
     have h0 : ops[0]? = some o := by simpa using (hops 0).symm
     rw [hsz, List.range_eq_range', List.range'_succ]
     simp only [wpOpsSIn, h0]
     have hrun : ∀ ev : Operand → Value, (execOp ev o).run P w = .ok .recover w := fun ev => by
      unfold execOp
      rw [h2]
      cases hcal : c.callee with
      | builtin b =>
       rw [hcal] at hrec
       cases b <;> simp [isRec] at hrec
       simp [resolve, hcal, invoke]
       rfl
      | _ => rw [hcal] at hrec; simp [isRec] at hrec
     refine ⟨fun f _ => trivial, ?_⟩
     have hw : ∀ t, Region.wanted o (yielded ops t) = true := fun t => by simp [Region.wanted, h3]
     simp only [hw, if_true, hrun]
     have rest : ∀ (cs1 : List Frame) (u1 : FrameMode), cs1 = { c₀ with mode := u1 } :: cs0 → settle u1 = .returning → ∀ a1 : Act, RepA S ρ h w a1.tmps ((cs ++ List.replicate (cl.ntmps - cs.length) (DV.d .undef)).set d' x) → a1.defers = [] →
       wpOpsSIn Fence.wide 0 P ops (Exit.thenS (y.wpSIn Fence.wide 0 P (bodyPostS P cl c₀ cs0 fun e u' w' => (∃ y, e = .returned y) ∧ settle u' = .returning ∧ ∃ S' ρ', Ext S ρ h w S' ρ' h' w' ∧ Inv P G S' ρ' h' w')) (bodyPostS P cl c₀ cs0 fun e u' w' => (∃ y, e = .returned y) ∧ settle u' = .returning ∧ ∃ S' ρ', Ext S ρ h w S' ρ' h' w' ∧ Inv P G S' ρ' h' w')) (List.range' (0 + 1) os.length) a1 cs1 w := by
      intro cs1 u1 hcs hset a1 ha1 hdf
      refine mv_sim wide_wide os l' h4 (0 + 1) (fun j => by have := hops (j + 1); simpa [Nat.add_comm 1 j] using this) a1 _ ha1 fun a' g1 g2 => ?_
      simp only [Exit.thenS]
      refine wpSIn_of_wpIn rfl ?_
      refine code_sim wide_wide hc hS hL hJ Mc y A' h5 (.inl rfl) a' _ S ρ h w e a2 h' (w.heap.size, [], true) _ hi g1 (by rw [g2, hdf]; exact .nil (Nat.le_refl _)) (.inr hno) hd fun e' a3 w' hp => ?_
      obtain ⟨S1, ρ1, p1, p2, p3, p4, p5⟩ := hp
      obtain ⟨_, lm, e1, e2, _, _⟩ := p4
      have : lm = [] := e2 rfl
      subst this
      have hd0 : a3.defers = [] := e1
      have hres' : (results cl a3.tmps).run P w' = .ok (.tuple #[]) w' := by
       have : cl.results = #[] := Array.size_eq_zero_iff.1 hres
       rw [results_eq, this]
       simp
      rcases he with rfl | rfl <;> cases e' <;> simp only [ExitOk] at p5
      ·exact ⟨hd0, u1, hcs, _, hres', ⟨_, rfl⟩, hset, S1, ρ1, p2, p3⟩
      ·exact ⟨hd0, u1, hcs, _, hres', ⟨_, rfl⟩, hset, S1, ρ1, p2, p3⟩
     have hput : ∀ vv, RepD S ρ h w vv x → RepA S ρ h w (({ tmps := args ++ Array.replicate (cl.ntmps - args.size) undef, defers := [] } : Act).put o.dst vv).tmps ((cs ++ List.replicate (cl.ntmps - cs.length) (DV.d .undef)).set d' x) := fun vv hv => by
      have := RepA.put (a := { tmps := args ++ Array.replicate (cl.ntmps - args.size) undef, defers := [] }) ha hv o.dst
      rw [h1] at this ⊢
      exact this
     rcases hu with ⟨hu, hv⟩ | hu
     ·have hrd : recoverD (c₀ :: cs0) = none := by simp [recoverD, hmode, hu]
      rw [hrd]
      simp only
      exact rest _ u (by rw [← hmode]) (by rw [hu]; rfl) _ (hput _ (by rw [← hv]; exact hx)) (by rw [h1]; rfl)
     ·have hrd : recoverD (c₀ :: cs0) = some (v, { c₀ with mode := .panicking [{ v := v, recovered := true }] } :: cs0) := by simp [recoverD, hmode, hu]
      rw [hrd]
      simp only
      exact rest _ _ rfl rfl _ (hput _ hx) (by rw [h1]; rfl)
    ·cases ht
   ·cases ht
  ·cases ht
 ·cases ht
theorem dlast_some {loop : LoopF} {g : DGuard} {cs : List DV} {v : DV} {a : List DV} {h : List Res} {r : DRun} (hr : dlast call loop g cs v a h = some r) : ∃ e a3 hR, dexec call loop g.code (mvs g.ops ((cs ++ List.replicate (g.ntmps - cs.length) (DV.d .undef)).set g.dst v)) h = some (e, a3, hR) ∧ (e = .normal ∨ e = .ret) ∧ r = (.ret, a, hR) := by
 unfold dlast at hr
 split at hr
 ·rename_i a3 hR hx
  exact ⟨_, a3, hR, hx, .inl rfl, by simpa using hr.symm⟩
 ·rename_i a3 hR hx
  exact ⟨_, a3, hR, hx, .inr rfl, by simpa using hr.symm⟩
 ·cases hr
theorem drun_some {loop : LoopF} {F : AFunc} {g : DGuard} (hg : F.guard = some g) {a : List DV} {h : List Res} {r : DRun} (hr : drun call loop F a h = some r) : ∃ e1 ad1 h1, dpre call loop g.pre a h = some (e1, ad1, h1) ∧
  ((e1 = .ret ∧ r = (.ret, ad1, h1)) ∨ (e1 = .normal ∧ g.slot < ad1.length ∧ ∃ e2 ad2 h2 x, dexec call loop F.body (ad1.set g.slot (.d .undef)) h1 = some (e2, ad2, h2) ∧ (e2 = .pan x ∨ ((e2 = .normal ∨ e2 = .ret) ∧ x = .d .nili)) ∧ dlast call loop g (g.caps.map (ev ad1)) x ad2 h2 = some r)) := by
 unfold drun at hr
 rw [hg] at hr
 simp only at hr
 split at hr
 ·rename_i a1 h1 hx
  split at hr
  ·rename_i hs
   split at hr
   ·rename_i v a2 h2 hy
    exact ⟨_, _, _, hx, .inr ⟨rfl, hs, _, _, _, v, hy, .inl rfl, hr⟩⟩
   ·rename_i a2 h2 hy
    exact ⟨_, _, _, hx, .inr ⟨rfl, hs, _, _, _, _, hy, .inr ⟨.inl rfl, rfl⟩, hr⟩⟩
   ·rename_i a2 h2 hy
    exact ⟨_, _, _, hx, .inr ⟨rfl, hs, _, _, _, _, hy, .inr ⟨.inr rfl, rfl⟩, hr⟩⟩
   ·cases hr
  ·cases hr
 ·rename_i a1 h1 hx
  exact ⟨_, _, _, hx, .inl ⟨rfl, by simpa using hr.symm⟩⟩
 ·cases hr
theorem guard_sim (hc : CallsOk P call) (hS : CallS P G call) {k : Nat} {loop : LoopF} (hL : LoopS P G k loop) (hJ : GotoS P G k loop) {g : FuncId} {fn : Func} {M Mc : Marks} {co : Bool} {F : AFunc} (hf : P.funcs[g]? = some fn) (ht : trFuncG P M Mc co fn = some F)
  (hi : Inv P G S ρ h w) {args : Array Value} {dargs : List DV} (hl : args.size = dargs.length) (hr : ∀ (j : Nat) (x : DV), dargs[j]? = some x → RepD S ρ h w (args.getD j undef) x) (hd : dbody call loop F dargs h = some out) :
  Calls P g args w (CallPost P G S ρ h w out) := by
 unfold trFuncG at ht
 split at ht
 ·rename_i b rs hb hrs
  split at ht
  ·rename_i pre ops rest hpeel
   split at ht
   ·rename_i t f caps hgd
    split at ht
    ·rename_i pre' rest' caps' cl hpre hrest hcaps hcl
     split at ht
     ·rename_i d l A hclo
      split at ht
      ·rename_i hcond
       obtain ⟨hname, hnr⟩ := hcond
       simp only [Option.some.injEq] at ht
       subst ht
       obtain ⟨id, rfl⟩ := peel_nest _ _ _ _ hpeel
       refine (callsIn_wide (n := 0)).1 (callsIn_of_wp_marks hf hb trivial ?_)
       have ha : RepA S ρ h w (args ++ Array.replicate (fn.ntmps - args.size) undef) (dargs ++ List.replicate (fn.ntmps - dargs.length) (.d .undef)) := by
        refine ⟨by simp [hl], fun j x hx => ?_⟩
        rw [getD_append]
        rcases Nat.lt_or_ge j dargs.length with hj | hj
        ·rw [List.getElem?_append_left hj] at hx
         rw [if_pos (by omega)]
         exact hr j x hx
        ·rw [List.getElem?_append_right hj] at hx
         have := List.mem_of_getElem? hx
         simp at this
         rw [this.2]
         exact .d _ _ (.undef _)
       have hgd' : ∃ o1 o2 fcaps c, ops.toList = [o1, o2] ∧ o1.dst = some t ∧ o1.op = .makeFunc (.func f) #[] fcaps ∧ o1.guard = none ∧ o2.dst = none ∧ o2.op = .defer c ∧ o2.guard = none ∧ c.args = #[] ∧ c.callee = .value (.tmp t) ∧ caps = fcaps.toList := by
        unfold isGuard at hgd
        split at hgd
        ·rename_i o1 o2 hops
         split at hgd
         ·rename_i t' f' cs fcaps c q1 q2 q3 q4 q5 q6
          split at hgd
          ·rename_i hq
           obtain ⟨z1, z2, z3⟩ := hq
           simp only [Option.some.injEq, Prod.mk.injEq] at hgd
           obtain ⟨rfl, rfl, rfl⟩ := hgd
           have y1 := Array.size_eq_zero_iff.1 z1
           have y2 := Array.size_eq_zero_iff.1 z2
           subst y1
           have y3 : c.callee = .value (.tmp t') := by
            unfold isVal at z3
            split at z3
            ·rename_i u hu
             simp only [Option.some.injEq] at z3
             rw [hu, z3]
            ·cases z3
           exact ⟨o1, o2, fcaps, c, hops, q1, q2, q3, q4, q5, q6, y2, y3, rfl⟩
          ·cases hgd
         ·cases hgd
        ·cases hgd
       obtain ⟨o1, o2, fcaps, c, hops, q1, q2, q3, q4, q5, q6, y2, y3, rfl⟩ := hgd'
       unfold dbody at hd
       generalize hF : ({ ntmps := fn.ntmps, results := rs, body := rest', coe := co, keep := M.keep, guard := some { pre := pre', caps := caps', slot := t, dst := d, ops := l, code := A, ntmps := cl.ntmps } } : AFunc) = F at hd
       have hFg : F.guard = some { pre := pre', caps := caps', slot := t, dst := d, ops := l, code := A, ntmps := cl.ntmps } := by rw [← hF]
       have hFb : F.body = rest' := by rw [← hF]
       have hFn : F.ntmps = fn.ntmps := by rw [← hF]
       have hFr : F.results = rs := by rw [← hF]
       rw [hFn] at hd
       cases hx : drun call loop F (dargs ++ List.replicate (fn.ntmps - dargs.length) (.d .undef)) h with
       | none => rw [hx] at hd; cases hd
       | some r =>
       obtain ⟨e1, ad1, h1, hpr, hcase⟩ := drun_some hFg hx
       simp only at hpr hcase
       have fin : ∀ (aR : List DV) (hR : List Res), r = (.ret, aR, hR) → ∃ vs, rs.mapM (dresult aR hR) = some vs ∧ (dresults (F.keep == 0 && F.coe) vs).low (h.length + F.keep) = true ∧ out = .val (dresults (F.keep == 0 && F.coe) vs) (hR.take (h.length + F.keep)) := by
        intro aR hR hre
        rw [hx, hre, hFr] at hd
        simp only at hd
        split at hd
        ·rename_i vs hvs
         split at hd
         ·rename_i hlow
          exact ⟨vs, hvs, hlow, by simpa using hd.symm⟩
         ·cases hd
        ·cases hd
       refine pre_sim wide_wide rfl hc hS hL hJ (N0 := (w.heap.size, [], true)) pre pre' hpre hnr ⟨_, []⟩ _ S ρ h w e1 ad1 h1 hi ha (.nil (Nat.le_refl _)) hpr (fun he a' w' hp => ?_) fun he e' a' w' hp => ?_
       ·
        subst he
        rcases hcase with ⟨h0, _⟩ | ⟨_, hslot, e2, ad2, h2, x, hbody, hex, hlast⟩
        ·cases h0
        obtain ⟨S1, ρ1, p1, p2, p3, p4⟩ := hp
        obtain ⟨p0, lm, m1, m2, _, _⟩ := p4
        have : lm = [] := m2 rfl
        subst this
        have hd0 : a'.defers = [] := m1
        have htl : t < a'.tmps.size := by rw [← p1.len] at hslot; exact hslot
        refine wpIn_seq (wpIn_region_list ?_)
        rw [hops]
        have w1 : ∀ tt, Region.wanted o1 (yielded ops tt) = true := fun tt => by simp [Region.wanted, q3]
        have w2 : ∀ tt, Region.wanted o2 (yielded ops tt) = true := fun tt => by simp [Region.wanted, q6]
        have r1 : (execOp a'.eval o1).run P w' = .ok (.value (.func (.func f) #[] (fcaps.map a'.eval))) w' := by
         unfold execOp
         rw [q2]
         have := run_v (P := P) (s := Instr.makeFunc (.func f) (#[].map a'.eval) (fcaps.map a'.eval)) (w := w') (w' := w') rfl
         simpa using this
        simp only [wpListIn, w1, w2, if_true, Oper.wpIn, Fence.wide_round, Oper.semAt_none, r1, Oper.uponIn_value]
        refine ⟨fun f _ => trivial, fun f _ => trivial, ?_⟩
        rw [q1]
        have hev : (a'.put (some t) (.func (.func f) #[] (fcaps.map a'.eval))).eval (.tmp t) = .func (.func f) #[] (fcaps.map a'.eval) := by
         simp [Act.eval, Act.put, Array.getD_eq_getD_getElem?, htl]
        have r2 : (execOp (a'.put (some t) (.func (.func f) #[] (fcaps.map a'.eval))).eval o2).run P w' = .ok (.defer { target := .fn (.func f) (fcaps.map a'.eval), args := #[] }) w' := by
         unfold execOp
         rw [q5]
         simp [resolve, y2, y3, hev, Deferred.ofValue]
        rw [r2, Oper.uponIn_defer, q4]
        simp only [Exit.then]
        have g1 := rep_opds p1 (fun x y hy => ⟨0, hy⟩) hcaps
        have hcl' : cl.body.isNone = false := by
         unfold trClo at hclo
         split at hclo
         ·rename_i hbb; rw [hbb]; rfl
         ·cases hclo
        have ra : RepA S1 ρ1 h1 w' ((({ a'.put (some t) (.func (.func f) #[] (fcaps.map a'.eval)) with defers := { target := .fn (.func f) (fcaps.map a'.eval), args := #[] } :: (a'.put (some t) (.func (.func f) #[] (fcaps.map a'.eval))).defers } : Act)).put none undef).tmps (ad1.set t (.d .undef)) :=
         RepA.put (a := a') p1 (v := .func (.func f) #[] (fcaps.map a'.eval)) (x := .d .undef) (.d _ _ (.undef _)) (some t)
        have hdd : ((({ a'.put (some t) (.func (.func f) #[] (fcaps.map a'.eval)) with defers := { target := .fn (.func f) (fcaps.map a'.eval), args := #[] } :: (a'.put (some t) (.func (.func f) #[] (fcaps.map a'.eval))).defers } : Act)).put none undef).defers = [{ target := .fn (.func f) (fcaps.map a'.eval), args := #[] }] := by
         show _ :: a'.defers = _
         rw [hd0]
        rw [hFb] at hbody
        refine code_sim wide_wide hc hS hL hJ M rest rest' hrest (.inl rfl) _ _ S1 ρ1 h1 w' e2 ad2 h2 (w'.heap.size, [{ target := .fn (.func f) (fcaps.map a'.eval), args := #[] }], false) _ p3 ra (by rw [hdd]; exact .nil (Nat.le_refl _)) (.inl rfl) hbody fun e' a2 w2 hp => ?_
        obtain ⟨S2, ρ2, s1, s2, s3, s4, s5⟩ := hp
        obtain ⟨ws, t1, t2, t3, t4⟩ := shut_marksU s2 s3 s4
        obtain ⟨e3, a3, hR, hcode, he3, hre⟩ := dlast_some hlast
        simp only at hcode
        obtain ⟨vs, hvs, hlow, rfl⟩ := fin ad2 hR hre
        have leave : ∀ (u : FrameMode) (v : Value), u ≠ .run → ((u = .returning ∧ v = .nilIface) ∨ u = .panicking [{ v := v, recovered := false }]) → RepD S2 ρ2 h2 ws v x →
          LeavesInM Fence.wide 0 P fn a2.tmps (CallPost P G S ρ h w (.val (dresults (F.keep == 0 && F.coe) vs) (hR.take (h.length + F.keep)))) a2.defers u w2 := by
         intro u v hu hm hxv
         refine t4 u hu _ _ _ _ ⟨hu, .inr ⟨(fun h => by cases h), .func f, fcaps.map a'.eval, f, fcaps.map a'.eval, rfl, ?_, fun _ _ => trivial, ?_⟩⟩
         ·simp only [invoke]
          have := run_callFunc (P := P) (w := ws) (args := fcaps.map a'.eval) hcl hname hcl'
          simpa using this
         ·have hargs : (fcaps.map a'.eval).size = (caps'.map (ev ad1)).length := by have := g1.1; simpa using this
          refine (clo_sim hc hS hL hJ hcl hclo t3 hargs (fun j y hy => ?_) hm hxv hcode he3).mono fun e u' w3 hq => ?_
          ·have := g1.2 j y hy
           have := this.mono t2
           simpa [Array.getD_eq_getD_getElem?, List.getD_eq_getElem?_getD] using this
          ·obtain ⟨⟨y, rfl⟩, hset, S3, ρ3, E3, I3⟩ := hq
           simp only
           rw [hset]
           have ra3 : RepA S3 ρ3 hR w3 a2.tmps ad2 := (show RepA S2 ρ2 h2 ws a2.tmps ad2 from ⟨s1.len, fun j x hx => t1 _ _ (s1.at_ j x hx)⟩).mono E3
           obtain ⟨xr, hrun, hxr⟩ := run_results I3 ra3 hrs hvs
           have EE : Ext S ρ h w S3 ρ3 hR w3 := (p2.trans t2).trans E3
           exact ⟨xr, hrun, xr, S3, _, rfl, (hxr _).take hlow, EE.takeN (Nat.le_add_right _ _) hi, I3.take _⟩
        cases e2 with
        | normal =>
         cases e' <;> simp only [ExitOk] at s5
         rcases hex with hex | ⟨_, rfl⟩
         ·cases hex
         exact leave .returning .nilIface (fun h => by cases h) (.inl ⟨rfl, rfl⟩) (.d _ _ .nili)
        | ret =>
         cases e' <;> simp only [ExitOk] at s5
         rcases hex with hex | ⟨_, rfl⟩
         ·cases hex
         exact leave .returning .nilIface (fun h => by cases h) (.inl ⟨rfl, rfl⟩) (.d _ _ .nili)
        | pan v =>
         cases e' <;> simp only [ExitOk] at s5
         obtain ⟨xv, rfl, hxv⟩ := s5
         rcases hex with hex | ⟨h0, _⟩
         ·cases hex
          exact leave (.panicking [{ v := xv, recovered := false }]) xv (fun h => by cases h) (.inr rfl) (t1 _ _ hxv)
         ·rcases h0 with h0 | h0 <;> cases h0
        | exit i =>
         rcases hex with hex | ⟨h0, _⟩
         ·cases hex
         ·rcases h0 with h0 | h0 <;> cases h0
       ·
        rcases hcase with ⟨rfl, hre⟩ | ⟨h0, _⟩
        rotate_left
        ·exact absurd h0 he
        obtain ⟨vs, hvs, hlow, rfl⟩ := fin ad1 h1 hre
        obtain ⟨S1, ρ1, p1, p2, p3, p4, p5⟩ := hp
        cases e' <;> simp only [ExitOk] at p5
        obtain ⟨_, lm, m1, m2, _, _⟩ := p4
        have : lm = [] := m2 rfl
        subst this
        have hd0 : a'.defers = [] := m1
        obtain ⟨xr, hrun, hxr⟩ := run_results p3 p1 hrs hvs
        show LeavesInM Fence.wide 0 P fn a'.tmps _ a'.defers .returning w'
        rw [hd0]
        exact ⟨xr, hrun, xr, S1, _, rfl, (hxr _).take hlow, p2.takeN (Nat.le_add_right _ _) hi, p3.take _⟩
      ·cases ht
     ·cases ht
    ·cases ht
   ·cases ht
  ·cases ht
 ·cases ht
structure EnvOk (P : Program) (G : Glob) (E : Env) : Prop where
 af : ∀ g F, E.af g = some F → ∃ fn M co, P.funcs[g]? = some fn ∧ (fn.name == "runtime.NumGoroutine") = false ∧ (trFunc P M co fn = some F ∨ ∃ Mc, trFuncG P M Mc co fn = some F)
 ext : ∀ g F, E.ext g = some F → (∃ fn, P.funcs[g]? = some fn ∧ (fn.name == "runtime.NumGoroutine") = false ∧ fn.body.isNone = false) ∧
  ∀ (args : Array Value) (dargs : List DV) (S : Settled) (ρ : List RI) (h : List Res) (w : World) (out : DOut), Inv P G S ρ h w → args.size = dargs.length → (∀ (j : Nat) (x : DV), dargs[j]? = some x → RepD S ρ h w (args.getD j undef) x) →
   F dargs h = some out → Calls P g args w (CallPost P G S ρ h w out)
theorem call_sim {E : Env} (EO : EnvOk P G E) (hc : CallsOk P call) (hS : CallS P G call) {k : Nat} {loop : LoopF} (hL : LoopS P G k loop) (hJ : GotoS P G k loop) : CallS P G (dcall call loop E) := by
 refine ⟨?_, fun id l args dargs S ρ h w out hi hρ hl hr hd => yield_sim hc hS hL hJ id l args dargs S ρ h w out hi hρ hl hr hd⟩
 intro g args dargs S ρ h w out hi hl hr hd
 simp only [dcall] at hd
 unfold dcallF at hd
 split at hd
 ·rename_i F hF
  exact (EO.ext g F hF).2 args dargs S ρ h w out hi hl hr hd
 ·split at hd
  ·cases hd
  ·rename_i F hF
   obtain ⟨fn, M, co, hf, hname, ht⟩ := EO.af g F hF
   generalize hda : (if F.coe then dargs.map DV.coe else dargs) = da at hd
   have hl' : args.size = da.length := by rw [← hda]; split <;> simp [hl]
   have hr' : ∀ (j : Nat) (x : DV), da[j]? = some x → RepD S ρ h w (args.getD j undef) x := fun j x hx => by
    rw [← hda] at hx
    split at hx
    ·simp only [List.getElem?_map, Option.map_eq_some_iff] at hx
     obtain ⟨y, hy, rfl⟩ := hx
     exact rep_coe (hr j y hy)
    ·exact hr j x hx
   have bs : ∀ {S : Settled} {ρ : List RI} {h : List Res} {w : World} {out : DOut}, Inv P G S ρ h w → (∀ (j : Nat) (x : DV), da[j]? = some x → RepD S ρ h w (args.getD j undef) x) → dbody call loop F da h = some out → Calls P g args w (CallPost P G S ρ h w out) := by
    intro S ρ h w out i1 i2 i3
    rcases ht with ht | ⟨Mc, ht⟩
    ·exact body_sim hc hS hL hJ hf ht i1 hl' i2 i3
    ·exact guard_sim hc hS hL hJ hf ht i1 hl' i2 i3
   simp only at hd
   split at hd
   ·rename_i hall
    simp only [Bool.and_eq_true, beq_iff_eq] at hall
    obtain ⟨hkeep, hall⟩ := hall
    simp only [Option.map_eq_some_iff] at hd
    obtain ⟨out0, h0, rfl⟩ := hd
    have hr0 : ∀ (j : Nat) (x : DV), da[j]? = some x → RepD S [] [] w (args.getD j undef) x := fun j x hx => by
     have := (List.all_eq_true.1 hall) x (List.mem_of_getElem? hx)
     cases x <;> simp [DV.isD] at this
     exact .d _ _ (repD_d (hr' j _ hx))
    refine (bs (inv_none hi) hr0 h0).mono fun e w' hp => ?_
    cases out0 with
    | val v h1 =>
     obtain ⟨x, S1, ρ1, he, hx, hE, hI⟩ := hp
     have hlow : v.low 0 = true ∧ h1 = [] := by
      unfold dbody at h0
      split at h0
      ·split at h0 <;> simp at h0
      ·split at h0
       ·split at h0
        ·rename_i hlow
         simp only [Option.some.injEq, DOut.val.injEq] at h0
         obtain ⟨rfl, rfl⟩ := h0
         rw [hkeep] at hlow ⊢
         exact ⟨hlow, by simp⟩
        ·cases h0
       ·cases h0
      ·split at h0
       ·split at h0
        ·rename_i hlow
         simp only [Option.some.injEq, DOut.val.injEq] at h0
         obtain ⟨rfl, rfl⟩ := h0
         rw [hkeep] at hlow ⊢
         exact ⟨hlow, by simp⟩
        ·cases h0
       ·cases h0
      ·cases h0
     obtain ⟨E2, I2⟩ := ext_lift hi hE hI
     have : ρ1 = [] := List.eq_nil_of_length_eq_zero (by rw [hI.len, hlow.2]; rfl)
     subst this
     rw [hlow.2] at hx
     exact ⟨x, S1, ρ, he, hx.lift, E2, I2⟩
    | pan v h1 =>
     obtain ⟨x, S1, ρ1, he, hx, hE, hI⟩ := hp
     have hlow : h1 = [] := by
      unfold dbody at h0
      split at h0
      ·split at h0
       ·simp only [Option.some.injEq, DOut.pan.injEq] at h0
        rw [← h0.2]; simp
       ·cases h0
      ·split at h0
       ·split at h0 <;> simp at h0
       ·cases h0
      ·split at h0
       ·split at h0 <;> simp at h0
       ·cases h0
      ·cases h0
     obtain ⟨E2, I2⟩ := ext_lift hi hE hI
     have : ρ1 = [] := List.eq_nil_of_length_eq_zero (by rw [hI.len, hlow]; rfl)
     subst this
     rw [hlow] at hx
     exact ⟨x, S1, ρ, he, hx.lift, E2, I2⟩
   ·exact bs hi hr' hd
noncomputable def drec (E : Env) : Nat → (Cle → List DV → List Res → Option DOut) × LoopF
 | 0 => (fun _ _ _ => none, fun _ _ _ _ _ _ _ => none)
 | k + 1 => (dcall (drec E k).1 (drec E k).2 E, dround (drec E k).1 (drec E k).2)
theorem callsOk_rec {E : Env} (EO : EnvOk P G E) : ∀ k, CallsOk P (drec E k).1
 | 0 => fun g args h out hh => by simp [drec] at hh
 | k + 1 => fun g args h out hh => by
  simp only [drec, dcall, dcallF] at hh
  split at hh
  ·rename_i F hF
   exact (EO.ext g F hF).1
  ·split at hh
   ·cases hh
   ·rename_i F hF
    obtain ⟨fn, M, co, hf, hname, ht⟩ := EO.af g F hF
    refine ⟨fn, hf, hname, ?_⟩
    rcases ht with ht | ⟨Mc, ht⟩
    ·unfold trFunc at ht
     split at ht
     ·rename_i b rs hb hrs
      simp [hb]
     ·cases ht
    ·unfold trFuncG at ht
     split at ht
     ·rename_i b rs hb hrs
      simp [hb]
     ·cases ht
theorem sound {E : Env} (EO : EnvOk P G E) : ∀ k, CallS P G (drec E k).1 ∧ LoopS P G k (drec E k).2 ∧ GotoS P G k (drec E k).2
 | 0 => ⟨⟨fun g args dargs S ρ h w out hi hl hr hd => by simp [drec] at hd, fun id l args dargs S ρ h w out hi hρ hl hr hd => by simp [drec] at hd⟩, fun F hF M n0 cut hd ex c A ht hR a ad S ρ h w e ad' h' N0 Q hi ha hdf hT hn hr hQ => by simp [drec] at hr, fun F hF M n0 cut hd ex c rest l A hlt f1 f3 ht hR a ad S ρ h w e ad' h' N0 Q hi ha hdf hT hn hr hQ => by simp [drec] at hr⟩
 | k + 1 => by
  obtain ⟨h1, h2, h3⟩ := sound EO k
  exact ⟨call_sim EO (callsOk_rec EO k) h1 h2 h3, round_sim (callsOk_rec EO k) h1 h2 h3, goto_sim (callsOk_rec EO k) h1 h2 h3⟩
end
end Go.Deepv
namespace Go.Deepv
open Go.RowKit
abbrev CallF := Cle → List DV → List Res → Option DOut
def LeC (c c' : CallF) : Prop := ∀ f a h r, c f a h = some r → c' f a h = some r
def LeL (l l' : LoopF) : Prop := ∀ n cut hd ex c a h r, l n cut hd ex c a h = some r → l' n cut hd ex c a h = some r
theorem dcallV_mono {c c' : CallF} (hc : LeC c c') {v : DV} {a : List DV} {h : List Res} {r : DOut} (hr : dcallV c v a h = some r) : dcallV c' v a h = some r := by
 simp only [dcallV] at hr ⊢
 split at hr
 ·exact hc _ _ _ _ hr
 ·exact hc _ _ _ _ hr
 ·exact hc _ _ _ _ hr
 ·cases hr
theorem dop_mono {c c' : CallF} (hc : LeC c c') {o : DOp} {a : List DV} {h : List Res} {r : DOut} (hr : dop c o a h = some r) : dop c' o a h = some r := by
 cases o
 case call f args => exact dcallV_mono hc hr
 case calln sz f args =>
  simp only [dop] at hr ⊢
  split at hr
  ·exact hc _ _ _ _ hr
  ·cases hr
 case calld f args =>
  simp only [dop] at hr ⊢
  split at hr
  ·split at hr
   ·rename_i hall
    rw [if_pos hall]
    split at hr
    ·rename_i v hv
     rw [hc _ _ _ _ hv]
     exact hr
    ·cases hr
   ·cases hr
  ·cases hr
 case len s x => cases s <;> exact hr
 all_goals exact hr
theorem dops_mono {c c' : CallF} (hc : LeC c c') : ∀ {l : List DOper} {a : List DV} {h : List Res} {r : DRun}, dops c l a h = some r → dops c' l a h = some r
 | [], a, h, r, hr => hr
 | o :: l, a, h, r, hr => by
  simp only [dops] at hr ⊢
  split at hr
  ·cases hd : dop c o.op a h with
   | none => rw [hd] at hr; cases hr
   | some out =>
    rw [hd] at hr
    rw [dop_mono hc hd]
    cases out with
    | val v h1 => exact dops_mono hc hr
    | pan v h1 => exact hr
  ·exact dops_mono hc hr
  ·cases hr
theorem same_mono {c c' : CallF} (hc : LeC c c') {l : List (List DOper)} {a : List DV} {h : List Res} {r : DRun} (hs : same c l a h r = true) : same c' l a h r = true := by
 simp only [same, decide_eq_true_eq] at hs ⊢
 exact fun x hx => dops_mono hc (hs x hx)
theorem dexec_mono {c c' : CallF} {l l' : LoopF} (hc : LeC c c') (hl : LeL l l') : ∀ {A : ACode} {a : List DV} {h : List Res} {r : DRun}, dexec c l A a h = some r → dexec c' l' A a h = some r := by
 intro A
 induction A with
 | skip => intro a h r hr; exact hr
 | region ops => intro a h r hr; exact dops_mono hc hr
 | draw ops alts =>
  intro a h r hr
  simp only [dexec] at hr ⊢
  split at hr
  ·rename_i a1 h1 hm
   rw [dops_mono hc hm]
   simp only
   split at hr
   ·rename_i hs
    rw [if_pos (same_mono hc hs)]
    exact hr
   ·cases hr
  ·cases hr
 | seq x y ihx ihy =>
  intro a h r hr
  simp only [dexec] at hr ⊢
  cases hx : dexec c l x a h with
  | none => rw [hx] at hr; cases hr
  | some q =>
   rw [hx] at hr
   rw [ihx hx]
   obtain ⟨e, a1, h1⟩ := q
   cases e with
   | normal => exact ihy hr
   | _ => exact hr
 | cond k x y ihx ihy =>
  intro a h r hr
  simp only [dexec] at hr ⊢
  split at hr
  ·rename_i b eb
   cases b with
   | true => exact ihx (by simpa using hr)
   | false => exact ihy (by simpa using hr)
  ·cases hr
 | block id b ih =>
  intro a h r hr
  simp only [dexec] at hr ⊢
  cases hx : dexec c l b a h with
  | none => rw [hx] at hr; cases hr
  | some q =>
   rw [hx] at hr
   rw [ih hx]
   exact hr
 | loop cut hd ex b ih => intro a h r hr; exact hl _ _ _ _ _ _ _ _ hr
 | rangeFn f ps sn as_ bd _ _ =>
  intro a h r hr
  simp only [dexec] at hr ⊢
  generalize ev a f = fv at hr ⊢
  cases fv
  case yld => cases hr
  all_goals
   simp only at hr ⊢
   split at hr
   ·rename_i hx
    rw [dcallV_mono hc hx]
    exact hr
   ·cases hr
 | exit id => intro a h r hr; exact hr
 | ret => intro a h r hr; exact hr
 | stuck => intro a h r hr; simp [dexec] at hr
theorem dround_mono {c c' : CallF} {l l' : LoopF} (hc : LeC c c') (hl : LeL l l') : LeL (dround c l) (dround c' l') := by
 intro n cut hd ex A a h r hr
 unfold dround at hr ⊢
 cases hx : dexec c l A a h with
 | none => rw [hx] at hr; cases hr
 | some q =>
  rw [hx] at hr
  rw [dexec_mono hc hl hx]
  obtain ⟨e, a1, h1⟩ := q
  cases e with
  | normal =>
   simp only at hr ⊢
   split at hr
   ·rename_i ht
    rw [if_pos ht]
    exact hl _ _ _ _ _ _ _ _ hr
   ·cases hr
  | _ => exact hr
theorem dpre_mono {c c' : CallF} {l l' : LoopF} (hc : LeC c c') (hl : LeL l l') : ∀ {A : List ACode} {a : List DV} {h : List Res} {r : DRun}, dpre c l A a h = some r → dpre c' l' A a h = some r
 | [], a, h, r, hr => hr
 | x :: xs, a, h, r, hr => by
  simp only [dpre] at hr ⊢
  cases hx : dexec c l x a h with
  | none => rw [hx] at hr; cases hr
  | some q =>
   rw [hx] at hr
   rw [dexec_mono hc hl hx]
   obtain ⟨e, a1, h1⟩ := q
   cases e with
   | normal => exact dpre_mono hc hl hr
   | _ => exact hr
theorem dlast_mono {c c' : CallF} {l l' : LoopF} (hc : LeC c c') (hl : LeL l l') {g : DGuard} {cs : List DV} {v : DV} {a : List DV} {h : List Res} {r : DRun} (hr : dlast c l g cs v a h = some r) : dlast c' l' g cs v a h = some r := by
 unfold dlast at hr ⊢
 cases hx : dexec c l g.code (mvs g.ops ((cs ++ List.replicate (g.ntmps - cs.length) (DV.d .undef)).set g.dst v)) h with
 | none => rw [hx] at hr; cases hr
 | some q =>
  rw [hx] at hr
  rw [dexec_mono hc hl hx]
  exact hr
theorem drun_mono {c c' : CallF} {l l' : LoopF} (hc : LeC c c') (hl : LeL l l') {F : AFunc} {a : List DV} {h : List Res} {r : DRun} (hr : drun c l F a h = some r) : drun c' l' F a h = some r := by
 unfold drun at hr ⊢
 cases hg : F.guard with
 | none =>
  rw [hg] at hr
  exact dexec_mono hc hl hr
 | some g =>
  rw [hg] at hr
  simp only at hr ⊢
  cases hx : dpre c l g.pre a h with
  | none => rw [hx] at hr; cases hr
  | some q =>
   rw [hx] at hr
   rw [dpre_mono hc hl hx]
   obtain ⟨e, a1, h1⟩ := q
   cases e with
   | normal =>
    simp only at hr ⊢
    split at hr
    ·rename_i hs
     rw [if_pos hs]
     cases hy : dexec c l F.body (a1.set g.slot (.d .undef)) h1 with
     | none => rw [hy] at hr; cases hr
     | some q2 =>
      rw [hy] at hr
      rw [dexec_mono hc hl hy]
      obtain ⟨e2, a2, h2⟩ := q2
      cases e2 with
      | exit i => cases hr
      | _ => exact dlast_mono hc hl hr
    ·cases hr
   | _ => exact hr
theorem dbody_mono {c c' : CallF} {l l' : LoopF} (hc : LeC c c') (hl : LeL l l') {F : AFunc} {a : List DV} {h : List Res} {r : DOut} (hr : dbody c l F a h = some r) : dbody c' l' F a h = some r := by
 unfold dbody at hr ⊢
 cases hx : drun c l F (a ++ List.replicate (F.ntmps - a.length) (.d .undef)) h with
 | none => rw [hx] at hr; cases hr
 | some q =>
  rw [hx] at hr
  rw [drun_mono hc hl hx]
  exact hr
theorem dcallF_mono {c c' : CallF} {l l' : LoopF} (hc : LeC c c') (hl : LeL l l') (E : Env) {f : FuncId} {a : List DV} {h : List Res} {r : DOut} (hr : dcallF c l E f a h = some r) : dcallF c' l' E f a h = some r := by
 unfold dcallF at hr ⊢
 cases hF : E.ext f with
 | some F => rw [hF] at hr; exact hr
 | none =>
  rw [hF] at hr
  cases hA : E.af f with
  | none => rw [hA] at hr; cases hr
  | some F =>
   rw [hA] at hr
   simp only at hr ⊢
   generalize (if F.coe then a.map DV.coe else a) = da at hr ⊢
   split at hr
   ·rename_i hda
    rw [if_pos hda]
    simp only [Option.map_eq_some_iff] at hr ⊢
    obtain ⟨o, ho, rfl⟩ := hr
    exact ⟨o, dbody_mono hc hl ho, rfl⟩
   ·rename_i hda
    rw [if_neg hda]
    exact dbody_mono hc hl hr
theorem dyield_mono {c c' : CallF} {l l' : LoopF} (hc : LeC c c') (hl : LeL l l') {id : Nat} {a : List DV} {h : List Res} {r : DOut} (hr : dyield c l id a h = some r) : dyield c' l' id a h = some r := by
 unfold dyield at hr ⊢
 split at hr
 ·rename_i ps A B snap hh
  split at hr
  ·rename_i hlen
   simp only [if_pos hlen]
   cases hx : dexec c l A (setAll snap ps a) h with
   | none => rw [hx] at hr; cases hr
   | some q =>
    rw [dexec_mono hc hl hx]
    rw [hx] at hr
    obtain ⟨e, a1, h1⟩ := q
    cases e with
    | normal =>
     simp only at hr ⊢
     split at hr
     ·rename_i h1'
      cases hm : markLoop id .busy h1 with
      | none => rw [hm] at hr; cases hr
      | some h1b =>
       rw [hm] at hr
       simp only at hr ⊢
       cases hb : dexec c l B a1 h1b with
       | none => rw [hb] at hr; cases hr
       | some q2 => rw [hb] at hr; rw [dexec_mono hc hl hb]; exact hr
     ·cases hr
    | _ => cases hr
  ·cases hr
 ·cases hr
theorem dcall_mono {c c' : CallF} {l l' : LoopF} (hc : LeC c c') (hl : LeL l l') (E : Env) : LeC (dcall c l E) (dcall c' l' E) := by
 intro f a h r hr
 cases f with
 | fn f => exact dcallF_mono hc hl E hr
 | yld id => exact dyield_mono hc hl hr
theorem drec_step (E : Env) : ∀ k, LeC (drec E k).1 (drec E (k + 1)).1 ∧ LeL (drec E k).2 (drec E (k + 1)).2
 | 0 => ⟨fun f a h r hr => by simp [drec] at hr, fun n cut hd ex c a h r hr => by simp [drec] at hr⟩
 | k + 1 => by
  obtain ⟨h1, h2⟩ := drec_step E k
  exact ⟨dcall_mono h1 h2 E, dround_mono h1 h2⟩
theorem drec_le (E : Env) {k k' : Nat} (hk : k ≤ k') : LeC (drec E k).1 (drec E k').1 ∧ LeL (drec E k).2 (drec E k').2 := by
 induction hk with
 | refl => exact ⟨fun _ _ _ _ h => h, fun _ _ _ _ _ _ _ _ h => h⟩
 | step _ ih => exact ⟨fun f a h r hr => (drec_step E _).1 f a h r (ih.1 f a h r hr), fun n cut hd ex c a h r hr => (drec_step E _).2 n cut hd ex c a h r (ih.2 n cut hd ex c a h r hr)⟩
open Classical in
noncomputable def Dc (E : Env) : CallF := fun f a h => if hx : ∃ k r, (drec E k).1 f a h = some r then some (Classical.choose (Classical.choose_spec hx)) else none
open Classical in
noncomputable def L (E : Env) : LoopF := fun n cut hd ex c a h => if hx : ∃ k r, (drec E k).2 n cut hd ex c a h = some r then some (Classical.choose (Classical.choose_spec hx)) else none
theorem D_iff {E : Env} {f : Cle} {a : List DV} {h : List Res} {r : DOut} : Dc E f a h = some r ↔ ∃ k, (drec E k).1 f a h = some r := by
 unfold Dc
 constructor
 ·intro hr
  split at hr
  ·rename_i hx
   simp only [Option.some.injEq] at hr
   exact ⟨_, by rw [← hr]; exact Classical.choose_spec (Classical.choose_spec hx)⟩
  ·cases hr
 ·rintro ⟨k, hk⟩
  have hx : ∃ k r, (drec E k).1 f a h = some r := ⟨k, r, hk⟩
  rw [dif_pos hx]
  have h2 := Classical.choose_spec (Classical.choose_spec hx)
  have l1 := (drec_le E (Nat.le_max_left k (Classical.choose hx))).1 f a h r hk
  have l2 := (drec_le E (Nat.le_max_right k (Classical.choose hx))).1 f a h _ h2
  rw [l1] at l2
  exact l2.symm
theorem L_iff {E : Env} {n : Nat} {cut : Bool} {hd ex : List Bool} {c : ACode} {a : List DV} {h : List Res} {r : DRun} : L E n cut hd ex c a h = some r ↔ ∃ k, (drec E k).2 n cut hd ex c a h = some r := by
 unfold L
 constructor
 ·intro hr
  split at hr
  ·rename_i hx
   simp only [Option.some.injEq] at hr
   exact ⟨_, by rw [← hr]; exact Classical.choose_spec (Classical.choose_spec hx)⟩
  ·cases hr
 ·rintro ⟨k, hk⟩
  have hx : ∃ k r, (drec E k).2 n cut hd ex c a h = some r := ⟨k, r, hk⟩
  rw [dif_pos hx]
  have h2 := Classical.choose_spec (Classical.choose_spec hx)
  have l1 := (drec_le E (Nat.le_max_left k (Classical.choose hx))).2 n cut hd ex c a h r hk
  have l2 := (drec_le E (Nat.le_max_right k (Classical.choose hx))).2 n cut hd ex c a h _ h2
  rw [l1] at l2
  exact l2.symm
theorem le_D (E : Env) (k : Nat) : LeC (drec E k).1 (Dc E) := fun f a h r hr => D_iff.2 ⟨k, hr⟩
theorem le_L (E : Env) (k : Nat) : LeL (drec E k).2 (L E) := fun n cut hd ex c a h r hr => L_iff.2 ⟨k, hr⟩
theorem dcallV_cont {E : Env} {v : DV} {a : List DV} {h : List Res} {r : DOut} (hr : dcallV (Dc E) v a h = some r) : ∃ k, dcallV (drec E k).1 v a h = some r := by
 simp only [dcallV] at hr ⊢
 split at hr
 ·obtain ⟨k, hk⟩ := D_iff.1 hr
  exact ⟨k, hk⟩
 ·obtain ⟨k, hk⟩ := D_iff.1 hr
  exact ⟨k, hk⟩
 ·obtain ⟨k, hk⟩ := D_iff.1 hr
  exact ⟨k, hk⟩
 ·cases hr
theorem dop_cont {E : Env} {o : DOp} {a : List DV} {h : List Res} {r : DOut} (hr : dop (Dc E) o a h = some r) : ∃ k, dop (drec E k).1 o a h = some r := by
 cases o
 case call f args => exact dcallV_cont hr
 case calln sz f args =>
  simp only [dop] at hr ⊢
  split at hr
  ·obtain ⟨k, hk⟩ := D_iff.1 hr
   exact ⟨k, hk⟩
  ·cases hr
 case calld f args =>
  simp only [dop] at hr ⊢
  split at hr
  ·split at hr
   ·rename_i hall
    split at hr
    ·rename_i v hv
     obtain ⟨k, hk⟩ := D_iff.1 hv
     refine ⟨k, ?_⟩
     rw [if_pos hall, hk]
     exact hr
    ·cases hr
   ·cases hr
  ·cases hr
 case len s x => cases s <;> exact ⟨0, hr⟩
 all_goals exact ⟨0, hr⟩
theorem dops_cont {E : Env} : ∀ {l : List DOper} {a : List DV} {h : List Res} {r : DRun}, dops (Dc E) l a h = some r → ∃ k, dops (drec E k).1 l a h = some r
 | [], a, h, r, hr => ⟨0, hr⟩
 | o :: l, a, h, r, hr => by
  simp only [dops] at hr ⊢
  split at hr
  ·cases hd : dop (Dc E) o.op a h with
   | none => rw [hd] at hr; cases hr
   | some out =>
    rw [hd] at hr
    obtain ⟨k1, hk1⟩ := dop_cont hd
    cases out with
    | val v h1 =>
     obtain ⟨k2, hk2⟩ := dops_cont (l := l) hr
     refine ⟨max k1 k2, ?_⟩
     rw [dop_mono (drec_le E (Nat.le_max_left k1 k2)).1 hk1]
     exact dops_mono (drec_le E (Nat.le_max_right k1 k2)).1 hk2
    | pan v h1 => exact ⟨k1, by rw [hk1]; exact hr⟩
  ·exact dops_cont hr
  ·cases hr
theorem same_cont {E : Env} {a : List DV} {h : List Res} {r : DRun} : ∀ {l : List (List DOper)}, same (Dc E) l a h r = true → ∃ k, same (drec E k).1 l a h r = true
 | [], _ => ⟨0, by simp [same]⟩
 | x :: l, hs => by
  have hs' : ∀ y ∈ x :: l, dops (Dc E) y a h = some r := by simpa only [same, decide_eq_true_eq] using hs
  obtain ⟨k1, hk1⟩ := dops_cont (hs' x (by simp))
  obtain ⟨k2, hk2⟩ := same_cont (l := l) (by simp only [same, decide_eq_true_eq]; exact fun y hy => hs' y (by simp [hy]))
  refine ⟨max k1 k2, ?_⟩
  have l1 := (drec_le E (Nat.le_max_left k1 k2)).1
  have l2 := (drec_le E (Nat.le_max_right k1 k2)).1
  have := same_mono l2 hk2
  simp only [same, decide_eq_true_eq] at this ⊢
  intro y hy
  rcases List.mem_cons.1 hy with rfl | hy
  ·exact dops_mono l1 hk1
  ·exact this y hy
theorem dexec_cont {E : Env} : ∀ {A : ACode} {a : List DV} {h : List Res} {r : DRun}, dexec (Dc E) (L E) A a h = some r → ∃ k, dexec (drec E k).1 (drec E k).2 A a h = some r := by
 intro A
 induction A with
 | skip => intro a h r hr; exact ⟨0, hr⟩
 | region ops => intro a h r hr; exact dops_cont hr
 | draw ops alts =>
  intro a h r hr
  simp only [dexec] at hr ⊢
  split at hr
  ·rename_i a1 h1 hm
   split at hr
   ·rename_i hs
    obtain ⟨k1, hk1⟩ := dops_cont hm
    obtain ⟨k2, hk2⟩ := same_cont hs
    refine ⟨max k1 k2, ?_⟩
    rw [dops_mono (drec_le E (Nat.le_max_left k1 k2)).1 hk1]
    simp only
    rw [if_pos (same_mono (drec_le E (Nat.le_max_right k1 k2)).1 hk2)]
    exact hr
   ·cases hr
  ·cases hr
 | seq x y ihx ihy =>
  intro a h r hr
  simp only [dexec] at hr ⊢
  cases hx : dexec (Dc E) (L E) x a h with
  | none => rw [hx] at hr; cases hr
  | some q =>
   rw [hx] at hr
   obtain ⟨k1, hk1⟩ := ihx hx
   obtain ⟨e, a1, h1⟩ := q
   cases e with
   | normal =>
    obtain ⟨k2, hk2⟩ := ihy hr
    refine ⟨max k1 k2, ?_⟩
    have l1 := drec_le E (Nat.le_max_left k1 k2)
    have l2 := drec_le E (Nat.le_max_right k1 k2)
    rw [dexec_mono l1.1 l1.2 hk1]
    exact dexec_mono l2.1 l2.2 hk2
   | _ => exact ⟨k1, by rw [hk1]; exact hr⟩
 | cond c x y ihx ihy =>
  intro a h r hr
  simp only [dexec] at hr ⊢
  split at hr
  ·rename_i b eb
   cases b with
   | true => obtain ⟨k, hk⟩ := ihx (by simpa using hr); exact ⟨k, by simpa using hk⟩
   | false => obtain ⟨k, hk⟩ := ihy (by simpa using hr); exact ⟨k, by simpa using hk⟩
  ·cases hr
 | block id b ih =>
  intro a h r hr
  simp only [dexec] at hr ⊢
  cases hx : dexec (Dc E) (L E) b a h with
  | none => rw [hx] at hr; cases hr
  | some q =>
   rw [hx] at hr
   obtain ⟨k, hk⟩ := ih hx
   exact ⟨k, by rw [hk]; exact hr⟩
 | loop cut hd ex b ih =>
  intro a h r hr
  obtain ⟨k, hk⟩ := L_iff.1 hr
  exact ⟨k, hk⟩
 | rangeFn f ps sn as_ bd _ _ =>
  intro a h r hr
  simp only [dexec] at hr ⊢
  generalize ev a f = fv at hr ⊢
  cases fv
  case yld => cases hr
  all_goals
   simp only at hr ⊢
   split at hr
   ·rename_i hx
    obtain ⟨k, hk⟩ := dcallV_cont hx
    refine ⟨k, ?_⟩
    rw [hk]
    exact hr
   ·cases hr
 | exit id => intro a h r hr; exact ⟨0, hr⟩
 | ret => intro a h r hr; exact ⟨0, hr⟩
 | stuck => intro a h r hr; simp [dexec] at hr
theorem dround_cont {E : Env} {n : Nat} {cut : Bool} {hd ex : List Bool} {A : ACode} {a : List DV} {h : List Res} {r : DRun} (hr : dround (Dc E) (L E) n cut hd ex A a h = some r) : ∃ k, dround (drec E k).1 (drec E k).2 n cut hd ex A a h = some r := by
 unfold dround at hr ⊢
 cases hx : dexec (Dc E) (L E) A a h with
 | none => rw [hx] at hr; cases hr
 | some q =>
  rw [hx] at hr
  obtain ⟨k1, hk1⟩ := dexec_cont hx
  obtain ⟨e, a1, h1⟩ := q
  cases e with
  | normal =>
   simp only at hr
   split at hr
   ·rename_i ht
    obtain ⟨k2, hk2⟩ := L_iff.1 hr
    refine ⟨max k1 k2, ?_⟩
    have l1 := drec_le E (Nat.le_max_left k1 k2)
    have l2 := drec_le E (Nat.le_max_right k1 k2)
    rw [dexec_mono l1.1 l1.2 hk1]
    simp only
    rw [if_pos ht]
    exact l2.2 _ _ _ _ _ _ _ _ hk2
   ·cases hr
  | _ => exact ⟨k1, by rw [hk1]; exact hr⟩
theorem dpre_cont {E : Env} : ∀ {A : List ACode} {a : List DV} {h : List Res} {r : DRun}, dpre (Dc E) (L E) A a h = some r → ∃ k, dpre (drec E k).1 (drec E k).2 A a h = some r
 | [], a, h, r, hr => ⟨0, hr⟩
 | x :: xs, a, h, r, hr => by
  simp only [dpre] at hr ⊢
  cases hx : dexec (Dc E) (L E) x a h with
  | none => rw [hx] at hr; cases hr
  | some q =>
   rw [hx] at hr
   obtain ⟨k1, hk1⟩ := dexec_cont hx
   obtain ⟨e, a1, h1⟩ := q
   cases e with
   | normal =>
    obtain ⟨k2, hk2⟩ := dpre_cont hr
    refine ⟨max k1 k2, ?_⟩
    have l1 := drec_le E (Nat.le_max_left k1 k2)
    have l2 := drec_le E (Nat.le_max_right k1 k2)
    rw [dexec_mono l1.1 l1.2 hk1]
    exact dpre_mono l2.1 l2.2 hk2
   | _ => exact ⟨k1, by rw [hk1]; exact hr⟩
theorem dlast_cont {E : Env} {g : DGuard} {cs : List DV} {v : DV} {a : List DV} {h : List Res} {r : DRun} (hr : dlast (Dc E) (L E) g cs v a h = some r) : ∃ k, dlast (drec E k).1 (drec E k).2 g cs v a h = some r := by
 unfold dlast at hr ⊢
 cases hx : dexec (Dc E) (L E) g.code (mvs g.ops ((cs ++ List.replicate (g.ntmps - cs.length) (DV.d .undef)).set g.dst v)) h with
 | none => rw [hx] at hr; cases hr
 | some q =>
  rw [hx] at hr
  obtain ⟨k, hk⟩ := dexec_cont hx
  exact ⟨k, by rw [hk]; exact hr⟩
theorem drun_cont {E : Env} {F : AFunc} {a : List DV} {h : List Res} {r : DRun} (hr : drun (Dc E) (L E) F a h = some r) : ∃ k, drun (drec E k).1 (drec E k).2 F a h = some r := by
 unfold drun at hr ⊢
 cases hg : F.guard with
 | none =>
  rw [hg] at hr
  exact dexec_cont hr
 | some g =>
  rw [hg] at hr
  simp only at hr ⊢
  cases hx : dpre (Dc E) (L E) g.pre a h with
  | none => rw [hx] at hr; cases hr
  | some q =>
   rw [hx] at hr
   obtain ⟨k1, hk1⟩ := dpre_cont hx
   obtain ⟨e, a1, h1⟩ := q
   cases e with
   | normal =>
    simp only at hr
    split at hr
    ·rename_i hs
     cases hy : dexec (Dc E) (L E) F.body (a1.set g.slot (.d .undef)) h1 with
     | none => rw [hy] at hr; cases hr
     | some q2 =>
      rw [hy] at hr
      obtain ⟨k2, hk2⟩ := dexec_cont hy
      obtain ⟨e2, a2, h2⟩ := q2
      cases e2 with
      | exit i => cases hr
      | _ =>
       obtain ⟨k3, hk3⟩ := dlast_cont hr
       refine ⟨max k1 (max k2 k3), ?_⟩
       have l1 := drec_le E (Nat.le_max_left k1 (max k2 k3))
       have l2 := drec_le E (Nat.le_trans (Nat.le_max_left k2 k3) (Nat.le_max_right k1 (max k2 k3)))
       have l3 := drec_le E (Nat.le_trans (Nat.le_max_right k2 k3) (Nat.le_max_right k1 (max k2 k3)))
       rw [dpre_mono l1.1 l1.2 hk1]
       simp only
       rw [if_pos hs, dexec_mono l2.1 l2.2 hk2]
       exact dlast_mono l3.1 l3.2 hk3
    ·cases hr
   | _ => exact ⟨k1, by rw [hk1]; exact hr⟩
theorem dbody_cont {E : Env} {F : AFunc} {a : List DV} {h : List Res} {r : DOut} (hr : dbody (Dc E) (L E) F a h = some r) : ∃ k, dbody (drec E k).1 (drec E k).2 F a h = some r := by
 unfold dbody at hr ⊢
 cases hx : drun (Dc E) (L E) F (a ++ List.replicate (F.ntmps - a.length) (.d .undef)) h with
 | none => rw [hx] at hr; cases hr
 | some q =>
  rw [hx] at hr
  obtain ⟨k, hk⟩ := drun_cont hx
  exact ⟨k, by rw [hk]; exact hr⟩
theorem dcallF_cont {E : Env} {f : FuncId} {a : List DV} {h : List Res} {r : DOut} (hr : dcallF (Dc E) (L E) E f a h = some r) : ∃ k, dcallF (drec E k).1 (drec E k).2 E f a h = some r := by
 unfold dcallF at hr ⊢
 cases hF : E.ext f with
 | some F => rw [hF] at hr; exact ⟨0, hr⟩
 | none =>
  rw [hF] at hr
  cases hA : E.af f with
  | none => rw [hA] at hr; cases hr
  | some F =>
   rw [hA] at hr
   simp only at hr ⊢
   generalize (if F.coe then a.map DV.coe else a) = da at hr ⊢
   split at hr
   ·rename_i hda
    simp only [Option.map_eq_some_iff] at hr
    obtain ⟨o, ho, rfl⟩ := hr
    obtain ⟨k, hk⟩ := dbody_cont ho
    exact ⟨k, by rw [if_pos hda, hk]; rfl⟩
   ·rename_i hda
    obtain ⟨k, hk⟩ := dbody_cont hr
    exact ⟨k, by rw [if_neg hda]; exact hk⟩
theorem dyield_cont {E : Env} {id : Nat} {a : List DV} {h : List Res} {r : DOut} (hr : dyield (Dc E) (L E) id a h = some r) : ∃ k, dyield (drec E k).1 (drec E k).2 id a h = some r := by
 unfold dyield at hr ⊢
 split at hr
 ·rename_i ps A B snap hh
  split at hr
  ·rename_i hlen
   simp only [if_pos hlen]
   cases hx : dexec (Dc E) (L E) A (setAll snap ps a) h with
   | none => rw [hx] at hr; cases hr
   | some q =>
    obtain ⟨k1, hk1⟩ := dexec_cont hx
    rw [hx] at hr
    obtain ⟨e, a1, h1⟩ := q
    cases e with
    | normal =>
     simp only at hr
     split at hr
     ·rename_i h1'
      cases hm : markLoop id .busy h1 with
      | none => rw [hm] at hr; cases hr
      | some h1b =>
       rw [hm] at hr
       simp only at hr
       cases hb : dexec (Dc E) (L E) B a1 h1b with
       | none => rw [hb] at hr; cases hr
       | some q2 =>
        obtain ⟨k2, hk2⟩ := dexec_cont hb
        have l1 := drec_le E (Nat.le_max_left k1 k2)
        have l2 := drec_le E (Nat.le_max_right k1 k2)
        refine ⟨max k1 k2, ?_⟩
        rw [dexec_mono l1.1 l1.2 hk1]
        simp only [h1', hm]
        rw [dexec_mono l2.1 l2.2 hk2]
        rw [hb] at hr
        exact hr
     ·cases hr
    | _ => cases hr
  ·cases hr
 ·cases hr
theorem dcall_cont {E : Env} {f : Cle} {a : List DV} {h : List Res} {r : DOut} (hr : dcall (Dc E) (L E) E f a h = some r) : ∃ k, dcall (drec E k).1 (drec E k).2 E f a h = some r := by
 cases f with
 | fn f => exact dcallF_cont hr
 | yld id => exact dyield_cont hr
theorem Dc_eq (E : Env) (f : Cle) (a : List DV) (h : List Res) : Dc E f a h = dcall (Dc E) (L E) E f a h := by
 apply Option.ext
 intro r
 constructor
 ·intro hr
  obtain ⟨k, hk⟩ := D_iff.1 hr
  cases k with
  | zero => simp [drec] at hk
  | succ k => exact dcall_mono (le_D E k) (le_L E k) E f a h r hk
 ·intro hr
  obtain ⟨k, hk⟩ := dcall_cont hr
  exact D_iff.2 ⟨k + 1, hk⟩
theorem L_eq (E : Env) (n : Nat) (cut : Bool) (hd ex : List Bool) (c : ACode) (a : List DV) (h : List Res) : L E n cut hd ex c a h = dround (Dc E) (L E) n cut hd ex c a h := by
 apply Option.ext
 intro r
 constructor
 ·intro hr
  obtain ⟨k, hk⟩ := L_iff.1 hr
  cases k with
  | zero => simp [drec] at hk
  | succ k => exact dround_mono (le_D E k) (le_L E k) n cut hd ex c a h r hk
 ·intro hr
  obtain ⟨k, hk⟩ := dround_cont hr
  exact L_iff.2 ⟨k + 1, hk⟩
noncomputable def D (E : Env) (f : FuncId) (a : List DV) (h : List Res) : Option DOut := Dc E (.fn f) a h
noncomputable def Y (E : Env) (id : Nat) (a : List DV) (h : List Res) : Option DOut := Dc E (.yld id) a h
theorem D_eq (E : Env) (f : FuncId) (a : List DV) (h : List Res) : D E f a h = dcallF (Dc E) (L E) E f a h := Dc_eq E (.fn f) a h
theorem Y_eq (E : Env) (id : Nat) (a : List DV) (h : List Res) : Y E id a h = dyield (Dc E) (L E) id a h := Dc_eq E (.yld id) a h
theorem D_sound {P : Program} {G : Glob} {E : Env} (EO : EnvOk P G E) : CallS P G (Dc E) := by
 refine ⟨fun g args dargs S ρ h w out hi hl hr hd => ?_, fun id l args dargs S ρ h w out hi hρ hl hr hd => ?_⟩
 ·obtain ⟨k, hk⟩ := D_iff.1 hd
  exact (sound EO k).1.fn g args dargs S ρ h w out hi hl hr hk
 ·obtain ⟨k, hk⟩ := D_iff.1 hd
  exact (sound EO k).1.yld id l args dargs S ρ h w out hi hρ hl hr hk
theorem inv_start (P : Program) (G : Glob) (w : World) (hg : ∀ b o v, G b o v → b < w.heap.size ∧ w.cell? ⟨b, o, none⟩ = v) : Inv P G (fun b _ => b < w.heap.size) [] [] w where
 len := rfl
 bound := fun b o h => h
 glob := hg
 low := fun i b r hr => by simp at hr
 apart := fun i j b r r' hr => by simp at hr
 box := fun i cells tag hc => by simp at hc
 nilrow := fun i hc => by simp at hc
 row := fun i sz n et hc => by simp at hc
 iter := fun i s pos hc => by simp at hc
 loop := fun i ps as_ bd snap st hc => by simp at hc
 own := fun i r hc => by simp at hc
theorem D_law {P : Program} {G : Glob} {E : Env} (EO : EnvOk P G E) {g : FuncId} {w : World} (hg : ∀ b o v, G b o v → b < w.heap.size ∧ w.cell? ⟨b, o, none⟩ = v) {args : Array Value} {fs : List FV} (hl : args.size = fs.length) (hr : ∀ (j : Nat) (x : FV), fs[j]? = some x → RepF (fun b _ => b < w.heap.size) w (args.getD j undef) x)
  {b : Bool} {h' : List Res} (hd : D E g (fs.map .d) [] = some (.val (.d (.bool b)) h')) : Calls P g args w fun e w' => e = .returned (.bool b) ∧ Below w.heap.size w w' := by
 refine ((D_sound EO).fn g args (fs.map .d) _ [] [] w _ (inv_start P G w hg) (by simpa using hl) (fun j x hx => ?_) hd).mono fun e w' hp => ?_
 ·simp only [List.getElem?_map, Option.map_eq_some_iff] at hx
  obtain ⟨y, hy, rfl⟩ := hx
  exact .d _ _ (hr j y hy)
 ·obtain ⟨x, S', ρ', rfl, hx, E', I⟩ := hp
  rw [repF_bool (repD_d hx)]
  exact ⟨rfl, E'.os, E'.tape, E'.output, E'.size, fun k hk => E'.frame k hk fun i r hr => by simp at hr⟩
end Go.Deepv
namespace Go.Deepv
def rr (sz n : Nat) (et : Nat := 0) : Res := if n = 0 then .nilrow else .row sz n et
theorem appRow_any {sz bytes et : Nat} {l new : List (List FV)} {t : Nat} {h : List Res} (hr : h[t]? = some (rr sz l.length et)) (h1 : (l.length + new.length) * bytes ≤ 140737488355328) (h2 : 0 < sz) (h3 : 0 < bytes) (s2 : Nat) (hs : s2 = sz) :
  appRow sz bytes (.row sz l t) (some (s2, new)) h et = some (.val (.row sz (l ++ new) t) (h.set t (rr sz (l.length + new.length) et))) := by
 subst hs
 have keep : ∀ (r : Res), h[t]? = some r → h.set t r = h := fun r hr => set_self _ _ _ hr
 simp only [appRow, hr]
 rw [if_pos ⟨.inl trivial, h1, h2, h3⟩]
 by_cases hl : l.length = 0
 ·have : l = [] := List.eq_nil_of_length_eq_zero hl
  subst this
  by_cases hn : new = []
  ·subst hn
   simp [rr]
   rw [keep]
   simpa [rr] using hr
  ·have : new.length ≠ 0 := fun h => hn (List.eq_nil_of_length_eq_zero h)
   simp [rr, hn]
 ·have : l.length + new.length ≠ 0 := by omega
  simp [rr, hl]
theorem appRow_one {sz bytes : Nat} {l : List (List FV)} {c : List FV} {t : Nat} {h : List Res} (hr : h[t]? = some (rr sz l.length)) (h1 : (l.length + 1) * bytes ≤ 140737488355328) (h2 : 0 < sz) (h3 : 0 < bytes) (s2 : Nat) (hs : s2 = sz) :
  appRow sz bytes (.row sz l t) (some (s2, [c])) h = some (.val (.row sz (l ++ [c]) t) (h.set t (rr sz (l.length + 1)))) := appRow_any hr (by simpa using h1) h2 h3 s2 hs
inductive Stp where
 | go (a : List DV) (h : List Res)
 | pan (v : DV) (a : List DV) (h : List Res)
noncomputable def ostep (call : Cle → List DV → List Res → Option DOut) (o : DOper) (a : List DV) (h : List Res) : Option Stp :=
 match wants a o.guard with
 | some true => match dop call o.op a h with
  | some (.val v h') => some (.go (put a o.dst v) h')
  | some (.pan v h') => some (.pan v a h')
  | none => none
 | some false => some (.go (put a o.dst (.d (.tup []))) h)
 | none => none
theorem dops_end (call : Cle → List DV → List Res → Option DOut) (a : List DV) (h : List Res) : dops call [] a h = some (.normal, a, h) := rfl
theorem dops_step (call : Cle → List DV → List Res → Option DOut) (o : DOper) (rest : List DOper) (a : List DV) (h : List Res) : dops call (o :: rest) a h = match ostep call o a h with
  | some (.go a' h') => dops call rest a' h'
  | some (.pan v a' h') => some (.pan v, a', h')
  | none => none := by
 rw [dops]
 unfold ostep
 cases wants a o.guard with
 | none => rfl
 | some b => cases b with
  | false => rfl
  | true => cases dop call o.op a h with
   | none => rfl
   | some r => cases r <;> rfl
theorem cast_lit (n : Nat) : (Nat.cast (no_index (OfNat.ofNat n)) : Int) = OfNat.ofNat n := rfl
theorem one_d1 (x : FV) : (DV.d x).one = x.one := rfl
theorem one_ptr (i o : Nat) : (DV.ptr i o).one = true := rfl
theorem one_bslc (i o n : Nat) : (DV.bslc i o n).one = true := rfl
theorem dc_fn (E : Env) (g : FuncId) (a : List DV) (h : List Res) : Dc E (.fn g) a h = D E g a h := rfl
theorem one_row (s : Nat) (l : List (List FV)) (t : Nat) : (DV.row s l t).one = true := rfl
theorem one_clo (f : Fn) (p q : List DV) : (DV.clo f p q).one = true := rfl
theorem one_if (t : TypeId) (v : DV) : (DV.iface t v).one = true := rfl
theorem one_int (k : IntKind) (n : Int) : (FV.int k n).one = true := rfl
theorem one_bool (b : Bool) : (FV.bool b).one = true := rfl
theorem one_str (b : ByteArray) : (FV.str b).one = true := rfl
theorem one_slice (s : Nat) (l : List (List FV)) : (FV.slice s l).one = true := rfl
theorem one_ref (c : List FV) (o : Nat) : (FV.ref c o).one = true := rfl
theorem one_nilp : FV.nilp.one = true := rfl
theorem one_iface (t : TypeId) (v : FV) : (FV.iface t v).one = true := rfl
theorem one_nili : FV.nili.one = true := rfl
theorem one_func (f : Fn) (p q : List FV) : (FV.func f p q).one = true := rfl
theorem one_nilf : FV.nilf.one = true := rfl
theorem dcallV_fn (E : Env) (g : FuncId) (args : List DV) (h : List Res) : dcallV (Dc E) (.d (.func (.func g) [] [])) args h = D E g args h := by simp [dcallV, D]
theorem dcallV_fnc (E : Env) (g : FuncId) (p q : List FV) (args : List DV) (h : List Res) : dcallV (Dc E) (.d (.func (.func g) p q)) args h = D E g (p.map .d ++ args ++ q.map .d) h := rfl
theorem dcallV_clo (E : Env) (g : FuncId) (p q args : List DV) (h : List Res) : dcallV (Dc E) (.clo (.func g) p q) args h = D E g (p ++ args ++ q) h := rfl
theorem dcallV_yld (E : Env) (id : Nat) (args : List DV) (h : List Res) : dcallV (Dc E) (.yld id) args h = Y E id args h := rfl
theorem flat_map : ∀ c : List FV, (c.map DV.d).mapM DV.flat = some c
 | [] => rfl
 | x :: c => by simp [DV.flat, flat_map c]
theorem flat_comp (c : List FV) : c.mapM (DV.flat ∘ DV.d) = some c := by
 have := flat_map c
 rwa [List.mapM_map] at this
theorem dload_all {c : List FV} {n : Nat} (h : c.length = n) : dload (some n) (c.map .d) 0 = some (.d (.agg c)) := by
 subst h
 simp only [dload, DV.mkAgg, List.drop_zero, Nat.zero_add, List.length_map, Nat.le_refl, if_true, List.take_of_length_le, flat_map]
theorem take_d {c : List FV} {n : Nat} (h : c.length = n) : (c.map DV.d).take n = c.map .d := by
 subst h
 simp [List.take_of_length_le]
theorem wrap_i64 {n : Int} (h1 : -9223372036854775808 ≤ n) (h2 : n < 9223372036854775808) : IntKind.i64.wrap n = n := by
 simp only [IntKind.wrap, IntKind.signed, IntKind.bits, Bool.true_and, Bool.false_and, decide_eq_true_eq, Bool.false_eq_true, if_false, show ((2 : Int) ^ 64) = 18446744073709551616 from rfl, show ((2 : Int) ^ (64 - 1)) = 9223372036854775808 from rfl, show ((2 : Int) ^ 8) = 256 from rfl]
 try split
 all_goals omega
theorem wrap_u8 {n : Int} (h1 : 0 ≤ n) (h2 : n < 256) : IntKind.u8.wrap n = n := by
 simp only [IntKind.wrap, IntKind.signed, IntKind.bits, Bool.true_and, Bool.false_and, decide_eq_true_eq, Bool.false_eq_true, if_false, show ((2 : Int) ^ 64) = 18446744073709551616 from rfl, show ((2 : Int) ^ (64 - 1)) = 9223372036854775808 from rfl, show ((2 : Int) ^ 8) = 256 from rfl]
 try split
 all_goals omega
theorem L_round {E : Env} {n : Nat} {hd ex : List Bool} {c : ACode} {K : List DV → List Res → Option DRun} (hK : L E n true hd ex c = K) (a : List DV) (h : List Res) :
  K a h = match dexec (Dc E) (L E) c a h with
   | some (.normal, a', h') => if DV.lows n (mask hd a') then K (mask hd a') (h'.take n) else none
   | some (.pan v, a', h') => some (.pan v, a', h')
   | some (e, a', h') => if DV.lows n (mask ex a') then some (e, mask ex a', h'.take n) else none
   | none => none := by
 rw [← hK, L_eq]
 rfl
theorem D_dat {E : Env} {f : FuncId} {F : AFunc} {args : List DV} (he : E.ext f = none) (ha : E.af f = some F) (hk : F.keep = 0) (hd : args.all DV.isD = true) (h : List Res) :
  D E f args h = (dbody (Dc E) (L E) F args []).map (withHeap h) := by
 have hm : args.map DV.coe = args := by
  clear he ha hk
  induction args with
  | nil => rfl
  | cons x xs ih =>
   simp only [List.all_cons, Bool.and_eq_true] at hd
   rw [List.map_cons, ih hd.2]
   cases x <;> simp_all [DV.isD, DV.coe]
 have hc : (if F.coe then args.map DV.coe else args) = args := by rw [hm]; split <;> rfl
 rw [D_eq]
 unfold dcallF
 rw [he, ha]
 simp only [hc, hk, hd, beq_self_eq_true, Bool.and_self, if_true]
theorem D_own {E : Env} {f : FuncId} {F : AFunc} {args : List DV} (he : E.ext f = none) (ha : E.af f = some F) (hc : F.coe = true) (hd : (F.keep == 0 && (args.map DV.coe).all DV.isD) = false) (h : List Res) :
  D E f args h = dbody (Dc E) (L E) F (args.map DV.coe) h := by
 rw [D_eq]
 unfold dcallF
 rw [he, ha]
 simp only [hc, hd, if_true, Bool.false_eq_true, if_false]
end Go.Deepv
