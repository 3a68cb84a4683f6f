/-
  Operations of the deep machine in another order.
  Conditions: none.
-/
import Derived.Test.YtpemlmhggiaflaaGreatDoorDC
set_option linter.unusedVariables false
set_option linter.unusedSimpArgs false
namespace Go.Deepv

section
variable {call : Cle → List DV → List Res → Option DOut} {a a' : List DV} {h h' : List Res}

theorem mapM_congr' {α β : Type} {f g : α → Option β} : ∀ {l : List α}, (∀ x ∈ l, f x = g x) → l.mapM f = l.mapM g
  | [], _ => rfl
  | x :: l, hl => by
    simp only [List.mapM_cons]
    rw [hl x (by simp), mapM_congr' (l := l) fun y hy => hl y (by simp [hy])]

theorem bound_congr {x : Option Opd} {u v : Nat} (hx : ∀ o ∈ x.toList, ev a o = ev a' o) : bound x a u v = bound x a' u v := by
  cases x with
  | none => rfl
  | some x => simp only [bound]; rw [hx x (by simp)]

theorem dop_congr {o : DOp} (hx : ∀ x ∈ o.opds, ev a x = ev a' x) : dop call o a h = dop call o a' h := by
  cases o <;> simp only [DOp.opds, List.mem_cons, List.not_mem_nil, or_false, forall_eq_or_imp, forall_eq] at hx
  case lit sz len zero ps =>
    simp only [dop]
    rw [mapM_congr' (g := fun p => (flatCells (ev a' p.2)).map fun cs => (p.1, cs)) fun p hp => by rw [hx p.2 (List.mem_map.2 ⟨p, hp, rfl⟩)]]
  case build zero ps =>
    simp only [dop]
    rw [mapM_congr' (g := fun p => match flatCells (ev a' p.2.2) with | some cs => if cs.length = p.2.1 ∧ cs.all FV.one then some (p.1, cs) else none | none => none) fun p hp => by rw [hx p.2.2 (List.mem_map.2 ⟨p, hp, rfl⟩)]; rfl]
    rfl
  case mnmx mx xs =>
    simp only [dop]
    rw [List.map_congr_left hx]
  case call f xs =>
    simp only [dop]
    rw [hx.1, List.map_congr_left hx.2]
  case calln sz f xs =>
    simp only [dop]
    rw [hx.1, List.map_congr_left hx.2]
  case mkf fn p q =>
    simp only [dop]
    rw [List.map_congr_left (l := p) fun x hp => hx x (by simp [hp]), List.map_congr_left (l := q) fun x hp => hx x (by simp [hp])]
  case slcStr x lo hi =>
    simp only [dop]
    rw [hx.1]
    split <;> try rfl
    rw [bound_congr (x := hi) fun o ho => hx.2 o (by simp [ho])]
    split <;> try rfl
    rw [bound_congr (x := lo) fun o ho => hx.2 o (by simp [ho])]
  case slc sz x lo hi =>
    have bh : ∀ u v, bound hi a u v = bound hi a' u v := fun u v => bound_congr fun o ho => hx.2 o (by simp [ho])
    have bl : ∀ u v, bound lo a u v = bound lo a' u v := fun u v => bound_congr fun o ho => hx.2 o (by simp [ho])
    simp only [dop, hx.1, bh, bl]
  case vlit et sz len zero ps =>
    simp only [dop]
    rw [mapM_congr' (g := fun p => (flatCells (ev a' p.2)).map fun cs => (p.1, cs)) fun p hp => by rw [hx p.2 (List.mem_map.2 ⟨p, hp, rfl⟩)]]
  case slcA len sz x lo hi =>
    simp only [dop]
    rw [hx.1]
    split <;> try rfl
    rw [bound_congr (x := hi) fun o ho => hx.2 o (by simp [ho])]
    split <;> try rfl
    rw [bound_congr (x := lo) fun o ho => hx.2 o (by simp [ho])]
  case calld f xs =>
    simp only [dop]
    rw [hx.1, List.map_congr_left hx.2]
  case len s x => cases s <;> simp only [dop] <;> rw [hx]
  all_goals (try simp only [dop]) <;> (try simp only [hx])

theorem dop_quiet {o : DOp} (hp : o.quiet = true) {out : DOut} (hd : dop call o a h = some out) : ∃ v, out = .val v h := by
  cases o <;> simp only [DOp.quiet, DOp.pure, Bool.false_eq_true] at hp
  case len s x => cases s <;> simp only [dop] at hd <;> (repeat' split at hd) <;> simp only [Option.some.injEq, reduceCtorEq] at hd <;> exact ⟨_, hd.symm⟩
  all_goals simp only [dop] at hd
  all_goals (repeat' split at hd)
  all_goals first
    | (simp only [reduceCtorEq] at hd; done)
    | exact ⟨_, (Option.some.inj hd).symm⟩
    | (simp only [Option.map_eq_some_iff] at hd; obtain ⟨v, _, rfl⟩ := hd; exact ⟨_, rfl⟩)
    | skip

theorem dop_pure {o : DOp} (hp : o.pure = true) {v : DV} (hd : dop call o a h = some (.val v h)) (h' : List Res) : dop call o a h' = some (.val v h') := by
  cases o <;> simp only [DOp.pure, Bool.false_eq_true] at hp
  case len s x => cases s <;> simp only [dop] at hd ⊢ <;> (repeat' split at hd) <;> simp_all
  all_goals simp only [dop] at hd ⊢
  all_goals first
    | (simp_all; done)
    | ((repeat' split at hd) <;> simp_all; done)
    | ((repeat' split at hd) <;> simp_all <;> (intros; subst_vars; grind))

/-- One operation that ends well. -/
def dstep (call : Cle → List DV → List Res → Option DOut) (o : DOper) (a : List DV) (h : List Res) : Option (DV × List Res) :=
  match wants a o.guard with
  | some true => match dop call o.op a h with
    | some (.val v h') => some (v, h')
    | _ => none
  | some false => some (.d (.tup []), h)
  | none => none

theorem dops_cons {o : DOper} {l : List DOper} {r : List DV × List Res} : dops call (o :: l) a h = some (.normal, r) ↔ ∃ v h', dstep call o a h = some (v, h') ∧ dops call l (put a o.dst v) h' = some (.normal, r) := by
  simp only [dops, dstep]
  cases wants a o.guard with
  | none => simp
  | some b =>
    cases b with
    | false => exact ⟨fun hr => ⟨_, _, rfl, hr⟩, fun ⟨v, h', he, hr⟩ => by cases he; exact hr⟩
    | true =>
      simp only
      cases hd : dop call o.op a h with
      | none => simp
      | some out =>
        cases out with
        | val v h' => exact ⟨fun hr => ⟨_, _, rfl, hr⟩, fun ⟨v, h', he, hr⟩ => by cases he; exact hr⟩
        | pan v h' => simp

theorem ev_put {x : Opd} {d : Option Nat} {v : DV} (hx : ∀ t ∈ x.slots, d ≠ some t) : ev (put a d v) x = ev a x := by
  cases d with
  | none => rfl
  | some d =>
    cases x with
    | tmp t =>
      have : d ≠ t := fun e => hx t (by simp [Opd.slots]) (by rw [e])
      simp only [ev, put, List.getD_eq_getElem?_getD, List.getElem?_set_ne this]
    | _ => rfl
theorem wants_put {g : Option (Nat × Bool)} {d : Option Nat} {v : DV} (hx : ∀ t b, g = some (t, b) → d ≠ some t) : wants (put a d v) g = wants a g := by
  cases g with
  | none => rfl
  | some p =>
    obtain ⟨t, b⟩ := p
    cases d with
    | none => rfl
    | some d =>
      have : d ≠ t := fun e => hx t b rfl (by rw [e])
      simp only [wants, put, List.getElem?_set_ne this]
theorem dstep_put {o : DOper} {d : Option Nat} {v : DV} (hx : ∀ t ∈ o.looks, d ≠ some t) : dstep call o (put a d v) h = dstep call o a h := by
  have h1 : wants (put a d v) o.guard = wants a o.guard := wants_put fun t b hg => hx t (by simp [DOper.looks, hg])
  have h2 : dop call o.op (put a d v) h = dop call o.op a h := dop_congr fun x hxo => ev_put fun t ht => hx t (by
    simp only [DOper.looks, List.mem_append, List.mem_flatMap]
    exact .inl ⟨x, hxo, ht⟩)
  simp only [dstep, h1, h2]

theorem dstep_quiet {o : DOper} (hp : o.op.quiet = true) {v : DV} (hd : dstep call o a h = some (v, h')) : h' = h := by
  unfold dstep at hd
  split at hd
  · split at hd
    · rename_i v1 h1 hdop
      obtain ⟨v2, e⟩ := dop_quiet hp hdop
      cases e
      simp at hd
      exact hd.2.symm
    · cases hd
  · simp at hd; exact hd.2.symm
  · cases hd
theorem DOp.quiet_of_pure {o : DOp} (hp : o.pure = true) : o.quiet = true := by cases o <;> simp_all [DOp.quiet, DOp.pure]
theorem dstep_pure {o : DOper} (hp : o.op.pure = true) {v : DV} {h1 : List Res} (hd : dstep call o a h = some (v, h1)) (h' : List Res) : dstep call o a h' = some (v, h') := by
  obtain rfl := dstep_quiet (DOp.quiet_of_pure hp) hd
  unfold dstep at hd ⊢
  split at hd
  · rename_i hw
    split at hd
    · rename_i v1 h2 hdop
      simp at hd
      obtain ⟨rfl, rfl⟩ := hd
      rw [dop_pure hp hdop h']
    · cases hd
  · rename_i hw
    simp at hd
    rw [← hd]
  · cases hd

theorem put_comm {d e : Option Nat} {u v : DV} (hne : ∀ i j, d = some i → e = some j → i ≠ j) : put (put a d u) e v = put (put a e v) d u := by
  cases d with
  | none => rfl
  | some i =>
    cases e with
    | none => rfl
    | some j => simp only [put]; exact List.set_comm _ _ (hne i j rfl rfl)

theorem DOper.comm_symm {x y : DOper} (h : x.comm y = true) : y.comm x = true := by
  unfold DOper.comm at *
  simp only [Bool.and_eq_true, Bool.or_eq_true] at *
  refine ⟨⟨⟨h.1.1.2, h.1.1.1⟩, ?_⟩, ?_⟩
  · have := h.1.2
    revert this
    cases x.dst <;> cases y.dst <;> simp
    exact fun e h => e h.symm
  · rcases h.2 with (h | h) | h
    · exact .inl (.inr h)
    · exact .inl (.inl h)
    · exact .inr ⟨h.2, h.1⟩

/-- Two that commute. -/
theorem dops_swap {x y : DOper} (hc : x.comm y = true) {l : List DOper} {r : List DV × List Res} (hr : dops call (x :: y :: l) a h = some (.normal, r)) : dops call (y :: x :: l) a h = some (.normal, r) := by
  unfold DOper.comm at hc
  simp only [Bool.and_eq_true, Bool.or_eq_true] at hc
  obtain ⟨⟨⟨c1, c2⟩, c3⟩, c4⟩ := hc
  have a1 : ∀ t ∈ y.looks, x.dst ≠ some t := fun t ht e => by simp [e] at c1; exact c1 ht
  have a2 : ∀ t ∈ x.looks, y.dst ≠ some t := fun t ht e => by simp [e] at c2; exact c2 ht
  obtain ⟨u, h1, s1, hr1⟩ := dops_cons.1 hr
  clear hr
  obtain ⟨v, h2, s2, hr⟩ := dops_cons.1 hr1
  clear hr1
  rw [dstep_put a1] at s2
  have hput : put (put a x.dst u) y.dst v = put (put a y.dst v) x.dst u := put_comm fun i j hi hj => by
    rw [hi, hj] at c3
    simpa using c3
  rw [hput] at hr
  rcases c4 with (hp | hp) | ⟨q1, q2⟩
  · obtain rfl := dstep_quiet (DOp.quiet_of_pure hp) s1
    exact dops_cons.2 ⟨v, h2, s2, dops_cons.2 ⟨u, h2, by rw [dstep_put a2]; exact dstep_pure hp s1 _, hr⟩⟩
  · obtain rfl := dstep_quiet (DOp.quiet_of_pure hp) s2
    exact dops_cons.2 ⟨v, h, dstep_pure hp s2 _, dops_cons.2 ⟨u, h2, by rw [dstep_put a2]; exact s1, hr⟩⟩
  · obtain rfl := dstep_quiet q1 s1
    obtain rfl := dstep_quiet q2 s2
    exact dops_cons.2 ⟨v, h2, s2, dops_cons.2 ⟨u, h2, by rw [dstep_put a2]; exact s1, hr⟩⟩

theorem dops_front {x : DOper} {l2 : List DOper} {r : List DV × List Res} : ∀ {l1 : List DOper} {a : List DV} {h : List Res}, (∀ y ∈ l1, y.comm x = true) → dops call (l1 ++ x :: l2) a h = some (.normal, r) → dops call (x :: (l1 ++ l2)) a h = some (.normal, r)
  | [], _, _, _, hr => hr
  | y :: l1, a, h, hc, hr => by
    obtain ⟨u, h1, s1, hr⟩ := dops_cons.1 hr
    exact dops_swap (hc y (by simp)) (dops_cons.2 ⟨u, h1, s1, dops_front (fun z hz => hc z (by simp [hz])) hr⟩)

theorem idxOf_lt_iff {l2 : List Nat} {x y z : Nat} (hy : y ≠ x) (hz : z ≠ x) : ∀ {l1 : List Nat}, ((l1 ++ x :: l2).idxOf y < (l1 ++ x :: l2).idxOf z ↔ (l1 ++ l2).idxOf y < (l1 ++ l2).idxOf z)
  | [] => by
    have e1 : (x == y) = false := by simpa using Ne.symm hy
    have e2 : (x == z) = false := by simpa using Ne.symm hz
    simp [List.idxOf_cons, e1, e2]
  | w :: l1 => by
    have ih := idxOf_lt_iff (l1 := l1) (l2 := l2) hy hz
    simp only [List.cons_append, List.idxOf_cons]
    cases h1 : w == y <;> cases h2 : w == z <;> simp [ih]

/-- Orders that agree where it matters come to the same. -/
theorem dops_orders {dl : List DOper} {r : List DV × List Res} : ∀ {σ τ : List Nat} {a : List DV} {h : List Res}, σ.Nodup → τ.Nodup → (∀ i, i ∈ σ ↔ i ∈ τ) →
    (∀ x ∈ σ, ∀ y ∈ σ, x ≠ y → (dl.getD x default).comm (dl.getD y default) = false → (σ.idxOf x < σ.idxOf y ↔ τ.idxOf x < τ.idxOf y)) →
    dops call (ordered dl τ) a h = some (.normal, r) → dops call (ordered dl σ) a h = some (.normal, r)
  | [], τ, a, h, _, _, hm, _, hr => by
    cases τ with
    | nil => exact hr
    | cons x τ => have := (hm x).2 (by simp); simp at this
  | x :: σ, τ, a, h, hn, hnt, hm, ho, hr => by
    obtain ⟨hx, hn⟩ := List.nodup_cons.1 hn
    obtain ⟨l1, l2, rfl⟩ := List.append_of_mem ((hm x).1 (by simp))
    have hx1 : x ∉ l1 ∧ x ∉ l2 := by
      have := List.nodup_append.1 hnt
      refine ⟨fun h1 => this.2.2 x h1 x (by simp) rfl, (List.nodup_cons.1 this.2.1).1⟩
    have hc : ∀ y ∈ l1.map (fun i => dl.getD i default), y.comm (dl.getD x default) = true := by
      intro y hy
      obtain ⟨i, hi, rfl⟩ := List.mem_map.1 hy
      have hix : i ≠ x := fun e => hx1.1 (e ▸ hi)
      cases hcm : (dl.getD i default).comm (dl.getD x default) with
      | true => rfl
      | false =>
        have hms : i ∈ x :: σ := (hm i).2 (by simp [hi])
        have := (ho i hms x (by simp) hix hcm).2 (by
          rw [List.idxOf_append, if_pos hi, List.idxOf_append, if_neg hx1.1]
          have := List.idxOf_lt_length_of_mem hi
          simp
          omega)
        simp at this
    simp only [ordered, List.map_append, List.map_cons] at hr ⊢
    obtain ⟨v, h', s, hr⟩ := dops_cons.1 (dops_front hc hr)
    refine dops_cons.2 ⟨v, h', s, ?_⟩
    have hn' : (l1 ++ l2).Nodup := by
      have := List.nodup_append.1 hnt
      exact List.nodup_append.2 ⟨this.1, (List.nodup_cons.1 this.2.1).2, fun p hp q hq => this.2.2 p hp q (by simp [hq])⟩
    refine dops_orders (τ := l1 ++ l2) hn hn' (fun i => ?_) (fun i hi j hj hij hcm => ?_) (by simpa only [ordered, List.map_append] using hr)
    · have := hm i
      by_cases e : i = x
      · subst e
        simp [hx, hx1.1, hx1.2]
      · simp [e] at this
        simp [this]
    · have hi' : i ≠ x := fun e => hx (e ▸ hi)
      have hj' : j ≠ x := fun e => hx (e ▸ hj)
      have := ho i (by simp [hi]) j (by simp [hj]) hij hcm
      rw [idxOf_lt_iff (l1 := l1) hi' hj'] at this
      rw [← this]
      have e1 : (x == i) = false := by simpa using Ne.symm hi'
      have e2 : (x == j) = false := by simpa using Ne.symm hj'
      simp [List.idxOf_cons, e1, e2]

end
end Go.Deepv
