/-
  What each kind of step keeps: the relation of the machine's memory and the deep machine's, step by step.
  Conditions: none.
-/
import Derived.Test.YtpemlmhggiaflaaGreatDoorDC
set_option linter.unusedVariables false
set_option linter.unusedSimpArgs false
namespace Go.Deepv
open Go.RowKit

section
variable {P : Program} {G : Glob} {S S' S'' : Settled} {ρ ρ' ρ'' : List RI} {h h' h'' : List Res} {w w' w'' : World}

theorem Ext.refl (S : Settled) (ρ : List RI) (h : List Res) (w : World) : Ext S ρ h w S ρ h w where
  settled := fun _ _ x => x
  cells := fun _ _ _ => rfl
  len := Nat.le_refl _
  boxes := fun _ _ x => x
  rows := fun t n' _ hn => ⟨n', hn, Nat.le_refl _, fun _ => rfl⟩
  size := Nat.le_refl _
  os := rfl
  tape := rfl
  output := rfl
  frame := fun _ _ _ => rfl
  blocks := fun i b r hr hb => .inr ⟨i, r, hr, hb, id⟩
  fresh := fun _ _ x => .inl x

theorem Ext.trans (E : Ext S ρ h w S' ρ' h' w') (E' : Ext S' ρ' h' w' S'' ρ'' h'' w'') : Ext S ρ h w S'' ρ'' h'' w'' where
  settled := fun b o x => E'.settled b o (E.settled b o x)
  cells := fun b o x => (E'.cells b o (E.settled b o x)).trans (E.cells b o x)
  len := Nat.le_trans E.len E'.len
  boxes := fun id b x => E'.boxes id b (E.boxes id b x)
  rows := fun t n2 ht hn => by
    obtain ⟨n1, h1, l1, e1⟩ := E'.rows t n2 (Nat.lt_of_lt_of_le ht E.len) hn
    obtain ⟨n0, h0, l0, e0⟩ := E.rows t n1 ht h1
    exact ⟨n0, h0, by omega, fun he => (e1 (by omega)).trans (e0 (by omega))⟩
  size := Nat.le_trans E.size E'.size
  os := E'.os.trans E.os
  tape := E'.tape.trans E.tape
  output := E'.output.trans E.output
  frame := fun b hb hn => by
    rw [E'.frame b (Nat.lt_of_lt_of_le hb E.size) (fun i r hr he => ?_), E.frame b hb hn]
    rcases E.blocks i b r hr he with h1 | ⟨j, r0, hj, hb0, _⟩
    · omega
    · exact hn j r0 hj hb0
  blocks := fun i b r hr hb => by
    rcases E'.blocks i b r hr hb with h1 | ⟨j, r0, hj, hb0, hk⟩
    · exact .inl (Nat.le_trans E.size h1)
    · rcases E.blocks j b r0 hj hb0 with h2 | ⟨j', r1, hj', hb1, hk'⟩
      · exact .inl h2
      · exact .inr ⟨j', r1, hj', hb1, fun x => hk' (hk x)⟩
  fresh := fun b o x => by
    rcases E'.fresh b o x with h1 | h1 | ⟨i, r, hr, hk, hb⟩
    · exact E.fresh b o h1
    · exact .inr (.inl (Nat.le_trans E.size h1))
    · rcases E.blocks i b r hr hb with h2 | ⟨j, r0, hj, hb0, hk0⟩
      · exact .inr (.inl h2)
      · exact .inr (.inr ⟨j, r0, hj, hk0 hk, hb0⟩)

theorem cell?_heap {b o : Nat} (e : w'.heap[b]? = w.heap[b]?) : w'.cell? ⟨b, o, none⟩ = w.cell? ⟨b, o, none⟩ := by
  simp only [World.cell?, e]

/-- A draw, or nothing. -/
theorem ext_quiet (hh : w'.heap = w.heap) (ho : w'.os = w.os) (ht : w'.tape = w.tape) (hp : w'.output = w.output) : Ext S ρ h w S ρ h w' :=
  { Ext.refl S ρ h w with
    cells := fun b o _ => cell?_heap (by rw [hh])
    size := by rw [hh]; exact Nat.le_refl _
    os := ho, tape := ht, output := hp
    frame := fun b _ _ => by rw [hh] }
theorem inv_quiet (hi : Inv P G S ρ h w) (hh : w'.heap = w.heap) (ho : w'.os = w.os) (ht : w'.tape = w.tape) (hp : w'.output = w.output) : Inv P G S ρ h w' where
  len := hi.len
  bound := fun b o x => by rw [hh]; exact hi.bound b o x
  glob := fun b o v g => ⟨(hi.glob b o v g).1, (cell?_heap (by rw [hh])).trans (hi.glob b o v g).2⟩
  low := fun i b r h1 h2 => by rw [hh]; exact hi.low i b r h1 h2
  apart := hi.apart
  box := fun i cells tag h1 => by
    obtain ⟨b, c, e, g1, g2, g3, g4, g5⟩ := hi.box i cells _ h1
    exact ⟨b, c, e, g1, by rw [hh]; exact g2, g3, fun j x hx => ⟨(g4 j x hx).1, (g4 j x hx).2.1, (g4 j x hx).2.2.mono (ext_quiet hh ho ht hp)⟩, g5⟩
  nilrow := hi.nilrow
  row := fun i sz n et h1 => by
    obtain ⟨b, o, cap, c, e, g1, g2, g3⟩ := hi.row i sz n et h1
    exact ⟨b, o, cap, c, e, g1, by rw [hh]; exact g2, g3⟩
  iter := fun i s pos h1 => by
    obtain ⟨b, g1, g2⟩ := hi.iter i s pos h1
    exact ⟨b, g1, by rw [hh]; exact g2⟩
  loop := fun i ps as bd snap st h1 => by
    obtain ⟨b, r, g1, g2, g3, g4, g5⟩ := hi.loop i ps as bd snap st h1
    exact ⟨b, r, g1, by rw [hh]; exact g2, g3, g4, fun j x hx => ⟨(g5 j x hx).1, (g5 j x hx).2.mono (ext_quiet hh ho ht hp)⟩⟩
  own := fun i r h1 => by
    obtain ⟨ri, g1, g2⟩ := hi.own i r h1
    exact ⟨ri, g1, g2.mono (fun _ _ x => x) (fun b o _ => cell?_heap (by rw [hh])) fun b _ => ⟨by rw [hh], fun _ x => x⟩⟩

theorem heap_alloc_lt (w : World) (o : Obj) {b : Nat} (hb : b < w.heap.size) : (w.alloc o).heap[b]? = w.heap[b]? := Below.heap_alloc w o b hb
theorem heap_alloc_at (w : World) (o : Obj) : (w.alloc o).heap[w.heap.size]? = some o := by
  show (w.heap.push o)[w.heap.size]? = _
  simp
theorem size_alloc (w : World) (o : Obj) : (w.alloc o).heap.size = w.heap.size + 1 := by
  show (w.heap.push o).size = _
  simp

/-- A new block; some of its cells are settled; things are added. -/
theorem ext_alloc (hi : Inv P G S ρ h w) (o : Obj) (N : Nat → Prop) (rs : List RI) (hs : List Res) (hrs : ∀ (r : RI) (b : Nat), r ∈ rs → r.block = some b → b = w.heap.size) :
    Ext S ρ h w (fun b x => S b x ∨ (b = w.heap.size ∧ N x)) (ρ ++ rs) (h ++ hs) (w.alloc o) where
  settled := fun b o x => .inl x
  cells := fun b x hx => cell?_heap (heap_alloc_lt w o (hi.bound b x hx))
  len := by simp
  boxes := fun id b x => by rw [List.getElem?_append_left (List.getElem?_eq_some_iff.1 x).1]; exact x
  rows := fun t n' ht hn => by
    rw [List.getElem?_append_left ht] at hn
    exact ⟨n', hn, Nat.le_refl _, fun _ => by rw [List.getElem?_append_left (by rw [hi.len]; exact ht)]⟩
  size := by rw [size_alloc]; omega
  os := rfl
  tape := rfl
  output := rfl
  frame := fun b hb _ => heap_alloc_lt w o hb
  blocks := fun i b r hr hb => by
    rcases Nat.lt_or_ge i ρ.length with hl | hl
    · rw [List.getElem?_append_left hl] at hr
      exact .inr ⟨i, r, hr, hb, id⟩
    · rw [List.getElem?_append_right hl] at hr
      have := hrs r b (List.mem_of_getElem? hr) hb
      exact .inl (by omega)
  fresh := fun b o x => by
    rcases x with x | ⟨rfl, _⟩
    · exact .inl x
    · exact .inr (.inl (Nat.le_refl _))

/-- What was there is there still, behind a new block. -/
theorem inv_alloc_old (hi : Inv P G S ρ h w) (o : Obj) (N : Nat → Prop) (rs : List RI) (hs : List Res) (hrs : ∀ (r : RI) (b : Nat), r ∈ rs → r.block = some b → b = w.heap.size) (hlen : rs.length = hs.length)
    (h1 : ∀ (i j b : Nat) (r r' : RI), rs[i]? = some r → rs[j]? = some r' → r.block = some b → r'.block = some b → i = j)
    (hbox : ∀ (i : Nat) (cells : List DV) (tag : Nat), hs[i]? = some (.box cells tag) → ∃ b c e, rs[i]? = some (.box b) ∧ (w.alloc o).heap[b]? = some (.cells c e (0, 0)) ∧ (c.size = cells.length ∧ (tag = 0 ∨ e = tag)) ∧
      (∀ (j : Nat) (x : DV), cells[j]? = some x → x.one = true ∧ x.low (h.length + i + 1) = true ∧ RepD (fun b x => S b x ∨ (b = w.heap.size ∧ N x)) (ρ ++ rs) (h ++ hs) (w.alloc o) (c.getD j undef) x) ∧ ∀ o, ¬ (S b o ∨ (b = w.heap.size ∧ N o)))
    (hnil : ∀ (i : Nat), hs[i]? = some Res.nilrow → rs[i]? = some (RI.row (.slice none 0 0)))
    (hrow : ∀ (i sz n et : Nat), hs[i]? = some (.row sz n et) → ∃ b o' cap c e, rs[i]? = some (.row (.slice (some ⟨b, o', none⟩) n cap)) ∧ (w.alloc o).heap[b]? = some (.cells c e (0, 0)) ∧ (0 < sz ∧ (et = 0 ∨ (e = et ∧ o' = 0))) ∧ n ≤ cap ∧ o' + cap * sz ≤ c.size ∧
      ∀ x, o' + n * sz ≤ x → ¬ (S b x ∨ (b = w.heap.size ∧ N x)))
    (hiter : ∀ (i : Nat) (s : ByteArray) (pos : Nat), hs[i]? = some (.iter s pos) → ∃ b, rs[i]? = some (.box b) ∧ (w.alloc o).heap[b]? = some (.stringIter s pos))
    (hloop : ∀ (i : Nat) (ps : List Nat) (as bd : ACode) (snap : List DV) (st : LSt), hs[i]? = some (.loop ps as bd snap st) → ∃ b r, rs[i]? = some (.box b) ∧ (w.alloc o).heap[b]? = some (.loop r) ∧ LoopOk P ps as bd st r ∧ r.tmps.size = snap.length ∧
      (∀ (j : Nat) (x : DV), snap[j]? = some x → x.low (h.length + i) = true ∧ RepD (fun b x => S b x ∨ (b = w.heap.size ∧ N x)) (ρ ++ rs) (h ++ hs) (w.alloc o) (r.tmps.getD j undef) x) := by intro i ps as bd snap st hc; rcases i with _ | i <;> simp at hc)
    (hown : ∀ (i : Nat) (r : Res), hs[i]? = some r → ∃ ri, rs[i]? = some ri ∧ OwnOk (fun b x => S b x ∨ (b = w.heap.size ∧ N x)) (w.alloc o) ri r := by
      intro i r hc
      rcases i with _ | i
      · simp at hc
        try subst hc
        try exact ⟨_, rfl, trivial⟩
      · simp at hc) :
    Inv P G (fun b x => S b x ∨ (b = w.heap.size ∧ N x)) (ρ ++ rs) (h ++ hs) (w.alloc o) := by
  have E := ext_alloc hi o N rs hs hrs
  have lo : ∀ (i b : Nat) (r : RI), ρ[i]? = some r → r.block = some b → (w.alloc o).heap[b]? = w.heap[b]? ∧ b ≠ w.heap.size := fun i b r hr hb => by
    have := hi.low i b r hr hb
    exact ⟨heap_alloc_lt w o this, by omega⟩
  constructor
  · simp [hi.len, hlen]
  · intro b x hx
    rw [size_alloc]
    rcases hx with hx | ⟨rfl, _⟩
    · have := hi.bound b x hx
      omega
    · omega
  · exact fun b x v g => ⟨E.settled _ _ (hi.glob b x v g).1, (E.cells _ _ (hi.glob b x v g).1).trans (hi.glob b x v g).2⟩
  · intro i b r hr hb
    rw [size_alloc]
    rcases Nat.lt_or_ge i ρ.length with hl | hl
    · rw [List.getElem?_append_left hl] at hr
      have := hi.low i b r hr hb
      omega
    · rw [List.getElem?_append_right hl] at hr
      have := hrs r b (List.mem_of_getElem? hr) hb
      omega
  · intro i j b r r' hr hr' hb hb'
    rcases Nat.lt_or_ge i ρ.length with hl | hl <;> rcases Nat.lt_or_ge j ρ.length with hl' | hl'
    · rw [List.getElem?_append_left hl] at hr
      rw [List.getElem?_append_left hl'] at hr'
      exact hi.apart i j b r r' hr hr' hb hb'
    · rw [List.getElem?_append_left hl] at hr
      rw [List.getElem?_append_right hl'] at hr'
      have a1 := hi.low i b r hr hb
      have a2 := hrs r' b (List.mem_of_getElem? hr') hb'
      omega
    · rw [List.getElem?_append_right hl] at hr
      rw [List.getElem?_append_left hl'] at hr'
      have a1 := hi.low j b r' hr' hb'
      have a2 := hrs r b (List.mem_of_getElem? hr) hb
      omega
    · rw [List.getElem?_append_right hl] at hr
      rw [List.getElem?_append_right hl'] at hr'
      have := h1 _ _ b r r' hr hr' hb hb'
      omega
  · intro i cells tag hc
    rcases Nat.lt_or_ge i h.length with hl | hl
    · rw [List.getElem?_append_left hl] at hc
      obtain ⟨b, c, e, g1, g2, g3, g4, g5⟩ := hi.box i cells _ hc
      obtain ⟨l1, l2⟩ := lo i b _ g1 rfl
      exact ⟨b, c, e, E.boxes _ _ g1, by rw [l1]; exact g2, g3, fun j x hx => ⟨(g4 j x hx).1, (g4 j x hx).2.1, (g4 j x hx).2.2.mono E⟩, fun o ho => ho.elim (g5 o) fun ho => l2 ho.1⟩
    · rw [List.getElem?_append_right hl] at hc
      obtain ⟨b, c, e, g1, g2, g3, g4, g5⟩ := hbox _ cells _ hc
      refine ⟨b, c, e, by rw [List.getElem?_append_right (by rw [hi.len]; exact hl), hi.len]; exact g1, g2, g3, fun j x hx => ⟨(g4 j x hx).1, ?_, (g4 j x hx).2.2⟩, g5⟩
      have := (g4 j x hx).2.1
      rwa [show h.length + (i - h.length) + 1 = i + 1 by omega] at this
  · intro i hc
    rcases Nat.lt_or_ge i h.length with hl | hl
    · rw [List.getElem?_append_left hl] at hc
      rw [List.getElem?_append_left (by rw [hi.len]; exact hl)]
      exact hi.nilrow i hc
    · rw [List.getElem?_append_right hl] at hc
      rw [List.getElem?_append_right (by rw [hi.len]; exact hl), hi.len]
      exact hnil _ hc
  · intro i sz n et hc
    rcases Nat.lt_or_ge i h.length with hl | hl
    · rw [List.getElem?_append_left hl] at hc
      obtain ⟨b, o', cap, c, e, g1, g2, g3, g4, g5, g7⟩ := hi.row i sz n et hc
      obtain ⟨l1, l2⟩ := lo i b _ g1 rfl
      exact ⟨b, o', cap, c, e, by rw [List.getElem?_append_left (by rw [hi.len]; exact hl)]; exact g1, by rw [l1]; exact g2, g3, g4, g5, fun x hx hs => hs.elim (g7 x hx) fun ho => l2 ho.1⟩
    · rw [List.getElem?_append_right hl] at hc
      obtain ⟨b, o', cap, c, e, g1, g⟩ := hrow _ sz n et hc
      exact ⟨b, o', cap, c, e, by rw [List.getElem?_append_right (by rw [hi.len]; exact hl), hi.len]; exact g1, g⟩
  · intro i s pos hc
    rcases Nat.lt_or_ge i h.length with hl | hl
    · rw [List.getElem?_append_left hl] at hc
      obtain ⟨b, g1, g2⟩ := hi.iter i s pos hc
      exact ⟨b, E.boxes _ _ g1, by rw [(lo i b _ g1 rfl).1]; exact g2⟩
    · rw [List.getElem?_append_right hl] at hc
      obtain ⟨b, g1, g2⟩ := hiter _ s pos hc
      exact ⟨b, by rw [List.getElem?_append_right (by rw [hi.len]; exact hl), hi.len]; exact g1, g2⟩
  · intro i ps as bd snap st hc
    rcases Nat.lt_or_ge i h.length with hl | hl
    · rw [List.getElem?_append_left hl] at hc
      obtain ⟨b, r, g1, g2, g3, g4, g5⟩ := hi.loop i ps as bd snap st hc
      exact ⟨b, r, E.boxes _ _ g1, by rw [(lo i b _ g1 rfl).1]; exact g2, g3, g4, fun j x hx => ⟨(g5 j x hx).1, (g5 j x hx).2.mono E⟩⟩
    · rw [List.getElem?_append_right hl] at hc
      obtain ⟨b, r, g1, g2, g3, g4, g5⟩ := hloop _ ps as bd snap st hc
      refine ⟨b, r, by rw [List.getElem?_append_right (by rw [hi.len]; exact hl), hi.len]; exact g1, g2, g3, g4, fun j x hx => ⟨?_, (g5 j x hx).2⟩⟩
      have := (g5 j x hx).1
      rwa [show h.length + (i - h.length) = i by omega] at this
  · intro i r hc
    rcases Nat.lt_or_ge i h.length with hl | hl
    · rw [List.getElem?_append_left hl] at hc
      obtain ⟨ri, g1, g2⟩ := hi.own i r hc
      refine ⟨ri, by rw [List.getElem?_append_left (by rw [hi.len]; exact hl)]; exact g1, g2.mono E.settled E.cells fun b hb => ?_⟩
      obtain ⟨l1, l2⟩ := lo i b _ g1 hb
      exact ⟨l1, fun o ho => ho.elim id fun ho => absurd ho.1 l2⟩
    · rw [List.getElem?_append_right hl] at hc
      obtain ⟨ri, g1, g2⟩ := hown _ r hc
      exact ⟨ri, by rw [List.getElem?_append_right (by rw [hi.len]; exact hl), hi.len]; exact g1, g2⟩

/-- Things that lie nowhere: rows that are nil. -/
theorem ext_rows (hi : Inv P G S ρ h w) (n : Nat) : Ext S ρ h w S (ρ ++ List.replicate n (.row (.slice none 0 0))) (h ++ List.replicate n .nilrow) w :=
  { Ext.refl S ρ h w with
    len := by simp
    boxes := fun id b x => by rw [List.getElem?_append_left (List.getElem?_eq_some_iff.1 x).1]; exact x
    rows := fun t n' ht hn => by
      rw [List.getElem?_append_left ht] at hn
      exact ⟨n', hn, Nat.le_refl _, fun _ => by rw [List.getElem?_append_left (by rw [hi.len]; exact ht)]⟩
    blocks := fun i b r hr hb => by
      rcases Nat.lt_or_ge i ρ.length with hl | hl
      · rw [List.getElem?_append_left hl] at hr
        exact .inr ⟨i, r, hr, hb, id⟩
      · rw [List.getElem?_append_right hl] at hr
        have := List.mem_of_getElem? hr
        simp at this
        rw [this.2] at hb
        simp [RI.block] at hb }
theorem inv_rows (hi : Inv P G S ρ h w) (n : Nat) : Inv P G S (ρ ++ List.replicate n (.row (.slice none 0 0))) (h ++ List.replicate n .nilrow) w := by
  have E := ext_rows hi n
  have old : ∀ (i : Nat) (r : RI), (ρ ++ List.replicate n (RI.row (.slice none 0 0)))[i]? = some r → ρ[i]? = some r ∨ r = .row (.slice none 0 0) := fun i r hr => by
    rcases Nat.lt_or_ge i ρ.length with hl | hl
    · rw [List.getElem?_append_left hl] at hr
      exact .inl hr
    · rw [List.getElem?_append_right hl] at hr
      have := List.mem_of_getElem? hr
      simp at this
      exact .inr this.2
  have oldh : ∀ (i : Nat) (r : Res), (h ++ List.replicate n Res.nilrow)[i]? = some r → (h[i]? = some r ∧ (ρ ++ List.replicate n (RI.row (.slice none 0 0)))[i]? = ρ[i]?) ∨ (r = .nilrow ∧ (ρ ++ List.replicate n (RI.row (.slice none 0 0)))[i]? = some (.row (.slice none 0 0))) := fun i r hr => by
    rcases Nat.lt_or_ge i h.length with hl | hl
    · rw [List.getElem?_append_left hl] at hr
      exact .inl ⟨hr, List.getElem?_append_left (by rw [hi.len]; exact hl)⟩
    · rw [List.getElem?_append_right hl] at hr
      have h1 := List.mem_of_getElem? hr
      simp at h1
      refine .inr ⟨h1.2, ?_⟩
      rw [List.getElem?_append_right (by rw [hi.len]; exact hl), hi.len]
      have := (List.getElem?_eq_some_iff.1 hr).1
      simp at this
      simp [this]
  constructor
  · simp [hi.len]
  · exact hi.bound
  · exact hi.glob
  · intro i b r hr hb
    rcases old i r hr with h1 | rfl
    · exact hi.low i b r h1 hb
    · simp [RI.block] at hb
  · intro i j b r r' hr hr' hb hb'
    rcases old i r hr with h1 | rfl
    · rcases old j r' hr' with h2 | rfl
      · exact hi.apart i j b r r' h1 h2 hb hb'
      · simp [RI.block] at hb'
    · simp [RI.block] at hb
  · intro i cells tag hc
    rcases oldh i _ hc with ⟨h1, h2⟩ | ⟨h1, _⟩
    · obtain ⟨b, c, e, g1, g2, g3, g4, g5⟩ := hi.box i cells _ h1
      exact ⟨b, c, e, by rw [h2]; exact g1, g2, g3, fun j x hx => ⟨(g4 j x hx).1, (g4 j x hx).2.1, (g4 j x hx).2.2.mono E⟩, g5⟩
    · cases h1
  · intro i hc
    rcases oldh i _ hc with ⟨h1, h2⟩ | ⟨_, h2⟩
    · rw [h2]; exact hi.nilrow i h1
    · exact h2
  · intro i sz k et hc
    rcases oldh i _ hc with ⟨h1, h2⟩ | ⟨h1, _⟩
    · rw [h2]; exact hi.row i sz k et h1
    · cases h1
  · intro i s pos hc
    rcases oldh i _ hc with ⟨h1, h2⟩ | ⟨h1, _⟩
    · rw [h2]; exact hi.iter i s pos h1
    · cases h1
  · intro i ps as bd snap st hc
    rcases oldh i _ hc with ⟨h1, h2⟩ | ⟨h1, _⟩
    · obtain ⟨b, r, g1, g2, g3, g4, g5⟩ := hi.loop i ps as bd snap st h1
      exact ⟨b, r, by rw [h2]; exact g1, g2, g3, g4, fun j x hx => ⟨(g5 j x hx).1, (g5 j x hx).2.mono E⟩⟩
    · cases h1
  · intro i r hc
    rcases oldh i _ hc with ⟨h1, h2⟩ | ⟨rfl, h2⟩
    · obtain ⟨ri, g1, g2⟩ := hi.own i r h1
      exact ⟨ri, by rw [h2]; exact g1, g2⟩
    · exact ⟨_, h2, trivial⟩
end

end Go.Deepv
