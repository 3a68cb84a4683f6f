/-
  Regions that draw their order: all orders come to the same.
  Conditions: none.
-/
import Derived.Test.YtpemlmhggiaflaaGreatDoorDQ
import Derived.Orders
set_option linter.unusedVariables false
set_option linter.unusedSimpArgs false
namespace Go.Deepv

section
variable {call : Cle → List DV → List Res → Option DOut} {a a' : List DV} {h h' : List Res} {ops : Array Oper}

def unl (ops : Array Oper) (listed : Array Bool) : List Nat := (List.range ops.size).filter fun i => !listed.getD i true

theorem mem_unl {listed : Array Bool} {i : Nat} : i ∈ unl ops listed ↔ i < ops.size ∧ listed.getD i true = false := by
  unfold unl
  rw [List.mem_filter, List.mem_range, Bool.not_eq_true']

theorem unl_set {listed : Array Bool} {i : Nat} (hi : i ∈ unl ops listed) : (unl ops (listed.setIfInBounds i true)).length < (unl ops listed).length := by
  have e : unl ops (listed.setIfInBounds i true) = (unl ops listed).filter (fun j => j != i) := by
    unfold unl
    rw [List.filter_filter]
    refine List.filter_congr fun j hj => ?_
    by_cases hji : i = j
    · subst hji
      have : (listed.setIfInBounds i true).getD i true = true := by
        rcases Nat.lt_or_ge i listed.size with h | h
        · simp [h]
        · simp [Array.getElem?_eq_none h]
      simp [this]
    · have e2 : (j != i) = true := by simpa using Ne.symm hji
      rw [getD_set_ne true hji, e2]
      simp
  rw [e, List.length_filter_lt_length_iff_exists]
  exact ⟨i, hi, by simp⟩

structure Lin (ops : Array Oper) (listed : Array Bool) (σ : List Nat) : Prop where
  nodup : σ.Nodup
  mem : ∀ i ∈ σ, i < ops.size ∧ listed.getD i true = false
  deps : ∀ i ∈ σ, ∀ j ∈ (depsOf ops).getD i [], listed.getD j false = true ∨ (j ∈ σ ∧ σ.idxOf j < σ.idxOf i)
  all : ∀ i, i < ops.size → listed.getD i true = false → i ∈ σ

theorem deps_at {i : Nat} {o : Oper} (ho : ops[i]? = some o) : (depsOf ops).getD i [] = edgesOf o := by
  simp only [depsOf, List.getD_eq_getElem?_getD, List.getElem?_map, Array.getElem?_toList, ho]
  rfl
theorem mem_edges {o : Oper} {j : Nat} : j ∈ edgesOf o ↔ ∃ e ∈ o.after, Region.binds .any e = true ∧ e.on = j := by
  simp [edgesOf, and_assoc]

theorem forward_spec : ∀ {l : List (List Nat)} {k : Nat}, forwardB l k = true → ∀ (i : Nat), ∀ j ∈ l.getD i [], j < k + i
  | [], _, _, i, j, hj => by simp at hj
  | d :: r, k, hf, i, j, hj => by
    simp only [forwardB, Bool.and_eq_true, List.all_eq_true, decide_eq_true_eq] at hf
    cases i with
    | zero => exact hf.1 j (by simpa using hj)
    | succ i =>
      have := forward_spec hf.2 i j (by simpa using hj)
      omega

theorem go_spec (hf : forwardB (depsOf ops) 0 = true) : ∀ (fuel t : Nat) (listed : Array Bool), listed.size = ops.size → (unl ops listed).length ≤ fuel → Lin ops listed (Region.linearise.go .any ops fuel t listed []) := by
  intro fuel
  induction fuel with
  | zero =>
    intro t listed hs hc
    have : unl ops listed = [] := by simpa using hc
    refine ⟨by simp [Region.linearise.go], fun i hi => by simp [Region.linearise.go] at hi, fun i hi => by simp [Region.linearise.go] at hi, fun i hi hl => ?_⟩
    have hm : i ∈ unl ops listed := mem_unl.2 ⟨hi, hl⟩
    rw [this] at hm
    cases hm
  | succ fuel ih =>
    intro t listed hs hc
    have eg : Region.linearise.go .any ops (fuel + 1) t listed [] = (match (Region.ready .any ops listed)[t % (Region.ready .any ops listed).length]? with
      | some i => Region.linearise.go .any ops fuel (t / (Region.ready .any ops listed).length) (listed.setIfInBounds i true) [i]
      | none => [].reverse) := rfl
    rw [eg]
    cases hi : (Region.ready .any ops listed)[t % (Region.ready .any ops listed).length]? with
    | none =>
      have hnil : Region.ready .any ops listed = [] := by
        cases hr : Region.ready .any ops listed with
        | nil => rfl
        | cons x xs =>
          rw [hr] at hi
          have hlt : t % (x :: xs).length < (x :: xs).length := Nat.mod_lt _ (by simp)
          simp at hi
          simp at hlt
          omega
      have hall : ∀ i, i < ops.size → listed.getD i true = true := by
        intro i
        induction i using Nat.strongRecOn with
        | ind i ihi =>
          intro hlt
          cases hl : listed.getD i true with
          | true => rfl
          | false =>
            have : i ∈ Region.ready .any ops listed := by
              refine mem_ready.2 ⟨hl, ops[i], by simp [hlt], fun e he hb => ?_⟩
              have hd : e.on ∈ (depsOf ops).getD i [] := by
                rw [deps_at (o := ops[i]) (by simp [hlt])]
                exact mem_edges.2 ⟨e, he, hb, rfl⟩
              have hlt2 := forward_spec hf i _ hd
              have := ihi e.on (by omega) (by omega)
              have hsz : e.on < listed.size := by omega
              simp [hsz] at this ⊢
              exact this
            rw [hnil] at this
            cases this
      simp only [List.reverse_nil]
      exact ⟨by simp, by simp, by simp, fun i hi hl => by rw [hall i hi] at hl; cases hl⟩
    | some i =>
      simp only []
      rw [linearise_go_acc, List.reverse_singleton, List.singleton_append]
      have hr := List.mem_of_getElem? hi
      obtain ⟨hun, o, ho, hdep⟩ := mem_ready.1 hr
      have hlt : i < ops.size := (Array.getElem?_eq_some_iff.1 ho).1
      have hmem : i ∈ unl ops listed := mem_unl.2 ⟨hlt, hun⟩
      have L := ih (t / (Region.ready .any ops listed).length) (listed.setIfInBounds i true) (by simp [hs]) (by have := unl_set hmem; omega)
      generalize Region.linearise.go .any ops fuel (t / (Region.ready .any ops listed).length) (listed.setIfInBounds i true) [] = σ at L
      have hni : i ∉ σ := fun hm => by
        have := (L.mem i hm).2
        have hsz : i < listed.size := by omega
        simp [hsz] at this
      refine ⟨List.nodup_cons.2 ⟨hni, L.nodup⟩, fun k hk => ?_, fun k hk j hj => ?_, fun k hk hl => ?_⟩
      · rcases List.mem_cons.1 hk with rfl | hk
        · exact ⟨hlt, hun⟩
        · have hki : i ≠ k := fun e => hni (e ▸ hk)
          have := L.mem k hk
          rw [getD_set_ne true hki] at this
          exact this
      · rcases List.mem_cons.1 hk with rfl | hk
        · rw [deps_at ho] at hj
          obtain ⟨e, he, hb, rfl⟩ := mem_edges.1 hj
          exact .inl (hdep e he hb)
        · have hki : (i == k) = false := by
            simp only [beq_eq_false_iff_ne]
            exact fun e => hni (e ▸ hk)
          rcases L.deps k hk j hj with hl | ⟨hm, hlt2⟩
          · by_cases hij : i = j
            · subst hij
              exact .inr ⟨by simp, by simp [List.idxOf_cons, hki]⟩
            · rw [getD_set_ne false hij] at hl
              exact .inl hl
          · have hji : (i == j) = false := by
              simp only [beq_eq_false_iff_ne]
              exact fun e => hni (e ▸ hm)
            exact .inr ⟨by simp [hm], by simp [List.idxOf_cons, hki, hji, hlt2]⟩
      · by_cases hik : i = k
        · subst hik; simp
        · have := L.all k hk (by rw [getD_set_ne true hik]; exact hl)
          simp [this]

theorem lin_spec (hf : forwardB (depsOf ops) 0 = true) (t : Nat) : (Region.linearise .any ops t).Nodup ∧ (∀ i, i ∈ Region.linearise .any ops t ↔ i < ops.size) ∧
    ∀ i ∈ Region.linearise .any ops t, ∀ j ∈ (depsOf ops).getD i [], (Region.linearise .any ops t).idxOf j < (Region.linearise .any ops t).idxOf i := by
  have L := go_spec hf ops.size t (Array.replicate ops.size false) (by simp) (by
    have := List.length_filter_le (fun i => !(Array.replicate ops.size false).getD i true) (List.range ops.size)
    simpa [unl] using this)
  refine ⟨L.nodup, fun i => ⟨fun hi => (L.mem i hi).1, fun hi => L.all i hi (by simp [hi])⟩, fun i hi j hj => ?_⟩
  rcases L.deps i hi j hj with h | h
  · have : (Array.replicate ops.size false).getD j false = false := by
      rcases Nat.lt_or_ge j ops.size with hj | hj <;> simp [hj]
    rw [this] at h
    cases h
  · exact h.2

/-! ### All that is ahead -/
theorem bitsOf_spec {acc : List Nat} {j : Nat} : ∀ {d : List Nat}, (bitsOf acc d).testBit j = true → ∃ i ∈ d, i = j ∨ (acc.getD i 0).testBit j = true
  | [], hb => by simp [bitsOf] at hb
  | k :: r, hb => by
    simp only [bitsOf, Nat.testBit_or, Bool.or_eq_true] at hb
    rcases hb with (hb | hb) | hb
    · obtain ⟨i, hi, hh⟩ := bitsOf_spec hb
      exact ⟨i, by simp [hi], hh⟩
    · rw [Nat.shiftLeft_eq, Nat.one_mul, Nat.testBit_two_pow] at hb
      exact ⟨k, by simp, .inl (by simpa using hb)⟩
    · exact ⟨k, by simp, .inr hb⟩

theorem closure_spec {R : Nat → Nat → Prop} (hR : ∀ i j k, R i j → R j k → R i k) : ∀ (rest : List (List Nat)) (acc : List Nat), (∀ k j, (acc.getD k 0).testBit j = true → R j k) →
    (∀ k, ∀ j ∈ rest.getD k [], R j (acc.length + k)) → ∀ k j, ((closureOf rest acc).getD k 0).testBit j = true → R j k
  | [], acc, h1, _ => h1
  | d :: r, acc, h1, h2 => by
    refine closure_spec hR r (acc ++ [bitsOf acc d]) (fun k j hb => ?_) fun k j hj => ?_
    · rw [List.getD_eq_getElem?_getD, List.getElem?_append] at hb
      split at hb
      · exact h1 k j (by rw [List.getD_eq_getElem?_getD]; exact hb)
      · by_cases hk : k = acc.length
        · subst hk
          simp at hb
          obtain ⟨i, hi, hh⟩ := bitsOf_spec hb
          have hi' := h2 0 i (by simpa using hi)
          rcases hh with rfl | hh
          · exact hi'
          · exact hR _ _ _ (h1 i j hh) hi'
        · have : ([bitsOf acc d] : List Nat)[k - acc.length]? = none := List.getElem?_eq_none (by simp; omega)
          rw [this] at hb
          simp at hb
    · have := h2 (k + 1) j (by simpa using hj)
      simp only [List.length_append, List.length_cons, List.length_nil]
      rwa [show acc.length + (0 + 1) + k = acc.length + (k + 1) from by omega]

theorem orients_mem (f : Nat × Nat → Bool) : ∀ K : List (Nat × Nat), (K.map fun p => if f p then p else (p.2, p.1)) ∈ orients K
  | [] => by simp [orients]
  | (j, i) :: r => by
    simp only [orients, List.map_cons, List.mem_flatMap]
    refine ⟨_, orients_mem f r, ?_⟩
    cases f (j, i) <;> simp

theorem idxOf_ne {σ : List Nat} {x y : Nat} (hx : x ∈ σ) (hy : y ∈ σ) (hne : x ≠ y) : σ.idxOf x ≠ σ.idxOf y := fun e => hne (by
  have h1 := List.getElem_idxOf (List.idxOf_lt_length_of_mem hx)
  have h2 := List.getElem_idxOf (List.idxOf_lt_length_of_mem hy)
  rw [← h1, ← h2]
  simp only [e])

theorem nodup_spec : ∀ {l : List Nat}, nodupB l = true → l.Nodup
  | [], _ => List.nodup_nil
  | x :: r, hb => by
    simp only [nodupB, Bool.and_eq_true, Bool.not_eq_true'] at hb
    exact List.nodup_cons.2 ⟨by simpa using hb.1, nodup_spec hb.2⟩

/-- What one good order comes to, and the others that are listed, all orders come to. -/
theorem draw_all {dl : List DOper} {alts : List (List Nat)} (hok : drawOk ops dl alts = true) (t : Nat) {r : List DV × List Res} (hr : ∀ τ ∈ List.range ops.size :: alts, dops call (ordered dl τ) a h = some (.normal, r)) :
    dops call (ordered dl (Region.linearise .any ops t)) a h = some (.normal, r) := by
  simp only [drawOk, Bool.and_eq_true, List.all_eq_true] at hok
  obtain ⟨⟨hf, hg⟩, hcov⟩ := hok
  obtain ⟨hn, hm, hd⟩ := lin_spec hf t
  generalize Region.linearise .any ops t = σ at hn hm hd
  have hnd : ∀ k, ∀ j ∈ (depsOf ops).getD k [], k < ops.size := fun k j hj => by
    rcases Nat.lt_or_ge k ops.size with h1 | h1
    · exact h1
    · have : (depsOf ops).getD k [] = [] := by simp [depsOf, List.getD_eq_getElem?_getD, Array.getElem?_eq_none h1]
      rw [this] at hj
      cases hj
  have clo : ∀ (τ : List Nat), (∀ i, i < ops.size → ∀ j ∈ (depsOf ops).getD i [], τ.idxOf j < τ.idxOf i) → ∀ k j, ((closureOf (depsOf ops) []).getD k 0).testBit j = true → τ.idxOf j < τ.idxOf k := fun τ hτ k j hb =>
    closure_spec (R := fun j i => τ.idxOf j < τ.idxOf i) (fun i j k h1 h2 => Nat.lt_trans h1 h2) (depsOf ops) [] (fun k j hb => by simp at hb) (fun k j hj => by
      simp only [List.length_nil, Nat.zero_add]
      exact hτ k (hnd k j hj) j hj) k j hb
  have cσ := clo σ fun i hi j hj => hd i ((hm i).2 hi) j hj
  let K := conflicts ops.size (closureOf (depsOf ops) []) dl
  let f : Nat × Nat → Bool := fun p => decide (σ.idxOf p.1 < σ.idxOf p.2)
  have hK : ∀ p ∈ K, p.1 < p.2 ∧ p.2 < ops.size := by
    intro p hp
    simp only [K, conflicts, List.mem_flatMap, List.mem_map, List.mem_filter, List.mem_range] at hp
    obtain ⟨i, hi, j, ⟨hj, _⟩, rfl⟩ := hp
    exact ⟨hj, hi⟩
  have hε : ∀ q ∈ K.map fun p => if f p then p else (p.2, p.1), σ.idxOf q.1 < σ.idxOf q.2 := by
    intro q hq
    obtain ⟨p, hp, rfl⟩ := List.mem_map.1 hq
    split
    · rename_i hfp
      simpa [f] using hfp
    · rename_i hfp
      have h1 := hK p hp
      have h2 : ¬ σ.idxOf p.1 < σ.idxOf p.2 := by simpa [f] using hfp
      have h3 := idxOf_ne ((hm p.1).2 (by omega)) ((hm p.2).2 h1.2) (by omega)
      show σ.idxOf p.2 < σ.idxOf p.1
      omega
  have hc := hcov _ (orients_mem f K)
  simp only [Bool.or_eq_true, List.any_eq_true] at hc
  rcases hc with hinc | ⟨τ, hτ, hag⟩
  · exfalso
    simp only [incons, List.any_eq_true, Bool.and_eq_true, Bool.or_eq_true, beq_iff_eq] at hinc
    obtain ⟨p, hp, q, hq, h1, h2⟩ := hinc
    have e1 := hε p hp
    have e2 := hε q hq
    have e3 : σ.idxOf p.2 ≤ σ.idxOf q.1 := by
      rcases h1 with h1 | h1
      · rw [h1]; exact Nat.le_refl _
      · exact Nat.le_of_lt (cσ _ _ h1)
    have e4 : σ.idxOf q.2 ≤ σ.idxOf p.1 := by
      rcases h2 with h2 | h2
      · rw [h2]; exact Nat.le_refl _
      · exact Nat.le_of_lt (cσ _ _ h2)
    omega
  · have hgo := hg τ hτ
    simp only [goodOrder, Bool.and_eq_true, List.all_eq_true, decide_eq_true_eq, List.mem_range, List.contains_eq_mem] at hgo
    obtain ⟨⟨⟨g1, g2⟩, g3⟩, g4⟩ := hgo
    have cτ := clo τ g4
    have hmτ : ∀ i, i ∈ τ ↔ i < ops.size := fun i => ⟨g2 i, g3 i⟩
    simp only [agrees, List.all_eq_true, decide_eq_true_eq] at hag
    have half : ∀ x y, x < y → y < ops.size → (dl.getD x default).comm (dl.getD y default) = false → (σ.idxOf x < σ.idxOf y ↔ τ.idxOf x < τ.idxOf y) := by
      intro x y hxy hy hcm
      cases hb : ((closureOf (depsOf ops) []).getD y 0).testBit x with
      | true => exact ⟨fun _ => cτ _ _ hb, fun _ => cσ _ _ hb⟩
      | false =>
        have hmem : (x, y) ∈ K := by
          simp only [K, conflicts, List.mem_flatMap, List.mem_map, List.mem_filter, List.mem_range]
          exact ⟨y, hy, x, ⟨hxy, by simp only [hb, hcm]; rfl⟩, rfl⟩
        have := hag _ (List.mem_map.2 ⟨(x, y), hmem, rfl⟩)
        have h4 := hε _ (List.mem_map.2 ⟨(x, y), hmem, rfl⟩)
        by_cases hfp : f (x, y) = true
        · rw [if_pos hfp] at this h4
          exact ⟨fun _ => this, fun _ => h4⟩
        · rw [if_neg hfp] at this h4
          simp only at this h4
          omega
    refine dops_orders (dl := dl) hn (nodup_spec g1) (fun i => by rw [hm, hmτ]) (fun x hx y hy hne hcm => ?_) (hr τ hτ)
    have hx' := (hm x).1 hx
    have hy' := (hm y).1 hy
    rcases Nat.lt_or_gt_of_ne hne with h1 | h1
    · exact half x y h1 hy' hcm
    · have hcm' : (dl.getD y default).comm (dl.getD x default) = false := by
        cases e : (dl.getD y default).comm (dl.getD x default) with
        | false => rfl
        | true => rw [DOper.comm_symm e] at hcm; cases hcm
      have hh := half y x h1 hx' hcm'
      have n1 := idxOf_ne hx hy hne
      have n2 := idxOf_ne ((hmτ x).2 hx') ((hmτ y).2 hy') hne
      omega

end
end Go.Deepv
