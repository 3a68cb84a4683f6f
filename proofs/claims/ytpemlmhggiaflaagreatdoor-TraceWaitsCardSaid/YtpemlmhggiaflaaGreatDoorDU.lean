/-
  More operations: texts gone through, texts as rows of bytes and back, numbers as texts, an interface's value.
  Conditions: none.
-/
import Derived.Test.YtpemlmhggiaflaaGreatDoorDK
import Derived.Lib.UnsafeStr
import Derived.Laws.IdiomStrings
set_option linter.unusedVariables false
set_option linter.unusedSimpArgs false
namespace Go.Deepv
open Go.RowKit

section
variable {P : Program} {G : Glob} {S : Settled} {ρ : List RI} {h : List Res} {w : World} {a : Act} {ad : List DV} {call : Cle → List DV → List Res → Option DOut} {out : DOut}

theorem sim_rstr (hi : Inv P G S ρ h w) (ha : RepA S ρ h w a.tmps ad) {src dst t : TypeId} {k : IntKind} {x : Operand} {x' : Opd} (hs : P.underlying src = some (.int k)) (hk : P.underlying dst = some .string) (h1 : trOpd P t x = some x') (hd : dop call (.rstr x') ad h = some out) :
    SimOut P G S ρ h w ((do pure (Next.value (← convert src dst (a.eval x))) : Sem Next).run P w) out := by
  have g1 := rep_opd ha h1
  simp only [dop] at hd
  split at hd
  · rename_i k' n ef
    simp only [Option.some.injEq] at hd
    subst hd
    rw [ef] at g1
    rw [repF_int (repD_d g1)]
    have : (convert src dst (.int k' n)).run P w = .ok (.string (Utf8.encode n)) w := by
      simp [convert, underlying, hs, hk, Conv.intToString]
    rw [run_v this]
    exact SimOut.plain hi (.d _ _ (.str _))
  · cases hd

theorem sim_sbytes (hi : Inv P G S ρ h w) (ha : RepA S ρ h w a.tmps ad) {src dst t e : TypeId} {x : Operand} {x' : Opd} (hs : P.underlying src = some .string) (hk : P.underlying dst = some (.slice e)) (he : P.underlying e = some (.int .u8)) (h1 : trOpd P t x = some x') (hd : dop call (.sbytes x') ad h = some out) :
    SimOut P G S ρ h w ((do pure (Next.value (← convert src dst (a.eval x))) : Sem Next).run P w) out := by
  have g1 := rep_opd ha h1
  simp only [dop] at hd
  split at hd
  · rename_i s ef
    split at hd
    · rename_i hlim
      simp only [Option.some.injEq] at hd
      subst hd
      rw [ef] at g1
      rw [repF_str (repD_d g1)]
      rw [run_v (run_bytes_of_string w src dst e s hs hk he)]
      have E0 : Ext S ρ h w S ρ h w.drew := ext_quiet rfl rfl rfl rfl
      have I0 : Inv P G S ρ h w.drew := inv_quiet hi rfl rfl rfl rfl
      generalize hcap : grownCap w s.size 0 e = cap
      have hge : s.size ≤ cap := by rw [← hcap]; exact grownCap_ge w s.size 0 e
      have hat : ∀ k b, s.data.toList[k]? = some b → (bytesRow s cap).getD k undef = .int .u8 b.toNat := fun k b hb => by
        have hk : k < s.data.size := by
          have := (List.getElem?_eq_some_iff.1 hb).1
          simpa using this
        simp only [bytesRow, Array.getD_eq_getD_getElem?]
        rw [Array.getElem?_append_left (by simpa using hk)]
        simp only [Array.getElem?_map]
        rw [← Array.getElem?_toList, hb]
        rfl
      have hsize : (bytesRow s cap).size = cap := by
        simp only [bytesRow, Array.size_append, Array.size_map, Array.size_replicate]
        have : s.data.size = s.size := rfl
        omega
      generalize bytesRow s cap = arr at *
      have E := ext_alloc I0 (.cells arr e (arr.size, arr.size + 1)) (fun x => x < s.size) [] [] (fun r b hr => by simp at hr)
      have I := inv_alloc_old I0 (.cells arr e (arr.size, arr.size + 1)) (fun x => x < s.size) [] [] (fun r b hr hb => by simp at hr) rfl (fun i j b r r' hr => by simp at hr) (fun i cells tag hc => by simp at hc) (fun i hc => by simp at hc) (fun i sz n et hc => by simp at hc) (fun i s pos hc => by simp at hc)
      simp only [List.append_nil] at E I
      refine ⟨_, _, _, ρ, .inl rfl, .d _ _ ?_, E0.trans E, I⟩
      have hws : (w.drew).heap.size = w.heap.size := rfl
      refine .slice w.heap.size 0 s.size cap 1 (strCells s) (fun i j => arr.getD (i + j) undef) (strCells_len s) hge (fun i c hc => ?_) (fun i j hi' hj => ⟨.inr ⟨rfl, by omega⟩, ?_⟩) (fun i j c y hc hy => ?_) (fun i j c y hc hy => ?_)
      · rw [strCells_at] at hc
        simp only [Option.map_eq_some_iff] at hc
        obtain ⟨b, _, rfl⟩ := hc
        rfl
      · have hn := heap_alloc_at w.drew (.cells arr e (arr.size, arr.size + 1))
        rw [hws] at hn
        simp only [World.cell?, hn]
        have : 0 + i * 1 + j = i + j := by omega
        rw [this]
        simp [Array.getD_eq_getD_getElem?, show i + j < arr.size by omega]
      · rw [strCells_at] at hc
        simp only [Option.map_eq_some_iff] at hc
        obtain ⟨b, hb, rfl⟩ := hc
        rcases j with _ | j
        · simp at hy
          subst hy
          simp only [Nat.add_zero]
          rw [hat i b hb]
          exact .int _ _
        · simp at hy
      · rw [strCells_at] at hc
        simp only [Option.map_eq_some_iff] at hc
        obtain ⟨b, hb, rfl⟩ := hc
        rcases j with _ | j
        · simp at hy
          subst hy
          rfl
        · simp at hy
    · cases hd
  · cases hd

theorem sim_tass (hi : Inv P G S ρ h w) (ha : RepA S ρ h w a.tmps ad) {xt t t1 : TypeId} {u : TypeDesc} {comma : Bool} {zf : FV} {x : Operand} {x' : Opd} (hu : P.underlying t = some u) (hni : ∀ m, u ≠ .interface m) (hz : ((P.info? t).bind fun i => i.zero.bind (trConst P t)) = some zf)
    (h1 : trOpd P t1 x = some x') (hd : dop call (.tass t comma zf x') ad h = some out) :
    SimOut P G S ρ h w ((do pure (Next.value (← Instr.typeAssert (a.eval x) xt t comma)) : Sem Next).run P w) out := by
  have g1 := rep_opd ha h1
  simp only [Option.bind_eq_some_iff] at hz
  obtain ⟨i, hinf, zv, hzv, hzc⟩ := hz
  have zrep : RepF S w zv zf := rep_trConst hzc
  have zrun : (zeroValue t).run P w = .ok zv w := by simp [zeroValue, typeInfo, hinf, hzv]
  have pair : ∀ (v : Value) (f : FV) (b : Bool), RepF S w v f → RepF S w (.tuple #[v, .bool b]) (.tup [f, .bool b]) := fun v f b hv => .tup _ _ rfl fun j y hy => by
    match j, hy with
    | 0, hy => simp at hy; subst hy; exact hv
    | 1, hy => simp at hy; subst hy; exact .bool b
    | j + 2, hy => simp at hy
  simp only [dop] at hd
  split at hd
  · rename_i t' v e
    rw [e] at g1
    have g := repD_d g1
    generalize a.eval x = vx at *
    cases g with
    | iface _ v0 _ hv =>
      split at hd
      · rename_i htt
        subst htt
        simp only [Option.some.injEq] at hd
        subst hd
        have : (Instr.typeAssert (.iface t' v0) xt t' comma).run P w = .ok (if comma then .tuple #[v0, .bool true] else v0) w := by
          cases u <;> simp_all [Instr.typeAssert, underlying]
        rw [run_v this]
        cases comma
        · exact SimOut.plain hi (.d _ _ hv)
        · exact SimOut.plain hi (.d _ _ (pair _ _ _ hv))
      · rename_i htt
        split at hd
        · rename_i hc
          simp only [Option.some.injEq] at hd
          subst hd
          subst hc
          have : (Instr.typeAssert (.iface t' v0) xt t true).run P w = .ok (.tuple #[zv, .bool false]) w := by
            cases u <;> simp_all [Instr.typeAssert, underlying]
          rw [run_v this]
          exact SimOut.plain hi (.d _ _ (pair _ _ _ zrep))
        · cases hd
  · rename_i e
    rw [e] at g1
    have g := repD_d g1
    generalize a.eval x = vx at *
    cases g with
    | nili =>
      split at hd
      · rename_i hc
        simp only [Option.some.injEq] at hd
        subst hd
        subst hc
        have : (Instr.typeAssert .nilIface xt t true).run P w = .ok (.tuple #[zv, .bool false]) w := by
          cases u <;> simp_all [Instr.typeAssert, underlying]
        rw [run_v this]
        exact SimOut.plain hi (.d _ _ (pair _ _ _ zrep))
      · cases hd
  · cases hd

/-! ### A text gone through -/
theorem sim_rng (hi : Inv P G S ρ h w) (ha : RepA S ρ h w a.tmps ad) {t t1 : TypeId} {x : Operand} {x' : Opd} (hu : P.underlying t = some .string) (h1 : trOpd P t1 x = some x') (hd : dop call (.rng x') ad h = some out) :
    SimOut P G S ρ h w ((do pure (Next.value (← Instr.range t (a.eval x))) : Sem Next).run P w) out := by
  have g1 := rep_opd ha h1
  simp only [dop] at hd
  split at hd
  · rename_i s e
    simp only [Option.some.injEq] at hd
    subst hd
    rw [e] at g1
    rw [repF_str (repD_d g1)]
    have run : (Instr.range t (.string s)).run P w = .ok (.pointer (some ⟨w.heap.size, 0, none⟩)) (w.alloc (.stringIter s 0)) := by
      simp [Instr.range, underlying, hu, run_newObj_alloc]
    rw [run_v run]
    have E := ext_alloc hi (.stringIter s 0) (fun _ => False) [.box w.heap.size] [.iter s 0] (fun r b hr hb => by simp at hr; subst hr; simpa [RI.block] using hb.symm)
    refine ⟨_, _, _, _, .inl rfl, .ptr _ _ _ (by rw [← hi.len]; simp), E, inv_alloc_old hi _ (fun _ => False) _ _ (fun r b hr hb => by simp at hr; subst hr; simpa [RI.block] using hb.symm) rfl ?_ ?_ ?_ ?_ ?_⟩
    · intro i j b r r' hr hr' _ _
      have a1 := (List.getElem?_eq_some_iff.1 hr).1
      have a2 := (List.getElem?_eq_some_iff.1 hr').1
      simp at a1 a2
      omega
    · intro i cells tag hc; rcases i with _ | i <;> simp at hc
    · intro i hc; rcases i with _ | i <;> simp at hc
    · intro i sz n et hc; rcases i with _ | i <;> simp at hc
    · intro i s' pos hc
      rcases i with _ | i
      · simp at hc
        obtain ⟨rfl, rfl⟩ := hc
        exact ⟨w.heap.size, rfl, heap_alloc_at _ _⟩
      · simp at hc
  · cases hd

theorem run_getObj {b : Nat} {s : ByteArray} {pos : Nat} (hb : w.heap[b]? = some (.stringIter s pos)) : (getObj b).run P w = .ok (.stringIter s pos) w := by simp [getObj, Sem.run, hb]
theorem run_setObj {b : Nat} {s : ByteArray} {pos : Nat} (o' : Obj) (hb : w.heap[b]? = some (.stringIter s pos)) : (setObj b o').run P w = .ok () { w with heap := w.heap.setIfInBounds b o' } := by simp [setObj, Sem.run, hb]

theorem sim_next (hi : Inv P G S ρ h w) (ha : RepA S ρ h w a.tmps ad) {rt t1 : TypeId} {x : Operand} {x' : Opd} (h1 : trOpd P t1 x = some x') (hd : dop call (.next x') ad h = some out) :
    SimOut P G S ρ h w ((do pure (Next.value (← Instr.next (a.eval x) true rt)) : Sem Next).run P w) out := by
  have g1 := rep_opd ha h1
  simp only [dop] at hd
  split at hd
  · rename_i id e
    split at hd
    · rename_i s pos hh
      rw [e] at g1
      generalize a.eval x = vx at *
      cases g1 with
      | ptr _ _ b hb =>
        obtain ⟨b', q1, q2⟩ := hi.iter id s pos hh
        have : b' = b := by rw [q1] at hb; simpa using hb
        subst this
        have hid : id < h.length := (List.getElem?_eq_some_iff.1 hh).1
        have hbl : b' < w.heap.size := (Array.getElem?_eq_some_iff.1 q2).1
        split at hd
        · rename_i hpos
          simp only [Option.some.injEq] at hd
          subst hd
          have run : (Instr.next (.pointer (some ⟨b', 0, none⟩)) true rt).run P w = .ok (.tuple #[.bool true, goInt pos, .int .i32 (Utf8.decode s pos).1]) { w with heap := w.heap.setIfInBounds b' (.stringIter s (pos + (Utf8.decode s pos).2)) } := by
            simp [Instr.next, run_getObj q2, hpos, run_setObj _ q2]
          rw [run_v run]
          generalize hw' : ({ w with heap := w.heap.setIfInBounds b' (.stringIter s (pos + (Utf8.decode s pos).2)) } : World) = w'
          have hset : ρ.set id (.box b') = ρ := set_self _ _ _ q1
          have hoth : ∀ k, k ≠ b' → w'.heap[k]? = w.heap[k]? := fun k hk => by rw [← hw']; simp [Array.getElem?_setIfInBounds_ne (Ne.symm hk)]
          have hat : w'.heap[b']? = some (.stringIter s (pos + (Utf8.decode s pos).2)) := by rw [← hw']; simp [hbl]
          have hsz : w'.heap.size = w.heap.size := by rw [← hw']; simp
          have hcell : ∀ k o, w'.cell? ⟨k, o, none⟩ = w.cell? ⟨k, o, none⟩ := fun k o => by
            by_cases hk : k = b'
            · subst hk
              simp [World.cell?, hat, q2]
            · exact cell?_heap (hoth k hk)
          have E : Ext S ρ h w S (ρ.set id (.box b')) (h.set id (.iter s (pos + (Utf8.decode s pos).2))) w' := by
            rw [hset]
            exact { Ext.refl S ρ h w with
              cells := fun k o _ => hcell k o
              len := by simp
              rows := fun t n' ht hn => by
                by_cases et : t = id
                · subst et
                  rw [List.getElem?_set_self ht] at hn
                  simp [Res.tip] at hn
                · rw [List.getElem?_set_ne (Ne.symm et)] at hn
                  exact ⟨n', hn, Nat.le_refl _, fun _ => rfl⟩
              size := by omega
              os := by rw [← hw']
              tape := by rw [← hw']
              output := by rw [← hw']
              frame := fun k hk hn => hoth k (by rintro rfl; exact hn id _ q1 rfl) }
          have I : Inv P G S (ρ.set id (.box b')) (h.set id (.iter s (pos + (Utf8.decode s pos).2))) w' := by
            refine inv_upd hi hid E (fun i k r hne hr hk => ⟨hoth k (by rintro rfl; exact hne (hi.apart i id _ r _ hr q1 hk rfl)), fun o ho => ho⟩) (fun k o hs => by rw [hsz]; exact hi.bound k o hs) (fun k hk => ?_) (fun cells tag hh => by cases hh) (fun hh => by cases hh) (fun sz n et hh => by cases hh) (fun s' p' hh => ?_)
            · simp [RI.block] at hk
              subst hk
              exact ⟨by omega, fun i r hne hr hk => hne (hi.apart i id _ r _ hr q1 hk rfl)⟩
            · simp only [Res.iter.injEq] at hh
              obtain ⟨rfl, rfl⟩ := hh
              exact ⟨b', rfl, hat⟩
          rw [hset] at E I
          refine ⟨_, w', S, ρ, .inl rfl, .d _ _ (.tup _ _ rfl fun j y hy => ?_), E, I⟩
          match j, hy with
          | 0, hy => simp at hy; subst hy; exact .bool _
          | 1, hy => simp at hy; subst hy; exact .int _ _
          | 2, hy => simp at hy; subst hy; exact .int _ _
          | j + 3, hy => simp at hy
        · rename_i hpos
          simp only [Option.some.injEq] at hd
          subst hd
          have run : (Instr.next (.pointer (some ⟨b', 0, none⟩)) true rt).run P w = .ok (.tuple #[.bool false]) w := by
            simp [Instr.next, run_getObj q2, hpos]
          rw [run_v run]
          exact SimOut.plain hi (.d _ _ (.tup _ _ rfl fun j y hy => by
            match j, hy with
            | 0, hy => simp at hy; subst hy; exact .bool _
            | j + 1, hy => simp at hy))
    · cases hd
  · cases hd

/-! ### A row of bytes as a text, at once -/
theorem sim_usd (hi : Inv P G S ρ h w) (ha : RepA S ρ h w a.tmps ad) {ts : Array TypeId} {ty t1 : TypeId} {x : Operand} {x' : Opd} (h1 : trOpd P t1 x = some x') (hd : dop call (.usd x') ad h = some out) :
    SimOut P G S ρ h w ((do pure (Next.value (← Builtin.unsafeSliceData_ ts ty #[a.eval x])) : Sem Next).run P w) out := by
  have g1 := rep_opd ha h1
  simp only [dop] at hd
  split at hd
  · rename_i l t e
    rw [e] at g1
    generalize a.eval x = vx at *
    cases g1 with
    | row _ _ _ _ hl ht hr =>
      split at hd
      · rename_i hnr
        split at hd
        · rename_i hl0
          simp only [Option.some.injEq] at hd
          subst hd
          subst hl0
          obtain ⟨_, hρ⟩ := hr 0 (by simp [hnr, Res.tip])
          have hv : vx = .slice none 0 0 := by
            have := hi.nilrow t hnr
            rw [hρ rfl] at this
            simpa using this
          subst hv
          rw [run_v (Lib.run_unsafeSliceData_nil (P := P) (w := w) ts ty 0 0)]
          exact SimOut.plain hi (.rptr none none 0 0 [] t hl (fun _ => rfl) ht hr)
        · cases hd
      · rename_i n et hrow
        split at hd
        · rename_i hn
          obtain ⟨rfl, hpos⟩ := hn
          simp only [Option.some.injEq] at hd
          subst hd
          obtain ⟨_, hρ⟩ := hr l.length (by simp [hrow, Res.tip])
          obtain ⟨b, o, cap, c, e3, b1, b2, b3, b4, b5, b6⟩ := hi.row t _ _ _ hrow
          have hv : vx = .slice (some ⟨b, o, none⟩) l.length cap := by rw [hρ rfl] at b1; simpa using b1
          subst hv
          rw [run_v (Lib.run_unsafeSliceData_row (P := P) (w := w) ts ty ⟨b, o, none⟩ l.length cap (by omega))]
          exact SimOut.plain hi (.rptr _ _ _ _ l t hl (fun _ => rfl) ht hr)
        · cases hd
      · cases hd
  · cases hd

theorem bytes_at {A : Option Addr} {n cap : Nat} {l : List (List FV)} (hx : RepF S w (.slice A n cap) (.slice 1 l)) {j : Nat} {q : Int} (hj : l[j]? = some [.int .u8 q]) : ∃ b o, A = some ⟨b, o, none⟩ ∧ w.cell? ⟨b, o + j, none⟩ = some (.int .u8 q) := by
  cases hx with
  | slice0 A cap => simp at hj
  | slice b o n cap sz elems u hn hcap hsz hcc hrr ho1 =>
    have hlt : j < l.length := (List.getElem?_eq_some_iff.1 hj).1
    have hcell := (hcc j 0 (by omega) (by omega)).2
    have hrep := hrr j 0 _ (.int .u8 q) hj rfl
    simp only [Nat.mul_one, Nat.add_zero] at hcell
    exact ⟨b, o, rfl, by rw [hcell, repF_int hrep]⟩

/-- A row whose block is frozen somewhere grows no more. -/
theorem row_dies (hi : Inv P G S ρ h w) {t b o n cap sz et : Nat} {c : Array Value} {e : TypeId} (hrow : h[t]? = some (.row sz n et)) (hρ : ρ[t]? = some (.row (.slice (some ⟨b, o, none⟩) n cap))) (hb : w.heap[b]? = some (.cells c e (0, 0))) (k m : Nat) (hm : m ≠ 0) :
    Ext S ρ h w S (ρ.set t .none) (h.set t .dead) (w.freeze ⟨b, k, none⟩ m) ∧ Inv P G S (ρ.set t .none) (h.set t .dead) (w.freeze ⟨b, k, none⟩ m) := by
  generalize hw' : w.freeze ⟨b, k, none⟩ m = w'
  have ht : t < h.length := (List.getElem?_eq_some_iff.1 hrow).1
  have hoth : ∀ k, k ≠ b → w'.heap[k]? = w.heap[k]? := fun k hk => by
    rw [← hw', World.freeze, if_neg hm]
    show (w.heap.modify b _)[k]? = _
    rw [Array.getElem?_modify]
    rw [if_neg (Ne.symm hk)]
  have hat : ∃ fz, w'.heap[b]? = some (.cells c e fz) := by
    rw [← hw', World.freeze, if_neg hm]
    refine ⟨(k, k + m), ?_⟩
    show (w.heap.modify b _)[b]? = _
    rw [Array.getElem?_modify, if_pos rfl, hb]
    rfl
  have hsz : w'.heap.size = w.heap.size := by
    rw [← hw', World.freeze, if_neg hm]
    show (w.heap.modify b _).size = _
    simp
  obtain ⟨fz, hat⟩ := hat
  have hcells : ∀ k o, w'.cell? ⟨k, o, none⟩ = w.cell? ⟨k, o, none⟩ := fun k o => by
    by_cases hk : k = b
    · subst hk
      simp [World.cell?, hat, hb]
    · exact cell?_heap (hoth k hk)
  have hos : w'.os = w.os ∧ w'.tape = w.tape ∧ w'.output = w.output := by
    rw [← hw', World.freeze, if_neg hm]
    exact ⟨rfl, rfl, rfl⟩
  have E : Ext S ρ h w S (ρ.set t .none) (h.set t .dead) w' :=
    { Ext.refl S ρ h w with
      cells := fun k o _ => hcells k o
      len := by simp
      boxes := fun id k hk => by
        have : id ≠ t := by rintro rfl; rw [hρ] at hk; simp at hk
        rw [List.getElem?_set_ne (Ne.symm this)]
        exact hk
      rows := fun t' n' ht' hn => by
        by_cases et : t' = t
        · subst et
          rw [List.getElem?_set_self ht'] at hn
          simp [Res.tip] at hn
        · rw [List.getElem?_set_ne (Ne.symm et)] at hn
          exact ⟨n', hn, Nat.le_refl _, fun _ => List.getElem?_set_ne (Ne.symm et)⟩
      size := by omega
      os := hos.1
      tape := hos.2.1
      output := hos.2.2
      frame := fun k hk hn => hoth k (by rintro rfl; exact hn t _ hρ rfl)
      blocks := fun i k r hr hk => by
        by_cases et : i = t
        · subst et
          have := (List.getElem?_eq_some_iff.1 hr).1
          simp at this
          rw [List.getElem?_set_self this] at hr
          simp at hr
          subst hr
          cases hk
        · rw [List.getElem?_set_ne (Ne.symm et)] at hr
          exact .inr ⟨i, r, hr, hk, id⟩ }
  exact ⟨E, inv_upd hi ht E (fun i k r hne hr9 hk => ⟨hoth k (by rintro rfl; exact hne (hi.apart i t _ r _ hr9 hρ hk rfl)), fun o ho => ho⟩) (fun k o hs => by rw [hsz]; exact hi.bound k o hs) (fun k hk => by cases hk) (fun cells tag hh => by cases hh) (fun hh => by cases hh) (fun sz n et hh => by cases hh) (fun s' p' hh => by cases hh)⟩

theorem sim_mark (hi : Inv P G S ρ h w) (ha : RepA S ρ h w a.tmps ad) {t0 t1 e : TypeId} {x : Operand} {x' : Opd} (ht : P.underlying t0 = some (.slice e)) (he : P.underlying e = some (.int .u8)) (h1 : trOpd P t1 x = some x') (hd : dop call (.mark x') ad h = some out) :
    SimOut P G S ρ h w ((do pure (Next.value (← convert t0 t0 (a.eval x))) : Sem Next).run P w) out := by
  have g1 := rep_opd ha h1
  simp only [dop] at hd
  split at hd
  · rename_i l t ex
    rw [ex] at g1
    generalize a.eval x = vx at *
    cases g1 with
    | row _ _ _ _ hl htl hr =>
      split at hd
      · rename_i n et hrow
        split at hd
        · rename_i hn
          subst hn
          simp only [Option.some.injEq] at hd
          subst hd
          obtain ⟨_, hρ⟩ := hr l.length (by simp [hrow, Res.tip])
          obtain ⟨b, o, cap, c, e3, b1, b2, b3, b4, b5, b6⟩ := hi.row t _ _ _ hrow
          have hv : vx = .slice (some ⟨b, o, none⟩) l.length cap := by rw [hρ rfl] at b1; simpa using b1
          subst hv
          have hsh : w.shape? b = some (e3, c.size) := by simp [World.shape?, b2]
          have run : (convert t0 t0 (.slice (some ⟨b, o, none⟩) l.length cap)).run P w = .ok (.slice (some ⟨b, o, none⟩) l.length cap) (w.freeze ⟨b, c.size, none⟩ 1) := by
            simp [convert, run_underlying ht, run_underlying he, markStringish, hsh]
          rw [run_v run]
          obtain ⟨E, I⟩ := row_dies hi hrow (hρ rfl) b2 c.size 1 (by omega)
          exact ⟨_, _, S, _, .inl rfl, .d _ _ (hl.mono E.settled E.cells), E, I⟩
        · cases hd
      · cases hd
  · cases hd

theorem sim_ustr (hi : Inv P G S ρ h w) (ha : RepA S ρ h w a.tmps ad) {pt it ty e t1 t2 : TypeId} {x n : Operand} {x' n' : Opd} (hp : P.underlying pt = some (.pointer e)) (hc : P.cellsOf e = 1) (h1 : trOpd P t1 x = some x') (h2 : trOpd P t2 n = some n') (hd : dop call (.ustr e x' n') ad h = some out) :
    SimOut P G S ρ h w ((do pure (Next.value (← Builtin.unsafeString_ #[pt, it] ty #[a.eval x, a.eval n])) : Sem Next).run P w) out := by
  have g1 := rep_opd ha h1
  have g2 := rep_opd ha h2
  simp only [dop] at hd
  split at hd
  · rename_i l t k e1 e2
    have hk : ∃ kd, ev ad n' = .d (.int kd k) := by
      cases hx : ev ad n' with
      | d f => cases f <;> simp [hx, DV.int] at e2; exact ⟨_, by rw [e2]⟩
      | _ => simp [hx, DV.int] at e2
    obtain ⟨kd, hk⟩ := hk
    rw [e1] at g1
    rw [hk] at g2
    rw [repF_int (repD_d g2)]
    split at hd
    · rename_i hkl
      subst hkl
      split at hd
      · rename_i ns hns
        obtain ⟨n1, n2⟩ := nums_at hns
        generalize a.eval x = vx at *
        cases g1 with
        | rptr A p m cap _ _ hl hpp ht hr =>
          split at hd
          · rename_i hl0
            simp only [Option.some.injEq] at hd
            subst hd
            subst hl0
            have run := Lib.run_unsafeString_none (P := P) (w := w) pt it ty p
            have hz : (Builtin.unsafeString_ #[pt, it] ty #[.pointer p, .int kd ((([] : List (List FV)).length : Nat) : Int)]).run P w = .ok (.string .empty) w := by
              have : Builtin.unsafeString_ #[pt, it] ty #[.pointer p, .int kd ((([] : List (List FV)).length : Nat) : Int)] = Builtin.unsafeString_ #[pt, it] ty #[.pointer p, .int .i64 0] := rfl
              rw [this, run]
            rw [run_v hz]
            exact SimOut.plain hi (.d _ _ (.str _))
          · rename_i hl0
            split at hd
            · rename_i m' et' hrow
              split at hd
              · rename_i hcond
                obtain ⟨rfl, h63, rfl, het, hall⟩ := hcond
                simp only [Option.some.injEq] at hd
                subst hd
                obtain ⟨_, hρ⟩ := hr l.length (by simp [hrow, Res.tip])
                have hρ' := hρ rfl
                obtain ⟨b, o, cap', c, e3, b1, b2, ⟨b3, bet⟩, b4, b5, b6⟩ := hi.row t _ _ _ hrow
                obtain ⟨rfl, rfl⟩ : e3 = et' ∧ o = 0 := by
                  rcases bet with h | h
                  · exact absurd h het
                  · exact h
                have hA : A = some ⟨b, 0, none⟩ ∧ m = l.length ∧ cap = cap' := by rw [hρ'] at b1; simpa using b1
                obtain ⟨rfl, rfl, rfl⟩ := hA
                have hp' := hpp hl0
                subst hp'
                -- the bytes
                have hrange : ∀ (i : Nat) (q : Int), ns[i]? = some q → 0 ≤ q ∧ q < 256 := fun i q hq => by
                  have := List.all_eq_true.1 hall q (List.mem_of_getElem? hq)
                  simpa using this
                let bs : List UInt8 := ns.map fun q => UInt8.ofNat q.toNat
                have hbl : bs.length = l.length := by simp [bs, n1]
                have hcell : ∀ j y, bs[j]? = some y → w.cell? ((⟨b, 0, none⟩ : Addr).add j) = some (.int .u8 y.toNat) := fun j y hy => by
                  simp only [bs, List.getElem?_map, Option.map_eq_some_iff] at hy
                  obtain ⟨q, hq, rfl⟩ := hy
                  have hj : j < l.length := by rw [← n1]; exact (List.getElem?_eq_some_iff.1 hq).1
                  have hlj : l[j]? = some l[j] := List.getElem?_eq_getElem hj
                  have hci := n2 j _ hlj
                  have hqq : ns.getD j 0 = q := by simp [List.getD_eq_getElem?_getD, hq]
                  rw [hqq] at hci
                  obtain ⟨r1, r2⟩ := hrange j q hq
                  rw [add_none, Nat.zero_add]
                  obtain ⟨b2', o2, he, hcell⟩ := bytes_at (w := w) hl (j := j) (q := q) (by rw [hlj, hci])
                  simp only [Option.some.injEq, Addr.mk.injEq] at he
                  obtain ⟨rfl, rfl, _⟩ := he
                  rw [Nat.zero_add] at hcell
                  rw [hcell]
                  have : (UInt8.ofNat q.toNat).toNat = q.toNat := by
                    rw [UInt8.toNat_ofNat']
                    omega
                  rw [this]
                  congr 2
                  omega
                have hsh : w.shape? b = some (e3, c.size) := by simp [World.shape?, b2]
                have run := Lib.run_unsafeString_row (P := P) (w := w) pt it ty e3 hp hc b c.size hsh bs (by intro h; apply hl0; apply List.eq_nil_of_length_eq_zero; rw [← hbl, h]; rfl) (by omega) (by omega) hcell
                rw [hbl] at run
                have hkd : (Builtin.unsafeString_ #[pt, it] ty #[.pointer (some ⟨b, 0, none⟩), .int kd (l.length : Int)] : Sem Value) = Builtin.unsafeString_ #[pt, it] ty #[.pointer (some ⟨b, 0, none⟩), .int .i64 (l.length : Int)] := rfl
                rw [← hkd] at run
                rw [run_v run]
                generalize hw' : w.freeze ⟨b, 0, none⟩ l.length = w'
                have hpos : l.length ≠ 0 := by intro h; exact hl0 (List.eq_nil_of_length_eq_zero h)
                have hbw : b < w.heap.size := (Array.getElem?_eq_some_iff.1 b2).1
                have hoth : ∀ k, k ≠ b → w'.heap[k]? = w.heap[k]? := fun k hk => by
                  rw [← hw', World.freeze, if_neg hpos]
                  show (w.heap.modify b _)[k]? = _
                  rw [Array.getElem?_modify]
                  rw [if_neg (Ne.symm hk)]
                have hat : ∃ fz, w'.heap[b]? = some (.cells c e3 fz) := by
                  rw [← hw', World.freeze, if_neg hpos]
                  refine ⟨(0, 0 + l.length), ?_⟩
                  show (w.heap.modify b _)[b]? = _
                  rw [Array.getElem?_modify, if_pos rfl, b2]
                  rfl
                have hsz : w'.heap.size = w.heap.size := by
                  rw [← hw', World.freeze, if_neg hpos]
                  show (w.heap.modify b _).size = _
                  simp
                obtain ⟨fz, hat⟩ := hat
                have hcells : ∀ k o, w'.cell? ⟨k, o, none⟩ = w.cell? ⟨k, o, none⟩ := fun k o => by
                  by_cases hk : k = b
                  · subst hk
                    simp [World.cell?, hat, b2]
                  · exact cell?_heap (hoth k hk)
                have hos : w'.os = w.os ∧ w'.tape = w.tape ∧ w'.output = w.output := by
                  rw [← hw', World.freeze, if_neg hpos]
                  exact ⟨rfl, rfl, rfl⟩
                have E : Ext S ρ h w S (ρ.set t .none) (h.set t .dead) w' :=
                  { Ext.refl S ρ h w with
                    cells := fun k o _ => hcells k o
                    len := by simp
                    boxes := fun id k hk => by
                      have : id ≠ t := by rintro rfl; rw [hρ'] at hk; simp at hk
                      rw [List.getElem?_set_ne (Ne.symm this)]
                      exact hk
                    rows := fun t' n' ht' hn => by
                      by_cases et : t' = t
                      · subst et
                        rw [List.getElem?_set_self ht'] at hn
                        simp [Res.tip] at hn
                      · rw [List.getElem?_set_ne (Ne.symm et)] at hn
                        exact ⟨n', hn, Nat.le_refl _, fun _ => List.getElem?_set_ne (Ne.symm et)⟩
                    size := by omega
                    os := hos.1
                    tape := hos.2.1
                    output := hos.2.2
                    frame := fun k hk hn => hoth k (by rintro rfl; exact hn t _ hρ' rfl)
                    blocks := fun i k r hr hk => by
                      by_cases et : i = t
                      · subst et
                        have := (List.getElem?_eq_some_iff.1 hr).1
                        simp at this
                        rw [List.getElem?_set_self this] at hr
                        simp at hr
                        subst hr
                        cases hk
                      · rw [List.getElem?_set_ne (Ne.symm et)] at hr
                        exact .inr ⟨i, r, hr, hk, id⟩ }
                have I : Inv P G S (ρ.set t .none) (h.set t .dead) w' := by
                  refine inv_upd hi ht E (fun i k r hne hr9 hk => ⟨hoth k (by rintro rfl; exact hne (hi.apart i t _ r _ hr9 hρ' hk rfl)), fun o ho => ho⟩) (fun k o hs => by rw [hsz]; exact hi.bound k o hs) (fun k hk => by cases hk) (fun cells tag hh => by cases hh) (fun hh => by cases hh) (fun sz n et hh => by cases hh) (fun s' p' hh => by cases hh)
                refine ⟨_, w', S, _, .inl rfl, .d _ _ ?_, E, I⟩
                have : strOfNums ns = ⟨bs.toArray⟩ := rfl
                rw [this]
                exact .str _
              · cases hd
            · cases hd
      · cases hd
    · cases hd
  · cases hd

end
end Go.Deepv
