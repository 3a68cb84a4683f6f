/-
  TraceWaits: what is put between (the loop of function 5 at region 12).
  Conditions: none.
-/
import Derived.Test.YtpemlmhggiaflaaGreatDoorTG
set_option linter.unusedVariables false
set_option linter.unusedSimpArgs false
set_option maxRecDepth 100000
namespace Go.Proofs.YtpemlmhggiaflaaGreatDoor.Codes
open Go Go.Deepv

def said : Rsp := ⟨5, 0, 3, []⟩
def kept : Rsp := ⟨8, 0, 0, []⟩
def padG (l : List Rsp) : List Rsp := l.flatMap fun x => [said, x, kept]
def cntG (l : List Rsp) : Nat := (l.filter fun x => decide (x.k = 0 ∨ x.k = 4)).length
theorem waits_pad : ∀ (l : List Rsp) (n : Int), waitsG (padG l) n = waitsG l n
  | [], _ => rfl
  | x :: l, n => by
    have e : padG (x :: l) = said :: x :: kept :: padG l := rfl
    have hs : ∀ (l : List Rsp) (n : Int), waitsG (said :: l) n = waitsG l n := fun l n => by simp [waitsG, said]
    have hk : ∀ (l : List Rsp) (n : Int), waitsG (kept :: l) n = waitsG l n := fun l n => by simp [waitsG, kept]
    rw [e, hs]
    have hx : ∀ (m : List Rsp) (n : Int), waitsG (x :: m) n = if x.k = 0 ∨ x.k = 4 then max n 0 :: waitsG m (n + 1) else if x.k = 9 then waitsG m (n - 1) else waitsG m n := fun m n => rfl
    rw [hx, hx, hk, hk, hk, waits_pad l, waits_pad l, waits_pad l]
theorem waits_cnt : ∀ (l : List Rsp) (n : Int), (waitsG l n).length = cntG l
  | [], _ => rfl
  | x :: l, n => by
    have := waits_cnt l
    unfold waitsG cntG
    by_cases h : x.k = 0 ∨ x.k = 4
    · simp [h, this, cntG]
    · by_cases h9 : x.k = 9
      · simp [h, h9, this, cntG]
      · simp [h, h9, this, cntG]
def row10 (l : List Rsp) : Res := if l = [] then .nilrow else .row 4 l.length 0
theorem app10 (out : List Rsp) (x : Rsp) (r6 : Res) (rest : List Res) (ho : out.length ≤ 1000000) : appRow 4 48 (DV.row 4 (rspF out) 1) (some (4, [said.enc, x.enc, kept.enc])) (r6 :: row10 out :: rest) = some (.val (.row 4 (rspF (out ++ [said, x, kept])) 1) (r6 :: row10 (out ++ [said, x, kept]) :: rest)) := by
  have hl : (rspF out).length = out.length := by simp [rspF]
  unfold appRow row10
  by_cases h : out = []
  · subst h
    simp [rspF]
  · simp [h, hl, rspF]
    omega
end Go.Proofs.YtpemlmhggiaflaaGreatDoor.Codes
