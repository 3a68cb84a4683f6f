/-
  What runes are: letters, digits, blanks; Words of the language. Printed by wip/F/genFB.py
  Conditions: none.
-/
import Derived.Test.YtpemlmhggiaflaaGreatDoorCodes
import Derived.Test.YtpemlmhggiaflaaGreatDoorMF
set_option linter.unusedVariables false
set_option linter.unusedSimpArgs false
set_option maxRecDepth 100000
namespace Go.Proofs.YtpemlmhggiaflaaGreatDoor.Codes
open Go.Deepv
def rScal (r : Int) : Bool := decide (0 ≤ r) && (decide (r ≤ 1114111) && (decide (r < 55296) || decide (57343 < r)))
def rLow (r : Int) : Bool := (decide (97 ≤ r) && decide (r ≤ 122)) || (decide (128 ≤ r) && rScal r)
def rUp (r : Int) : Bool := decide (65 ≤ r) && decide (r ≤ 90)
def rDig (r : Int) : Bool := decide (48 ≤ r) && decide (r ≤ 57)
def rPart (r : Int) : Bool := rLow r || (rUp r || (rDig r || decide (r = 95)))
def rBlank (r : Int) : Bool := decide (r = 9) || (decide (r = 10) || (decide (r = 13) || decide (r = 32)))
theorem scalar_ok (r : Int) (h : List Res) : D env 131 [.d (.int .i32 r)] h = some (.val (.d (.bool (rScal r))) h) := by
 rw [D_dat (F := A131) rfl rfl rfl rfl]
 unfold rScal
 by_cases h1 : 0 ≤ r <;> by_cases h2 : r ≤ 1114111 <;> by_cases h3 : r < 55296 <;> by_cases h4 : 57343 < r <;>
  simp -implicitDefEqProofs only [A131, B131, sS, reduceCtorEq, seval, h1, h2, h3, h4]
theorem validRune_ok (r : Int) (h : List Res) : D env 97 [.d (.int .i32 r)] h = some (.val (.d (.bool (rScal r))) h) := by
 rw [D_dat (F := A97) rfl rfl rfl rfl]
 unfold rScal
 by_cases h1 : 0 ≤ r <;> by_cases h3 : r < 55296 <;> by_cases h4 : 57343 < r <;> by_cases h2 : r ≤ 1114111 <;>
  first
  | (exfalso; omega)
  | simp -implicitDefEqProofs only [A97, B97, sS, reduceCtorEq, seval, h1, h2, h3, h4]
theorem low_ok (r : Int) (h : List Res) : D env 70 [.d (.int .i32 r)] h = some (.val (.d (.bool (rLow r))) h) := by
 rw [D_dat (F := A70) rfl rfl rfl rfl]
 have e := validRune_ok r []
 unfold rLow
 by_cases h1 : 97 ≤ r <;> by_cases h2 : r ≤ 122 <;> by_cases h3 : 128 ≤ r <;>
  simp -implicitDefEqProofs only [A70, B70, sS, reduceCtorEq, seval, h1, h2, h3, e]
theorem up_ok (r : Int) (h : List Res) : D env 71 [.d (.int .i32 r)] h = some (.val (.d (.bool (rUp r))) h) := by
 rw [D_dat (F := A71) rfl rfl rfl rfl]
 unfold rUp
 by_cases h1 : 65 ≤ r <;> by_cases h2 : r ≤ 90 <;>
  simp -implicitDefEqProofs only [A71, B71, sS, reduceCtorEq, seval, h1, h2]
theorem digit_ok (r : Int) (h : List Res) : D env 73 [.d (.int .i32 r)] h = some (.val (.d (.bool (rDig r))) h) := by
 rw [D_dat (F := A73) rfl rfl rfl rfl]
 unfold rDig
 by_cases h1 : 48 ≤ r <;> by_cases h2 : r ≤ 57 <;>
  simp -implicitDefEqProofs only [A73, B73, sS, reduceCtorEq, seval, h1, h2]
theorem blank_ok (r : Int) (h : List Res) : D env 67 [.d (.int .i32 r)] h = some (.val (.d (.bool (rBlank r))) h) := by
 rw [D_dat (F := A67) rfl rfl rfl rfl]
 unfold rBlank
 by_cases h1 : r = 9
 ·subst h1; simp -implicitDefEqProofs only [A67, B67, sS, reduceCtorEq, seval]
 by_cases h2 : r = 10
 ·subst h2; simp -implicitDefEqProofs only [A67, B67, sS, reduceCtorEq, seval]
 by_cases h3 : r = 13
 ·subst h3; simp -implicitDefEqProofs only [A67, B67, sS, reduceCtorEq, seval]
 by_cases h4 : r = 32
 ·subst h4; simp -implicitDefEqProofs only [A67, B67, sS, reduceCtorEq, seval]
 have b1 : (r == 9) = false := by simpa using h1
 have b2 : (r == 10) = false := by simpa using h2
 have b3 : (r == 13) = false := by simpa using h3
 have b4 : (r == 32) = false := by simpa using h4
 simp -implicitDefEqProofs only [A67, B67, sS, reduceCtorEq, seval, h1, h2, h3, h4, b1, b2, b3, b4]
theorem part_ok (r : Int) (h : List Res) : D env 98 [.d (.int .i32 r)] h = some (.val (.d (.bool (rPart r))) h) := by
 rw [D_dat (F := A98) rfl rfl rfl rfl]
 have e1 := low_ok r []
 have e2 := up_ok r []
 have e3 := digit_ok r []
 have e4 : (r == 95) = decide (r = 95) := rfl
 unfold rPart
 generalize rLow r = a at *
 generalize rUp r = b at *
 generalize rDig r = c at *
 cases a <;> cases b <;> cases c <;> simp -implicitDefEqProofs only [A98, B98, sS, reduceCtorEq, seval, e1, e2, e3, e4]
theorem rlow_ok (r : Int) (h : List Res) : D env 114 [.d (.int .i32 r)] h = some (.val (.d (.bool (rLow r))) h) := by
 rw [D_dat (F := A114) rfl rfl rfl rfl]
 have e := scalar_ok r []
 unfold rLow
 by_cases h1 : 97 ≤ r <;> by_cases h2 : r ≤ 122 <;> by_cases h3 : 128 ≤ r <;>
  simp -implicitDefEqProofs only [A114, B114, sS, reduceCtorEq, seval, h1, h2, h3, e]
theorem rup_ok (r : Int) (h : List Res) : D env 115 [.d (.int .i32 r)] h = some (.val (.d (.bool (rUp r))) h) := by
 rw [D_dat (F := A115) rfl rfl rfl rfl]
 unfold rUp
 by_cases h1 : 65 ≤ r <;> by_cases h2 : r ≤ 90 <;>
  simp -implicitDefEqProofs only [A115, B115, sS, reduceCtorEq, seval, h1, h2]
theorem rdigit_ok (r : Int) (h : List Res) : D env 118 [.d (.int .i32 r)] h = some (.val (.d (.bool (rDig r))) h) := by
 rw [D_dat (F := A118) rfl rfl rfl rfl]
 unfold rDig
 by_cases h1 : 48 ≤ r <;> by_cases h2 : r ≤ 57 <;>
  simp -implicitDefEqProofs only [A118, B118, sS, reduceCtorEq, seval, h1, h2]
theorem rpart_ok (r : Int) (h : List Res) : D env 132 [.d (.int .i32 r)] h = some (.val (.d (.bool (rPart r))) h) := by
 rw [D_dat (F := A132) rfl rfl rfl rfl]
 have e1 := rlow_ok r []
 have e2 := rup_ok r []
 have e3 := rdigit_ok r []
 have e4 : (r == 95) = decide (r = 95) := rfl
 unfold rPart
 generalize rLow r = a at *
 generalize rUp r = b at *
 generalize rDig r = c at *
 cases a <;> cases b <;> cases c <;> simp -implicitDefEqProofs only [A132, B132, sS, reduceCtorEq, seval, e1, e2, e3, e4]
theorem rblank_ok (r : Int) (h : List Res) : D env 86 [.d (.int .i32 r)] h = some (.val (.d (.bool (rBlank r))) h) := by
 rw [D_dat (F := A86) rfl rfl rfl rfl]
 unfold rBlank
 by_cases h1 : r = 9
 ·subst h1; simp -implicitDefEqProofs only [A86, B86, sS, reduceCtorEq, seval]
 by_cases h2 : r = 10
 ·subst h2; simp -implicitDefEqProofs only [A86, B86, sS, reduceCtorEq, seval]
 by_cases h3 : r = 13
 ·subst h3; simp -implicitDefEqProofs only [A86, B86, sS, reduceCtorEq, seval]
 by_cases h4 : r = 32
 ·subst h4; simp -implicitDefEqProofs only [A86, B86, sS, reduceCtorEq, seval]
 have b1 : (r == 9) = false := by simpa using h1
 have b2 : (r == 10) = false := by simpa using h2
 have b3 : (r == 13) = false := by simpa using h3
 have b4 : (r == 32) = false := by simpa using h4
 simp -implicitDefEqProofs only [A86, B86, sS, reduceCtorEq, seval, h1, h2, h3, h4, b1, b2, b3, b4]
end Go.Proofs.YtpemlmhggiaflaaGreatDoor.Codes
namespace Go.Proofs.YtpemlmhggiaflaaGreatDoor.Codes
open Go.Deepv
def words : List ByteArray := [⟨#[99, 97, 112]⟩, ⟨#[100, 111]⟩, ⟨#[101, 108, 115, 101]⟩, ⟨#[101, 110, 100]⟩, ⟨#[102, 111, 114]⟩, ⟨#[102, 117, 110]⟩, ⟨#[105, 102]⟩, ⟨#[105, 110]⟩, ⟨#[108, 101, 116]⟩, ⟨#[109, 97, 116, 99, 104]⟩, ⟨#[111, 102]⟩, ⟨#[111, 110]⟩, ⟨#[113, 117, 101, 117, 101]⟩, ⟨#[115, 116, 97, 116, 101]⟩, ⟨#[116, 104, 101, 110]⟩, ⟨#[116, 105, 109, 101, 114, 115]⟩, ⟨#[116, 121, 112, 101]⟩, ⟨#[119, 105, 116, 104]⟩]
def isWord (s : ByteArray) : Bool := words.any fun w => s.toList == w.toList
theorem word_ok (s : ByteArray) (h : List Res) : D env 100 [.d (.str s)] h = some (.val (.d (.bool (isWord s))) h) := by
 rw [D_dat (F := A100) rfl rfl rfl rfl]
 simp only [isWord, words, List.any_cons, List.any_nil]
 obtain ⟨b0, e0⟩ : ∃ b, (s.toList == (⟨#[99, 97, 112]⟩ : ByteArray).toList) = b := ⟨_, rfl⟩
 obtain ⟨b1, e1⟩ : ∃ b, (s.toList == (⟨#[100, 111]⟩ : ByteArray).toList) = b := ⟨_, rfl⟩
 obtain ⟨b2, e2⟩ : ∃ b, (s.toList == (⟨#[101, 108, 115, 101]⟩ : ByteArray).toList) = b := ⟨_, rfl⟩
 obtain ⟨b3, e3⟩ : ∃ b, (s.toList == (⟨#[101, 110, 100]⟩ : ByteArray).toList) = b := ⟨_, rfl⟩
 obtain ⟨b4, e4⟩ : ∃ b, (s.toList == (⟨#[102, 111, 114]⟩ : ByteArray).toList) = b := ⟨_, rfl⟩
 obtain ⟨b5, e5⟩ : ∃ b, (s.toList == (⟨#[102, 117, 110]⟩ : ByteArray).toList) = b := ⟨_, rfl⟩
 obtain ⟨b6, e6⟩ : ∃ b, (s.toList == (⟨#[105, 102]⟩ : ByteArray).toList) = b := ⟨_, rfl⟩
 obtain ⟨b7, e7⟩ : ∃ b, (s.toList == (⟨#[105, 110]⟩ : ByteArray).toList) = b := ⟨_, rfl⟩
 obtain ⟨b8, e8⟩ : ∃ b, (s.toList == (⟨#[108, 101, 116]⟩ : ByteArray).toList) = b := ⟨_, rfl⟩
 obtain ⟨b9, e9⟩ : ∃ b, (s.toList == (⟨#[109, 97, 116, 99, 104]⟩ : ByteArray).toList) = b := ⟨_, rfl⟩
 obtain ⟨b10, e10⟩ : ∃ b, (s.toList == (⟨#[111, 102]⟩ : ByteArray).toList) = b := ⟨_, rfl⟩
 obtain ⟨b11, e11⟩ : ∃ b, (s.toList == (⟨#[111, 110]⟩ : ByteArray).toList) = b := ⟨_, rfl⟩
 obtain ⟨b12, e12⟩ : ∃ b, (s.toList == (⟨#[113, 117, 101, 117, 101]⟩ : ByteArray).toList) = b := ⟨_, rfl⟩
 obtain ⟨b13, e13⟩ : ∃ b, (s.toList == (⟨#[115, 116, 97, 116, 101]⟩ : ByteArray).toList) = b := ⟨_, rfl⟩
 obtain ⟨b14, e14⟩ : ∃ b, (s.toList == (⟨#[116, 104, 101, 110]⟩ : ByteArray).toList) = b := ⟨_, rfl⟩
 obtain ⟨b15, e15⟩ : ∃ b, (s.toList == (⟨#[116, 105, 109, 101, 114, 115]⟩ : ByteArray).toList) = b := ⟨_, rfl⟩
 obtain ⟨b16, e16⟩ : ∃ b, (s.toList == (⟨#[116, 121, 112, 101]⟩ : ByteArray).toList) = b := ⟨_, rfl⟩
 obtain ⟨b17, e17⟩ : ∃ b, (s.toList == (⟨#[119, 105, 116, 104]⟩ : ByteArray).toList) = b := ⟨_, rfl⟩
 rw [e0, e1, e2, e3, e4, e5, e6, e7, e8, e9, e10, e11, e12, e13, e14, e15, e16, e17]
 cases b0 with
 | true => simp -implicitDefEqProofs only [A100, B100, sS, reduceCtorEq, seval, e0]
 | false =>
  cases b1 with
  | true => simp -implicitDefEqProofs only [A100, B100, sS, reduceCtorEq, seval, e0, e1]
  | false =>
   cases b2 with
   | true => simp -implicitDefEqProofs only [A100, B100, sS, reduceCtorEq, seval, e0, e1, e2]
   | false =>
    cases b3 with
    | true => simp -implicitDefEqProofs only [A100, B100, sS, reduceCtorEq, seval, e0, e1, e2, e3]
    | false =>
     cases b4 with
     | true => simp -implicitDefEqProofs only [A100, B100, sS, reduceCtorEq, seval, e0, e1, e2, e3, e4]
     | false =>
      cases b5 with
      | true => simp -implicitDefEqProofs only [A100, B100, sS, reduceCtorEq, seval, e0, e1, e2, e3, e4, e5]
      | false =>
       cases b6 with
       | true => simp -implicitDefEqProofs only [A100, B100, sS, reduceCtorEq, seval, e0, e1, e2, e3, e4, e5, e6]
       | false =>
        cases b7 with
        | true => simp -implicitDefEqProofs only [A100, B100, sS, reduceCtorEq, seval, e0, e1, e2, e3, e4, e5, e6, e7]
        | false =>
         cases b8 with
         | true => simp -implicitDefEqProofs only [A100, B100, sS, reduceCtorEq, seval, e0, e1, e2, e3, e4, e5, e6, e7, e8]
         | false =>
          cases b9 with
          | true => simp -implicitDefEqProofs only [A100, B100, sS, reduceCtorEq, seval, e0, e1, e2, e3, e4, e5, e6, e7, e8, e9]
          | false =>
           cases b10 with
           | true => simp -implicitDefEqProofs only [A100, B100, sS, reduceCtorEq, seval, e0, e1, e2, e3, e4, e5, e6, e7, e8, e9, e10]
           | false =>
            cases b11 with
            | true => simp -implicitDefEqProofs only [A100, B100, sS, reduceCtorEq, seval, e0, e1, e2, e3, e4, e5, e6, e7, e8, e9, e10, e11]
            | false =>
             cases b12 with
             | true => simp -implicitDefEqProofs only [A100, B100, sS, reduceCtorEq, seval, e0, e1, e2, e3, e4, e5, e6, e7, e8, e9, e10, e11, e12]
             | false =>
              cases b13 with
              | true => simp -implicitDefEqProofs only [A100, B100, sS, reduceCtorEq, seval, e0, e1, e2, e3, e4, e5, e6, e7, e8, e9, e10, e11, e12, e13]
              | false =>
               cases b14 with
               | true => simp -implicitDefEqProofs only [A100, B100, sS, reduceCtorEq, seval, e0, e1, e2, e3, e4, e5, e6, e7, e8, e9, e10, e11, e12, e13, e14]
               | false =>
                cases b15 with
                | true => simp -implicitDefEqProofs only [A100, B100, sS, reduceCtorEq, seval, e0, e1, e2, e3, e4, e5, e6, e7, e8, e9, e10, e11, e12, e13, e14, e15]
                | false =>
                 cases b16 with
                 | true => simp -implicitDefEqProofs only [A100, B100, sS, reduceCtorEq, seval, e0, e1, e2, e3, e4, e5, e6, e7, e8, e9, e10, e11, e12, e13, e14, e15, e16]
                 | false =>
                  cases b17 with
                  | true => simp -implicitDefEqProofs only [A100, B100, sS, reduceCtorEq, seval, e0, e1, e2, e3, e4, e5, e6, e7, e8, e9, e10, e11, e12, e13, e14, e15, e16, e17]
                  | false =>
                   simp -implicitDefEqProofs only [A100, B100, sS, reduceCtorEq, seval, e0, e1, e2, e3, e4, e5, e6, e7, e8, e9, e10, e11, e12, e13, e14, e15, e16, e17]
theorem rword_ok (s : ByteArray) (h : List Res) : D env 117 [.d (.str s)] h = some (.val (.d (.bool (isWord s))) h) := by
 rw [D_dat (F := A117) rfl rfl rfl rfl]
 simp only [isWord, words, List.any_cons, List.any_nil]
 obtain ⟨b0, e0⟩ : ∃ b, (s.toList == (⟨#[99, 97, 112]⟩ : ByteArray).toList) = b := ⟨_, rfl⟩
 obtain ⟨b1, e1⟩ : ∃ b, (s.toList == (⟨#[100, 111]⟩ : ByteArray).toList) = b := ⟨_, rfl⟩
 obtain ⟨b2, e2⟩ : ∃ b, (s.toList == (⟨#[101, 108, 115, 101]⟩ : ByteArray).toList) = b := ⟨_, rfl⟩
 obtain ⟨b3, e3⟩ : ∃ b, (s.toList == (⟨#[101, 110, 100]⟩ : ByteArray).toList) = b := ⟨_, rfl⟩
 obtain ⟨b4, e4⟩ : ∃ b, (s.toList == (⟨#[102, 111, 114]⟩ : ByteArray).toList) = b := ⟨_, rfl⟩
 obtain ⟨b5, e5⟩ : ∃ b, (s.toList == (⟨#[102, 117, 110]⟩ : ByteArray).toList) = b := ⟨_, rfl⟩
 obtain ⟨b6, e6⟩ : ∃ b, (s.toList == (⟨#[105, 102]⟩ : ByteArray).toList) = b := ⟨_, rfl⟩
 obtain ⟨b7, e7⟩ : ∃ b, (s.toList == (⟨#[105, 110]⟩ : ByteArray).toList) = b := ⟨_, rfl⟩
 obtain ⟨b8, e8⟩ : ∃ b, (s.toList == (⟨#[108, 101, 116]⟩ : ByteArray).toList) = b := ⟨_, rfl⟩
 obtain ⟨b9, e9⟩ : ∃ b, (s.toList == (⟨#[109, 97, 116, 99, 104]⟩ : ByteArray).toList) = b := ⟨_, rfl⟩
 obtain ⟨b10, e10⟩ : ∃ b, (s.toList == (⟨#[111, 102]⟩ : ByteArray).toList) = b := ⟨_, rfl⟩
 obtain ⟨b11, e11⟩ : ∃ b, (s.toList == (⟨#[111, 110]⟩ : ByteArray).toList) = b := ⟨_, rfl⟩
 obtain ⟨b12, e12⟩ : ∃ b, (s.toList == (⟨#[113, 117, 101, 117, 101]⟩ : ByteArray).toList) = b := ⟨_, rfl⟩
 obtain ⟨b13, e13⟩ : ∃ b, (s.toList == (⟨#[115, 116, 97, 116, 101]⟩ : ByteArray).toList) = b := ⟨_, rfl⟩
 obtain ⟨b14, e14⟩ : ∃ b, (s.toList == (⟨#[116, 104, 101, 110]⟩ : ByteArray).toList) = b := ⟨_, rfl⟩
 obtain ⟨b15, e15⟩ : ∃ b, (s.toList == (⟨#[116, 105, 109, 101, 114, 115]⟩ : ByteArray).toList) = b := ⟨_, rfl⟩
 obtain ⟨b16, e16⟩ : ∃ b, (s.toList == (⟨#[116, 121, 112, 101]⟩ : ByteArray).toList) = b := ⟨_, rfl⟩
 obtain ⟨b17, e17⟩ : ∃ b, (s.toList == (⟨#[119, 105, 116, 104]⟩ : ByteArray).toList) = b := ⟨_, rfl⟩
 rw [e0, e1, e2, e3, e4, e5, e6, e7, e8, e9, e10, e11, e12, e13, e14, e15, e16, e17]
 cases b0 with
 | true => simp -implicitDefEqProofs only [A117, B117, sS, reduceCtorEq, seval, e0]
 | false =>
  cases b1 with
  | true => simp -implicitDefEqProofs only [A117, B117, sS, reduceCtorEq, seval, e0, e1]
  | false =>
   cases b2 with
   | true => simp -implicitDefEqProofs only [A117, B117, sS, reduceCtorEq, seval, e0, e1, e2]
   | false =>
    cases b3 with
    | true => simp -implicitDefEqProofs only [A117, B117, sS, reduceCtorEq, seval, e0, e1, e2, e3]
    | false =>
     cases b4 with
     | true => simp -implicitDefEqProofs only [A117, B117, sS, reduceCtorEq, seval, e0, e1, e2, e3, e4]
     | false =>
      cases b5 with
      | true => simp -implicitDefEqProofs only [A117, B117, sS, reduceCtorEq, seval, e0, e1, e2, e3, e4, e5]
      | false =>
       cases b6 with
       | true => simp -implicitDefEqProofs only [A117, B117, sS, reduceCtorEq, seval, e0, e1, e2, e3, e4, e5, e6]
       | false =>
        cases b7 with
        | true => simp -implicitDefEqProofs only [A117, B117, sS, reduceCtorEq, seval, e0, e1, e2, e3, e4, e5, e6, e7]
        | false =>
         cases b8 with
         | true => simp -implicitDefEqProofs only [A117, B117, sS, reduceCtorEq, seval, e0, e1, e2, e3, e4, e5, e6, e7, e8]
         | false =>
          cases b9 with
          | true => simp -implicitDefEqProofs only [A117, B117, sS, reduceCtorEq, seval, e0, e1, e2, e3, e4, e5, e6, e7, e8, e9]
          | false =>
           cases b10 with
           | true => simp -implicitDefEqProofs only [A117, B117, sS, reduceCtorEq, seval, e0, e1, e2, e3, e4, e5, e6, e7, e8, e9, e10]
           | false =>
            cases b11 with
            | true => simp -implicitDefEqProofs only [A117, B117, sS, reduceCtorEq, seval, e0, e1, e2, e3, e4, e5, e6, e7, e8, e9, e10, e11]
            | false =>
             cases b12 with
             | true => simp -implicitDefEqProofs only [A117, B117, sS, reduceCtorEq, seval, e0, e1, e2, e3, e4, e5, e6, e7, e8, e9, e10, e11, e12]
             | false =>
              cases b13 with
              | true => simp -implicitDefEqProofs only [A117, B117, sS, reduceCtorEq, seval, e0, e1, e2, e3, e4, e5, e6, e7, e8, e9, e10, e11, e12, e13]
              | false =>
               cases b14 with
               | true => simp -implicitDefEqProofs only [A117, B117, sS, reduceCtorEq, seval, e0, e1, e2, e3, e4, e5, e6, e7, e8, e9, e10, e11, e12, e13, e14]
               | false =>
                cases b15 with
                | true => simp -implicitDefEqProofs only [A117, B117, sS, reduceCtorEq, seval, e0, e1, e2, e3, e4, e5, e6, e7, e8, e9, e10, e11, e12, e13, e14, e15]
                | false =>
                 cases b16 with
                 | true => simp -implicitDefEqProofs only [A117, B117, sS, reduceCtorEq, seval, e0, e1, e2, e3, e4, e5, e6, e7, e8, e9, e10, e11, e12, e13, e14, e15, e16]
                 | false =>
                  cases b17 with
                  | true => simp -implicitDefEqProofs only [A117, B117, sS, reduceCtorEq, seval, e0, e1, e2, e3, e4, e5, e6, e7, e8, e9, e10, e11, e12, e13, e14, e15, e16, e17]
                  | false =>
                   simp -implicitDefEqProofs only [A117, B117, sS, reduceCtorEq, seval, e0, e1, e2, e3, e4, e5, e6, e7, e8, e9, e10, e11, e12, e13, e14, e15, e16, e17]
end Go.Proofs.YtpemlmhggiaflaaGreatDoor.Codes
