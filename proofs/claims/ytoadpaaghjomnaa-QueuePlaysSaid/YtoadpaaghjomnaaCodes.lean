/-
  The deep codes of functions, each with the fact that it is that of the function's code. Written by wip/gen/deep.py.
  Conditions: none.
-/
import Derived.Test.YtoadpaaghjomnaaDP
import Derived.Test.YtoadpaaghjomnaaProg
import Derived.KernelRfl
set_option maxRecDepth 100000
namespace Go.Proofs.Ytoadpaaghjomnaa.Codes
open Go.Deepv

/-- gosem.cut.init -/
def M2 : Marks := { cut := fun _ => true, hd := fun | _ => [], ex := fun | _ => [], imm := fun | _ => false }
def B2 : ACode :=
  .region [⟨some 0, .call (.fn 1) [], none⟩]
def A2 : AFunc := { ntmps := 1, results := [], body := B2, coe := true, keep := 0 }
theorem tr2 : trFunc Try.prog M2 true Try.f2 = some A2 := by kernel_rfl

/-- handloom/handloomlaw15.CapsRise -/
def M3 : Marks := { cut := fun _ => true, hd := fun | _ => [], ex := fun | _ => [], imm := fun | _ => false }
def B3 : ACode :=
  .seq (.region [⟨some 8, .mv (.con (.bool false)), none⟩])
  (.seq (.region [⟨some 11, .mv (.tmp 0), none⟩,
    ⟨some 12, .mv (.tmp 1), none⟩,
    ⟨some 13, .mnmx false [(.tmp 11), (.tmp 12)], none⟩,
    ⟨some 14, .cvt .i64 (.tmp 13), none⟩,
    ⟨some 15, .mv (.tmp 2), none⟩,
    ⟨some 16, .mv (.tmp 3), none⟩,
    ⟨some 17, .mnmx false [(.tmp 15), (.tmp 16)], none⟩,
    ⟨some 18, .cvt .i64 (.tmp 17), none⟩,
    ⟨some 19, .call (.fn 7) [(.tmp 14), (.tmp 18)], none⟩,
    ⟨some 20, .mv (.tmp 0), none⟩,
    ⟨some 21, .mv (.tmp 1), none⟩,
    ⟨some 22, .mnmx true [(.tmp 20), (.tmp 21)], none⟩,
    ⟨some 23, .cvt .i64 (.tmp 22), none⟩,
    ⟨some 24, .mv (.tmp 2), none⟩,
    ⟨some 25, .mv (.tmp 3), none⟩,
    ⟨some 26, .mnmx true [(.tmp 24), (.tmp 25)], none⟩,
    ⟨some 27, .cvt .i64 (.tmp 26), none⟩,
    ⟨some 28, .call (.fn 7) [(.tmp 23), (.tmp 27)], none⟩,
    ⟨some 9, .mv (.tmp 19), none⟩,
    ⟨some 10, .mv (.tmp 28), none⟩])
  (.seq (.region [⟨some 29, .mv (.tmp 9), none⟩,
    ⟨some 30, .mv (.tmp 10), none⟩,
    ⟨some 31, .bin .leq (.tmp 29) (.tmp 30), none⟩,
    ⟨some 32, .mv (.tmp 31), none⟩,
    ⟨some 33, .mv (.tmp 9), (some (32, true))⟩,
    ⟨some 34, .mv (.tmp 0), (some (32, true))⟩,
    ⟨some 35, .mv (.tmp 1), (some (32, true))⟩,
    ⟨some 36, .mnmx false [(.tmp 34), (.tmp 35)], (some (32, true))⟩,
    ⟨some 37, .cvt .i64 (.tmp 36), (some (32, true))⟩,
    ⟨some 38, .bin .gtr (.tmp 33) (.tmp 37), (some (32, true))⟩,
    ⟨some 39, .pick (.tmp 32) (.tmp 38) (.con (.bool false)), none⟩,
    ⟨some 40, .mv (.tmp 39), none⟩,
    ⟨some 41, .mv (.tmp 2), (some (40, true))⟩,
    ⟨some 42, .mv (.tmp 3), (some (40, true))⟩,
    ⟨some 43, .mnmx false [(.tmp 41), (.tmp 42)], (some (40, true))⟩,
    ⟨some 44, .cvt .i64 (.tmp 43), (some (40, true))⟩,
    ⟨some 45, .call (.fn 8) [(.tmp 44)], (some (40, true))⟩,
    ⟨some 46, .mv (.tmp 2), (some (40, true))⟩,
    ⟨some 47, .mv (.tmp 3), (some (40, true))⟩,
    ⟨some 48, .mnmx true [(.tmp 46), (.tmp 47)], (some (40, true))⟩,
    ⟨some 49, .cvt .i64 (.tmp 48), (some (40, true))⟩,
    ⟨some 50, .call (.fn 8) [(.tmp 49)], (some (40, true))⟩,
    ⟨some 51, .bin .leq (.tmp 45) (.tmp 50), (some (40, true))⟩,
    ⟨some 52, .pick (.tmp 40) (.tmp 51) (.con (.bool false)), none⟩,
    ⟨some 53, .mv (.tmp 52), none⟩,
    ⟨some 54, .call (.fn 9) [], (some (53, true))⟩,
    ⟨some 55, .pick (.tmp 53) (.tmp 54) (.con (.bool false)), none⟩,
    ⟨some 8, .mv (.tmp 55), none⟩])
  (.ret)))
def A3 : AFunc := { ntmps := 56, results := [.tmp 8], body := B3, coe := true, keep := 0 }
theorem tr3 : trFunc Try.prog M3 true Try.f3 = some A3 := by kernel_rfl

/-- handloom/handloomlaw29.QueueOrder -/
def M4 : Marks := { cut := fun _ => true, hd := fun | 8 => [true, false, true, false, false, false, false, true, false, true, true, false, false, false, false, false, false, false, false, false, false, false, false, false, false, false, false, false, false, false, false, false, false, false, true, true, true] | 21 => [false, false, false, false, false, false, false, true, false, true, true] | _ => [], ex := fun | 8 => [false, false, false, false, false, false, true, true, false, true, true] | 21 => [false, false, false, false, false, false, true, true, false, true, true] | _ => [], imm := fun | 60 => true | 81 => true | 103 => true | _ => false }
abbrev H4L8 : List Bool := [true, false, true, false, false, false, false, true, false, true, true, false, false, false, false, false, false, false, false, false, false, false, false, false, false, false, false, false, false, false, false, false, false, false, true, true, true]
abbrev X4L8 : List Bool := [false, false, false, false, false, false, true, true, false, true, true]
def B4L8 : ACode :=
  .seq (.region [⟨some 37, .bin .lss (.tmp 36) (.tmp 35), none⟩])
  (.seq (.cond (.tmp 37) (.skip) (.exit 0))
  (.seq (.block 1 (.seq (.region [⟨some 38, .mv (.tmp 36), none⟩,
      ⟨some 39, .idxAddr 7 (.tmp 34) (.tmp 36), none⟩,
      ⟨some 40, .load (some 7) (.tmp 39), none⟩,
      ⟨some 12, .alloc [.ok (.int .i64 0), .ok (.int .i64 0), .ok (.int .i64 0), .error 1, .ok (.str ⟨#[]⟩), .error 5, .ok (.int .i64 0)], none⟩,
      ⟨some 11, .mv (.tmp 38), none⟩,
      ⟨none, .store 7 (.tmp 12) (.tmp 40), none⟩])
    (.seq (.region [⟨some 41, .mv (.tmp 7), none⟩,
      ⟨some 42, .load (some 7) (.tmp 12), none⟩,
      ⟨some 43, .call (.fn 13) [(.tmp 41), (.tmp 42)], none⟩,
      ⟨some 13, .mv (.tmp 43), none⟩])
    (.seq (.seq (.region [⟨some 44, .mv (.tmp 13), none⟩,
      ⟨some 45, .bin .eql (.tmp 44) (.con (.int .i64 0)), none⟩,
      ⟨some 46, .mv (.tmp 9), none⟩,
      ⟨some 47, .len false (.tmp 46), none⟩,
      ⟨some 48, .mv (.tmp 10), none⟩,
      ⟨some 49, .len false (.tmp 48), none⟩,
      ⟨some 50, .bin .sub (.tmp 47) (.tmp 49), none⟩,
      ⟨some 51, .mv (.tmp 0), none⟩,
      ⟨some 52, .cvt .i64 (.tmp 51), none⟩,
      ⟨some 53, .bin .rem (.tmp 52) (.con (.int .i64 32)), none⟩,
      ⟨some 54, .bin .leq (.tmp 50) (.tmp 53), none⟩,
      ⟨some 55, .eqb true (.tmp 45) (.tmp 54), none⟩])
    (.cond (.tmp 55) (.seq (.region [⟨some 6, .mv (.con (.bool false)), none⟩])
    (.ret)) (.skip)))
    (.seq (.seq (.region [⟨some 56, .mv (.tmp 13), none⟩,
      ⟨some 57, .bin .eql (.tmp 56) (.con (.int .i64 0)), none⟩])
    (.cond (.tmp 57) (.region [⟨some 58, .mv (.tmp 9), none⟩,
      ⟨some 59, .load (some 7) (.tmp 12), none⟩,
      ⟨some 60, .lit true 7 1 [.int .i64 0, .int .i64 0, .int .i64 0, .slice 1 [], .str ⟨#[]⟩, .slice 5 [], .int .i64 0] [(0, (.tmp 59))], none⟩,
      ⟨some 61, .app 7 96 (.tmp 58) (.tmp 60), none⟩,
      ⟨some 9, .mv (.tmp 61), none⟩]) (.skip)))
    (.seq (.region [⟨some 62, .mv (.tmp 11), none⟩,
      ⟨some 63, .mv (.tmp 2), none⟩,
      ⟨some 64, .len false (.tmp 63), none⟩,
      ⟨some 65, .bin .lss (.tmp 62) (.tmp 64), none⟩,
      ⟨some 66, .mv (.tmp 65), none⟩,
      ⟨some 67, .mv (.tmp 2), (some (66, true))⟩,
      ⟨some 68, .mv (.tmp 11), (some (66, true))⟩,
      ⟨some 69, .idxAddr 1 (.tmp 67) (.tmp 68), (some (66, true))⟩,
      ⟨some 70, .load none (.tmp 69), (some (66, true))⟩,
      ⟨some 71, .pick (.tmp 66) (.tmp 70) (.con (.bool false)), none⟩])
    (.cond (.tmp 71) (.seq (.region [⟨some 73, .mv (.tmp 7), none⟩,
      ⟨some 74, .call (.fn 14) [(.tmp 73)], none⟩,
      ⟨some 72, .mv (.tmp 74), none⟩,
      ⟨some 75, .ext 0 (.tmp 72), none⟩,
      ⟨some 76, .ext 1 (.tmp 72), none⟩,
      ⟨some 14, .alloc [.ok (.int .i64 0), .ok (.int .i64 0), .ok (.int .i64 0), .error 1, .ok (.str ⟨#[]⟩), .error 5, .ok (.int .i64 0)], none⟩,
      ⟨none, .store 7 (.tmp 14) (.tmp 75), none⟩,
      ⟨some 15, .mv (.tmp 76), none⟩])
    (.seq (.seq (.region [⟨some 77, .mv (.tmp 15), none⟩,
      ⟨some 78, .un .not (.tmp 77), none⟩])
    (.cond (.tmp 78) (.seq (.region [⟨some 6, .mv (.con (.bool false)), none⟩])
    (.ret)) (.skip)))
    (.region [⟨some 79, .mv (.tmp 10), none⟩,
      ⟨some 80, .load (some 7) (.tmp 14), none⟩,
      ⟨some 81, .lit true 7 1 [.int .i64 0, .int .i64 0, .int .i64 0, .slice 1 [], .str ⟨#[]⟩, .slice 5 [], .int .i64 0] [(0, (.tmp 80))], none⟩,
      ⟨some 82, .app 7 96 (.tmp 79) (.tmp 81), none⟩,
      ⟨some 10, .mv (.tmp 82), none⟩]))) (.skip))))))))
  (.region [⟨some 83, .bin .add (.tmp 36) (.con (.int .i64 1)), none⟩,
    ⟨some 36, .mv (.tmp 83), none⟩])))
abbrev H4L21 : List Bool := [false, false, false, false, false, false, false, true, false, true, true]
abbrev X4L21 : List Bool := [false, false, false, false, false, false, true, true, false, true, true]
def B4L21 : ACode :=
  .seq (.seq (.region [⟨some 84, .mv (.tmp 7), none⟩,
    ⟨some 85, .call (.fn 15) [(.tmp 84)], none⟩,
    ⟨some 86, .bin .gtr (.tmp 85) (.con (.int .i64 0)), none⟩,
    ⟨some 87, .mv (.tmp 86), none⟩,
    ⟨some 88, .mv (.tmp 10), (some (87, true))⟩,
    ⟨some 89, .len false (.tmp 88), (some (87, true))⟩,
    ⟨some 90, .mv (.tmp 9), (some (87, true))⟩,
    ⟨some 91, .len false (.tmp 90), (some (87, true))⟩,
    ⟨some 92, .bin .leq (.tmp 89) (.tmp 91), (some (87, true))⟩,
    ⟨some 93, .pick (.tmp 87) (.tmp 92) (.con (.bool false)), none⟩])
  (.cond (.tmp 93) (.skip) (.exit 2)))
  (.block 3 (.seq (.region [⟨some 95, .mv (.tmp 7), none⟩,
      ⟨some 96, .call (.fn 14) [(.tmp 95)], none⟩,
      ⟨some 94, .mv (.tmp 96), none⟩,
      ⟨some 97, .ext 0 (.tmp 94), none⟩,
      ⟨some 98, .ext 1 (.tmp 94), none⟩,
      ⟨some 16, .alloc [.ok (.int .i64 0), .ok (.int .i64 0), .ok (.int .i64 0), .error 1, .ok (.str ⟨#[]⟩), .error 5, .ok (.int .i64 0)], none⟩,
      ⟨none, .store 7 (.tmp 16) (.tmp 97), none⟩,
      ⟨some 17, .mv (.tmp 98), none⟩])
    (.seq (.seq (.region [⟨some 99, .mv (.tmp 17), none⟩,
      ⟨some 100, .un .not (.tmp 99), none⟩])
    (.cond (.tmp 100) (.seq (.region [⟨some 6, .mv (.con (.bool false)), none⟩])
    (.ret)) (.skip)))
    (.region [⟨some 101, .mv (.tmp 10), none⟩,
      ⟨some 102, .load (some 7) (.tmp 16), none⟩,
      ⟨some 103, .lit true 7 1 [.int .i64 0, .int .i64 0, .int .i64 0, .slice 1 [], .str ⟨#[]⟩, .slice 5 [], .int .i64 0] [(0, (.tmp 102))], none⟩,
      ⟨some 104, .app 7 96 (.tmp 101) (.tmp 103), none⟩,
      ⟨some 10, .mv (.tmp 104), none⟩]))))
def B4 : ACode :=
  .seq (.region [⟨some 6, .mv (.con (.bool false)), none⟩])
  (.seq (.seq (.region [⟨some 20, .mv (.tmp 1), none⟩,
    ⟨some 21, .call (.fn 10) [(.tmp 20)], none⟩,
    ⟨some 22, .un .not (.tmp 21), none⟩])
  (.cond (.tmp 22) (.seq (.region [⟨some 23, .call (.fn 11) [], none⟩,
    ⟨some 6, .mv (.tmp 23), none⟩])
  (.ret)) (.skip)))
  (.seq (.region [⟨some 25, .mv (.tmp 0), none⟩,
    ⟨some 26, .cvt .i64 (.tmp 25), none⟩,
    ⟨some 27, .bin .rem (.tmp 26) (.con (.int .i64 32)), none⟩,
    ⟨some 28, .bin .add (.con (.int .i64 1)) (.tmp 27), none⟩,
    ⟨some 29, .call (.fn 12) [(.tmp 28)], none⟩,
    ⟨some 24, .mv (.tmp 29), none⟩,
    ⟨some 30, .ext 0 (.tmp 24), none⟩,
    ⟨some 31, .ext 1 (.tmp 24), none⟩,
    ⟨some 7, .mv (.tmp 30), none⟩,
    ⟨some 8, .mv (.tmp 31), none⟩])
  (.seq (.seq (.region [⟨some 32, .mv (.tmp 8), none⟩,
    ⟨some 33, .bin .neq (.tmp 32) (.con (.int .i64 0)), none⟩])
  (.cond (.tmp 33) (.seq (.region [⟨some 6, .mv (.con (.bool false)), none⟩])
  (.ret)) (.skip)))
  (.seq (.region [⟨some 9, .nilrow 7, none⟩,
    ⟨some 10, .nilrow 7, none⟩])
  (.seq (.seq (.region [⟨some 34, .mv (.tmp 1), none⟩,
    ⟨some 35, .len false (.tmp 34), none⟩,
    ⟨some 36, .mv (.con (.int .i64 0)), none⟩])
  (.block 0 (.loop true [true, false, true, false, false, false, false, true, false, true, true, false, false, false, false, false, false, false, false, false, false, false, false, false, false, false, false, false, false, false, false, false, false, false, true, true, true] [false, false, false, false, false, false, true, true, false, true, true] B4L8)))
  (.seq (.block 2 (.loop true [false, false, false, false, false, false, false, true, false, true, true] [false, false, false, false, false, false, true, true, false, true, true] B4L21))
  (.seq (.region [⟨some 106, .mv (.tmp 7), none⟩,
    ⟨some 107, .call (.fn 14) [(.tmp 106)], none⟩,
    ⟨some 105, .mv (.tmp 107), none⟩,
    ⟨some 108, .ext 0 (.tmp 105), none⟩,
    ⟨some 109, .ext 1 (.tmp 105), none⟩,
    ⟨some 18, .alloc [.ok (.int .i64 0), .ok (.int .i64 0), .ok (.int .i64 0), .error 1, .ok (.str ⟨#[]⟩), .error 5, .ok (.int .i64 0)], none⟩,
    ⟨none, .store 7 (.tmp 18) (.tmp 108), none⟩,
    ⟨some 19, .mv (.tmp 109), none⟩])
  (.seq (.region [⟨some 110, .mv (.tmp 19), none⟩,
    ⟨some 111, .un .not (.tmp 110), none⟩,
    ⟨some 112, .mv (.tmp 111), none⟩,
    ⟨some 113, .mv (.tmp 9), (some (112, true))⟩,
    ⟨some 114, .mv (.tmp 10), (some (112, true))⟩,
    ⟨some 115, .call (.fn 16) [(.tmp 113), (.tmp 114)], (some (112, true))⟩,
    ⟨some 116, .pick (.tmp 112) (.tmp 115) (.con (.bool false)), none⟩,
    ⟨some 117, .mv (.tmp 116), none⟩,
    ⟨some 118, .call (.fn 11) [], (some (117, true))⟩,
    ⟨some 119, .pick (.tmp 117) (.tmp 118) (.con (.bool false)), none⟩,
    ⟨some 6, .mv (.tmp 119), none⟩])
  (.ret)))))))))
def A4 : AFunc := { ntmps := 120, results := [.tmp 6], body := B4, coe := true, keep := 0 }
theorem tr4 : trFunc Try.prog M4 true Try.f4 = some A4 := by kernel_rfl

/-- handloom/handloomlaw29.QueuePlays -/
def M5 : Marks := { cut := fun _ => true, hd := fun | 8 => [false, false, true, false, false, false, false, true, false, true, false, false, false, false, false, false, false, false, false, false, false, false, false, false, false, false, false, false, false, false, false, false, false, false, false, false, false, false, false, false, false, true, true, true] | _ => [], ex := fun | 8 => [false, false, false, false, false, false, true] | _ => [], imm := fun | _ => false, alts := fun | 10 => [[0, 1, 3, 4, 2, 5, 6]] | _ => [] }
abbrev H5L8 : List Bool := [false, false, true, false, false, false, false, true, false, true, false, false, false, false, false, false, false, false, false, false, false, false, false, false, false, false, false, false, false, false, false, false, false, false, false, false, false, false, false, false, false, true, true, true]
abbrev X5L8 : List Bool := [false, false, false, false, false, false, true]
def B5L8 : ACode :=
  .seq (.region [⟨some 44, .bin .lss (.tmp 43) (.tmp 42), none⟩])
  (.seq (.cond (.tmp 44) (.skip) (.exit 0))
  (.seq (.block 1 (.seq (.region [⟨some 45, .mv (.tmp 43), none⟩,
      ⟨some 46, .idxAddr 7 (.tmp 41) (.tmp 43), none⟩,
      ⟨some 47, .load (some 7) (.tmp 46), none⟩,
      ⟨some 12, .alloc [.ok (.int .i64 0), .ok (.int .i64 0), .ok (.int .i64 0), .error 1, .ok (.str ⟨#[]⟩), .error 5, .ok (.int .i64 0)], none⟩,
      ⟨some 11, .mv (.tmp 45), none⟩,
      ⟨none, .store 7 (.tmp 12) (.tmp 47), none⟩])
    (.seq (.seq (.draw [⟨some 48, .mv (.tmp 7), none⟩,
      ⟨some 49, .load (some 7) (.tmp 12), none⟩,
      ⟨some 50, .call (.fn 13) [(.tmp 48), (.tmp 49)], none⟩,
      ⟨some 51, .mv (.tmp 9), none⟩,
      ⟨some 52, .load (some 7) (.tmp 12), none⟩,
      ⟨some 53, .call (.fn 18) [(.tmp 51), (.tmp 52)], none⟩,
      ⟨some 54, .bin .neq (.tmp 50) (.tmp 53), none⟩] [[⟨some 48, .mv (.tmp 7), none⟩, ⟨some 49, .load (some 7) (.tmp 12), none⟩, ⟨some 51, .mv (.tmp 9), none⟩, ⟨some 52, .load (some 7) (.tmp 12), none⟩, ⟨some 50, .call (.fn 13) [(.tmp 48), (.tmp 49)], none⟩, ⟨some 53, .call (.fn 18) [(.tmp 51), (.tmp 52)], none⟩, ⟨some 54, .bin .neq (.tmp 50) (.tmp 53), none⟩]])
    (.cond (.tmp 54) (.seq (.region [⟨some 6, .mv (.con (.bool false)), none⟩])
    (.ret)) (.skip)))
    (.seq (.seq (.region [⟨some 55, .mv (.tmp 11), none⟩,
      ⟨some 56, .mv (.tmp 2), none⟩,
      ⟨some 57, .len false (.tmp 56), none⟩,
      ⟨some 58, .bin .lss (.tmp 55) (.tmp 57), none⟩,
      ⟨some 59, .mv (.tmp 58), none⟩,
      ⟨some 60, .mv (.tmp 2), (some (59, true))⟩,
      ⟨some 61, .mv (.tmp 11), (some (59, true))⟩,
      ⟨some 62, .idxAddr 1 (.tmp 60) (.tmp 61), (some (59, true))⟩,
      ⟨some 63, .load none (.tmp 62), (some (59, true))⟩,
      ⟨some 64, .pick (.tmp 59) (.tmp 63) (.con (.bool false)), none⟩])
    (.cond (.tmp 64) (.seq (.region [⟨some 66, .mv (.tmp 7), none⟩,
      ⟨some 67, .call (.fn 14) [(.tmp 66)], none⟩,
      ⟨some 65, .mv (.tmp 67), none⟩,
      ⟨some 68, .ext 0 (.tmp 65), none⟩,
      ⟨some 69, .ext 1 (.tmp 65), none⟩,
      ⟨some 13, .alloc [.ok (.int .i64 0), .ok (.int .i64 0), .ok (.int .i64 0), .error 1, .ok (.str ⟨#[]⟩), .error 5, .ok (.int .i64 0)], none⟩,
      ⟨none, .store 7 (.tmp 13) (.tmp 68), none⟩,
      ⟨some 14, .mv (.tmp 69), none⟩])
    (.seq (.region [⟨some 71, .mv (.tmp 9), none⟩,
      ⟨some 72, .call (.fn 19) [(.tmp 71)], none⟩,
      ⟨some 70, .mv (.tmp 72), none⟩,
      ⟨some 73, .ext 0 (.tmp 70), none⟩,
      ⟨some 74, .ext 1 (.tmp 70), none⟩,
      ⟨some 15, .alloc [.ok (.int .i64 0), .ok (.int .i64 0), .ok (.int .i64 0), .error 1, .ok (.str ⟨#[]⟩), .error 5, .ok (.int .i64 0)], none⟩,
      ⟨none, .store 7 (.tmp 15) (.tmp 73), none⟩,
      ⟨some 16, .mv (.tmp 74), none⟩])
    (.seq (.region [⟨some 75, .mv (.tmp 14), none⟩,
      ⟨some 76, .mv (.tmp 16), none⟩,
      ⟨some 77, .eqb true (.tmp 75) (.tmp 76), none⟩,
      ⟨some 78, .mv (.tmp 77), none⟩,
      ⟨some 79, .load (some 7) (.tmp 13), (some (78, false))⟩,
      ⟨some 80, .load (some 7) (.tmp 15), (some (78, false))⟩,
      ⟨some 81, .call (.fn 20) [(.tmp 79), (.tmp 80)], (some (78, false))⟩,
      ⟨some 82, .un .not (.tmp 81), (some (78, false))⟩,
      ⟨some 83, .pick (.tmp 78) (.con (.bool true)) (.tmp 82), none⟩])
    (.cond (.tmp 83) (.seq (.region [⟨some 6, .mv (.con (.bool false)), none⟩])
    (.ret)) (.skip))))) (.skip)))
    (.seq (.region [⟨some 84, .mv (.tmp 7), none⟩,
      ⟨some 85, .call (.fn 15) [(.tmp 84)], none⟩,
      ⟨some 86, .mv (.tmp 9), none⟩,
      ⟨some 87, .call (.fn 21) [(.tmp 86)], none⟩,
      ⟨some 88, .bin .neq (.tmp 85) (.tmp 87), none⟩,
      ⟨some 89, .mv (.tmp 88), none⟩,
      ⟨some 90, .mv (.tmp 7), (some (89, false))⟩,
      ⟨some 91, .call (.fn 22) [(.tmp 90)], (some (89, false))⟩,
      ⟨some 92, .mv (.tmp 9), (some (89, false))⟩,
      ⟨some 93, .call (.fn 23) [(.tmp 92)], (some (89, false))⟩,
      ⟨some 94, .call (.fn 16) [(.tmp 91), (.tmp 93)], (some (89, false))⟩,
      ⟨some 95, .un .not (.tmp 94), (some (89, false))⟩,
      ⟨some 96, .pick (.tmp 89) (.con (.bool true)) (.tmp 95), none⟩])
    (.cond (.tmp 96) (.seq (.region [⟨some 6, .mv (.con (.bool false)), none⟩])
    (.ret)) (.skip)))))))
  (.region [⟨some 97, .bin .add (.tmp 43) (.con (.int .i64 1)), none⟩,
    ⟨some 43, .mv (.tmp 97), none⟩])))
def B5 : ACode :=
  .seq (.region [⟨some 6, .mv (.con (.bool false)), none⟩])
  (.seq (.seq (.region [⟨some 17, .mv (.tmp 1), none⟩,
    ⟨some 18, .call (.fn 10) [(.tmp 17)], none⟩,
    ⟨some 19, .un .not (.tmp 18), none⟩])
  (.cond (.tmp 19) (.seq (.region [⟨some 20, .call (.fn 11) [], none⟩,
    ⟨some 6, .mv (.tmp 20), none⟩])
  (.ret)) (.skip)))
  (.seq (.region [⟨some 22, .mv (.tmp 0), none⟩,
    ⟨some 23, .call (.fn 12) [(.tmp 22)], none⟩,
    ⟨some 21, .mv (.tmp 23), none⟩,
    ⟨some 24, .ext 0 (.tmp 21), none⟩,
    ⟨some 25, .ext 1 (.tmp 21), none⟩,
    ⟨some 7, .mv (.tmp 24), none⟩,
    ⟨some 8, .mv (.tmp 25), none⟩])
  (.seq (.region [⟨some 27, .mv (.tmp 0), none⟩,
    ⟨some 28, .call (.fn 17) [(.tmp 27)], none⟩,
    ⟨some 26, .mv (.tmp 28), none⟩,
    ⟨some 29, .ext 0 (.tmp 26), none⟩,
    ⟨some 30, .ext 1 (.tmp 26), none⟩,
    ⟨some 9, .mv (.tmp 29), none⟩,
    ⟨some 10, .mv (.tmp 30), none⟩])
  (.seq (.seq (.region [⟨some 31, .mv (.tmp 8), none⟩,
    ⟨some 32, .mv (.tmp 10), none⟩,
    ⟨some 33, .bin .neq (.tmp 31) (.tmp 32), none⟩,
    ⟨some 34, .mv (.tmp 33), none⟩,
    ⟨some 35, .mv (.tmp 7), (some (34, false))⟩,
    ⟨some 36, .isnil 0 false (.tmp 35), (some (34, false))⟩,
    ⟨some 37, .mv (.tmp 9), (some (34, false))⟩,
    ⟨some 38, .isnil 0 false (.tmp 37), (some (34, false))⟩,
    ⟨some 39, .eqb true (.tmp 36) (.tmp 38), (some (34, false))⟩,
    ⟨some 40, .pick (.tmp 34) (.con (.bool true)) (.tmp 39), none⟩])
  (.cond (.tmp 40) (.seq (.region [⟨some 6, .mv (.con (.bool false)), none⟩])
  (.ret)) (.skip)))
  (.seq (.seq (.region [⟨some 41, .mv (.tmp 1), none⟩,
    ⟨some 42, .len false (.tmp 41), none⟩,
    ⟨some 43, .mv (.con (.int .i64 0)), none⟩])
  (.block 0 (.loop true [false, false, true, false, false, false, false, true, false, true, false, false, false, false, false, false, false, false, false, false, false, false, false, false, false, false, false, false, false, false, false, false, false, false, false, false, false, false, false, false, false, true, true, true] [false, false, false, false, false, false, true] B5L8)))
  (.seq (.region [⟨some 98, .call (.fn 11) [], none⟩,
    ⟨some 6, .mv (.tmp 98), none⟩])
  (.ret)))))))
def A5 : AFunc := { ntmps := 99, results := [.tmp 6], body := B5, coe := true, keep := 0 }
theorem tr5 : trFunc Try.prog M5 true Try.f5 = some A5 := by kernel_rfl

/-- handloom/handloomlaw29.QueueAll -/
def M6 : Marks := { cut := fun _ => true, hd := fun | 7 => [true, true, false, false, false, true, false, false, false, false, false, false, false, false, false, false, false, false, false, false, false, false, false, false, false, false, false, false, true, true, true] | 15 => [false, true, false, false, false, true, false, false, false, true, false, false, false, false, false, false, false, false, false, false, false, false, false, false, false, false, false, false, false, false, false, false, false, false, false, false, false, false, false, false, false, false, false, false, false, false, false, false, false, false, false, false, false, false, false, false, false, false, false, false, false, false, false, false, false, false, true, true, true] | _ => [], ex := fun | 7 => [true, true, false, false, false, true] | 15 => [false, true, false, false, true, false, false, false, false, true] | _ => [], imm := fun | _ => false }
abbrev H6L7 : List Bool := [true, true, false, false, false, true, false, false, false, false, false, false, false, false, false, false, false, false, false, false, false, false, false, false, false, false, false, false, true, true, true]
abbrev X6L7 : List Bool := [true, true, false, false, false, true]
def B6L7 : ACode :=
  .seq (.region [⟨some 31, .bin .lss (.tmp 30) (.tmp 29), none⟩])
  (.seq (.cond (.tmp 31) (.skip) (.exit 0))
  (.seq (.block 1 (.seq (.region [⟨some 32, .idxAddr 7 (.tmp 28) (.tmp 30), none⟩,
      ⟨some 33, .load (some 7) (.tmp 32), none⟩,
      ⟨some 8, .alloc [.ok (.int .i64 0), .ok (.int .i64 0), .ok (.int .i64 0), .error 1, .ok (.str ⟨#[]⟩), .error 5, .ok (.int .i64 0)], none⟩,
      ⟨none, .store 7 (.tmp 8) (.tmp 33), none⟩])
    (.region [⟨some 34, .mv (.tmp 5), none⟩,
      ⟨some 35, .load (some 7) (.tmp 8), none⟩,
      ⟨some 36, .call (.fn 13) [(.tmp 34), (.tmp 35)], none⟩])))
  (.region [⟨some 37, .bin .add (.tmp 30) (.con (.int .i64 1)), none⟩,
    ⟨some 30, .mv (.tmp 37), none⟩])))
abbrev H6L15 : List Bool := [false, true, false, false, false, true, false, false, false, true, false, false, false, false, false, false, false, false, false, false, false, false, false, false, false, false, false, false, false, false, false, false, false, false, false, false, false, false, false, false, false, false, false, false, false, false, false, false, false, false, false, false, false, false, false, false, false, false, false, false, false, false, false, false, false, false, true, true, true]
abbrev X6L15 : List Bool := [false, true, false, false, true, false, false, false, false, true]
def B6L15 : ACode :=
  .seq (.region [⟨some 69, .bin .lss (.tmp 68) (.tmp 67), none⟩])
  (.seq (.cond (.tmp 69) (.skip) (.exit 2))
  (.seq (.block 3 (.seq (.region [⟨some 70, .mv (.tmp 68), none⟩,
      ⟨some 71, .idxAddr 7 (.tmp 66) (.tmp 68), none⟩,
      ⟨some 72, .load (some 7) (.tmp 71), none⟩,
      ⟨some 11, .alloc [.ok (.int .i64 0), .ok (.int .i64 0), .ok (.int .i64 0), .error 1, .ok (.str ⟨#[]⟩), .error 5, .ok (.int .i64 0)], none⟩,
      ⟨some 10, .mv (.tmp 70), none⟩,
      ⟨none, .store 7 (.tmp 11) (.tmp 72), none⟩])
    (.seq (.region [⟨some 74, .mv (.tmp 5), none⟩,
      ⟨some 75, .call (.fn 14) [(.tmp 74)], none⟩,
      ⟨some 73, .mv (.tmp 75), none⟩,
      ⟨some 76, .ext 0 (.tmp 73), none⟩,
      ⟨some 77, .ext 1 (.tmp 73), none⟩,
      ⟨some 12, .alloc [.ok (.int .i64 0), .ok (.int .i64 0), .ok (.int .i64 0), .error 1, .ok (.str ⟨#[]⟩), .error 5, .ok (.int .i64 0)], none⟩,
      ⟨none, .store 7 (.tmp 12) (.tmp 76), none⟩,
      ⟨some 13, .mv (.tmp 77), none⟩])
    (.seq (.draw [⟨some 78, .mv (.tmp 13), none⟩,
      ⟨some 79, .un .not (.tmp 78), none⟩,
      ⟨some 80, .mv (.tmp 79), none⟩,
      ⟨some 81, .load (some 7) (.tmp 11), (some (80, false))⟩,
      ⟨some 82, .load (some 7) (.tmp 12), (some (80, false))⟩,
      ⟨some 83, .call (.fn 20) [(.tmp 81), (.tmp 82)], (some (80, false))⟩,
      ⟨some 84, .un .not (.tmp 83), (some (80, false))⟩,
      ⟨some 85, .pick (.tmp 80) (.con (.bool true)) (.tmp 84), none⟩,
      ⟨some 86, .mv (.tmp 85), none⟩,
      ⟨some 87, .mv (.tmp 5), (some (86, false))⟩,
      ⟨some 88, .call (.fn 15) [(.tmp 87)], (some (86, false))⟩,
      ⟨some 89, .mv (.tmp 9), (some (86, false))⟩,
      ⟨some 90, .len false (.tmp 89), (some (86, false))⟩,
      ⟨some 91, .mv (.tmp 10), (some (86, false))⟩,
      ⟨some 92, .bin .sub (.tmp 90) (.tmp 91), (some (86, false))⟩,
      ⟨some 93, .bin .sub (.tmp 92) (.con (.int .i64 1)), (some (86, false))⟩,
      ⟨some 94, .bin .neq (.tmp 88) (.tmp 93), (some (86, false))⟩,
      ⟨some 95, .pick (.tmp 86) (.con (.bool true)) (.tmp 94), none⟩,
      ⟨some 96, .mv (.tmp 95), none⟩,
      ⟨some 97, .mv (.tmp 5), (some (96, false))⟩,
      ⟨some 98, .call (.fn 22) [(.tmp 97)], (some (96, false))⟩,
      ⟨some 99, .mv (.tmp 9), (some (96, false))⟩,
      ⟨some 100, .mv (.tmp 10), (some (96, false))⟩,
      ⟨some 101, .bin .add (.tmp 100) (.con (.int .i64 1)), (some (96, false))⟩,
      ⟨some 102, .slc 7 (.tmp 99) (some (.tmp 101)) none, (some (96, false))⟩,
      ⟨some 103, .call (.fn 16) [(.tmp 98), (.tmp 102)], (some (96, false))⟩,
      ⟨some 104, .un .not (.tmp 103), (some (96, false))⟩,
      ⟨some 105, .pick (.tmp 96) (.con (.bool true)) (.tmp 104), none⟩] [])
    (.cond (.tmp 105) (.seq (.region [⟨some 4, .mv (.con (.bool false)), none⟩])
    (.ret)) (.skip))))))
  (.region [⟨some 106, .bin .add (.tmp 68) (.con (.int .i64 1)), none⟩,
    ⟨some 68, .mv (.tmp 106), none⟩])))
def B6 : ACode :=
  .seq (.region [⟨some 4, .mv (.con (.bool false)), none⟩])
  (.seq (.seq (.region [⟨some 14, .mv (.tmp 1), none⟩,
    ⟨some 15, .call (.fn 10) [(.tmp 14)], none⟩,
    ⟨some 16, .un .not (.tmp 15), none⟩])
  (.cond (.tmp 16) (.seq (.region [⟨some 17, .call (.fn 11) [], none⟩,
    ⟨some 4, .mv (.tmp 17), none⟩])
  (.ret)) (.skip)))
  (.seq (.region [⟨some 19, .mv (.tmp 0), none⟩,
    ⟨some 20, .cvt .i64 (.tmp 19), none⟩,
    ⟨some 21, .bin .rem (.tmp 20) (.con (.int .i64 32)), none⟩,
    ⟨some 22, .bin .add (.con (.int .i64 1)) (.tmp 21), none⟩,
    ⟨some 23, .call (.fn 12) [(.tmp 22)], none⟩,
    ⟨some 18, .mv (.tmp 23), none⟩,
    ⟨some 24, .ext 0 (.tmp 18), none⟩,
    ⟨some 25, .ext 1 (.tmp 18), none⟩,
    ⟨some 5, .mv (.tmp 24), none⟩,
    ⟨some 6, .mv (.tmp 25), none⟩])
  (.seq (.seq (.region [⟨some 26, .mv (.tmp 6), none⟩,
    ⟨some 27, .bin .neq (.tmp 26) (.con (.int .i64 0)), none⟩])
  (.cond (.tmp 27) (.seq (.region [⟨some 4, .mv (.con (.bool false)), none⟩])
  (.ret)) (.skip)))
  (.seq (.seq (.region [⟨some 28, .mv (.tmp 1), none⟩,
    ⟨some 29, .len false (.tmp 28), none⟩,
    ⟨some 30, .mv (.con (.int .i64 0)), none⟩])
  (.block 0 (.loop true [true, true, false, false, false, true, false, false, false, false, false, false, false, false, false, false, false, false, false, false, false, false, false, false, false, false, false, false, true, true, true] [true, true, false, false, false, true] B6L7)))
  (.seq (.region [⟨some 38, .mv (.tmp 5), none⟩,
    ⟨some 39, .call (.fn 22) [(.tmp 38)], none⟩,
    ⟨some 9, .mv (.tmp 39), none⟩])
  (.seq (.seq (.region [⟨some 40, .mv (.tmp 9), none⟩,
    ⟨some 41, .len false (.tmp 40), none⟩,
    ⟨some 42, .mv (.tmp 1), none⟩,
    ⟨some 43, .len false (.tmp 42), none⟩,
    ⟨some 44, .mv (.tmp 0), none⟩,
    ⟨some 45, .cvt .i64 (.tmp 44), none⟩,
    ⟨some 46, .bin .rem (.tmp 45) (.con (.int .i64 32)), none⟩,
    ⟨some 47, .bin .add (.con (.int .i64 1)) (.tmp 46), none⟩,
    ⟨some 48, .mnmx false [(.tmp 43), (.tmp 47)], none⟩,
    ⟨some 49, .bin .neq (.tmp 41) (.tmp 48), none⟩,
    ⟨some 50, .mv (.tmp 49), none⟩,
    ⟨some 51, .mv (.tmp 5), (some (50, false))⟩,
    ⟨some 52, .call (.fn 15) [(.tmp 51)], (some (50, false))⟩,
    ⟨some 53, .mv (.tmp 9), (some (50, false))⟩,
    ⟨some 54, .len false (.tmp 53), (some (50, false))⟩,
    ⟨some 55, .bin .neq (.tmp 52) (.tmp 54), (some (50, false))⟩,
    ⟨some 56, .pick (.tmp 50) (.con (.bool true)) (.tmp 55), none⟩,
    ⟨some 57, .mv (.tmp 56), none⟩,
    ⟨some 58, .mv (.tmp 9), (some (57, false))⟩,
    ⟨some 59, .mv (.tmp 1), (some (57, false))⟩,
    ⟨some 60, .mv (.tmp 9), (some (57, false))⟩,
    ⟨some 61, .len false (.tmp 60), (some (57, false))⟩,
    ⟨some 62, .slc 7 (.tmp 59) none (some (.tmp 61)), (some (57, false))⟩,
    ⟨some 63, .call (.fn 16) [(.tmp 58), (.tmp 62)], (some (57, false))⟩,
    ⟨some 64, .un .not (.tmp 63), (some (57, false))⟩,
    ⟨some 65, .pick (.tmp 57) (.con (.bool true)) (.tmp 64), none⟩])
  (.cond (.tmp 65) (.seq (.region [⟨some 4, .mv (.con (.bool false)), none⟩])
  (.ret)) (.skip)))
  (.seq (.seq (.region [⟨some 66, .mv (.tmp 9), none⟩,
    ⟨some 67, .len false (.tmp 66), none⟩,
    ⟨some 68, .mv (.con (.int .i64 0)), none⟩])
  (.block 2 (.loop true [false, true, false, false, false, true, false, false, false, true, false, false, false, false, false, false, false, false, false, false, false, false, false, false, false, false, false, false, false, false, false, false, false, false, false, false, false, false, false, false, false, false, false, false, false, false, false, false, false, false, false, false, false, false, false, false, false, false, false, false, false, false, false, false, false, false, true, true, true] [false, true, false, false, true, false, false, false, false, true] B6L15)))
  (.seq (.region [⟨some 107, .mv (.tmp 9), none⟩,
    ⟨some 108, .mv (.tmp 1), none⟩,
    ⟨some 109, .mv (.tmp 9), none⟩,
    ⟨some 110, .len false (.tmp 109), none⟩,
    ⟨some 111, .slc 7 (.tmp 108) none (some (.tmp 110)), none⟩,
    ⟨some 112, .call (.fn 16) [(.tmp 107), (.tmp 111)], none⟩,
    ⟨some 113, .mv (.tmp 112), none⟩,
    ⟨some 114, .call (.fn 11) [], (some (113, true))⟩,
    ⟨some 115, .pick (.tmp 113) (.tmp 114) (.con (.bool false)), none⟩,
    ⟨some 4, .mv (.tmp 115), none⟩])
  (.ret)))))))))
def A6 : AFunc := { ntmps := 116, results := [.tmp 4], body := B6, coe := true, keep := 0 }
theorem tr6 : trFunc Try.prog M6 true Try.f6 = some A6 := by kernel_rfl

/-- handloom/caps.Half -/
def M7 : Marks := { cut := fun _ => true, hd := fun | _ => [], ex := fun | _ => [], imm := fun | 8 => true | _ => false }
def B7 : ACode :=
  .seq (.region [⟨some 4, .mv (.con (.int .i64 0)), none⟩])
  (.seq (.seq (.region [⟨some 6, .mv (.tmp 0), none⟩,
    ⟨some 7, .mv (.tmp 1), none⟩,
    ⟨some 8, .lit true 1 2 [.int .i64 0] [(0, (.tmp 6)), (1, (.tmp 7))], none⟩,
    ⟨some 9, .call (.fn 24) [(.tmp 8)], none⟩,
    ⟨some 10, .un .not (.tmp 9), none⟩])
  (.cond (.tmp 10) (.seq (.region [⟨some 4, .mv (.con (.int .i64 0)), none⟩])
  (.ret)) (.skip)))
  (.seq (.region [⟨some 11, .mv (.tmp 0), none⟩,
    ⟨some 12, .bin .mul (.con (.int .i64 2)) (.tmp 11), none⟩,
    ⟨some 13, .mv (.tmp 1), none⟩,
    ⟨some 14, .bin .add (.tmp 12) (.tmp 13), none⟩,
    ⟨some 15, .bin .add (.tmp 14) (.con (.int .i64 1)), none⟩,
    ⟨some 5, .mv (.tmp 15), none⟩])
  (.seq (.region [⟨some 16, .mv (.tmp 0), none⟩,
    ⟨some 17, .mv (.tmp 5), none⟩,
    ⟨some 18, .bin .add (.tmp 17) (.con (.int .i64 2)), none⟩,
    ⟨some 19, .bin .quo (.tmp 18) (.con (.int .i64 3)), none⟩,
    ⟨some 20, .bin .add (.tmp 16) (.tmp 19), none⟩,
    ⟨some 21, .bin .add (.tmp 20) (.con (.int .i64 20)), none⟩,
    ⟨some 4, .mv (.tmp 21), none⟩])
  (.ret))))
def A7 : AFunc := { ntmps := 22, results := [.tmp 4], body := B7, coe := true, keep := 0 }
theorem tr7 : trFunc Try.prog M7 true Try.f7 = some A7 := by kernel_rfl

/-- handloom/caps.Once -/
def M8 : Marks := { cut := fun _ => true, hd := fun | _ => [], ex := fun | _ => [], imm := fun | 4 => true | _ => false }
def B8 : ACode :=
  .seq (.region [⟨some 2, .mv (.con (.int .i64 0)), none⟩])
  (.seq (.seq (.region [⟨some 3, .mv (.tmp 0), none⟩,
    ⟨some 4, .lit true 1 1 [.int .i64 0] [(0, (.tmp 3))], none⟩,
    ⟨some 5, .call (.fn 24) [(.tmp 4)], none⟩,
    ⟨some 6, .un .not (.tmp 5), none⟩])
  (.cond (.tmp 6) (.seq (.region [⟨some 2, .mv (.con (.int .i64 0)), none⟩])
  (.ret)) (.skip)))
  (.seq (.region [⟨some 7, .mv (.tmp 0), none⟩,
    ⟨some 8, .bin .mul (.con (.int .i64 12)) (.tmp 7), none⟩,
    ⟨some 9, .bin .add (.tmp 8) (.con (.int .i64 92)), none⟩,
    ⟨some 2, .mv (.tmp 9), none⟩])
  (.ret)))
def A8 : AFunc := { ntmps := 10, results := [.tmp 2], body := B8, coe := true, keep := 0 }
theorem tr8 : trFunc Try.prog M8 true Try.f8 = some A8 := by kernel_rfl

/-- handloom/handloomlaw15.awake -/
def M9 : Marks := { cut := fun _ => true, hd := fun | _ => [], ex := fun | _ => [], imm := fun | _ => false }
def B9 : ACode :=
  .seq (.region [⟨some 0, .mv (.con (.bool false)), none⟩])
  (.seq (.region [⟨some 1, .call (.fn 7) [(.con (.int .i64 30)), (.con (.int .i64 9))], none⟩,
    ⟨some 2, .bin .eql (.tmp 1) (.con (.int .i64 74)), none⟩,
    ⟨some 3, .mv (.tmp 2), none⟩,
    ⟨some 4, .call (.fn 8) [(.con (.int .i64 9))], (some (3, true))⟩,
    ⟨some 5, .bin .eql (.tmp 4) (.con (.int .i64 200)), (some (3, true))⟩,
    ⟨some 6, .pick (.tmp 3) (.tmp 5) (.con (.bool false)), none⟩,
    ⟨some 0, .mv (.tmp 6), none⟩])
  (.ret))
def A9 : AFunc := { ntmps := 7, results := [.tmp 0], body := B9, coe := true, keep := 0 }
theorem tr9 : trFunc Try.prog M9 true Try.f9 = some A9 := by kernel_rfl

/-- handloom/handloomlaw29.light -/
def M10 : Marks := { cut := fun _ => true, hd := fun | 3 => [true, false, false, true, true] | _ => [], ex := fun | 3 => [true, false, false, true] | _ => [], imm := fun | _ => false }
abbrev H10L3 : List Bool := [true, false, false, true, true]
abbrev X10L3 : List Bool := [true, false, false, true]
def B10L3 : ACode :=
  .seq (.seq (.region [⟨some 5, .mv (.tmp 4), none⟩,
    ⟨some 6, .mv (.tmp 0), none⟩,
    ⟨some 7, .len false (.tmp 6), none⟩,
    ⟨some 8, .bin .lss (.tmp 5) (.tmp 7), none⟩,
    ⟨some 9, .mv (.tmp 8), none⟩,
    ⟨some 10, .mv (.tmp 3), (some (9, true))⟩,
    ⟨some 11, .bin .geq (.tmp 10) (.con (.int .i64 0)), (some (9, true))⟩,
    ⟨some 12, .pick (.tmp 9) (.tmp 11) (.con (.bool false)), none⟩])
  (.cond (.tmp 12) (.skip) (.exit 0)))
  (.seq (.block 1 (.region [⟨some 15, .mv (.tmp 0), none⟩,
      ⟨some 16, .mv (.tmp 4), none⟩,
      ⟨some 17, .idxAddr 7 (.tmp 15) (.tmp 16), none⟩,
      ⟨some 18, .addOff 1 (.tmp 17), none⟩,
      ⟨some 19, .load (some 5) (.tmp 18), none⟩,
      ⟨some 20, .mv (.tmp 3), none⟩,
      ⟨some 21, .call (.fn 25) [(.tmp 19), (.tmp 20)], none⟩,
      ⟨some 3, .mv (.tmp 21), none⟩]))
  (.region [⟨some 13, .mv (.tmp 4), none⟩,
    ⟨some 14, .bin .add (.tmp 13) (.con (.int .i64 1)), none⟩,
    ⟨some 4, .mv (.tmp 14), none⟩]))
def B10 : ACode :=
  .seq (.region [⟨some 2, .mv (.con (.bool false)), none⟩])
  (.seq (.region [⟨some 3, .mv (.con (.int .i64 3000)), none⟩])
  (.seq (.seq (.region [⟨some 4, .mv (.con (.int .i64 0)), none⟩])
  (.block 0 (.loop true [true, false, false, true, true] [true, false, false, true] B10L3)))
  (.seq (.region [⟨some 22, .mv (.tmp 3), none⟩,
    ⟨some 23, .bin .geq (.tmp 22) (.con (.int .i64 0)), none⟩,
    ⟨some 24, .mv (.tmp 23), none⟩,
    ⟨some 25, .mv (.tmp 0), (some (24, true))⟩,
    ⟨some 26, .len false (.tmp 25), (some (24, true))⟩,
    ⟨some 27, .bin .leq (.tmp 26) (.con (.int .i64 300)), (some (24, true))⟩,
    ⟨some 28, .pick (.tmp 24) (.tmp 27) (.con (.bool false)), none⟩,
    ⟨some 2, .mv (.tmp 28), none⟩])
  (.ret))))
def A10 : AFunc := { ntmps := 29, results := [.tmp 2], body := B10, coe := true, keep := 0 }
theorem tr10 : trFunc Try.prog M10 true Try.f10 = some A10 := by kernel_rfl

/-- handloom/handloomlaw29.awake -/
def M11 : Marks := { cut := fun _ => true, hd := fun | _ => [], ex := fun | _ => [], imm := fun | _ => false }
def B11 : ACode :=
  .seq (.region [⟨some 0, .mv (.con (.bool false)), none⟩])
  (.seq (.region [⟨some 6, .call (.fn 12) [(.con (.int .i64 2))], none⟩,
    ⟨some 5, .mv (.tmp 6), none⟩,
    ⟨some 7, .ext 0 (.tmp 5), none⟩,
    ⟨some 8, .ext 1 (.tmp 5), none⟩,
    ⟨some 1, .mv (.tmp 7), none⟩,
    ⟨some 2, .mv (.tmp 8), none⟩])
  (.seq (.seq (.region [⟨some 9, .mv (.tmp 2), none⟩,
    ⟨some 10, .bin .neq (.tmp 9) (.con (.int .i64 0)), none⟩,
    ⟨some 11, .mv (.tmp 10), none⟩,
    ⟨some 12, .mv (.tmp 1), (some (11, false))⟩,
    ⟨some 13, .build [.int .i64 0, .int .i64 0, .int .i64 0, .slice 1 [], .str ⟨#[]⟩, .slice 5 [], .int .i64 0] [(6, 1, (.con (.int .i64 1)))], (some (11, false))⟩,
    ⟨some 14, .call (.fn 13) [(.tmp 12), (.tmp 13)], (some (11, false))⟩,
    ⟨some 15, .bin .neq (.tmp 14) (.con (.int .i64 0)), (some (11, false))⟩,
    ⟨some 16, .pick (.tmp 11) (.con (.bool true)) (.tmp 15), none⟩,
    ⟨some 17, .mv (.tmp 16), none⟩,
    ⟨some 18, .mv (.tmp 1), (some (17, false))⟩,
    ⟨some 19, .build [.int .i64 0, .int .i64 0, .int .i64 0, .slice 1 [], .str ⟨#[]⟩, .slice 5 [], .int .i64 0] [(6, 1, (.con (.int .i64 2)))], (some (17, false))⟩,
    ⟨some 20, .call (.fn 13) [(.tmp 18), (.tmp 19)], (some (17, false))⟩,
    ⟨some 21, .bin .neq (.tmp 20) (.con (.int .i64 0)), (some (17, false))⟩,
    ⟨some 22, .pick (.tmp 17) (.con (.bool true)) (.tmp 21), none⟩,
    ⟨some 23, .mv (.tmp 22), none⟩,
    ⟨some 24, .mv (.tmp 1), (some (23, false))⟩,
    ⟨some 25, .build [.int .i64 0, .int .i64 0, .int .i64 0, .slice 1 [], .str ⟨#[]⟩, .slice 5 [], .int .i64 0] [(6, 1, (.con (.int .i64 3)))], (some (23, false))⟩,
    ⟨some 26, .call (.fn 13) [(.tmp 24), (.tmp 25)], (some (23, false))⟩,
    ⟨some 27, .bin .neq (.tmp 26) (.con (.int .i64 25)), (some (23, false))⟩,
    ⟨some 28, .pick (.tmp 23) (.con (.bool true)) (.tmp 27), none⟩])
  (.cond (.tmp 28) (.seq (.region [⟨some 0, .mv (.con (.bool false)), none⟩])
  (.ret)) (.skip)))
  (.seq (.region [⟨some 30, .mv (.tmp 1), none⟩,
    ⟨some 31, .call (.fn 14) [(.tmp 30)], none⟩,
    ⟨some 29, .mv (.tmp 31), none⟩,
    ⟨some 32, .ext 0 (.tmp 29), none⟩,
    ⟨some 33, .ext 1 (.tmp 29), none⟩,
    ⟨some 3, .alloc [.ok (.int .i64 0), .ok (.int .i64 0), .ok (.int .i64 0), .error 1, .ok (.str ⟨#[]⟩), .error 5, .ok (.int .i64 0)], none⟩,
    ⟨none, .store 7 (.tmp 3) (.tmp 32), none⟩,
    ⟨some 4, .mv (.tmp 33), none⟩])
  (.seq (.region [⟨some 34, .mv (.tmp 4), none⟩,
    ⟨some 35, .mv (.tmp 34), none⟩,
    ⟨some 36, .addOff 6 (.tmp 3), (some (35, true))⟩,
    ⟨some 37, .load none (.tmp 36), (some (35, true))⟩,
    ⟨some 38, .bin .eql (.tmp 37) (.con (.int .i64 1)), (some (35, true))⟩,
    ⟨some 39, .pick (.tmp 35) (.tmp 38) (.con (.bool false)), none⟩,
    ⟨some 40, .mv (.tmp 39), none⟩,
    ⟨some 41, .mv (.tmp 1), (some (40, true))⟩,
    ⟨some 42, .call (.fn 15) [(.tmp 41)], (some (40, true))⟩,
    ⟨some 43, .bin .eql (.tmp 42) (.con (.int .i64 1)), (some (40, true))⟩,
    ⟨some 44, .pick (.tmp 40) (.tmp 43) (.con (.bool false)), none⟩,
    ⟨some 0, .mv (.tmp 44), none⟩])
  (.ret)))))
def A11 : AFunc := { ntmps := 45, results := [.tmp 0], body := B11, coe := true, keep := 0 }
theorem tr11 : trFunc Try.prog M11 true Try.f11 = some A11 := by kernel_rfl

/-- handloom/queue.New -/
def M12 : Marks := { cut := fun _ => true, hd := fun | _ => [], ex := fun | _ => [], imm := fun | _ => false, keep := 1 }
def B12 : ACode :=
  .seq (.region [⟨some 2, .mv (.con (.nilp)), none⟩,
    ⟨some 3, .mv (.con (.int .i64 0)), none⟩])
  (.seq (.seq (.region [⟨some 4, .mv (.tmp 0), none⟩,
    ⟨some 5, .bin .lss (.tmp 4) (.con (.int .i64 1)), none⟩,
    ⟨some 6, .mv (.tmp 5), none⟩,
    ⟨some 7, .mv (.tmp 0), (some (6, false))⟩,
    ⟨some 8, .bin .gtr (.tmp 7) (.con (.int .i64 32)), (some (6, false))⟩,
    ⟨some 9, .pick (.tmp 6) (.con (.bool true)) (.tmp 8), none⟩])
  (.cond (.tmp 9) (.seq (.region [⟨some 2, .mv (.con (.nilp)), none⟩,
    ⟨some 3, .mv (.con (.int .i64 20)), none⟩])
  (.ret)) (.skip)))
  (.seq (.region [⟨some 10, .mv (.tmp 0), none⟩,
    ⟨some 11, .build [.int .i64 0, .int .i64 0, .int .i64 0, .slice 1 [], .str ⟨#[]⟩, .slice 5 [], .int .i64 0, .int .i64 0, .int .i64 0, .int .i64 0, .slice 1 [], .str ⟨#[]⟩, .slice 5 [], .int .i64 0, .int .i64 0, .int .i64 0, .int .i64 0, .slice 1 [], .str ⟨#[]⟩, .slice 5 [], .int .i64 0, .int .i64 0, .int .i64 0, .int .i64 0, .slice 1 [], .str ⟨#[]⟩, .slice 5 [], .int .i64 0, .int .i64 0, .int .i64 0, .int .i64 0, .slice 1 [], .str ⟨#[]⟩, .slice 5 [], .int .i64 0, .int .i64 0, .int .i64 0, .int .i64 0, .slice 1 [], .str ⟨#[]⟩, .slice 5 [], .int .i64 0, .int .i64 0, .int .i64 0, .int .i64 0, .slice 1 [], .str ⟨#[]⟩, .slice 5 [], .int .i64 0, .int .i64 0, .int .i64 0, .int .i64 0, .slice 1 [], .str ⟨#[]⟩, .slice 5 [], .int .i64 0, .int .i64 0, .int .i64 0, .int .i64 0, .slice 1 [], .str ⟨#[]⟩, .slice 5 [], .int .i64 0, .int .i64 0, .int .i64 0, .int .i64 0, .slice 1 [], .str ⟨#[]⟩, .slice 5 [], .int .i64 0, .int .i64 0, .int .i64 0, .int .i64 0, .slice 1 [], .str ⟨#[]⟩, .slice 5 [], .int .i64 0, .int .i64 0, .int .i64 0, .int .i64 0, .slice 1 [], .str ⟨#[]⟩, .slice 5 [], .int .i64 0, .int .i64 0, .int .i64 0, .int .i64 0, .slice 1 [], .str ⟨#[]⟩, .slice 5 [], .int .i64 0, .int .i64 0, .int .i64 0, .int .i64 0, .slice 1 [], .str ⟨#[]⟩, .slice 5 [], .int .i64 0, .int .i64 0, .int .i64 0, .int .i64 0, .slice 1 [], .str ⟨#[]⟩, .slice 5 [], .int .i64 0, .int .i64 0, .int .i64 0, .int .i64 0, .slice 1 [], .str ⟨#[]⟩, .slice 5 [], .int .i64 0, .int .i64 0, .int .i64 0, .int .i64 0, .slice 1 [], .str ⟨#[]⟩, .slice 5 [], .int .i64 0, .int .i64 0, .int .i64 0, .int .i64 0, .slice 1 [], .str ⟨#[]⟩, .slice 5 [], .int .i64 0, .int .i64 0, .int .i64 0, .int .i64 0, .slice 1 [], .str ⟨#[]⟩, .slice 5 [], .int .i64 0, .int .i64 0, .int .i64 0, .int .i64 0, .slice 1 [], .str ⟨#[]⟩, .slice 5 [], .int .i64 0, .int .i64 0, .int .i64 0, .int .i64 0, .slice 1 [], .str ⟨#[]⟩, .slice 5 [], .int .i64 0, .int .i64 0, .int .i64 0, .int .i64 0, .slice 1 [], .str ⟨#[]⟩, .slice 5 [], .int .i64 0, .int .i64 0, .int .i64 0, .int .i64 0, .slice 1 [], .str ⟨#[]⟩, .slice 5 [], .int .i64 0, .int .i64 0, .int .i64 0, .int .i64 0, .slice 1 [], .str ⟨#[]⟩, .slice 5 [], .int .i64 0, .int .i64 0, .int .i64 0, .int .i64 0, .slice 1 [], .str ⟨#[]⟩, .slice 5 [], .int .i64 0, .int .i64 0, .int .i64 0, .int .i64 0, .slice 1 [], .str ⟨#[]⟩, .slice 5 [], .int .i64 0, .int .i64 0, .int .i64 0, .int .i64 0, .slice 1 [], .str ⟨#[]⟩, .slice 5 [], .int .i64 0, .int .i64 0, .int .i64 0, .int .i64 0, .slice 1 [], .str ⟨#[]⟩, .slice 5 [], .int .i64 0, .int .i64 0, .int .i64 0, .int .i64 0, .slice 1 [], .str ⟨#[]⟩, .slice 5 [], .int .i64 0, .int .i64 0, .int .i64 0, .int .i64 0, .slice 1 [], .str ⟨#[]⟩, .slice 5 [], .int .i64 0, .int .i64 0, .int .i64 0, .int .i64 0, .slice 1 [], .str ⟨#[]⟩, .slice 5 [], .int .i64 0, .int .i64 0, .int .i64 0, .int .i64 0, .slice 1 [], .str ⟨#[]⟩, .slice 5 [], .int .i64 0, .int .i64 0, .int .i64 0, .int .i64 0] [(226, 1, (.tmp 10))], none⟩,
    ⟨some 12, .box false (.tmp 11), none⟩,
    ⟨some 2, .mv (.tmp 12), none⟩,
    ⟨some 3, .mv (.con (.int .i64 0)), none⟩])
  (.ret)))
def A12 : AFunc := { ntmps := 13, results := [.tmp 2, .tmp 3], body := B12, coe := true, keep := 1 }
theorem tr12 : trFunc Try.prog M12 true Try.f12 = some A12 := by kernel_rfl

/-- (*handloom/queue.Queue).Put -/
def M13 : Marks := { cut := fun _ => true, hd := fun | _ => [], ex := fun | _ => [], imm := fun | 3 => true | _ => false }
def B13 : ACode :=
  .seq (.region [⟨some 3, .box true (.tmp 1), none⟩,
    ⟨some 4, .mv (.con (.int .i64 0)), none⟩])
  (.seq (.block 0 (.seq (.region [⟨some 6, .mv (.tmp 0), none⟩,
      ⟨some 7, .isnil 0 false (.tmp 6), none⟩,
      ⟨some 5, .mv (.tmp 7), none⟩])
    (.cond (.tmp 5) (.seq (.region [⟨some 4, .mv (.con (.int .i64 19)), none⟩])
    (.ret)) (.seq (.draw [⟨some 9, .mv (.tmp 0), none⟩,
      ⟨some 10, .nilchk (.tmp 9), none⟩,
      ⟨some 11, .addOff 225 (.tmp 10), none⟩,
      ⟨some 12, .load none (.tmp 11), none⟩,
      ⟨some 13, .mv (.tmp 0), none⟩,
      ⟨some 14, .nilchk (.tmp 13), none⟩,
      ⟨some 15, .addOff 226 (.tmp 14), none⟩,
      ⟨some 16, .load none (.tmp 15), none⟩,
      ⟨some 17, .bin .eql (.tmp 12) (.tmp 16), none⟩,
      ⟨some 8, .mv (.tmp 17), none⟩] [])
    (.cond (.tmp 8) (.seq (.region [⟨some 4, .mv (.con (.int .i64 25)), none⟩])
    (.ret)) (.skip))))))
  (.seq (.draw [⟨some 18, .mv (.tmp 0), none⟩,
    ⟨some 19, .mv (.tmp 0), none⟩,
    ⟨some 20, .nilchk (.tmp 19), none⟩,
    ⟨some 21, .addOff 224 (.tmp 20), none⟩,
    ⟨some 22, .load none (.tmp 21), none⟩,
    ⟨some 23, .mv (.tmp 0), none⟩,
    ⟨some 24, .nilchk (.tmp 23), none⟩,
    ⟨some 25, .addOff 225 (.tmp 24), none⟩,
    ⟨some 26, .load none (.tmp 25), none⟩,
    ⟨some 27, .bin .add (.tmp 22) (.tmp 26), none⟩,
    ⟨some 28, .bin .rem (.tmp 27) (.con (.int .i64 32)), none⟩,
    ⟨some 29, .load (some 7) (.tmp 3), none⟩,
    ⟨some 30, .nilchk (.tmp 18), none⟩,
    ⟨some 31, .addOff 0 (.tmp 30), none⟩,
    ⟨some 32, .idxArr 32 7 (.tmp 31) (.tmp 28), none⟩,
    ⟨none, .store 7 (.tmp 32) (.tmp 29), none⟩] [])
  (.seq (.region [⟨some 33, .mv (.tmp 0), none⟩,
    ⟨some 34, .nilchk (.tmp 33), none⟩,
    ⟨some 35, .addOff 225 (.tmp 34), none⟩,
    ⟨some 36, .load none (.tmp 35), none⟩,
    ⟨some 37, .bin .add (.tmp 36) (.con (.int .i64 1)), none⟩,
    ⟨some 38, .nilchk (.tmp 33), none⟩,
    ⟨some 39, .addOff 225 (.tmp 38), none⟩,
    ⟨none, .store 1 (.tmp 39) (.tmp 37), none⟩])
  (.seq (.region [⟨some 4, .mv (.con (.int .i64 0)), none⟩])
  (.ret)))))
def A13 : AFunc := { ntmps := 40, results := [.tmp 4], body := B13, coe := true, keep := 0 }
theorem tr13 : trFunc Try.prog M13 true Try.f13 = some A13 := by kernel_rfl

/-- (*handloom/queue.Queue).Take -/
def M14 : Marks := { cut := fun _ => true, hd := fun | _ => [], ex := fun | _ => [], imm := fun | _ => false, alts := fun | 3 => [[0, 1, 2, 3, 4, 5, 6, 7, 9, 8, 10], [0, 1, 2, 3, 5, 6, 9, 4, 7, 8, 10]] | _ => [] }
def B14 : ACode :=
  .seq (.region [⟨some 2, .alloc [.ok (.int .i64 0), .ok (.int .i64 0), .ok (.int .i64 0), .error 1, .ok (.str ⟨#[]⟩), .error 5, .ok (.int .i64 0)], none⟩,
    ⟨some 3, .mv (.con (.bool false)), none⟩])
  (.seq (.seq (.region [⟨some 5, .mv (.tmp 0), none⟩,
    ⟨some 6, .call (.fn 15) [(.tmp 5)], none⟩,
    ⟨some 7, .bin .eql (.tmp 6) (.con (.int .i64 0)), none⟩])
  (.cond (.tmp 7) (.seq (.region [⟨some 8, .build [.int .i64 0, .int .i64 0, .int .i64 0, .slice 1 [], .str ⟨#[]⟩, .slice 5 [], .int .i64 0] [], none⟩,
    ⟨none, .store 7 (.tmp 2) (.tmp 8), none⟩,
    ⟨some 3, .mv (.con (.bool false)), none⟩])
  (.ret)) (.skip)))
  (.seq (.draw [⟨some 9, .mv (.tmp 0), none⟩,
    ⟨some 10, .mv (.tmp 0), none⟩,
    ⟨some 11, .nilchk (.tmp 10), none⟩,
    ⟨some 12, .addOff 224 (.tmp 11), none⟩,
    ⟨some 13, .load none (.tmp 12), none⟩,
    ⟨some 14, .nilchk (.tmp 9), none⟩,
    ⟨some 15, .addOff 0 (.tmp 14), none⟩,
    ⟨some 16, .idxArr 32 7 (.tmp 15) (.tmp 13), none⟩,
    ⟨some 17, .load (some 7) (.tmp 16), none⟩,
    ⟨some 4, .alloc [.ok (.int .i64 0), .ok (.int .i64 0), .ok (.int .i64 0), .error 1, .ok (.str ⟨#[]⟩), .error 5, .ok (.int .i64 0)], none⟩,
    ⟨none, .store 7 (.tmp 4) (.tmp 17), none⟩] [[⟨some 9, .mv (.tmp 0), none⟩, ⟨some 10, .mv (.tmp 0), none⟩, ⟨some 11, .nilchk (.tmp 10), none⟩, ⟨some 12, .addOff 224 (.tmp 11), none⟩, ⟨some 13, .load none (.tmp 12), none⟩, ⟨some 14, .nilchk (.tmp 9), none⟩, ⟨some 15, .addOff 0 (.tmp 14), none⟩, ⟨some 16, .idxArr 32 7 (.tmp 15) (.tmp 13), none⟩, ⟨some 4, .alloc [.ok (.int .i64 0), .ok (.int .i64 0), .ok (.int .i64 0), .error 1, .ok (.str ⟨#[]⟩), .error 5, .ok (.int .i64 0)], none⟩, ⟨some 17, .load (some 7) (.tmp 16), none⟩, ⟨none, .store 7 (.tmp 4) (.tmp 17), none⟩], [⟨some 9, .mv (.tmp 0), none⟩, ⟨some 10, .mv (.tmp 0), none⟩, ⟨some 11, .nilchk (.tmp 10), none⟩, ⟨some 12, .addOff 224 (.tmp 11), none⟩, ⟨some 14, .nilchk (.tmp 9), none⟩, ⟨some 15, .addOff 0 (.tmp 14), none⟩, ⟨some 4, .alloc [.ok (.int .i64 0), .ok (.int .i64 0), .ok (.int .i64 0), .error 1, .ok (.str ⟨#[]⟩), .error 5, .ok (.int .i64 0)], none⟩, ⟨some 13, .load none (.tmp 12), none⟩, ⟨some 16, .idxArr 32 7 (.tmp 15) (.tmp 13), none⟩, ⟨some 17, .load (some 7) (.tmp 16), none⟩, ⟨none, .store 7 (.tmp 4) (.tmp 17), none⟩]])
  (.seq (.draw [⟨some 18, .mv (.tmp 0), none⟩,
    ⟨some 19, .mv (.tmp 0), none⟩,
    ⟨some 20, .nilchk (.tmp 19), none⟩,
    ⟨some 21, .addOff 224 (.tmp 20), none⟩,
    ⟨some 22, .load none (.tmp 21), none⟩,
    ⟨some 23, .build [.int .i64 0, .int .i64 0, .int .i64 0, .slice 1 [], .str ⟨#[]⟩, .slice 5 [], .int .i64 0] [], none⟩,
    ⟨some 24, .nilchk (.tmp 18), none⟩,
    ⟨some 25, .addOff 0 (.tmp 24), none⟩,
    ⟨some 26, .idxArr 32 7 (.tmp 25) (.tmp 22), none⟩,
    ⟨none, .store 7 (.tmp 26) (.tmp 23), none⟩] [])
  (.seq (.draw [⟨some 27, .mv (.tmp 0), none⟩,
    ⟨some 28, .mv (.tmp 0), none⟩,
    ⟨some 29, .mv (.tmp 0), none⟩,
    ⟨some 30, .nilchk (.tmp 29), none⟩,
    ⟨some 31, .addOff 224 (.tmp 30), none⟩,
    ⟨some 32, .load none (.tmp 31), none⟩,
    ⟨some 33, .bin .add (.tmp 32) (.con (.int .i64 1)), none⟩,
    ⟨some 34, .bin .rem (.tmp 33) (.con (.int .i64 32)), none⟩,
    ⟨some 35, .mv (.tmp 0), none⟩,
    ⟨some 36, .nilchk (.tmp 35), none⟩,
    ⟨some 37, .addOff 225 (.tmp 36), none⟩,
    ⟨some 38, .load none (.tmp 37), none⟩,
    ⟨some 39, .bin .sub (.tmp 38) (.con (.int .i64 1)), none⟩,
    ⟨some 40, .nilchk (.tmp 27), none⟩,
    ⟨some 41, .addOff 224 (.tmp 40), none⟩,
    ⟨none, .store 1 (.tmp 41) (.tmp 34), none⟩,
    ⟨some 42, .nilchk (.tmp 28), none⟩,
    ⟨some 43, .addOff 225 (.tmp 42), none⟩,
    ⟨none, .store 1 (.tmp 43) (.tmp 39), none⟩] [])
  (.seq (.region [⟨some 44, .load (some 7) (.tmp 4), none⟩,
    ⟨none, .store 7 (.tmp 2) (.tmp 44), none⟩,
    ⟨some 3, .mv (.con (.bool true)), none⟩])
  (.ret))))))
def A14 : AFunc := { ntmps := 45, results := [.cell (some 7) 2, .tmp 3], body := B14, coe := true, keep := 0 }
theorem tr14 : trFunc Try.prog M14 true Try.f14 = some A14 := by kernel_rfl

/-- (*handloom/queue.Queue).Len -/
def M15 : Marks := { cut := fun _ => true, hd := fun | _ => [], ex := fun | _ => [], imm := fun | _ => false }
def B15 : ACode :=
  .seq (.region [⟨some 2, .mv (.con (.int .i64 0)), none⟩])
  (.seq (.seq (.region [⟨some 3, .mv (.tmp 0), none⟩,
    ⟨some 4, .isnil 0 false (.tmp 3), none⟩])
  (.cond (.tmp 4) (.seq (.region [⟨some 2, .mv (.con (.int .i64 0)), none⟩])
  (.ret)) (.skip)))
  (.seq (.region [⟨some 5, .mv (.tmp 0), none⟩,
    ⟨some 6, .nilchk (.tmp 5), none⟩,
    ⟨some 7, .addOff 225 (.tmp 6), none⟩,
    ⟨some 8, .load none (.tmp 7), none⟩,
    ⟨some 2, .mv (.tmp 8), none⟩])
  (.ret)))
def A15 : AFunc := { ntmps := 9, results := [.tmp 2], body := B15, coe := true, keep := 0 }
theorem tr15 : trFunc Try.prog M15 true Try.f15 = some A15 := by kernel_rfl

/-- handloom/handloomref29.Same -/
def M16 : Marks := { cut := fun _ => true, hd := fun | 4 => [true, true, false, false, false, true] | _ => [], ex := fun | 4 => [false, false, false, false, true] | _ => [], imm := fun | _ => false }
abbrev H16L4 : List Bool := [true, true, false, false, false, true]
abbrev X16L4 : List Bool := [false, false, false, false, true]
def B16L4 : ACode :=
  .seq (.seq (.region [⟨some 11, .mv (.tmp 5), none⟩,
    ⟨some 12, .mv (.tmp 0), none⟩,
    ⟨some 13, .len false (.tmp 12), none⟩,
    ⟨some 14, .bin .lss (.tmp 11) (.tmp 13), none⟩])
  (.cond (.tmp 14) (.skip) (.exit 0)))
  (.seq (.block 1 (.seq (.draw [⟨some 17, .mv (.tmp 0), none⟩,
      ⟨some 18, .mv (.tmp 5), none⟩,
      ⟨some 19, .idxAddr 7 (.tmp 17) (.tmp 18), none⟩,
      ⟨some 20, .load (some 7) (.tmp 19), none⟩,
      ⟨some 21, .mv (.tmp 1), none⟩,
      ⟨some 22, .mv (.tmp 5), none⟩,
      ⟨some 23, .idxAddr 7 (.tmp 21) (.tmp 22), none⟩,
      ⟨some 24, .load (some 7) (.tmp 23), none⟩,
      ⟨some 25, .call (.fn 20) [(.tmp 20), (.tmp 24)], none⟩,
      ⟨some 26, .un .not (.tmp 25), none⟩] [])
    (.cond (.tmp 26) (.seq (.region [⟨some 4, .mv (.con (.bool false)), none⟩])
    (.ret)) (.skip))))
  (.region [⟨some 15, .mv (.tmp 5), none⟩,
    ⟨some 16, .bin .add (.tmp 15) (.con (.int .i64 1)), none⟩,
    ⟨some 5, .mv (.tmp 16), none⟩]))
def B16 : ACode :=
  .seq (.region [⟨some 4, .mv (.con (.bool false)), none⟩])
  (.seq (.seq (.region [⟨some 6, .mv (.tmp 0), none⟩,
    ⟨some 7, .len false (.tmp 6), none⟩,
    ⟨some 8, .mv (.tmp 1), none⟩,
    ⟨some 9, .len false (.tmp 8), none⟩,
    ⟨some 10, .bin .neq (.tmp 7) (.tmp 9), none⟩])
  (.cond (.tmp 10) (.seq (.region [⟨some 4, .mv (.con (.bool false)), none⟩])
  (.ret)) (.skip)))
  (.seq (.seq (.region [⟨some 5, .mv (.con (.int .i64 0)), none⟩])
  (.block 0 (.loop true [true, true, false, false, false, true] [false, false, false, false, true] B16L4)))
  (.seq (.region [⟨some 4, .mv (.con (.bool true)), none⟩])
  (.ret))))
def A16 : AFunc := { ntmps := 27, results := [.tmp 4], body := B16, coe := true, keep := 0 }
theorem tr16 : trFunc Try.prog M16 true Try.f16 = some A16 := by kernel_rfl

/-- handloom/handloomref29.New -/
def M17 : Marks := { cut := fun _ => true, hd := fun | _ => [], ex := fun | _ => [], imm := fun | _ => false, keep := 1 }
def B17 : ACode :=
  .seq (.region [⟨some 2, .mv (.con (.nilp)), none⟩,
    ⟨some 3, .mv (.con (.int .i64 0)), none⟩])
  (.seq (.seq (.region [⟨some 4, .mv (.tmp 0), none⟩,
    ⟨some 5, .bin .lss (.tmp 4) (.con (.int .i64 1)), none⟩,
    ⟨some 6, .mv (.tmp 5), none⟩,
    ⟨some 7, .mv (.tmp 0), (some (6, false))⟩,
    ⟨some 8, .bin .gtr (.tmp 7) (.con (.int .i64 32)), (some (6, false))⟩,
    ⟨some 9, .pick (.tmp 6) (.con (.bool true)) (.tmp 8), none⟩])
  (.cond (.tmp 9) (.seq (.region [⟨some 2, .mv (.con (.nilp)), none⟩,
    ⟨some 3, .mv (.con (.int .i64 20)), none⟩])
  (.ret)) (.skip)))
  (.seq (.region [⟨some 10, .mv (.tmp 0), none⟩,
    ⟨some 11, .build [.slice 7 [], .int .i64 0] [(1, 1, (.tmp 10))], none⟩,
    ⟨some 12, .box false (.tmp 11), none⟩,
    ⟨some 2, .mv (.tmp 12), none⟩,
    ⟨some 3, .mv (.con (.int .i64 0)), none⟩])
  (.ret)))
def A17 : AFunc := { ntmps := 13, results := [.tmp 2, .tmp 3], body := B17, coe := true, keep := 1 }
theorem tr17 : trFunc Try.prog M17 true Try.f17 = some A17 := by kernel_rfl

/-- (*handloom/handloomref29.Queue).Put -/
def M18 : Marks := { cut := fun _ => true, hd := fun | _ => [], ex := fun | _ => [], imm := fun | 3 => true | 21 => true | _ => false, alts := fun | 5 => [[0, 1, 3, 2, 4, 5, 6, 7, 8]] | _ => [] }
def B18 : ACode :=
  .seq (.region [⟨some 3, .box true (.tmp 1), none⟩,
    ⟨some 4, .mv (.con (.int .i64 0)), none⟩])
  (.seq (.seq (.region [⟨some 5, .mv (.tmp 0), none⟩,
    ⟨some 6, .isnil 0 false (.tmp 5), none⟩])
  (.cond (.tmp 6) (.seq (.region [⟨some 4, .mv (.con (.int .i64 19)), none⟩])
  (.ret)) (.skip)))
  (.seq (.seq (.draw [⟨some 7, .mv (.tmp 0), none⟩,
    ⟨some 8, .nilchk (.tmp 7), none⟩,
    ⟨some 9, .addOff 0 (.tmp 8), none⟩,
    ⟨some 10, .load none (.tmp 9), none⟩,
    ⟨some 11, .len false (.tmp 10), none⟩,
    ⟨some 12, .mv (.tmp 0), none⟩,
    ⟨some 13, .nilchk (.tmp 12), none⟩,
    ⟨some 14, .addOff 1 (.tmp 13), none⟩,
    ⟨some 15, .load none (.tmp 14), none⟩,
    ⟨some 16, .bin .geq (.tmp 11) (.tmp 15), none⟩] [])
  (.cond (.tmp 16) (.seq (.region [⟨some 4, .mv (.con (.int .i64 25)), none⟩])
  (.ret)) (.skip)))
  (.seq (.draw [⟨some 17, .mv (.tmp 0), none⟩,
    ⟨some 18, .mv (.tmp 0), none⟩,
    ⟨some 19, .call (.fn 23) [(.tmp 18)], none⟩,
    ⟨some 20, .load (some 7) (.tmp 3), none⟩,
    ⟨some 21, .lit true 7 1 [.int .i64 0, .int .i64 0, .int .i64 0, .slice 1 [], .str ⟨#[]⟩, .slice 5 [], .int .i64 0] [(0, (.tmp 20))], none⟩,
    ⟨some 22, .app 7 96 (.tmp 19) (.tmp 21), none⟩,
    ⟨some 23, .nilchk (.tmp 17), none⟩,
    ⟨some 24, .addOff 0 (.tmp 23), none⟩,
    ⟨none, .store 1 (.tmp 24) (.tmp 22), none⟩] [[⟨some 17, .mv (.tmp 0), none⟩, ⟨some 18, .mv (.tmp 0), none⟩, ⟨some 20, .load (some 7) (.tmp 3), none⟩, ⟨some 19, .call (.fn 23) [(.tmp 18)], none⟩, ⟨some 21, .lit true 7 1 [.int .i64 0, .int .i64 0, .int .i64 0, .slice 1 [], .str ⟨#[]⟩, .slice 5 [], .int .i64 0] [(0, (.tmp 20))], none⟩, ⟨some 22, .app 7 96 (.tmp 19) (.tmp 21), none⟩, ⟨some 23, .nilchk (.tmp 17), none⟩, ⟨some 24, .addOff 0 (.tmp 23), none⟩, ⟨none, .store 1 (.tmp 24) (.tmp 22), none⟩]])
  (.seq (.region [⟨some 4, .mv (.con (.int .i64 0)), none⟩])
  (.ret)))))
def A18 : AFunc := { ntmps := 25, results := [.tmp 4], body := B18, coe := true, keep := 0 }
theorem tr18 : trFunc Try.prog M18 true Try.f18 = some A18 := by kernel_rfl

/-- (*handloom/handloomref29.Queue).Take -/
def M19 : Marks := { cut := fun _ => true, hd := fun | _ => [], ex := fun | _ => [], imm := fun | _ => false }
def B19 : ACode :=
  .seq (.region [⟨some 2, .alloc [.ok (.int .i64 0), .ok (.int .i64 0), .ok (.int .i64 0), .error 1, .ok (.str ⟨#[]⟩), .error 5, .ok (.int .i64 0)], none⟩,
    ⟨some 3, .mv (.con (.bool false)), none⟩])
  (.seq (.seq (.region [⟨some 5, .mv (.tmp 0), none⟩,
    ⟨some 6, .isnil 0 false (.tmp 5), none⟩,
    ⟨some 7, .mv (.tmp 6), none⟩,
    ⟨some 8, .mv (.tmp 0), (some (7, false))⟩,
    ⟨some 9, .nilchk (.tmp 8), (some (7, false))⟩,
    ⟨some 10, .addOff 0 (.tmp 9), (some (7, false))⟩,
    ⟨some 11, .load none (.tmp 10), (some (7, false))⟩,
    ⟨some 12, .len false (.tmp 11), (some (7, false))⟩,
    ⟨some 13, .bin .eql (.tmp 12) (.con (.int .i64 0)), (some (7, false))⟩,
    ⟨some 14, .pick (.tmp 7) (.con (.bool true)) (.tmp 13), none⟩])
  (.cond (.tmp 14) (.seq (.region [⟨some 15, .build [.int .i64 0, .int .i64 0, .int .i64 0, .slice 1 [], .str ⟨#[]⟩, .slice 5 [], .int .i64 0] [], none⟩,
    ⟨none, .store 7 (.tmp 2) (.tmp 15), none⟩,
    ⟨some 3, .mv (.con (.bool false)), none⟩])
  (.ret)) (.skip)))
  (.seq (.region [⟨some 16, .mv (.tmp 0), none⟩,
    ⟨some 17, .nilchk (.tmp 16), none⟩,
    ⟨some 18, .addOff 0 (.tmp 17), none⟩,
    ⟨some 19, .load none (.tmp 18), none⟩,
    ⟨some 20, .idxAddr 7 (.tmp 19) (.con (.int .i64 0)), none⟩,
    ⟨some 21, .load (some 7) (.tmp 20), none⟩,
    ⟨some 4, .alloc [.ok (.int .i64 0), .ok (.int .i64 0), .ok (.int .i64 0), .error 1, .ok (.str ⟨#[]⟩), .error 5, .ok (.int .i64 0)], none⟩,
    ⟨none, .store 7 (.tmp 4) (.tmp 21), none⟩])
  (.seq (.region [⟨some 22, .mv (.tmp 0), none⟩,
    ⟨some 23, .mv (.tmp 0), none⟩,
    ⟨some 24, .nilchk (.tmp 23), none⟩,
    ⟨some 25, .addOff 0 (.tmp 24), none⟩,
    ⟨some 26, .load none (.tmp 25), none⟩,
    ⟨some 27, .slc 7 (.tmp 26) (some (.con (.int .i64 1))) none, none⟩,
    ⟨some 28, .nilchk (.tmp 22), none⟩,
    ⟨some 29, .addOff 0 (.tmp 28), none⟩,
    ⟨none, .store 1 (.tmp 29) (.tmp 27), none⟩])
  (.seq (.region [⟨some 30, .load (some 7) (.tmp 4), none⟩,
    ⟨none, .store 7 (.tmp 2) (.tmp 30), none⟩,
    ⟨some 3, .mv (.con (.bool true)), none⟩])
  (.ret)))))
def A19 : AFunc := { ntmps := 31, results := [.cell (some 7) 2, .tmp 3], body := B19, coe := true, keep := 0 }
theorem tr19 : trFunc Try.prog M19 true Try.f19 = some A19 := by kernel_rfl

/-- handloom/handloomref29.One -/
def M20 : Marks := { cut := fun _ => true, hd := fun | _ => [], ex := fun | _ => [], imm := fun | 2 => true | 3 => true | _ => false }
def B20 : ACode :=
  .seq (.region [⟨some 2, .box true (.tmp 0), none⟩,
    ⟨some 3, .box true (.tmp 1), none⟩,
    ⟨some 4, .mv (.con (.bool false)), none⟩])
  (.seq (.region [⟨some 5, .addOff 0 (.tmp 2), none⟩,
    ⟨some 6, .load none (.tmp 5), none⟩,
    ⟨some 7, .addOff 0 (.tmp 3), none⟩,
    ⟨some 8, .load none (.tmp 7), none⟩,
    ⟨some 9, .bin .eql (.tmp 6) (.tmp 8), none⟩,
    ⟨some 10, .mv (.tmp 9), none⟩,
    ⟨some 11, .addOff 6 (.tmp 2), (some (10, true))⟩,
    ⟨some 12, .load none (.tmp 11), (some (10, true))⟩,
    ⟨some 13, .addOff 6 (.tmp 3), (some (10, true))⟩,
    ⟨some 14, .load none (.tmp 13), (some (10, true))⟩,
    ⟨some 15, .bin .eql (.tmp 12) (.tmp 14), (some (10, true))⟩,
    ⟨some 16, .pick (.tmp 10) (.tmp 15) (.con (.bool false)), none⟩,
    ⟨some 17, .mv (.tmp 16), none⟩,
    ⟨some 18, .addOff 1 (.tmp 2), (some (17, true))⟩,
    ⟨some 19, .load (some 5) (.tmp 18), (some (17, true))⟩,
    ⟨some 20, .addOff 1 (.tmp 3), (some (17, true))⟩,
    ⟨some 21, .load (some 5) (.tmp 20), (some (17, true))⟩,
    ⟨some 22, .call (.fn 26) [(.tmp 19), (.tmp 21)], (some (17, true))⟩,
    ⟨some 23, .pick (.tmp 17) (.tmp 22) (.con (.bool false)), none⟩,
    ⟨some 4, .mv (.tmp 23), none⟩])
  (.ret))
def A20 : AFunc := { ntmps := 24, results := [.tmp 4], body := B20, coe := true, keep := 0 }
theorem tr20 : trFunc Try.prog M20 true Try.f20 = some A20 := by kernel_rfl

/-- (*handloom/handloomref29.Queue).Len -/
def M21 : Marks := { cut := fun _ => true, hd := fun | _ => [], ex := fun | _ => [], imm := fun | _ => false }
def B21 : ACode :=
  .seq (.region [⟨some 2, .mv (.con (.int .i64 0)), none⟩])
  (.seq (.seq (.region [⟨some 3, .mv (.tmp 0), none⟩,
    ⟨some 4, .isnil 0 false (.tmp 3), none⟩])
  (.cond (.tmp 4) (.seq (.region [⟨some 2, .mv (.con (.int .i64 0)), none⟩])
  (.ret)) (.skip)))
  (.seq (.region [⟨some 5, .mv (.tmp 0), none⟩,
    ⟨some 6, .nilchk (.tmp 5), none⟩,
    ⟨some 7, .addOff 0 (.tmp 6), none⟩,
    ⟨some 8, .load none (.tmp 7), none⟩,
    ⟨some 9, .len false (.tmp 8), none⟩,
    ⟨some 2, .mv (.tmp 9), none⟩])
  (.ret)))
def A21 : AFunc := { ntmps := 10, results := [.tmp 2], body := B21, coe := true, keep := 0 }
theorem tr21 : trFunc Try.prog M21 true Try.f21 = some A21 := by kernel_rfl

/-- (*handloom/queue.Queue).All -/
def M22 : Marks := { cut := fun _ => true, hd := fun | _ => [], ex := fun | _ => [], imm := fun | 10 => true | _ => false, sn := fun | 4 => [false, false, false, true] | _ => [] }
abbrev S22R0 : List Bool := [false, false, false, true]
def N22R0 : ACode :=
  .region [⟨some 4, .alloc [.ok (.int .i64 0), .ok (.int .i64 0), .ok (.int .i64 0), .error 1, .ok (.str ⟨#[]⟩), .error 5, .ok (.int .i64 0)], none⟩,
    ⟨none, .store 7 (.tmp 4) (.tmp 7), none⟩]
def B22R0 : ACode :=
  .block 1 (.region [⟨some 8, .load none (.tmp 3), none⟩,
      ⟨some 9, .load (some 7) (.tmp 4), none⟩,
      ⟨some 10, .lit true 7 1 [.int .i64 0, .int .i64 0, .int .i64 0, .slice 1 [], .str ⟨#[]⟩, .slice 5 [], .int .i64 0] [(0, (.tmp 9))], none⟩,
      ⟨some 11, .app 7 96 (.tmp 8) (.tmp 10), none⟩,
      ⟨none, .store 1 (.tmp 3) (.tmp 11), none⟩])
def B22 : ACode :=
  .seq (.region [⟨some 2, .nilrow 7, none⟩])
  (.seq (.region [⟨some 3, .alloc [.error 7], none⟩])
  (.seq (.seq (.region [⟨some 5, .mv (.tmp 0), none⟩,
    ⟨some 6, .call (.fn 27) [(.tmp 5)], none⟩])
  (.block 0 (.rangeFn (.tmp 6) [7] [false, false, false, true] N22R0 B22R0)))
  (.seq (.region [⟨some 12, .load none (.tmp 3), none⟩,
    ⟨some 2, .mv (.tmp 12), none⟩])
  (.ret))))
def A22 : AFunc := { ntmps := 13, results := [.tmp 2], body := B22, coe := true, keep := 0 }
theorem tr22 : trFunc Try.prog M22 true Try.f22 = some A22 := by kernel_rfl

/-- (*handloom/handloomref29.Queue).All -/
def M23 : Marks := { cut := fun _ => true, hd := fun | _ => [], ex := fun | _ => [], imm := fun | _ => false, keep := 2 }
def B23 : ACode :=
  .seq (.region [⟨some 2, .nilrow 7, none⟩])
  (.seq (.region [⟨some 3, .nilrow 7, none⟩])
  (.seq (.seq (.region [⟨some 4, .mv (.tmp 0), none⟩,
    ⟨some 5, .isnil 0 true (.tmp 4), none⟩])
  (.cond (.tmp 5) (.region [⟨some 6, .mv (.tmp 3), none⟩,
    ⟨some 7, .mv (.tmp 0), none⟩,
    ⟨some 8, .nilchk (.tmp 7), none⟩,
    ⟨some 9, .addOff 0 (.tmp 8), none⟩,
    ⟨some 10, .load none (.tmp 9), none⟩,
    ⟨some 11, .app 7 96 (.tmp 6) (.tmp 10), none⟩,
    ⟨some 3, .mv (.tmp 11), none⟩]) (.skip)))
  (.seq (.region [⟨some 12, .mv (.tmp 3), none⟩,
    ⟨some 2, .mv (.tmp 12), none⟩])
  (.ret))))
def A23 : AFunc := { ntmps := 13, results := [.tmp 2], body := B23, coe := true, keep := 2 }
theorem tr23 : trFunc Try.prog M23 true Try.f23 = some A23 := by kernel_rfl

/-- handloom/caps.right -/
def M24 : Marks := { cut := fun _ => true, hd := fun | 2 => [false, false, false, false, false, true, true, true] | _ => [], ex := fun | 2 => [false, false, true] | _ => [], imm := fun | _ => false }
abbrev H24L2 : List Bool := [false, false, false, false, false, true, true, true]
abbrev X24L2 : List Bool := [false, false, true]
def B24L2 : ACode :=
  .seq (.region [⟨some 8, .bin .lss (.tmp 7) (.tmp 6), none⟩])
  (.seq (.cond (.tmp 8) (.skip) (.exit 0))
  (.seq (.block 1 (.seq (.region [⟨some 9, .idxAddr 1 (.tmp 5) (.tmp 7), none⟩,
      ⟨some 10, .load none (.tmp 9), none⟩,
      ⟨some 4, .mv (.tmp 10), none⟩])
    (.seq (.region [⟨some 11, .mv (.tmp 4), none⟩,
      ⟨some 12, .bin .lss (.tmp 11) (.con (.int .i64 0)), none⟩,
      ⟨some 13, .mv (.tmp 12), none⟩,
      ⟨some 14, .mv (.tmp 4), (some (13, false))⟩,
      ⟨some 15, .bin .gtr (.tmp 14) (.con (.int .i64 2199023255552)), (some (13, false))⟩,
      ⟨some 16, .pick (.tmp 13) (.con (.bool true)) (.tmp 15), none⟩])
    (.cond (.tmp 16) (.seq (.region [⟨some 2, .mv (.con (.bool false)), none⟩])
    (.ret)) (.skip)))))
  (.region [⟨some 17, .bin .add (.tmp 7) (.con (.int .i64 1)), none⟩,
    ⟨some 7, .mv (.tmp 17), none⟩])))
def B24 : ACode :=
  .seq (.region [⟨some 2, .mv (.con (.bool false)), none⟩])
  (.seq (.seq (.region [⟨some 5, .mv (.tmp 0), none⟩,
    ⟨some 6, .len false (.tmp 5), none⟩,
    ⟨some 7, .mv (.con (.int .i64 0)), none⟩])
  (.block 0 (.loop true [false, false, false, false, false, true, true, true] [false, false, true] B24L2)))
  (.seq (.region [⟨some 2, .mv (.con (.bool true)), none⟩])
  (.ret)))
def A24 : AFunc := { ntmps := 18, results := [.tmp 2], body := B24, coe := true, keep := 0 }
theorem tr24 : trFunc Try.prog M24 true Try.f24 = some A24 := by kernel_rfl

/-- handloom/handloomref08.Light -/
def M25 : Marks := { cut := fun _ => true, hd := fun | 3 => [false, true, true, false, false, true] | _ => [], ex := fun | 3 => [false, true] | _ => [], imm := fun | 2 => true | _ => false }
abbrev H25L3 : List Bool := [false, true, true, false, false, true]
abbrev X25L3 : List Bool := [false, true]
def B25L3 : ACode :=
  .seq (.seq (.region [⟨some 18, .mv (.tmp 5), none⟩,
    ⟨some 19, .addOff 4 (.tmp 2), none⟩,
    ⟨some 20, .load none (.tmp 19), none⟩,
    ⟨some 21, .len false (.tmp 20), none⟩,
    ⟨some 22, .bin .lss (.tmp 18) (.tmp 21), none⟩,
    ⟨some 23, .mv (.tmp 22), none⟩,
    ⟨some 24, .mv (.tmp 1), (some (23, true))⟩,
    ⟨some 25, .bin .geq (.tmp 24) (.con (.int .i64 0)), (some (23, true))⟩,
    ⟨some 26, .pick (.tmp 23) (.tmp 25) (.con (.bool false)), none⟩])
  (.cond (.tmp 26) (.skip) (.exit 0)))
  (.seq (.block 1 (.region [⟨some 29, .addOff 4 (.tmp 2), none⟩,
      ⟨some 30, .load none (.tmp 29), none⟩,
      ⟨some 31, .mv (.tmp 5), none⟩,
      ⟨some 32, .idxAddr 5 (.tmp 30) (.tmp 31), none⟩,
      ⟨some 33, .load (some 5) (.tmp 32), none⟩,
      ⟨some 34, .mv (.tmp 1), none⟩,
      ⟨some 35, .call (.fn 25) [(.tmp 33), (.tmp 34)], none⟩,
      ⟨some 1, .mv (.tmp 35), none⟩]))
  (.region [⟨some 27, .mv (.tmp 5), none⟩,
    ⟨some 28, .bin .add (.tmp 27) (.con (.int .i64 1)), none⟩,
    ⟨some 5, .mv (.tmp 28), none⟩]))
def B25 : ACode :=
  .seq (.region [⟨some 2, .box true (.tmp 0), none⟩,
    ⟨some 4, .mv (.con (.int .i64 0)), none⟩])
  (.seq (.region [⟨some 6, .mv (.tmp 1), none⟩,
    ⟨some 7, .bin .sub (.tmp 6) (.con (.int .i64 1)), none⟩,
    ⟨some 8, .addOff 2 (.tmp 2), none⟩,
    ⟨some 9, .load none (.tmp 8), none⟩,
    ⟨some 10, .len false (.tmp 9), none⟩,
    ⟨some 11, .mnmx false [(.tmp 10), (.con (.int .i64 1048576))], none⟩,
    ⟨some 12, .bin .sub (.tmp 7) (.tmp 11), none⟩,
    ⟨some 13, .addOff 3 (.tmp 2), none⟩,
    ⟨some 14, .load none (.tmp 13), none⟩,
    ⟨some 15, .len true (.tmp 14), none⟩,
    ⟨some 16, .mnmx false [(.tmp 15), (.con (.int .i64 1048576))], none⟩,
    ⟨some 17, .bin .sub (.tmp 12) (.tmp 16), none⟩,
    ⟨some 1, .mv (.tmp 17), none⟩])
  (.seq (.seq (.region [⟨some 5, .mv (.con (.int .i64 0)), none⟩])
  (.block 0 (.loop true [false, true, true, false, false, true] [false, true] B25L3)))
  (.seq (.region [⟨some 36, .mv (.tmp 1), none⟩,
    ⟨some 4, .mv (.tmp 36), none⟩])
  (.ret))))
def A25 : AFunc := { ntmps := 37, results := [.tmp 4], body := B25, coe := true, keep := 0 }
theorem tr25 : trFunc Try.prog M25 true Try.f25 = some A25 := by kernel_rfl

/-- handloom/handloomref08.Same -/
def M26 : Marks := { cut := fun _ => true, hd := fun | 4 => [false, false, true, true, false, true] | _ => [], ex := fun | 4 => [false, false, false, false, true] | _ => [], imm := fun | 2 => true | 3 => true | _ => false }
abbrev H26L4 : List Bool := [false, false, true, true, false, true]
abbrev X26L4 : List Bool := [false, false, false, false, true]
def B26L4 : ACode :=
  .seq (.seq (.region [⟨some 43, .mv (.tmp 5), none⟩,
    ⟨some 44, .addOff 4 (.tmp 2), none⟩,
    ⟨some 45, .load none (.tmp 44), none⟩,
    ⟨some 46, .len false (.tmp 45), none⟩,
    ⟨some 47, .bin .lss (.tmp 43) (.tmp 46), none⟩])
  (.cond (.tmp 47) (.skip) (.exit 0)))
  (.seq (.block 1 (.seq (.draw [⟨some 50, .addOff 4 (.tmp 2), none⟩,
      ⟨some 51, .load none (.tmp 50), none⟩,
      ⟨some 52, .mv (.tmp 5), none⟩,
      ⟨some 53, .idxAddr 5 (.tmp 51) (.tmp 52), none⟩,
      ⟨some 54, .load (some 5) (.tmp 53), none⟩,
      ⟨some 55, .addOff 4 (.tmp 3), none⟩,
      ⟨some 56, .load none (.tmp 55), none⟩,
      ⟨some 57, .mv (.tmp 5), none⟩,
      ⟨some 58, .idxAddr 5 (.tmp 56) (.tmp 57), none⟩,
      ⟨some 59, .load (some 5) (.tmp 58), none⟩,
      ⟨some 60, .call (.fn 26) [(.tmp 54), (.tmp 59)], none⟩,
      ⟨some 61, .un .not (.tmp 60), none⟩] [])
    (.cond (.tmp 61) (.seq (.region [⟨some 4, .mv (.con (.bool false)), none⟩])
    (.ret)) (.skip))))
  (.region [⟨some 48, .mv (.tmp 5), none⟩,
    ⟨some 49, .bin .add (.tmp 48) (.con (.int .i64 1)), none⟩,
    ⟨some 5, .mv (.tmp 49), none⟩]))
def B26 : ACode :=
  .seq (.region [⟨some 2, .box true (.tmp 0), none⟩,
    ⟨some 3, .box true (.tmp 1), none⟩,
    ⟨some 4, .mv (.con (.bool false)), none⟩])
  (.seq (.seq (.region [⟨some 6, .addOff 0 (.tmp 2), none⟩,
    ⟨some 7, .load none (.tmp 6), none⟩,
    ⟨some 8, .addOff 0 (.tmp 3), none⟩,
    ⟨some 9, .load none (.tmp 8), none⟩,
    ⟨some 10, .bin .neq (.tmp 7) (.tmp 9), none⟩,
    ⟨some 11, .mv (.tmp 10), none⟩,
    ⟨some 12, .addOff 1 (.tmp 2), (some (11, false))⟩,
    ⟨some 13, .load none (.tmp 12), (some (11, false))⟩,
    ⟨some 14, .addOff 1 (.tmp 3), (some (11, false))⟩,
    ⟨some 15, .load none (.tmp 14), (some (11, false))⟩,
    ⟨some 16, .bin .neq (.tmp 13) (.tmp 15), (some (11, false))⟩,
    ⟨some 17, .pick (.tmp 11) (.con (.bool true)) (.tmp 16), none⟩,
    ⟨some 18, .mv (.tmp 17), none⟩,
    ⟨some 19, .addOff 2 (.tmp 2), (some (18, false))⟩,
    ⟨some 20, .load none (.tmp 19), (some (18, false))⟩,
    ⟨some 21, .bstr (.tmp 20), (some (18, false))⟩,
    ⟨some 22, .addOff 2 (.tmp 3), (some (18, false))⟩,
    ⟨some 23, .load none (.tmp 22), (some (18, false))⟩,
    ⟨some 24, .bstr (.tmp 23), (some (18, false))⟩,
    ⟨some 25, .bin .neq (.tmp 21) (.tmp 24), (some (18, false))⟩,
    ⟨some 26, .pick (.tmp 18) (.con (.bool true)) (.tmp 25), none⟩,
    ⟨some 27, .mv (.tmp 26), none⟩,
    ⟨some 28, .addOff 3 (.tmp 2), (some (27, false))⟩,
    ⟨some 29, .load none (.tmp 28), (some (27, false))⟩,
    ⟨some 30, .addOff 3 (.tmp 3), (some (27, false))⟩,
    ⟨some 31, .load none (.tmp 30), (some (27, false))⟩,
    ⟨some 32, .bin .neq (.tmp 29) (.tmp 31), (some (27, false))⟩,
    ⟨some 33, .pick (.tmp 27) (.con (.bool true)) (.tmp 32), none⟩,
    ⟨some 34, .mv (.tmp 33), none⟩,
    ⟨some 35, .addOff 4 (.tmp 2), (some (34, false))⟩,
    ⟨some 36, .load none (.tmp 35), (some (34, false))⟩,
    ⟨some 37, .len false (.tmp 36), (some (34, false))⟩,
    ⟨some 38, .addOff 4 (.tmp 3), (some (34, false))⟩,
    ⟨some 39, .load none (.tmp 38), (some (34, false))⟩,
    ⟨some 40, .len false (.tmp 39), (some (34, false))⟩,
    ⟨some 41, .bin .neq (.tmp 37) (.tmp 40), (some (34, false))⟩,
    ⟨some 42, .pick (.tmp 34) (.con (.bool true)) (.tmp 41), none⟩])
  (.cond (.tmp 42) (.seq (.region [⟨some 4, .mv (.con (.bool false)), none⟩])
  (.ret)) (.skip)))
  (.seq (.seq (.region [⟨some 5, .mv (.con (.int .i64 0)), none⟩])
  (.block 0 (.loop true [false, false, true, true, false, true] [false, false, false, false, true] B26L4)))
  (.seq (.region [⟨some 4, .mv (.con (.bool true)), none⟩])
  (.ret))))
def A26 : AFunc := { ntmps := 62, results := [.tmp 4], body := B26, coe := true, keep := 0 }
theorem tr26 : trFunc Try.prog M26 true Try.f26 = some A26 := by kernel_rfl

/-- (*handloom/queue.Queue).waiting -/
def M27 : Marks := { cut := fun _ => true, hd := fun | _ => [], ex := fun | _ => [], imm := fun | _ => false, keep := 1 }
def B27 : ACode :=
  .seq (.region [⟨some 1, .box false (.tmp 0), none⟩,
    ⟨some 2, .mv (.con (.nilf)), none⟩])
  (.seq (.region [⟨some 3, .mkf (.func 28) [] [(.tmp 1)], none⟩,
    ⟨some 2, .mv (.tmp 3), none⟩])
  (.ret))
def A27 : AFunc := { ntmps := 4, results := [.tmp 2], body := B27, coe := true, keep := 1 }
theorem tr27 : trFunc Try.prog M27 true Try.f27 = some A27 := by kernel_rfl

/-- (*handloom/queue.Queue).waiting$1 -/
def M28 : Marks := { cut := fun _ => true, hd := fun | 1 => [true, true, false, false, false, true, true] | _ => [], ex := fun | 1 => [] | _ => [], imm := fun | _ => false }
abbrev H28L1 : List Bool := [true, true, false, false, false, true, true]
abbrev X28L1 : List Bool := []
def B28L1 : ACode :=
  .seq (.region [⟨some 7, .bin .lss (.tmp 6) (.tmp 5), none⟩])
  (.seq (.cond (.tmp 7) (.skip) (.exit 0))
  (.seq (.block 1 (.seq (.region [⟨some 8, .mv (.tmp 6), none⟩,
      ⟨some 3, .mv (.tmp 8), none⟩])
    (.seq (.draw [⟨some 9, .mv (.tmp 0), none⟩,
      ⟨some 10, .load none (.tmp 1), none⟩,
      ⟨some 11, .load none (.tmp 1), none⟩,
      ⟨some 12, .nilchk (.tmp 11), none⟩,
      ⟨some 13, .addOff 224 (.tmp 12), none⟩,
      ⟨some 14, .load none (.tmp 13), none⟩,
      ⟨some 15, .mv (.tmp 3), none⟩,
      ⟨some 16, .bin .add (.tmp 14) (.tmp 15), none⟩,
      ⟨some 17, .bin .rem (.tmp 16) (.con (.int .i64 32)), none⟩,
      ⟨some 18, .nilchk (.tmp 10), none⟩,
      ⟨some 19, .addOff 0 (.tmp 18), none⟩,
      ⟨some 20, .idxArr 32 7 (.tmp 19) (.tmp 17), none⟩,
      ⟨some 21, .load (some 7) (.tmp 20), none⟩,
      ⟨some 22, .call (.tmp 9) [(.tmp 21)], none⟩,
      ⟨some 23, .un .not (.tmp 22), none⟩] [])
    (.cond (.tmp 23) (.ret) (.skip)))))
  (.region [⟨some 24, .bin .add (.tmp 6) (.con (.int .i64 1)), none⟩,
    ⟨some 6, .mv (.tmp 24), none⟩])))
def B28 : ACode :=
  .seq (.region [⟨some 4, .load none (.tmp 1), none⟩,
    ⟨some 5, .call (.fn 15) [(.tmp 4)], none⟩,
    ⟨some 6, .mv (.con (.int .i64 0)), none⟩])
  (.block 0 (.loop true [true, true, false, false, false, true, true] [] B28L1))
def A28 : AFunc := { ntmps := 25, results := [], body := B28, coe := true, keep := 0 }
theorem tr28 : trFunc Try.prog M28 true Try.f28 = some A28 := by kernel_rfl

/-- The functions' deep codes, and nothing else. -/
def env : Env := { af := fun | 2 => some A2 | 3 => some A3 | 4 => some A4 | 5 => some A5 | 6 => some A6 | 7 => some A7 | 8 => some A8 | 9 => some A9 | 10 => some A10 | 11 => some A11 | 12 => some A12 | 13 => some A13 | 14 => some A14 | 15 => some A15 | 16 => some A16 | 17 => some A17 | 18 => some A18 | 19 => some A19 | 20 => some A20 | 21 => some A21 | 22 => some A22 | 23 => some A23 | 24 => some A24 | 25 => some A25 | 26 => some A26 | 27 => some A27 | 28 => some A28 | _ => none, ext := fun _ => none }
theorem env_ok : EnvOk Try.prog env where
  af := fun g F h => by
    unfold env at h
    simp only at h
    split at h
    · cases h; exact ⟨Try.f2, M2, true, by kernel_rfl, by kernel_rfl, tr2⟩
    · cases h; exact ⟨Try.f3, M3, true, by kernel_rfl, by kernel_rfl, tr3⟩
    · cases h; exact ⟨Try.f4, M4, true, by kernel_rfl, by kernel_rfl, tr4⟩
    · cases h; exact ⟨Try.f5, M5, true, by kernel_rfl, by kernel_rfl, tr5⟩
    · cases h; exact ⟨Try.f6, M6, true, by kernel_rfl, by kernel_rfl, tr6⟩
    · cases h; exact ⟨Try.f7, M7, true, by kernel_rfl, by kernel_rfl, tr7⟩
    · cases h; exact ⟨Try.f8, M8, true, by kernel_rfl, by kernel_rfl, tr8⟩
    · cases h; exact ⟨Try.f9, M9, true, by kernel_rfl, by kernel_rfl, tr9⟩
    · cases h; exact ⟨Try.f10, M10, true, by kernel_rfl, by kernel_rfl, tr10⟩
    · cases h; exact ⟨Try.f11, M11, true, by kernel_rfl, by kernel_rfl, tr11⟩
    · cases h; exact ⟨Try.f12, M12, true, by kernel_rfl, by kernel_rfl, tr12⟩
    · cases h; exact ⟨Try.f13, M13, true, by kernel_rfl, by kernel_rfl, tr13⟩
    · cases h; exact ⟨Try.f14, M14, true, by kernel_rfl, by kernel_rfl, tr14⟩
    · cases h; exact ⟨Try.f15, M15, true, by kernel_rfl, by kernel_rfl, tr15⟩
    · cases h; exact ⟨Try.f16, M16, true, by kernel_rfl, by kernel_rfl, tr16⟩
    · cases h; exact ⟨Try.f17, M17, true, by kernel_rfl, by kernel_rfl, tr17⟩
    · cases h; exact ⟨Try.f18, M18, true, by kernel_rfl, by kernel_rfl, tr18⟩
    · cases h; exact ⟨Try.f19, M19, true, by kernel_rfl, by kernel_rfl, tr19⟩
    · cases h; exact ⟨Try.f20, M20, true, by kernel_rfl, by kernel_rfl, tr20⟩
    · cases h; exact ⟨Try.f21, M21, true, by kernel_rfl, by kernel_rfl, tr21⟩
    · cases h; exact ⟨Try.f22, M22, true, by kernel_rfl, by kernel_rfl, tr22⟩
    · cases h; exact ⟨Try.f23, M23, true, by kernel_rfl, by kernel_rfl, tr23⟩
    · cases h; exact ⟨Try.f24, M24, true, by kernel_rfl, by kernel_rfl, tr24⟩
    · cases h; exact ⟨Try.f25, M25, true, by kernel_rfl, by kernel_rfl, tr25⟩
    · cases h; exact ⟨Try.f26, M26, true, by kernel_rfl, by kernel_rfl, tr26⟩
    · cases h; exact ⟨Try.f27, M27, true, by kernel_rfl, by kernel_rfl, tr27⟩
    · cases h; exact ⟨Try.f28, M28, true, by kernel_rfl, by kernel_rfl, tr28⟩
    · cases h
  ext := fun g F h => by cases h

end Go.Proofs.Ytoadpaaghjomnaa.Codes
