/-
  The deep codes of functions, each with the fact that it is that of the function's code. Written by wip/gen/deep.py.
  Conditions: none.
-/
import Derived.Test.YtoadpaaghjomnaaDoorDV
import Derived.Test.YtoadpaaghjomnaaDoorProg
import Derived.KernelRfl
set_option maxRecDepth 100000
namespace Go.Proofs.YtoadpaaghjomnaaDoor.Codes
open Go.Deepv

/-- handloom/handloomlaw28.ImageLines -/
def M3 : Marks := { cut := fun _ => true, hd := fun | 5 => [false, true, true, false, false, true, false, false, false, false, false, false, false, false, false, false, false, false, false, false, false, false, false, false, true, true] | 8 => [false, true, true, false, false, true, true, true, false, false, false, false, false, false, false, false, false, false, false, false, false, false, false, false, true, true] | 15 => [false, true, true, false, false, true, false, false, true, true, true] | 23 => [false, true, true, false, false, false, false, false, false, false, false, true, false, false, false, false, false, false, false, false, false, false, false, false, false, false, false, false, false, false, false, false, false, false, false, false, false, false, false, false, false, false, false, false, false, false, false, false, false, false, false, false, false, false, false, false, false, false, false, false, false, false, false, false, false, false, false, false, false, false, false, false, false, false, false, false, false, false, false, false, false, false, false, false, false, false, false, false, false, false, false, false, false, false, false, false, false, false, false, false, false, false, false, false, false, false, false, false, false, false, false, false, false, false, false, false, false, false, false, false, true, true] | _ => [], ex := fun | 5 => [false, true, true, false, false, true] | 8 => [false, true, true, false, false, true, false, false, false, false, false, false, false, false, false, false, false, false, false, false, false, false, false, false, true, true] | 15 => [false, true, true, false, false, true, false, false, true, true] | 23 => [false, false, false, false, true] | _ => [], imm := fun | 2 => true | _ => false }
abbrev H3L8 : List Bool := [false, true, true, false, false, true, true, true, false, false, false, false, false, false, false, false, false, false, false, false, false, false, false, false, true, true]
abbrev X3L8 : List Bool := [false, true, true, false, false, true, false, false, false, false, false, false, false, false, false, false, false, false, false, false, false, false, false, false, true, true]
def B3L8 : ACode :=
  .seq (.seq (.region [⟨some 28, .mv (.tmp 7), none⟩,
    ⟨some 29, .addOff 7 (.tmp 2), none⟩,
    ⟨some 30, .load none (.tmp 29), none⟩,
    ⟨some 31, .mv (.tmp 6), none⟩,
    ⟨some 32, .idxAddr 6 (.tmp 30) (.tmp 31), none⟩,
    ⟨some 33, .addOff 0 (.tmp 32), none⟩,
    ⟨some 34, .load none (.tmp 33), none⟩,
    ⟨some 35, .len true (.tmp 34), none⟩,
    ⟨some 36, .bin .lss (.tmp 28) (.tmp 35), none⟩,
    ⟨some 37, .mv (.tmp 36), none⟩,
    ⟨some 38, .mv (.tmp 6), (some (37, true))⟩,
    ⟨some 39, .addOff 12 (.tmp 2), (some (37, true))⟩,
    ⟨some 40, .addOff 9 (.tmp 39), (some (37, true))⟩,
    ⟨some 41, .load none (.tmp 40), (some (37, true))⟩,
    ⟨some 42, .len false (.tmp 41), (some (37, true))⟩,
    ⟨some 43, .bin .lss (.tmp 38) (.tmp 42), (some (37, true))⟩,
    ⟨some 44, .pick (.tmp 37) (.tmp 43) (.con (.bool false)), none⟩])
  (.cond (.tmp 44) (.skip) (.exit 2)))
  (.seq (.block 3 (.seq (.region [⟨some 47, .addOff 7 (.tmp 2), none⟩,
      ⟨some 48, .load none (.tmp 47), none⟩,
      ⟨some 49, .mv (.tmp 6), none⟩,
      ⟨some 50, .idxAddr 6 (.tmp 48) (.tmp 49), none⟩,
      ⟨some 51, .addOff 0 (.tmp 50), none⟩,
      ⟨some 52, .load none (.tmp 51), none⟩,
      ⟨some 53, .mv (.tmp 7), none⟩,
      ⟨some 54, .idxStr (.tmp 52) (.tmp 53), none⟩,
      ⟨some 55, .bin .eql (.tmp 54) (.con (.int .u8 10)), none⟩])
    (.cond (.tmp 55) (.region [⟨some 56, .mv (.tmp 5), none⟩,
      ⟨some 57, .bin .add (.tmp 56) (.con (.int .i64 1)), none⟩,
      ⟨some 5, .mv (.tmp 57), none⟩]) (.skip))))
  (.region [⟨some 45, .mv (.tmp 7), none⟩,
    ⟨some 46, .bin .add (.tmp 45) (.con (.int .i64 1)), none⟩,
    ⟨some 7, .mv (.tmp 46), none⟩]))
abbrev H3L5 : List Bool := [false, true, true, false, false, true, false, false, false, false, false, false, false, false, false, false, false, false, false, false, false, false, false, false, true, true]
abbrev X3L5 : List Bool := [false, true, true, false, false, true]
def B3L5 : ACode :=
  .seq (.region [⟨some 26, .bin .lss (.tmp 25) (.tmp 24), none⟩])
  (.seq (.cond (.tmp 26) (.skip) (.exit 0))
  (.seq (.block 1 (.seq (.region [⟨some 27, .mv (.tmp 25), none⟩,
      ⟨some 6, .mv (.tmp 27), none⟩])
    (.seq (.region [⟨some 7, .mv (.con (.int .i64 0)), none⟩])
    (.block 2 (.loop true [false, true, true, false, false, true, true, true, false, false, false, false, false, false, false, false, false, false, false, false, false, false, false, false, true, true] [false, true, true, false, false, true, false, false, false, false, false, false, false, false, false, false, false, false, false, false, false, false, false, false, true, true] B3L8)))))
  (.region [⟨some 58, .bin .add (.tmp 25) (.con (.int .i64 1)), none⟩,
    ⟨some 25, .mv (.tmp 58), none⟩])))
abbrev H3L15 : List Bool := [false, true, true, false, false, true, false, false, true, true, true]
abbrev X3L15 : List Bool := [false, true, true, false, false, true, false, false, true, true]
def B3L15 : ACode :=
  .seq (.seq (.region [⟨some 61, .mv (.tmp 10), none⟩,
    ⟨some 62, .mv (.tmp 8), none⟩,
    ⟨some 63, .len true (.tmp 62), none⟩,
    ⟨some 64, .bin .lss (.tmp 61) (.tmp 63), none⟩])
  (.cond (.tmp 64) (.skip) (.exit 4)))
  (.seq (.block 5 (.seq (.region [⟨some 67, .mv (.tmp 8), none⟩,
      ⟨some 68, .mv (.tmp 10), none⟩,
      ⟨some 69, .idxStr (.tmp 67) (.tmp 68), none⟩,
      ⟨some 70, .bin .eql (.tmp 69) (.con (.int .u8 10)), none⟩])
    (.cond (.tmp 70) (.region [⟨some 71, .mv (.tmp 9), none⟩,
      ⟨some 72, .bin .add (.tmp 71) (.con (.int .i64 1)), none⟩,
      ⟨some 9, .mv (.tmp 72), none⟩]) (.skip))))
  (.region [⟨some 65, .mv (.tmp 10), none⟩,
    ⟨some 66, .bin .add (.tmp 65) (.con (.int .i64 1)), none⟩,
    ⟨some 10, .mv (.tmp 66), none⟩]))
abbrev H3L23 : List Bool := [false, true, true, false, false, false, false, false, false, false, false, true, false, false, false, false, false, false, false, false, false, false, false, false, false, false, false, false, false, false, false, false, false, false, false, false, false, false, false, false, false, false, false, false, false, false, false, false, false, false, false, false, false, false, false, false, false, false, false, false, false, false, false, false, false, false, false, false, false, false, false, false, false, false, false, false, false, false, false, false, false, false, false, false, false, false, false, false, false, false, false, false, false, false, false, false, false, false, false, false, false, false, false, false, false, false, false, false, false, false, false, false, false, false, false, false, false, false, false, false, true, true]
abbrev X3L23 : List Bool := [false, false, false, false, true]
def B3L23 : ACode :=
  .seq (.region [⟨some 122, .bin .lss (.tmp 121) (.tmp 120), none⟩])
  (.seq (.cond (.tmp 122) (.skip) (.exit 6))
  (.seq (.block 7 (.seq (.region [⟨some 123, .mv (.tmp 121), none⟩,
      ⟨some 12, .mv (.tmp 123), none⟩])
    (.seq (.region [⟨some 124, .mv (.tmp 11), none⟩,
      ⟨some 125, .bin .lss (.tmp 124) (.con (.int .i64 0)), none⟩,
      ⟨some 126, .mv (.tmp 125), none⟩,
      ⟨some 127, .mv (.tmp 12), (some (126, false))⟩,
      ⟨some 128, .mv (.tmp 11), (some (126, false))⟩,
      ⟨some 129, .bin .lss (.tmp 127) (.tmp 128), (some (126, false))⟩,
      ⟨some 130, .pick (.tmp 126) (.con (.bool true)) (.tmp 129), none⟩,
      ⟨some 131, .mv (.tmp 130), none⟩,
      ⟨some 132, .addOff 7 (.tmp 2), (some (131, true))⟩,
      ⟨some 133, .load none (.tmp 132), (some (131, true))⟩,
      ⟨some 134, .mv (.tmp 12), (some (131, true))⟩,
      ⟨some 135, .idxAddr 6 (.tmp 133) (.tmp 134), (some (131, true))⟩,
      ⟨some 136, .addOff 0 (.tmp 135), (some (131, true))⟩,
      ⟨some 137, .load none (.tmp 136), (some (131, true))⟩,
      ⟨some 138, .mv (.tmp 1), (some (131, true))⟩,
      ⟨some 139, .bin .eql (.tmp 137) (.tmp 138), (some (131, true))⟩,
      ⟨some 140, .pick (.tmp 131) (.tmp 139) (.con (.bool false)), none⟩])
    (.cond (.tmp 140) (.seq (.region [⟨some 4, .mv (.con (.bool false)), none⟩])
    (.ret)) (.skip)))))
  (.region [⟨some 141, .bin .add (.tmp 121) (.con (.int .i64 1)), none⟩,
    ⟨some 121, .mv (.tmp 141), none⟩])))
def B3 : ACode :=
  .seq (.region [⟨some 2, .box true (.tmp 0), none⟩,
    ⟨some 4, .mv (.con (.bool false)), none⟩])
  (.seq (.seq (.region [⟨some 13, .load (some 22) (.tmp 2), none⟩,
    ⟨some 14, .call (.fn 8) [(.tmp 13)], none⟩,
    ⟨some 15, .un .not (.tmp 14), none⟩,
    ⟨some 16, .mv (.tmp 15), none⟩,
    ⟨some 17, .mv (.tmp 1), (some (16, false))⟩,
    ⟨some 18, .len true (.tmp 17), (some (16, false))⟩,
    ⟨some 19, .bin .gtr (.tmp 18) (.con (.int .i64 300)), (some (16, false))⟩,
    ⟨some 20, .pick (.tmp 16) (.con (.bool true)) (.tmp 19), none⟩])
  (.cond (.tmp 20) (.seq (.region [⟨some 21, .call (.fn 9) [], none⟩,
    ⟨some 4, .mv (.tmp 21), none⟩])
  (.ret)) (.skip)))
  (.seq (.region [⟨some 5, .mv (.con (.int .i64 0)), none⟩])
  (.seq (.seq (.region [⟨some 22, .addOff 7 (.tmp 2), none⟩,
    ⟨some 23, .load none (.tmp 22), none⟩,
    ⟨some 24, .len false (.tmp 23), none⟩,
    ⟨some 25, .mv (.con (.int .i64 0)), none⟩])
  (.block 0 (.loop true [false, true, true, false, false, true, false, false, false, false, false, false, false, false, false, false, false, false, false, false, false, false, false, false, true, true] [false, true, true, false, false, true] B3L5)))
  (.seq (.region [⟨some 59, .load (some 22) (.tmp 2), none⟩,
    ⟨some 60, .call (.fn 10) [(.tmp 59)], none⟩,
    ⟨some 8, .mv (.tmp 60), none⟩,
    ⟨some 9, .mv (.con (.int .i64 0)), none⟩])
  (.seq (.seq (.region [⟨some 10, .mv (.con (.int .i64 0)), none⟩])
  (.block 4 (.loop true [false, true, true, false, false, true, false, false, true, true, true] [false, true, true, false, false, true, false, false, true, true] B3L15)))
  (.seq (.region [⟨some 73, .load (some 22) (.tmp 2), none⟩,
    ⟨some 74, .mv (.tmp 1), none⟩,
    ⟨some 75, .call (.fn 11) [(.tmp 73), (.tmp 74)], none⟩,
    ⟨some 11, .mv (.tmp 75), none⟩])
  (.seq (.seq (.region [⟨some 76, .mv (.tmp 9), none⟩,
    ⟨some 77, .addOff 12 (.tmp 2), none⟩,
    ⟨some 78, .addOff 9 (.tmp 77), none⟩,
    ⟨some 79, .load none (.tmp 78), none⟩,
    ⟨some 80, .len false (.tmp 79), none⟩,
    ⟨some 81, .bin .add (.con (.int .i64 5)) (.tmp 80), none⟩,
    ⟨some 82, .mv (.tmp 5), none⟩,
    ⟨some 83, .bin .add (.tmp 81) (.tmp 82), none⟩,
    ⟨some 84, .bin .neq (.tmp 76) (.tmp 83), none⟩,
    ⟨some 85, .mv (.tmp 84), none⟩,
    ⟨some 86, .mv (.tmp 8), (some (85, false))⟩,
    ⟨some 87, .bin .eql (.tmp 86) (.con (.str ⟨#[]⟩)), (some (85, false))⟩,
    ⟨some 88, .pick (.tmp 85) (.con (.bool true)) (.tmp 87), none⟩,
    ⟨some 89, .mv (.tmp 88), none⟩,
    ⟨some 90, .mv (.tmp 8), (some (89, false))⟩,
    ⟨some 91, .mv (.tmp 8), (some (89, false))⟩,
    ⟨some 92, .len true (.tmp 91), (some (89, false))⟩,
    ⟨some 93, .bin .sub (.tmp 92) (.con (.int .i64 1)), (some (89, false))⟩,
    ⟨some 94, .idxStr (.tmp 90) (.tmp 93), (some (89, false))⟩,
    ⟨some 95, .bin .neq (.tmp 94) (.con (.int .u8 10)), (some (89, false))⟩,
    ⟨some 96, .pick (.tmp 89) (.con (.bool true)) (.tmp 95), none⟩,
    ⟨some 97, .mv (.tmp 96), none⟩,
    ⟨some 98, .mv (.tmp 11), (some (97, false))⟩,
    ⟨some 99, .addOff 7 (.tmp 2), (some (97, false))⟩,
    ⟨some 100, .load none (.tmp 99), (some (97, false))⟩,
    ⟨some 101, .len false (.tmp 100), (some (97, false))⟩,
    ⟨some 102, .bin .geq (.tmp 98) (.tmp 101), (some (97, false))⟩,
    ⟨some 103, .pick (.tmp 97) (.con (.bool true)) (.tmp 102), none⟩,
    ⟨some 104, .mv (.tmp 103), none⟩,
    ⟨some 105, .mv (.tmp 11), (some (104, false))⟩,
    ⟨some 106, .bin .geq (.tmp 105) (.con (.int .i64 0)), (some (104, false))⟩,
    ⟨some 107, .mv (.tmp 106), (some (104, false))⟩,
    ⟨some 108, .addOff 7 (.tmp 2), (some (107, true))⟩,
    ⟨some 109, .load none (.tmp 108), (some (107, true))⟩,
    ⟨some 110, .mv (.tmp 11), (some (107, true))⟩,
    ⟨some 111, .idxAddr 6 (.tmp 109) (.tmp 110), (some (107, true))⟩,
    ⟨some 112, .addOff 0 (.tmp 111), (some (107, true))⟩,
    ⟨some 113, .load none (.tmp 112), (some (107, true))⟩,
    ⟨some 114, .mv (.tmp 1), (some (107, true))⟩,
    ⟨some 115, .bin .neq (.tmp 113) (.tmp 114), (some (107, true))⟩,
    ⟨some 116, .pick (.tmp 107) (.tmp 115) (.con (.bool false)), (some (104, false))⟩,
    ⟨some 117, .pick (.tmp 104) (.con (.bool true)) (.tmp 116), none⟩])
  (.cond (.tmp 117) (.seq (.region [⟨some 4, .mv (.con (.bool false)), none⟩])
  (.ret)) (.skip)))
  (.seq (.seq (.region [⟨some 118, .addOff 7 (.tmp 2), none⟩,
    ⟨some 119, .load none (.tmp 118), none⟩,
    ⟨some 120, .len false (.tmp 119), none⟩,
    ⟨some 121, .mv (.con (.int .i64 0)), none⟩])
  (.block 6 (.loop true [false, true, true, false, false, false, false, false, false, false, false, true, false, false, false, false, false, false, false, false, false, false, false, false, false, false, false, false, false, false, false, false, false, false, false, false, false, false, false, false, false, false, false, false, false, false, false, false, false, false, false, false, false, false, false, false, false, false, false, false, false, false, false, false, false, false, false, false, false, false, false, false, false, false, false, false, false, false, false, false, false, false, false, false, false, false, false, false, false, false, false, false, false, false, false, false, false, false, false, false, false, false, false, false, false, false, false, false, false, false, false, false, false, false, false, false, false, false, false, false, true, true] [false, false, false, false, true] B3L23)))
  (.seq (.region [⟨some 142, .call (.fn 9) [], none⟩,
    ⟨some 4, .mv (.tmp 142), none⟩])
  (.ret))))))))))
def A3 : AFunc := { ntmps := 143, results := [.tmp 4], body := B3, coe := true, keep := 0 }
theorem tr3 : trFunc Tryd.prog M3 true Tryd.f3 = some A3 := by kernel_rfl

/-- handloom/handloomlaw28.tiny -/
def M8 : Marks := { cut := fun _ => true, hd := fun | 3 => [false, true, false, true, true] | _ => [], ex := fun | 3 => [false, true, false, true] | _ => [], imm := fun | 1 => true | _ => false }
abbrev H8L3 : List Bool := [false, true, false, true, true]
abbrev X8L3 : List Bool := [false, true, false, true]
def B8L3 : ACode :=
  .seq (.seq (.region [⟨some 8, .mv (.tmp 4), none⟩,
    ⟨some 9, .addOff 7 (.tmp 1), none⟩,
    ⟨some 10, .load none (.tmp 9), none⟩,
    ⟨some 11, .len false (.tmp 10), none⟩,
    ⟨some 12, .bin .lss (.tmp 8) (.tmp 11), none⟩,
    ⟨some 13, .mv (.tmp 12), none⟩,
    ⟨some 14, .mv (.tmp 3), (some (13, true))⟩,
    ⟨some 15, .bin .geq (.tmp 14) (.con (.int .i64 0)), (some (13, true))⟩,
    ⟨some 16, .pick (.tmp 13) (.tmp 15) (.con (.bool false)), none⟩])
  (.cond (.tmp 16) (.skip) (.exit 0)))
  (.seq (.block 1 (.draw [⟨some 19, .addOff 7 (.tmp 1), none⟩,
      ⟨some 20, .load none (.tmp 19), none⟩,
      ⟨some 21, .mv (.tmp 4), none⟩,
      ⟨some 22, .idxAddr 6 (.tmp 20) (.tmp 21), none⟩,
      ⟨some 23, .addOff 1 (.tmp 22), none⟩,
      ⟨some 24, .load (some 3) (.tmp 23), none⟩,
      ⟨some 25, .mv (.tmp 3), none⟩,
      ⟨some 26, .bin .sub (.tmp 25) (.con (.int .i64 1)), none⟩,
      ⟨some 27, .addOff 7 (.tmp 1), none⟩,
      ⟨some 28, .load none (.tmp 27), none⟩,
      ⟨some 29, .mv (.tmp 4), none⟩,
      ⟨some 30, .idxAddr 6 (.tmp 28) (.tmp 29), none⟩,
      ⟨some 31, .addOff 0 (.tmp 30), none⟩,
      ⟨some 32, .load none (.tmp 31), none⟩,
      ⟨some 33, .len true (.tmp 32), none⟩,
      ⟨some 34, .mnmx false [(.tmp 33), (.con (.int .i64 1000))], none⟩,
      ⟨some 35, .bin .sub (.tmp 26) (.tmp 34), none⟩,
      ⟨some 36, .call (.fn 23) [(.tmp 24), (.tmp 35)], none⟩,
      ⟨some 3, .mv (.tmp 36), none⟩] []))
  (.region [⟨some 17, .mv (.tmp 4), none⟩,
    ⟨some 18, .bin .add (.tmp 17) (.con (.int .i64 1)), none⟩,
    ⟨some 4, .mv (.tmp 18), none⟩]))
def B8 : ACode :=
  .seq (.region [⟨some 1, .box true (.tmp 0), none⟩,
    ⟨some 2, .mv (.con (.bool false)), none⟩])
  (.seq (.region [⟨some 5, .addOff 1 (.tmp 1), none⟩,
    ⟨some 6, .load (some 3) (.tmp 5), none⟩,
    ⟨some 7, .call (.fn 23) [(.tmp 6), (.con (.int .i64 1000))], none⟩,
    ⟨some 3, .mv (.tmp 7), none⟩])
  (.seq (.seq (.region [⟨some 4, .mv (.con (.int .i64 0)), none⟩])
  (.block 0 (.loop true [false, true, false, true, true] [false, true, false, true] B8L3)))
  (.seq (.region [⟨some 37, .mv (.tmp 3), none⟩,
    ⟨some 38, .bin .geq (.tmp 37) (.con (.int .i64 0)), none⟩,
    ⟨some 39, .mv (.tmp 38), none⟩,
    ⟨some 40, .addOff 12 (.tmp 1), (some (39, true))⟩,
    ⟨some 41, .addOff 9 (.tmp 40), (some (39, true))⟩,
    ⟨some 42, .load none (.tmp 41), (some (39, true))⟩,
    ⟨some 43, .len false (.tmp 42), (some (39, true))⟩,
    ⟨some 44, .bin .leq (.tmp 43) (.con (.int .i64 100)), (some (39, true))⟩,
    ⟨some 45, .pick (.tmp 39) (.tmp 44) (.con (.bool false)), none⟩,
    ⟨some 46, .mv (.tmp 45), none⟩,
    ⟨some 47, .addOff 0 (.tmp 1), (some (46, true))⟩,
    ⟨some 48, .load none (.tmp 47), (some (46, true))⟩,
    ⟨some 49, .len false (.tmp 48), (some (46, true))⟩,
    ⟨some 50, .bin .leq (.tmp 49) (.con (.int .i64 60)), (some (46, true))⟩,
    ⟨some 51, .pick (.tmp 46) (.tmp 50) (.con (.bool false)), none⟩,
    ⟨some 52, .mv (.tmp 51), none⟩,
    ⟨some 53, .addOff 0 (.tmp 1), (some (52, true))⟩,
    ⟨some 54, .load none (.tmp 53), (some (52, true))⟩,
    ⟨some 55, .build [.slice 4 [], .slice 15 [], .int .i64 0, .int .i64 0, .int .i64 0, .str ⟨#[]⟩, .slice 3 [], .int .i64 0, .int .i64 0, .int .i64 0, .int .i64 0, .int .i64 0, .slice 1 [], .str ⟨#[]⟩, .slice 8 [], .slice 14 [], .slice 16 []] [(0, 1, (.tmp 54))], (some (52, true))⟩,
    ⟨some 56, .call (.fn 24) [(.tmp 55), (.con (.int .i64 2000))], (some (52, true))⟩,
    ⟨some 57, .bin .geq (.tmp 56) (.con (.int .i64 0)), (some (52, true))⟩,
    ⟨some 58, .pick (.tmp 52) (.tmp 57) (.con (.bool false)), none⟩,
    ⟨some 59, .mv (.tmp 58), none⟩,
    ⟨some 60, .addOff 9 (.tmp 1), (some (59, true))⟩,
    ⟨some 61, .load (some 3) (.tmp 60), (some (59, true))⟩,
    ⟨some 62, .call (.fn 25) [(.tmp 61), (.con (.int .i64 2000))], (some (59, true))⟩,
    ⟨some 63, .pick (.tmp 59) (.tmp 62) (.con (.bool false)), none⟩,
    ⟨some 2, .mv (.tmp 63), none⟩])
  (.ret))))
def A8 : AFunc := { ntmps := 64, results := [.tmp 2], body := B8, coe := true, keep := 0 }
theorem tr8 : trFunc Tryd.prog M8 true Tryd.f8 = some A8 := by kernel_rfl

/-- handloom/handloomlaw28.awake -/
def M9 : Marks := { cut := fun _ => true, hd := fun | _ => [], ex := fun | _ => [], imm := fun | _ => false }
def B9 : ACode :=
  .seq (.region [⟨some 0, .mv (.con (.bool false)), none⟩])
  (.seq (.region [⟨some 1, .build [.slice 4 [], .int .i64 0, .str ⟨#[]⟩, .slice 3 [], .int .i64 0, .int .i64 0, .int .i64 0, .slice 6 [], .int .i64 0, .slice 4 [], .slice 1 [], .slice 1 [], .int .i64 0, .int .i64 0, .int .i64 0, .int .i64 0, .int .i64 0, .int .i64 0, .int .i64 0, .int .i64 0, .int .i64 0, .slice 4 []] [], none⟩,
    ⟨some 2, .call (.fn 10) [(.tmp 1)], none⟩,
    ⟨some 3, .bin .eql (.tmp 2) (.con (.str ⟨#[104, 101, 97, 112, 32, 48, 10, 104, 97, 108, 102, 32, 48, 10, 108, 105, 118, 101, 32, 48, 10, 116, 97, 120, 32, 48, 32, 48, 10, 101, 118, 101, 110, 116, 32, 48, 10]⟩)), none⟩,
    ⟨some 4, .mv (.tmp 3), none⟩,
    ⟨some 5, .build [.slice 4 [], .int .i64 0, .str ⟨#[]⟩, .slice 3 [], .int .i64 0, .int .i64 0, .int .i64 0, .slice 6 [], .int .i64 0, .slice 4 [], .slice 1 [], .slice 1 [], .int .i64 0, .int .i64 0, .int .i64 0, .int .i64 0, .int .i64 0, .int .i64 0, .int .i64 0, .int .i64 0, .int .i64 0, .slice 4 []] [], (some (4, true))⟩,
    ⟨some 6, .call (.fn 11) [(.tmp 5), (.con (.str ⟨#[97]⟩))], (some (4, true))⟩,
    ⟨some 7, .bin .eql (.tmp 6) (.con (.int .i64 (-1))), (some (4, true))⟩,
    ⟨some 8, .pick (.tmp 4) (.tmp 7) (.con (.bool false)), none⟩,
    ⟨some 0, .mv (.tmp 8), none⟩])
  (.ret))
def A9 : AFunc := { ntmps := 9, results := [.tmp 0], body := B9, coe := true, keep := 0 }
theorem tr9 : trFunc Tryd.prog M9 true Tryd.f9 = some A9 := by kernel_rfl

/-- handloom/image.Show -/
def M10 : Marks := { cut := fun _ => true, hd := fun | 9 => [false, true, false, false, true, false, false, false, false, false, false, false, false, false, false, false, false, false, false, false, false, false, false, false, false, false, false, false, false, false, false, false, false, false, false, false, false, false, false, false, false, false, false, false, false, false, false, false, false, true, true, true] | _ => [], ex := fun | 9 => [false, false, false, false, true] | _ => [], imm := fun | 1 => true | 14 => true | 21 => true | 28 => true | 38 => true | 45 => true | 82 => true | _ => false }
abbrev H10L9 : List Bool := [false, true, false, false, true, false, false, false, false, false, false, false, false, false, false, false, false, false, false, false, false, false, false, false, false, false, false, false, false, false, false, false, false, false, false, false, false, false, false, false, false, false, false, false, false, false, false, false, false, true, true, true]
abbrev X10L9 : List Bool := [false, false, false, false, true]
def B10L9 : ACode :=
  .seq (.region [⟨some 52, .bin .lss (.tmp 51) (.tmp 50), none⟩])
  (.seq (.cond (.tmp 52) (.skip) (.exit 0))
  (.seq (.block 1 (.seq (.region [⟨some 53, .mv (.tmp 51), none⟩,
      ⟨some 54, .idxAddr 4 (.tmp 49) (.tmp 51), none⟩,
      ⟨some 55, .load (some 4) (.tmp 54), none⟩,
      ⟨some 6, .alloc [.ok (.int .i64 0), .ok (.int .i64 0), .ok (.int .i64 0), .ok (.int .i64 0)], none⟩,
      ⟨some 5, .mv (.tmp 53), none⟩,
      ⟨none, .store 4 (.tmp 6) (.tmp 55), none⟩])
    (.seq (.region [⟨some 7, .mv (.con (.str ⟨#[]⟩)), none⟩])
    (.seq (.seq (.region [⟨some 56, .mv (.tmp 5), none⟩,
      ⟨some 57, .addOff 7 (.tmp 1), none⟩,
      ⟨some 58, .load none (.tmp 57), none⟩,
      ⟨some 59, .len false (.tmp 58), none⟩,
      ⟨some 60, .bin .lss (.tmp 56) (.tmp 59), none⟩])
    (.cond (.tmp 60) (.region [⟨some 61, .addOff 7 (.tmp 1), none⟩,
      ⟨some 62, .load none (.tmp 61), none⟩,
      ⟨some 63, .mv (.tmp 5), none⟩,
      ⟨some 64, .idxAddr 6 (.tmp 62) (.tmp 63), none⟩,
      ⟨some 65, .addOff 0 (.tmp 64), none⟩,
      ⟨some 66, .load none (.tmp 65), none⟩,
      ⟨some 7, .mv (.tmp 66), none⟩]) (.skip)))
    (.region [⟨some 67, .mki 9 (.con (.str ⟨#[111, 110]⟩)), none⟩,
      ⟨some 68, .mv (.tmp 7), none⟩,
      ⟨some 69, .mki 9 (.tmp 68), none⟩,
      ⟨some 70, .addOff 0 (.tmp 6), none⟩,
      ⟨some 71, .load none (.tmp 70), none⟩,
      ⟨some 72, .mki 3 (.tmp 71), none⟩,
      ⟨some 73, .addOff 1 (.tmp 6), none⟩,
      ⟨some 74, .load none (.tmp 73), none⟩,
      ⟨some 75, .mki 3 (.tmp 74), none⟩,
      ⟨some 76, .addOff 2 (.tmp 6), none⟩,
      ⟨some 77, .load none (.tmp 76), none⟩,
      ⟨some 78, .mki 3 (.tmp 77), none⟩,
      ⟨some 79, .addOff 3 (.tmp 6), none⟩,
      ⟨some 80, .load none (.tmp 79), none⟩,
      ⟨some 81, .mki 3 (.tmp 80), none⟩,
      ⟨some 82, .lit true 0 1 6 [.nili] [(0, (.tmp 67)), (1, (.tmp 69)), (2, (.tmp 72)), (3, (.tmp 75)), (4, (.tmp 78)), (5, (.tmp 81))], none⟩,
      ⟨some 83, .call (.fn 27) [(.tmp 82)], none⟩,
      ⟨some 84, .call (.fn 26) [(.tmp 4), (.tmp 83)], none⟩])))))
  (.region [⟨some 85, .bin .add (.tmp 51) (.con (.int .i64 1)), none⟩,
    ⟨some 51, .mv (.tmp 85), none⟩])))
def B10 : ACode :=
  .seq (.region [⟨some 1, .box true (.tmp 0), none⟩,
    ⟨some 2, .mv (.con (.str ⟨#[]⟩)), none⟩])
  (.seq (.region [⟨some 8, .addOff 12 (.tmp 1), none⟩,
    ⟨some 9, .load (some 10) (.tmp 8), none⟩,
    ⟨some 3, .alloc [.ok (.int .i64 0), .ok (.int .i64 0), .ok (.int .i64 0), .ok (.int .i64 0), .ok (.int .i64 0), .ok (.int .i64 0), .ok (.int .i64 0), .ok (.int .i64 0), .ok (.int .i64 0), .error 4], none⟩,
    ⟨none, .store 10 (.tmp 3) (.tmp 9), none⟩])
  (.seq (.region [⟨some 4, .alloc [.ok (.nilp), .error 1] 76, none⟩])
  (.seq (.region [⟨some 10, .mki 9 (.con (.str ⟨#[104, 101, 97, 112]⟩)), none⟩,
    ⟨some 11, .addOff 5 (.tmp 3), none⟩,
    ⟨some 12, .load none (.tmp 11), none⟩,
    ⟨some 13, .mki 3 (.tmp 12), none⟩,
    ⟨some 14, .lit true 0 1 2 [.nili] [(0, (.tmp 10)), (1, (.tmp 13))], none⟩,
    ⟨some 15, .call (.fn 27) [(.tmp 14)], none⟩,
    ⟨some 16, .call (.fn 26) [(.tmp 4), (.tmp 15)], none⟩])
  (.seq (.region [⟨some 17, .mki 9 (.con (.str ⟨#[104, 97, 108, 102]⟩)), none⟩,
    ⟨some 18, .addOff 4 (.tmp 3), none⟩,
    ⟨some 19, .load none (.tmp 18), none⟩,
    ⟨some 20, .mki 3 (.tmp 19), none⟩,
    ⟨some 21, .lit true 0 1 2 [.nili] [(0, (.tmp 17)), (1, (.tmp 20))], none⟩,
    ⟨some 22, .call (.fn 27) [(.tmp 21)], none⟩,
    ⟨some 23, .call (.fn 26) [(.tmp 4), (.tmp 22)], none⟩])
  (.seq (.region [⟨some 24, .mki 9 (.con (.str ⟨#[108, 105, 118, 101]⟩)), none⟩,
    ⟨some 25, .addOff 3 (.tmp 3), none⟩,
    ⟨some 26, .load none (.tmp 25), none⟩,
    ⟨some 27, .mki 3 (.tmp 26), none⟩,
    ⟨some 28, .lit true 0 1 2 [.nili] [(0, (.tmp 24)), (1, (.tmp 27))], none⟩,
    ⟨some 29, .call (.fn 27) [(.tmp 28)], none⟩,
    ⟨some 30, .call (.fn 26) [(.tmp 4), (.tmp 29)], none⟩])
  (.seq (.region [⟨some 31, .mki 9 (.con (.str ⟨#[116, 97, 120]⟩)), none⟩,
    ⟨some 32, .addOff 6 (.tmp 3), none⟩,
    ⟨some 33, .load none (.tmp 32), none⟩,
    ⟨some 34, .mki 3 (.tmp 33), none⟩,
    ⟨some 35, .addOff 7 (.tmp 3), none⟩,
    ⟨some 36, .load none (.tmp 35), none⟩,
    ⟨some 37, .mki 3 (.tmp 36), none⟩,
    ⟨some 38, .lit true 0 1 3 [.nili] [(0, (.tmp 31)), (1, (.tmp 34)), (2, (.tmp 37))], none⟩,
    ⟨some 39, .call (.fn 27) [(.tmp 38)], none⟩,
    ⟨some 40, .call (.fn 26) [(.tmp 4), (.tmp 39)], none⟩])
  (.seq (.region [⟨some 41, .mki 9 (.con (.str ⟨#[101, 118, 101, 110, 116]⟩)), none⟩,
    ⟨some 42, .addOff 8 (.tmp 3), none⟩,
    ⟨some 43, .load none (.tmp 42), none⟩,
    ⟨some 44, .mki 3 (.tmp 43), none⟩,
    ⟨some 45, .lit true 0 1 2 [.nili] [(0, (.tmp 41)), (1, (.tmp 44))], none⟩,
    ⟨some 46, .call (.fn 27) [(.tmp 45)], none⟩,
    ⟨some 47, .call (.fn 26) [(.tmp 4), (.tmp 46)], none⟩])
  (.seq (.seq (.region [⟨some 48, .addOff 9 (.tmp 3), none⟩,
    ⟨some 49, .load none (.tmp 48), none⟩,
    ⟨some 50, .len false (.tmp 49), none⟩,
    ⟨some 51, .mv (.con (.int .i64 0)), none⟩])
  (.block 0 (.loop true [false, true, false, false, true, false, false, false, false, false, false, false, false, false, false, false, false, false, false, false, false, false, false, false, false, false, false, false, false, false, false, false, false, false, false, false, false, false, false, false, false, false, false, false, false, false, false, false, false, true, true, true] [false, false, false, false, true] B10L9)))
  (.seq (.region [⟨some 86, .call (.fn 28) [(.tmp 4)], none⟩,
    ⟨some 2, .mv (.tmp 86), none⟩])
  (.ret))))))))))
def A10 : AFunc := { ntmps := 87, results := [.tmp 2], body := B10, coe := true, keep := 0 }
theorem tr10 : trFunc Tryd.prog M10 true Tryd.f10 = some A10 := by kernel_rfl

/-- handloom/image.Find -/
def M11 : Marks := { cut := fun _ => true, hd := fun | _ => [], ex := fun | _ => [], imm := fun | 2 => true | _ => false }
def B11 : ACode :=
  .seq (.region [⟨some 2, .box true (.tmp 0), none⟩,
    ⟨some 3, .box false (.tmp 1), none⟩,
    ⟨some 4, .mv (.con (.int .i64 0)), none⟩])
  (.seq (.region [⟨some 5, .addOff 7 (.tmp 2), none⟩,
    ⟨some 6, .load none (.tmp 5), none⟩,
    ⟨some 7, .mkf (.func 30) [] [(.tmp 3)], none⟩,
    ⟨some 8, .call (.fn 29) [(.tmp 6), (.tmp 7)], none⟩,
    ⟨some 4, .mv (.tmp 8), none⟩])
  (.ret))
def A11 : AFunc := { ntmps := 9, results := [.tmp 4], body := B11, coe := true, keep := 0 }
theorem tr11 : trFunc Tryd.prog M11 true Tryd.f11 = some A11 := by kernel_rfl

/-- handloom/handloomref04.LightType -/
def M23 : Marks := { cut := fun _ => true, hd := fun | 3 => [false, true, true, false, false, true] | _ => [], ex := fun | 3 => [false, true] | _ => [], imm := fun | 2 => true | _ => false }
abbrev H23L3 : List Bool := [false, true, true, false, false, true]
abbrev X23L3 : List Bool := [false, true]
def B23L3 : ACode :=
  .seq (.seq (.region [⟨some 13, .mv (.tmp 5), none⟩,
    ⟨some 14, .addOff 2 (.tmp 2), none⟩,
    ⟨some 15, .load none (.tmp 14), none⟩,
    ⟨some 16, .len false (.tmp 15), none⟩,
    ⟨some 17, .bin .lss (.tmp 13) (.tmp 16), none⟩,
    ⟨some 18, .mv (.tmp 17), none⟩,
    ⟨some 19, .mv (.tmp 1), (some (18, true))⟩,
    ⟨some 20, .bin .geq (.tmp 19) (.con (.int .i64 0)), (some (18, true))⟩,
    ⟨some 21, .pick (.tmp 18) (.tmp 20) (.con (.bool false)), none⟩])
  (.cond (.tmp 21) (.skip) (.exit 0)))
  (.seq (.block 1 (.region [⟨some 24, .addOff 2 (.tmp 2), none⟩,
      ⟨some 25, .load none (.tmp 24), none⟩,
      ⟨some 26, .mv (.tmp 5), none⟩,
      ⟨some 27, .idxAddr 3 (.tmp 25) (.tmp 26), none⟩,
      ⟨some 28, .load (some 3) (.tmp 27), none⟩,
      ⟨some 29, .mv (.tmp 1), none⟩,
      ⟨some 30, .call (.fn 23) [(.tmp 28), (.tmp 29)], none⟩,
      ⟨some 1, .mv (.tmp 30), none⟩]))
  (.region [⟨some 22, .mv (.tmp 5), none⟩,
    ⟨some 23, .bin .add (.tmp 22) (.con (.int .i64 1)), none⟩,
    ⟨some 5, .mv (.tmp 23), none⟩]))
def B23 : ACode :=
  .seq (.region [⟨some 2, .box true (.tmp 0), none⟩,
    ⟨some 4, .mv (.con (.int .i64 0)), none⟩])
  (.seq (.region [⟨some 6, .mv (.tmp 1), none⟩,
    ⟨some 7, .bin .sub (.tmp 6) (.con (.int .i64 1)), none⟩,
    ⟨some 8, .addOff 1 (.tmp 2), none⟩,
    ⟨some 9, .load none (.tmp 8), none⟩,
    ⟨some 10, .len true (.tmp 9), none⟩,
    ⟨some 11, .mnmx false [(.tmp 10), (.con (.int .i64 1048576))], none⟩,
    ⟨some 12, .bin .sub (.tmp 7) (.tmp 11), none⟩,
    ⟨some 1, .mv (.tmp 12), none⟩])
  (.seq (.seq (.region [⟨some 5, .mv (.con (.int .i64 0)), none⟩])
  (.block 0 (.loop true [false, true, true, false, false, true] [false, true] B23L3)))
  (.seq (.region [⟨some 31, .mv (.tmp 1), none⟩,
    ⟨some 4, .mv (.tmp 31), none⟩])
  (.ret))))
def A23 : AFunc := { ntmps := 32, results := [.tmp 4], body := B23, coe := true, keep := 0 }
theorem tr23 : trFunc Tryd.prog M23 true Tryd.f23 = some A23 := by kernel_rfl

/-- handloom/handloomref04.LightProg -/
def M24 : Marks := { cut := fun _ => true, hd := fun | 3 => [false, true, true, false, false, true] | 7 => [false, true, true, false, false, true, true] | 11 => [false, true, true, false, false, false, false, true] | 16 => [false, true, true, false, false, false, false, true, true, true] | 20 => [false, true, true, false, false, false, false, false, false, false, true] | _ => [], ex := fun | 3 => [false, true, true] | 7 => [false, true, true, false, false, true] | 11 => [false, true, true] | 16 => [false, true, true, false, false, false, false, true] | 20 => [false, true] | _ => [], imm := fun | 2 => true | _ => false, alts := fun | 1 => [[0, 2, 3, 4, 5, 1, 6, 7]] | 14 => [[0, 2, 3, 4, 5, 6, 7, 8, 9, 10, 11, 1, 12, 13]] | 23 => [[0, 2, 3, 4, 5, 6, 7, 8, 9, 10, 11, 12, 13, 14, 15, 16, 17, 18, 1, 19, 20]] | _ => [] }
abbrev H24L7 : List Bool := [false, true, true, false, false, true, true]
abbrev X24L7 : List Bool := [false, true, true, false, false, true]
def B24L7 : ACode :=
  .seq (.seq (.region [⟨some 41, .mv (.tmp 6), none⟩,
    ⟨some 42, .addOff 0 (.tmp 2), none⟩,
    ⟨some 43, .load none (.tmp 42), none⟩,
    ⟨some 44, .mv (.tmp 5), none⟩,
    ⟨some 45, .idxAddr 4 (.tmp 43) (.tmp 44), none⟩,
    ⟨some 46, .addOff 3 (.tmp 45), none⟩,
    ⟨some 47, .load none (.tmp 46), none⟩,
    ⟨some 48, .len false (.tmp 47), none⟩,
    ⟨some 49, .bin .lss (.tmp 41) (.tmp 48), none⟩,
    ⟨some 50, .mv (.tmp 49), none⟩,
    ⟨some 51, .mv (.tmp 1), (some (50, true))⟩,
    ⟨some 52, .bin .geq (.tmp 51) (.con (.int .i64 0)), (some (50, true))⟩,
    ⟨some 53, .pick (.tmp 50) (.tmp 52) (.con (.bool false)), none⟩])
  (.cond (.tmp 53) (.skip) (.exit 2)))
  (.seq (.block 3 (.draw [⟨some 56, .addOff 0 (.tmp 2), none⟩,
      ⟨some 57, .load none (.tmp 56), none⟩,
      ⟨some 58, .mv (.tmp 5), none⟩,
      ⟨some 59, .idxAddr 4 (.tmp 57) (.tmp 58), none⟩,
      ⟨some 60, .addOff 3 (.tmp 59), none⟩,
      ⟨some 61, .load none (.tmp 60), none⟩,
      ⟨some 62, .mv (.tmp 6), none⟩,
      ⟨some 63, .idxAddr 2 (.tmp 61) (.tmp 62), none⟩,
      ⟨some 64, .addOff 0 (.tmp 63), none⟩,
      ⟨some 65, .load none (.tmp 64), none⟩,
      ⟨some 66, .addOff 0 (.tmp 2), none⟩,
      ⟨some 67, .load none (.tmp 66), none⟩,
      ⟨some 68, .mv (.tmp 5), none⟩,
      ⟨some 69, .idxAddr 4 (.tmp 67) (.tmp 68), none⟩,
      ⟨some 70, .addOff 3 (.tmp 69), none⟩,
      ⟨some 71, .load none (.tmp 70), none⟩,
      ⟨some 72, .mv (.tmp 6), none⟩,
      ⟨some 73, .idxAddr 2 (.tmp 71) (.tmp 72), none⟩,
      ⟨some 74, .addOff 1 (.tmp 73), none⟩,
      ⟨some 75, .load none (.tmp 74), none⟩,
      ⟨some 76, .build [.int .i64 0, .str ⟨#[]⟩, .slice 3 []] [(1, 1, (.tmp 65)), (2, 1, (.tmp 75))], none⟩,
      ⟨some 77, .mv (.tmp 1), none⟩,
      ⟨some 78, .call (.fn 23) [(.tmp 76), (.tmp 77)], none⟩,
      ⟨some 1, .mv (.tmp 78), none⟩] []))
  (.region [⟨some 54, .mv (.tmp 6), none⟩,
    ⟨some 55, .bin .add (.tmp 54) (.con (.int .i64 1)), none⟩,
    ⟨some 6, .mv (.tmp 55), none⟩]))
abbrev H24L3 : List Bool := [false, true, true, false, false, true]
abbrev X24L3 : List Bool := [false, true, true]
def B24L3 : ACode :=
  .seq (.seq (.region [⟨some 19, .mv (.tmp 5), none⟩,
    ⟨some 20, .addOff 0 (.tmp 2), none⟩,
    ⟨some 21, .load none (.tmp 20), none⟩,
    ⟨some 22, .len false (.tmp 21), none⟩,
    ⟨some 23, .bin .lss (.tmp 19) (.tmp 22), none⟩,
    ⟨some 24, .mv (.tmp 23), none⟩,
    ⟨some 25, .mv (.tmp 1), (some (24, true))⟩,
    ⟨some 26, .bin .geq (.tmp 25) (.con (.int .i64 0)), (some (24, true))⟩,
    ⟨some 27, .pick (.tmp 24) (.tmp 26) (.con (.bool false)), none⟩])
  (.cond (.tmp 27) (.skip) (.exit 0)))
  (.seq (.block 1 (.seq (.region [⟨some 30, .mv (.tmp 1), none⟩,
      ⟨some 31, .bin .sub (.tmp 30) (.con (.int .i64 1)), none⟩,
      ⟨some 32, .addOff 0 (.tmp 2), none⟩,
      ⟨some 33, .load none (.tmp 32), none⟩,
      ⟨some 34, .mv (.tmp 5), none⟩,
      ⟨some 35, .idxAddr 4 (.tmp 33) (.tmp 34), none⟩,
      ⟨some 36, .addOff 2 (.tmp 35), none⟩,
      ⟨some 37, .load none (.tmp 36), none⟩,
      ⟨some 38, .len true (.tmp 37), none⟩,
      ⟨some 39, .mnmx false [(.tmp 38), (.con (.int .i64 1048576))], none⟩,
      ⟨some 40, .bin .sub (.tmp 31) (.tmp 39), none⟩,
      ⟨some 1, .mv (.tmp 40), none⟩])
    (.seq (.region [⟨some 6, .mv (.con (.int .i64 0)), none⟩])
    (.block 2 (.loop true [false, true, true, false, false, true, true] [false, true, true, false, false, true] B24L7)))))
  (.region [⟨some 28, .mv (.tmp 5), none⟩,
    ⟨some 29, .bin .add (.tmp 28) (.con (.int .i64 1)), none⟩,
    ⟨some 5, .mv (.tmp 29), none⟩]))
abbrev H24L16 : List Bool := [false, true, true, false, false, false, false, true, true, true]
abbrev X24L16 : List Bool := [false, true, true, false, false, false, false, true]
def B24L16 : ACode :=
  .seq (.seq (.region [⟨some 108, .mv (.tmp 9), none⟩,
    ⟨some 109, .addOff 3 (.tmp 8), none⟩,
    ⟨some 110, .load none (.tmp 109), none⟩,
    ⟨some 111, .len false (.tmp 110), none⟩,
    ⟨some 112, .bin .lss (.tmp 108) (.tmp 111), none⟩,
    ⟨some 113, .mv (.tmp 112), none⟩,
    ⟨some 114, .mv (.tmp 1), (some (113, true))⟩,
    ⟨some 115, .bin .geq (.tmp 114) (.con (.int .i64 0)), (some (113, true))⟩,
    ⟨some 116, .pick (.tmp 113) (.tmp 115) (.con (.bool false)), none⟩])
  (.cond (.tmp 116) (.skip) (.exit 6)))
  (.seq (.block 7 (.draw [⟨some 119, .addOff 3 (.tmp 8), none⟩,
      ⟨some 120, .load none (.tmp 119), none⟩,
      ⟨some 121, .mv (.tmp 9), none⟩,
      ⟨some 122, .idxAddr 4 (.tmp 120) (.tmp 121), none⟩,
      ⟨some 123, .addOff 1 (.tmp 122), none⟩,
      ⟨some 124, .load (some 3) (.tmp 123), none⟩,
      ⟨some 125, .mv (.tmp 1), none⟩,
      ⟨some 126, .addOff 3 (.tmp 8), none⟩,
      ⟨some 127, .load none (.tmp 126), none⟩,
      ⟨some 128, .mv (.tmp 9), none⟩,
      ⟨some 129, .idxAddr 4 (.tmp 127) (.tmp 128), none⟩,
      ⟨some 130, .addOff 0 (.tmp 129), none⟩,
      ⟨some 131, .load none (.tmp 130), none⟩,
      ⟨some 132, .len true (.tmp 131), none⟩,
      ⟨some 133, .mnmx false [(.tmp 132), (.con (.int .i64 1048576))], none⟩,
      ⟨some 134, .bin .sub (.tmp 125) (.tmp 133), none⟩,
      ⟨some 135, .call (.fn 23) [(.tmp 124), (.tmp 134)], none⟩,
      ⟨some 1, .mv (.tmp 135), none⟩] []))
  (.region [⟨some 117, .mv (.tmp 9), none⟩,
    ⟨some 118, .bin .add (.tmp 117) (.con (.int .i64 1)), none⟩,
    ⟨some 9, .mv (.tmp 118), none⟩]))
abbrev H24L11 : List Bool := [false, true, true, false, false, false, false, true]
abbrev X24L11 : List Bool := [false, true, true]
def B24L11 : ACode :=
  .seq (.seq (.region [⟨some 79, .mv (.tmp 7), none⟩,
    ⟨some 80, .addOff 1 (.tmp 2), none⟩,
    ⟨some 81, .load none (.tmp 80), none⟩,
    ⟨some 82, .len false (.tmp 81), none⟩,
    ⟨some 83, .bin .lss (.tmp 79) (.tmp 82), none⟩,
    ⟨some 84, .mv (.tmp 83), none⟩,
    ⟨some 85, .mv (.tmp 1), (some (84, true))⟩,
    ⟨some 86, .bin .geq (.tmp 85) (.con (.int .i64 0)), (some (84, true))⟩,
    ⟨some 87, .pick (.tmp 84) (.tmp 86) (.con (.bool false)), none⟩])
  (.cond (.tmp 87) (.skip) (.exit 4)))
  (.seq (.block 5 (.seq (.region [⟨some 90, .addOff 1 (.tmp 2), none⟩,
      ⟨some 91, .load none (.tmp 90), none⟩,
      ⟨some 92, .mv (.tmp 7), none⟩,
      ⟨some 93, .idxAddr 15 (.tmp 91) (.tmp 92), none⟩,
      ⟨some 94, .load (some 15) (.tmp 93), none⟩,
      ⟨some 8, .alloc [.ok (.int .i64 0), .ok (.int .i64 0), .ok (.str ⟨#[]⟩), .error 4, .ok (.int .i64 0), .ok (.str ⟨#[]⟩), .error 3, .ok (.int .i64 0), .ok (.int .i64 0), .ok (.int .i64 0), .ok (.int .i64 0), .error 1, .ok (.str ⟨#[]⟩), .error 8, .error 14], none⟩,
      ⟨none, .store 15 (.tmp 8) (.tmp 94), none⟩])
    (.seq (.draw [⟨some 95, .addOff 7 (.tmp 8), none⟩,
      ⟨some 96, .load (some 8) (.tmp 95), none⟩,
      ⟨some 97, .addOff 4 (.tmp 8), none⟩,
      ⟨some 98, .load (some 3) (.tmp 97), none⟩,
      ⟨some 99, .mv (.tmp 1), none⟩,
      ⟨some 100, .bin .sub (.tmp 99) (.con (.int .i64 1)), none⟩,
      ⟨some 101, .addOff 2 (.tmp 8), none⟩,
      ⟨some 102, .load none (.tmp 101), none⟩,
      ⟨some 103, .len true (.tmp 102), none⟩,
      ⟨some 104, .mnmx false [(.tmp 103), (.con (.int .i64 1048576))], none⟩,
      ⟨some 105, .bin .sub (.tmp 100) (.tmp 104), none⟩,
      ⟨some 106, .call (.fn 23) [(.tmp 98), (.tmp 105)], none⟩,
      ⟨some 107, .call (.fn 52) [(.tmp 96), (.tmp 106)], none⟩,
      ⟨some 1, .mv (.tmp 107), none⟩] [[⟨some 95, .addOff 7 (.tmp 8), none⟩, ⟨some 97, .addOff 4 (.tmp 8), none⟩, ⟨some 98, .load (some 3) (.tmp 97), none⟩, ⟨some 99, .mv (.tmp 1), none⟩, ⟨some 100, .bin .sub (.tmp 99) (.con (.int .i64 1)), none⟩, ⟨some 101, .addOff 2 (.tmp 8), none⟩, ⟨some 102, .load none (.tmp 101), none⟩, ⟨some 103, .len true (.tmp 102), none⟩, ⟨some 104, .mnmx false [(.tmp 103), (.con (.int .i64 1048576))], none⟩, ⟨some 105, .bin .sub (.tmp 100) (.tmp 104), none⟩, ⟨some 106, .call (.fn 23) [(.tmp 98), (.tmp 105)], none⟩, ⟨some 96, .load (some 8) (.tmp 95), none⟩, ⟨some 107, .call (.fn 52) [(.tmp 96), (.tmp 106)], none⟩, ⟨some 1, .mv (.tmp 107), none⟩]])
    (.seq (.region [⟨some 9, .mv (.con (.int .i64 0)), none⟩])
    (.block 6 (.loop true [false, true, true, false, false, false, false, true, true, true] [false, true, true, false, false, false, false, true] B24L16))))))
  (.region [⟨some 88, .mv (.tmp 7), none⟩,
    ⟨some 89, .bin .add (.tmp 88) (.con (.int .i64 1)), none⟩,
    ⟨some 7, .mv (.tmp 89), none⟩]))
abbrev H24L20 : List Bool := [false, true, true, false, false, false, false, false, false, false, true]
abbrev X24L20 : List Bool := [false, true]
def B24L20 : ACode :=
  .seq (.seq (.region [⟨some 136, .mv (.tmp 10), none⟩,
    ⟨some 137, .addOff 16 (.tmp 2), none⟩,
    ⟨some 138, .load none (.tmp 137), none⟩,
    ⟨some 139, .len false (.tmp 138), none⟩,
    ⟨some 140, .bin .lss (.tmp 136) (.tmp 139), none⟩,
    ⟨some 141, .mv (.tmp 140), none⟩,
    ⟨some 142, .mv (.tmp 1), (some (141, true))⟩,
    ⟨some 143, .bin .geq (.tmp 142) (.con (.int .i64 0)), (some (141, true))⟩,
    ⟨some 144, .pick (.tmp 141) (.tmp 143) (.con (.bool false)), none⟩])
  (.cond (.tmp 144) (.skip) (.exit 8)))
  (.seq (.block 9 (.seq (.region [⟨some 147, .addOff 16 (.tmp 2), none⟩,
      ⟨some 148, .load none (.tmp 147), none⟩,
      ⟨some 149, .mv (.tmp 10), none⟩,
      ⟨some 150, .idxAddr 16 (.tmp 148) (.tmp 149), none⟩,
      ⟨some 151, .load (some 16) (.tmp 150), none⟩,
      ⟨some 11, .alloc [.ok (.int .i64 0), .ok (.int .i64 0), .ok (.str ⟨#[]⟩), .ok (.str ⟨#[]⟩), .ok (.int .i64 0), .ok (.str ⟨#[]⟩), .error 3, .ok (.int .i64 0), .ok (.int .i64 0), .ok (.int .i64 0), .ok (.int .i64 0), .ok (.int .i64 0), .error 1, .ok (.str ⟨#[]⟩), .error 8, .error 14], none⟩,
      ⟨none, .store 16 (.tmp 11) (.tmp 151), none⟩])
    (.draw [⟨some 152, .addOff 8 (.tmp 11), none⟩,
      ⟨some 153, .load (some 8) (.tmp 152), none⟩,
      ⟨some 154, .addOff 3 (.tmp 11), none⟩,
      ⟨some 155, .addOff 1 (.tmp 154), none⟩,
      ⟨some 156, .load (some 3) (.tmp 155), none⟩,
      ⟨some 157, .mv (.tmp 1), none⟩,
      ⟨some 158, .bin .sub (.tmp 157) (.con (.int .i64 1)), none⟩,
      ⟨some 159, .addOff 2 (.tmp 11), none⟩,
      ⟨some 160, .load none (.tmp 159), none⟩,
      ⟨some 161, .len true (.tmp 160), none⟩,
      ⟨some 162, .mnmx false [(.tmp 161), (.con (.int .i64 1048576))], none⟩,
      ⟨some 163, .bin .sub (.tmp 158) (.tmp 162), none⟩,
      ⟨some 164, .addOff 3 (.tmp 11), none⟩,
      ⟨some 165, .addOff 0 (.tmp 164), none⟩,
      ⟨some 166, .load none (.tmp 165), none⟩,
      ⟨some 167, .len true (.tmp 166), none⟩,
      ⟨some 168, .mnmx false [(.tmp 167), (.con (.int .i64 1048576))], none⟩,
      ⟨some 169, .bin .sub (.tmp 163) (.tmp 168), none⟩,
      ⟨some 170, .call (.fn 23) [(.tmp 156), (.tmp 169)], none⟩,
      ⟨some 171, .call (.fn 52) [(.tmp 153), (.tmp 170)], none⟩,
      ⟨some 1, .mv (.tmp 171), none⟩] [[⟨some 152, .addOff 8 (.tmp 11), none⟩, ⟨some 154, .addOff 3 (.tmp 11), none⟩, ⟨some 155, .addOff 1 (.tmp 154), none⟩, ⟨some 156, .load (some 3) (.tmp 155), none⟩, ⟨some 157, .mv (.tmp 1), none⟩, ⟨some 158, .bin .sub (.tmp 157) (.con (.int .i64 1)), none⟩, ⟨some 159, .addOff 2 (.tmp 11), none⟩, ⟨some 160, .load none (.tmp 159), none⟩, ⟨some 161, .len true (.tmp 160), none⟩, ⟨some 162, .mnmx false [(.tmp 161), (.con (.int .i64 1048576))], none⟩, ⟨some 163, .bin .sub (.tmp 158) (.tmp 162), none⟩, ⟨some 164, .addOff 3 (.tmp 11), none⟩, ⟨some 165, .addOff 0 (.tmp 164), none⟩, ⟨some 166, .load none (.tmp 165), none⟩, ⟨some 167, .len true (.tmp 166), none⟩, ⟨some 168, .mnmx false [(.tmp 167), (.con (.int .i64 1048576))], none⟩, ⟨some 169, .bin .sub (.tmp 163) (.tmp 168), none⟩, ⟨some 170, .call (.fn 23) [(.tmp 156), (.tmp 169)], none⟩, ⟨some 153, .load (some 8) (.tmp 152), none⟩, ⟨some 171, .call (.fn 52) [(.tmp 153), (.tmp 170)], none⟩, ⟨some 1, .mv (.tmp 171), none⟩]])))
  (.region [⟨some 145, .mv (.tmp 10), none⟩,
    ⟨some 146, .bin .add (.tmp 145) (.con (.int .i64 1)), none⟩,
    ⟨some 10, .mv (.tmp 146), none⟩]))
def B24 : ACode :=
  .seq (.region [⟨some 2, .box true (.tmp 0), none⟩,
    ⟨some 4, .mv (.con (.int .i64 0)), none⟩])
  (.seq (.draw [⟨some 12, .addOff 8 (.tmp 2), none⟩,
    ⟨some 13, .load (some 8) (.tmp 12), none⟩,
    ⟨some 14, .addOff 4 (.tmp 2), none⟩,
    ⟨some 15, .load (some 3) (.tmp 14), none⟩,
    ⟨some 16, .mv (.tmp 1), none⟩,
    ⟨some 17, .call (.fn 23) [(.tmp 15), (.tmp 16)], none⟩,
    ⟨some 18, .call (.fn 52) [(.tmp 13), (.tmp 17)], none⟩,
    ⟨some 1, .mv (.tmp 18), none⟩] [[⟨some 12, .addOff 8 (.tmp 2), none⟩, ⟨some 14, .addOff 4 (.tmp 2), none⟩, ⟨some 15, .load (some 3) (.tmp 14), none⟩, ⟨some 16, .mv (.tmp 1), none⟩, ⟨some 17, .call (.fn 23) [(.tmp 15), (.tmp 16)], none⟩, ⟨some 13, .load (some 8) (.tmp 12), none⟩, ⟨some 18, .call (.fn 52) [(.tmp 13), (.tmp 17)], none⟩, ⟨some 1, .mv (.tmp 18), none⟩]])
  (.seq (.seq (.region [⟨some 5, .mv (.con (.int .i64 0)), none⟩])
  (.block 0 (.loop true [false, true, true, false, false, true] [false, true, true] B24L3)))
  (.seq (.seq (.region [⟨some 7, .mv (.con (.int .i64 0)), none⟩])
  (.block 4 (.loop true [false, true, true, false, false, false, false, true] [false, true, true] B24L11)))
  (.seq (.seq (.region [⟨some 10, .mv (.con (.int .i64 0)), none⟩])
  (.block 8 (.loop true [false, true, true, false, false, false, false, false, false, false, true] [false, true] B24L20)))
  (.seq (.region [⟨some 172, .mv (.tmp 1), none⟩,
    ⟨some 4, .mv (.tmp 172), none⟩])
  (.ret))))))
def A24 : AFunc := { ntmps := 173, results := [.tmp 4], body := B24, coe := true, keep := 0 }
theorem tr24 : trFunc Tryd.prog M24 true Tryd.f24 = some A24 := by kernel_rfl

/-- handloom/handloomref20.Light -/
def M25 : Marks := { cut := fun _ => true, hd := fun | 3 => [false, true, true, false, false, true, true] | 7 => [false, true, true, false, false, true, false, true] | 11 => [false, true, true, false, false, true, false, false, true] | _ => [], ex := fun | 3 => [false, true, true, false, false, true] | 7 => [false, true, true, false, false, true] | 11 => [false, true, false, false, false, true] | _ => [], imm := fun | 2 => true | _ => false }
abbrev H25L3 : List Bool := [false, true, true, false, false, true, true]
abbrev X25L3 : List Bool := [false, true, true, false, false, true]
def B25L3 : ACode :=
  .seq (.seq (.region [⟨some 9, .mv (.tmp 6), none⟩,
    ⟨some 10, .addOff 0 (.tmp 2), none⟩,
    ⟨some 11, .load none (.tmp 10), none⟩,
    ⟨some 12, .len false (.tmp 11), none⟩,
    ⟨some 13, .bin .lss (.tmp 9) (.tmp 12), none⟩,
    ⟨some 14, .mv (.tmp 13), none⟩,
    ⟨some 15, .mv (.tmp 5), (some (14, true))⟩,
    ⟨some 16, .mv (.tmp 1), (some (14, true))⟩,
    ⟨some 17, .bin .leq (.tmp 15) (.tmp 16), (some (14, true))⟩,
    ⟨some 18, .pick (.tmp 14) (.tmp 17) (.con (.bool false)), none⟩])
  (.cond (.tmp 18) (.skip) (.exit 0)))
  (.seq (.block 1 (.draw [⟨some 21, .mv (.tmp 5), none⟩,
      ⟨some 22, .bin .add (.tmp 21) (.con (.int .i64 1)), none⟩,
      ⟨some 23, .addOff 0 (.tmp 2), none⟩,
      ⟨some 24, .load none (.tmp 23), none⟩,
      ⟨some 25, .mv (.tmp 6), none⟩,
      ⟨some 26, .idxAddr 4 (.tmp 24) (.tmp 25), none⟩,
      ⟨some 27, .addOff 3 (.tmp 26), none⟩,
      ⟨some 28, .load none (.tmp 27), none⟩,
      ⟨some 29, .len false (.tmp 28), none⟩,
      ⟨some 30, .bin .add (.tmp 22) (.tmp 29), none⟩,
      ⟨some 31, .addOff 0 (.tmp 2), none⟩,
      ⟨some 32, .load none (.tmp 31), none⟩,
      ⟨some 33, .mv (.tmp 6), none⟩,
      ⟨some 34, .idxAddr 4 (.tmp 32) (.tmp 33), none⟩,
      ⟨some 35, .addOff 0 (.tmp 34), none⟩,
      ⟨some 36, .load none (.tmp 35), none⟩,
      ⟨some 37, .len true (.tmp 36), none⟩,
      ⟨some 38, .bin .add (.tmp 30) (.tmp 37), none⟩,
      ⟨some 5, .mv (.tmp 38), none⟩] []))
  (.region [⟨some 19, .mv (.tmp 6), none⟩,
    ⟨some 20, .bin .add (.tmp 19) (.con (.int .i64 1)), none⟩,
    ⟨some 6, .mv (.tmp 20), none⟩]))
abbrev H25L7 : List Bool := [false, true, true, false, false, true, false, true]
abbrev X25L7 : List Bool := [false, true, true, false, false, true]
def B25L7 : ACode :=
  .seq (.seq (.region [⟨some 39, .mv (.tmp 7), none⟩,
    ⟨some 40, .addOff 1 (.tmp 2), none⟩,
    ⟨some 41, .load none (.tmp 40), none⟩,
    ⟨some 42, .len false (.tmp 41), none⟩,
    ⟨some 43, .bin .lss (.tmp 39) (.tmp 42), none⟩,
    ⟨some 44, .mv (.tmp 43), none⟩,
    ⟨some 45, .mv (.tmp 5), (some (44, true))⟩,
    ⟨some 46, .mv (.tmp 1), (some (44, true))⟩,
    ⟨some 47, .bin .leq (.tmp 45) (.tmp 46), (some (44, true))⟩,
    ⟨some 48, .pick (.tmp 44) (.tmp 47) (.con (.bool false)), none⟩])
  (.cond (.tmp 48) (.skip) (.exit 2)))
  (.seq (.block 3 (.region [⟨some 51, .mv (.tmp 5), none⟩,
      ⟨some 52, .bin .add (.tmp 51) (.con (.int .i64 1)), none⟩,
      ⟨some 53, .addOff 1 (.tmp 2), none⟩,
      ⟨some 54, .load none (.tmp 53), none⟩,
      ⟨some 55, .mv (.tmp 7), none⟩,
      ⟨some 56, .idxAddr 1 (.tmp 54) (.tmp 55), none⟩,
      ⟨some 57, .load none (.tmp 56), none⟩,
      ⟨some 58, .len false (.tmp 57), none⟩,
      ⟨some 59, .bin .add (.tmp 52) (.tmp 58), none⟩,
      ⟨some 5, .mv (.tmp 59), none⟩]))
  (.region [⟨some 49, .mv (.tmp 7), none⟩,
    ⟨some 50, .bin .add (.tmp 49) (.con (.int .i64 1)), none⟩,
    ⟨some 7, .mv (.tmp 50), none⟩]))
abbrev H25L11 : List Bool := [false, true, true, false, false, true, false, false, true]
abbrev X25L11 : List Bool := [false, true, false, false, false, true]
def B25L11 : ACode :=
  .seq (.seq (.region [⟨some 60, .mv (.tmp 8), none⟩,
    ⟨some 61, .addOff 2 (.tmp 2), none⟩,
    ⟨some 62, .load none (.tmp 61), none⟩,
    ⟨some 63, .len false (.tmp 62), none⟩,
    ⟨some 64, .bin .lss (.tmp 60) (.tmp 63), none⟩,
    ⟨some 65, .mv (.tmp 64), none⟩,
    ⟨some 66, .mv (.tmp 5), (some (65, true))⟩,
    ⟨some 67, .mv (.tmp 1), (some (65, true))⟩,
    ⟨some 68, .bin .leq (.tmp 66) (.tmp 67), (some (65, true))⟩,
    ⟨some 69, .pick (.tmp 65) (.tmp 68) (.con (.bool false)), none⟩])
  (.cond (.tmp 69) (.skip) (.exit 4)))
  (.seq (.block 5 (.region [⟨some 72, .mv (.tmp 5), none⟩,
      ⟨some 73, .bin .add (.tmp 72) (.con (.int .i64 1)), none⟩,
      ⟨some 74, .addOff 2 (.tmp 2), none⟩,
      ⟨some 75, .load none (.tmp 74), none⟩,
      ⟨some 76, .mv (.tmp 8), none⟩,
      ⟨some 77, .idxAddr 1 (.tmp 75) (.tmp 76), none⟩,
      ⟨some 78, .load none (.tmp 77), none⟩,
      ⟨some 79, .len false (.tmp 78), none⟩,
      ⟨some 80, .bin .add (.tmp 73) (.tmp 79), none⟩,
      ⟨some 5, .mv (.tmp 80), none⟩]))
  (.region [⟨some 70, .mv (.tmp 8), none⟩,
    ⟨some 71, .bin .add (.tmp 70) (.con (.int .i64 1)), none⟩,
    ⟨some 8, .mv (.tmp 71), none⟩]))
def B25 : ACode :=
  .seq (.region [⟨some 2, .box true (.tmp 0), none⟩,
    ⟨some 4, .mv (.con (.bool false)), none⟩])
  (.seq (.region [⟨some 5, .mv (.con (.int .i64 0)), none⟩])
  (.seq (.seq (.region [⟨some 6, .mv (.con (.int .i64 0)), none⟩])
  (.block 0 (.loop true [false, true, true, false, false, true, true] [false, true, true, false, false, true] B25L3)))
  (.seq (.seq (.region [⟨some 7, .mv (.con (.int .i64 0)), none⟩])
  (.block 2 (.loop true [false, true, true, false, false, true, false, true] [false, true, true, false, false, true] B25L7)))
  (.seq (.seq (.region [⟨some 8, .mv (.con (.int .i64 0)), none⟩])
  (.block 4 (.loop true [false, true, true, false, false, true, false, false, true] [false, true, false, false, false, true] B25L11)))
  (.seq (.region [⟨some 81, .mv (.tmp 5), none⟩,
    ⟨some 82, .mv (.tmp 1), none⟩,
    ⟨some 83, .bin .leq (.tmp 81) (.tmp 82), none⟩,
    ⟨some 4, .mv (.tmp 83), none⟩])
  (.ret))))))
def A25 : AFunc := { ntmps := 84, results := [.tmp 4], body := B25, coe := true, keep := 0 }
theorem tr25 : trFunc Tryd.prog M25 true Tryd.f25 = some A25 := by kernel_rfl

/-- (*strings.Builder).WriteString -/
def M26 : Marks := { cut := fun _ => true, hd := fun | _ => [], ex := fun | _ => [], imm := fun | _ => false }
def B26 : ACode :=
  .seq (.region [⟨some 4, .mv (.con (.int .i64 0)), none⟩,
    ⟨some 5, .mv (.con (.nili)), none⟩])
  (.seq (.region [⟨some 6, .mv (.tmp 0), none⟩,
    ⟨some 7, .call (.fn 53) [(.tmp 6)], none⟩])
  (.seq (.region [⟨some 8, .mv (.tmp 0), none⟩,
    ⟨some 9, .mv (.tmp 0), none⟩,
    ⟨some 10, .nilchk (.tmp 9), none⟩,
    ⟨some 11, .addOff 1 (.tmp 10), none⟩,
    ⟨some 12, .load none (.tmp 11), none⟩,
    ⟨some 13, .mv (.tmp 1), none⟩,
    ⟨some 14, .app true 5 1 1 (.tmp 12) (.tmp 13), none⟩,
    ⟨some 15, .nilchk (.tmp 8), none⟩,
    ⟨some 16, .addOff 1 (.tmp 15), none⟩,
    ⟨none, .store 1 (.tmp 16) (.tmp 14), none⟩])
  (.seq (.region [⟨some 17, .mv (.tmp 1), none⟩,
    ⟨some 18, .len true (.tmp 17), none⟩,
    ⟨some 4, .mv (.tmp 18), none⟩,
    ⟨some 5, .mv (.con (.nili)), none⟩])
  (.ret))))
def A26 : AFunc := { ntmps := 19, results := [.tmp 4, .tmp 5], body := B26, coe := true, keep := 0 }
theorem tr26 : trFunc Tryd.prog M26 true Tryd.f26 = some A26 := by kernel_rfl

/-- handloom/image.line -/
def M27 : Marks := { cut := fun _ => true, hd := fun | 3 => [false, false, false, true, false, false, false, false, true, true, true] | _ => [], ex := fun | 3 => [false, false, false, true] | _ => [], imm := fun | 20 => true | 28 => true | _ => false }
abbrev H27L3 : List Bool := [false, false, false, true, false, false, false, false, true, true, true]
abbrev X27L3 : List Bool := [false, false, false, true]
def B27L3 : ACode :=
  .seq (.region [⟨some 11, .bin .lss (.tmp 10) (.tmp 9), none⟩])
  (.seq (.cond (.tmp 11) (.skip) (.exit 0))
  (.seq (.block 1 (.seq (.region [⟨some 12, .idxAddr 1 (.tmp 8) (.tmp 10), none⟩,
      ⟨some 13, .load none (.tmp 12), none⟩,
      ⟨some 5, .mv (.tmp 13), none⟩])
    (.seq (.region [⟨some 14, .mv (.tmp 5), none⟩])
    (.block 2 (.seq (.region [⟨some 15, .tass 9 true (.str ⟨#[]⟩) (.tmp 14), none⟩,
        ⟨some 16, .ext 1 (.tmp 15), none⟩,
        ⟨some 17, .ext 0 (.tmp 15), none⟩])
      (.cond (.tmp 16) (.seq (.region [⟨some 6, .mv (.tmp 17), none⟩])
      (.region [⟨some 18, .mv (.tmp 3), none⟩,
        ⟨some 19, .mv (.tmp 6), none⟩,
        ⟨some 20, .lit true 0 1 1 [.str ⟨#[]⟩] [(0, (.tmp 19))], none⟩,
        ⟨some 21, .app false 0 1 16 (.tmp 18) (.tmp 20), none⟩,
        ⟨some 3, .mv (.tmp 21), none⟩])) (.seq (.region [⟨some 22, .tass 3 true (.int .i64 0) (.tmp 14), none⟩,
        ⟨some 23, .ext 1 (.tmp 22), none⟩,
        ⟨some 24, .ext 0 (.tmp 22), none⟩])
      (.cond (.tmp 23) (.seq (.region [⟨some 7, .mv (.tmp 24), none⟩])
      (.region [⟨some 25, .mv (.tmp 3), none⟩,
        ⟨some 26, .mv (.tmp 7), none⟩,
        ⟨some 27, .call (.fn 54) [(.tmp 26)], none⟩,
        ⟨some 28, .lit true 0 1 1 [.str ⟨#[]⟩] [(0, (.tmp 27))], none⟩,
        ⟨some 29, .app false 0 1 16 (.tmp 25) (.tmp 28), none⟩,
        ⟨some 3, .mv (.tmp 29), none⟩])) (.skip)))))))))
  (.region [⟨some 30, .bin .add (.tmp 10) (.con (.int .i64 1)), none⟩,
    ⟨some 10, .mv (.tmp 30), none⟩])))
def B27 : ACode :=
  .seq (.region [⟨some 2, .mv (.con (.str ⟨#[]⟩)), none⟩])
  (.seq (.region [⟨some 3, .nilrow 1, none⟩])
  (.seq (.seq (.region [⟨some 8, .mv (.tmp 0), none⟩,
    ⟨some 9, .len false (.tmp 8), none⟩,
    ⟨some 10, .mv (.con (.int .i64 0)), none⟩])
  (.block 0 (.loop true [false, false, false, true, false, false, false, false, true, true, true] [false, false, false, true] B27L3)))
  (.seq (.region [⟨some 31, .mv (.tmp 3), none⟩,
    ⟨some 32, .call (.fn 55) [(.tmp 31), (.con (.str ⟨#[32]⟩))], none⟩,
    ⟨some 33, .bin .add (.tmp 32) (.con (.str ⟨#[10]⟩)), none⟩,
    ⟨some 2, .mv (.tmp 33), none⟩])
  (.ret))))
def A27 : AFunc := { ntmps := 34, results := [.tmp 2], body := B27, coe := true, keep := 0 }
theorem tr27 : trFunc Tryd.prog M27 true Tryd.f27 = some A27 := by kernel_rfl

/-- (*strings.Builder).String -/
def M28 : Marks := { cut := fun _ => true, hd := fun | _ => [], ex := fun | _ => [], imm := fun | _ => false, alts := fun | 1 => [[0, 1, 2, 3, 5, 6, 7, 8, 4, 9, 10, 11]] | _ => [] }
def B28 : ACode :=
  .seq (.region [⟨some 2, .mv (.con (.str ⟨#[]⟩)), none⟩])
  (.seq (.draw [⟨some 3, .mv (.tmp 0), none⟩,
    ⟨some 4, .nilchk (.tmp 3), none⟩,
    ⟨some 5, .addOff 1 (.tmp 4), none⟩,
    ⟨some 6, .load none (.tmp 5), none⟩,
    ⟨some 7, .usd (.tmp 6), none⟩,
    ⟨some 8, .mv (.tmp 0), none⟩,
    ⟨some 9, .nilchk (.tmp 8), none⟩,
    ⟨some 10, .addOff 1 (.tmp 9), none⟩,
    ⟨some 11, .load none (.tmp 10), none⟩,
    ⟨some 12, .len false (.tmp 11), none⟩,
    ⟨some 13, .ustr 5 (.tmp 7) (.tmp 12), none⟩,
    ⟨some 2, .mv (.tmp 13), none⟩] [[⟨some 3, .mv (.tmp 0), none⟩, ⟨some 4, .nilchk (.tmp 3), none⟩, ⟨some 5, .addOff 1 (.tmp 4), none⟩, ⟨some 6, .load none (.tmp 5), none⟩, ⟨some 8, .mv (.tmp 0), none⟩, ⟨some 9, .nilchk (.tmp 8), none⟩, ⟨some 10, .addOff 1 (.tmp 9), none⟩, ⟨some 11, .load none (.tmp 10), none⟩, ⟨some 7, .usd (.tmp 6), none⟩, ⟨some 12, .len false (.tmp 11), none⟩, ⟨some 13, .ustr 5 (.tmp 7) (.tmp 12), none⟩, ⟨some 2, .mv (.tmp 13), none⟩]])
  (.ret))
def A28 : AFunc := { ntmps := 14, results := [.tmp 2], body := B28, coe := true, keep := 0 }
theorem tr28 : trFunc Tryd.prog M28 true Tryd.f28 = some A28 := by kernel_rfl

/-- slices.IndexFunc[[]handloom/api.Entry,handloom/api.Entry] -/
def M29 : Marks := { cut := fun _ => true, hd := fun | 2 => [true, true, false, false, false, false, false, true, true] | _ => [], ex := fun | 2 => [false, false, false, false, true] | _ => [], imm := fun | _ => false }
abbrev H29L2 : List Bool := [true, true, false, false, false, false, false, true, true]
abbrev X29L2 : List Bool := [false, false, false, false, true]
def B29L2 : ACode :=
  .seq (.region [⟨some 9, .bin .lss (.tmp 8) (.tmp 7), none⟩])
  (.seq (.cond (.tmp 9) (.skip) (.exit 0))
  (.seq (.block 1 (.seq (.region [⟨some 10, .mv (.tmp 8), none⟩,
      ⟨some 5, .mv (.tmp 10), none⟩])
    (.seq (.region [⟨some 11, .mv (.tmp 1), none⟩,
      ⟨some 12, .mv (.tmp 0), none⟩,
      ⟨some 13, .mv (.tmp 5), none⟩,
      ⟨some 14, .idxAddr 6 (.tmp 12) (.tmp 13), none⟩,
      ⟨some 15, .load (some 6) (.tmp 14), none⟩,
      ⟨some 16, .call (.tmp 11) [(.tmp 15)], none⟩])
    (.cond (.tmp 16) (.seq (.region [⟨some 17, .mv (.tmp 5), none⟩,
      ⟨some 4, .mv (.tmp 17), none⟩])
    (.ret)) (.skip)))))
  (.region [⟨some 18, .bin .add (.tmp 8) (.con (.int .i64 1)), none⟩,
    ⟨some 8, .mv (.tmp 18), none⟩])))
def B29 : ACode :=
  .seq (.region [⟨some 4, .mv (.con (.int .i64 0)), none⟩])
  (.seq (.seq (.region [⟨some 6, .mv (.tmp 0), none⟩,
    ⟨some 7, .len false (.tmp 6), none⟩,
    ⟨some 8, .mv (.con (.int .i64 0)), none⟩])
  (.block 0 (.loop true [true, true, false, false, false, false, false, true, true] [false, false, false, false, true] B29L2)))
  (.seq (.region [⟨some 4, .mv (.con (.int .i64 (-1))), none⟩])
  (.ret)))
def A29 : AFunc := { ntmps := 19, results := [.tmp 4], body := B29, coe := true, keep := 0 }
theorem tr29 : trFunc Tryd.prog M29 true Tryd.f29 = some A29 := by kernel_rfl

/-- handloom/image.Find$1 -/
def M30 : Marks := { cut := fun _ => true, hd := fun | _ => [], ex := fun | _ => [], imm := fun | 2 => true | _ => false }
def B30 : ACode :=
  .seq (.region [⟨some 2, .box true (.tmp 0), none⟩,
    ⟨some 3, .mv (.con (.bool false)), none⟩])
  (.seq (.region [⟨some 4, .addOff 0 (.tmp 2), none⟩,
    ⟨some 5, .load none (.tmp 4), none⟩,
    ⟨some 6, .load none (.tmp 1), none⟩,
    ⟨some 7, .bin .eql (.tmp 5) (.tmp 6), none⟩,
    ⟨some 3, .mv (.tmp 7), none⟩])
  (.ret))
def A30 : AFunc := { ntmps := 8, results := [.tmp 3], body := B30, coe := true, keep := 0 }
theorem tr30 : trFunc Tryd.prog M30 true Tryd.f30 = some A30 := by kernel_rfl

/-- handloom/handloomref04.Light -/
def M52 : Marks := { cut := fun _ => true, hd := fun | 3 => [false, true, true, false, false, true] | 7 => [false, true, true, false, false, false, true] | _ => [], ex := fun | 3 => [false, true, true] | 7 => [false, true] | _ => [], imm := fun | 2 => true | _ => false, alts := fun | 9 => [[0, 1, 2, 3, 4, 6, 7, 8, 9, 10, 11, 12, 13, 5, 14, 15], [0, 2, 6, 7, 8, 9, 10, 11, 12, 13, 1, 3, 4, 5, 14, 15]] | _ => [] }
abbrev H52L3 : List Bool := [false, true, true, false, false, true]
abbrev X52L3 : List Bool := [false, true, true]
def B52L3 : ACode :=
  .seq (.seq (.region [⟨some 19, .mv (.tmp 5), none⟩,
    ⟨some 20, .addOff 6 (.tmp 2), none⟩,
    ⟨some 21, .load none (.tmp 20), none⟩,
    ⟨some 22, .len false (.tmp 21), none⟩,
    ⟨some 23, .bin .lss (.tmp 19) (.tmp 22), none⟩,
    ⟨some 24, .mv (.tmp 23), none⟩,
    ⟨some 25, .mv (.tmp 1), (some (24, true))⟩,
    ⟨some 26, .bin .geq (.tmp 25) (.con (.int .i64 0)), (some (24, true))⟩,
    ⟨some 27, .pick (.tmp 24) (.tmp 26) (.con (.bool false)), none⟩])
  (.cond (.tmp 27) (.skip) (.exit 0)))
  (.seq (.block 1 (.region [⟨some 30, .addOff 6 (.tmp 2), none⟩,
      ⟨some 31, .load none (.tmp 30), none⟩,
      ⟨some 32, .mv (.tmp 5), none⟩,
      ⟨some 33, .idxAddr 8 (.tmp 31) (.tmp 32), none⟩,
      ⟨some 34, .load (some 8) (.tmp 33), none⟩,
      ⟨some 35, .mv (.tmp 1), none⟩,
      ⟨some 36, .call (.fn 52) [(.tmp 34), (.tmp 35)], none⟩,
      ⟨some 1, .mv (.tmp 36), none⟩]))
  (.region [⟨some 28, .mv (.tmp 5), none⟩,
    ⟨some 29, .bin .add (.tmp 28) (.con (.int .i64 1)), none⟩,
    ⟨some 5, .mv (.tmp 29), none⟩]))
abbrev H52L7 : List Bool := [false, true, true, false, false, false, true]
abbrev X52L7 : List Bool := [false, true]
def B52L7 : ACode :=
  .seq (.seq (.region [⟨some 37, .mv (.tmp 6), none⟩,
    ⟨some 38, .addOff 7 (.tmp 2), none⟩,
    ⟨some 39, .load none (.tmp 38), none⟩,
    ⟨some 40, .len false (.tmp 39), none⟩,
    ⟨some 41, .bin .lss (.tmp 37) (.tmp 40), none⟩,
    ⟨some 42, .mv (.tmp 41), none⟩,
    ⟨some 43, .mv (.tmp 1), (some (42, true))⟩,
    ⟨some 44, .bin .geq (.tmp 43) (.con (.int .i64 0)), (some (42, true))⟩,
    ⟨some 45, .pick (.tmp 42) (.tmp 44) (.con (.bool false)), none⟩])
  (.cond (.tmp 45) (.skip) (.exit 2)))
  (.seq (.block 3 (.draw [⟨some 48, .addOff 7 (.tmp 2), none⟩,
      ⟨some 49, .load none (.tmp 48), none⟩,
      ⟨some 50, .mv (.tmp 6), none⟩,
      ⟨some 51, .idxAddr 14 (.tmp 49) (.tmp 50), none⟩,
      ⟨some 52, .addOff 6 (.tmp 51), none⟩,
      ⟨some 53, .load (some 8) (.tmp 52), none⟩,
      ⟨some 54, .addOff 7 (.tmp 2), none⟩,
      ⟨some 55, .load none (.tmp 54), none⟩,
      ⟨some 56, .mv (.tmp 6), none⟩,
      ⟨some 57, .idxAddr 14 (.tmp 55) (.tmp 56), none⟩,
      ⟨some 58, .addOff 0 (.tmp 57), none⟩,
      ⟨some 59, .load (some 6) (.tmp 58), none⟩,
      ⟨some 60, .mv (.tmp 1), none⟩,
      ⟨some 61, .call (.fn 78) [(.tmp 59), (.tmp 60)], none⟩,
      ⟨some 62, .call (.fn 52) [(.tmp 53), (.tmp 61)], none⟩,
      ⟨some 1, .mv (.tmp 62), none⟩] [[⟨some 48, .addOff 7 (.tmp 2), none⟩, ⟨some 49, .load none (.tmp 48), none⟩, ⟨some 50, .mv (.tmp 6), none⟩, ⟨some 51, .idxAddr 14 (.tmp 49) (.tmp 50), none⟩, ⟨some 52, .addOff 6 (.tmp 51), none⟩, ⟨some 54, .addOff 7 (.tmp 2), none⟩, ⟨some 55, .load none (.tmp 54), none⟩, ⟨some 56, .mv (.tmp 6), none⟩, ⟨some 57, .idxAddr 14 (.tmp 55) (.tmp 56), none⟩, ⟨some 58, .addOff 0 (.tmp 57), none⟩, ⟨some 59, .load (some 6) (.tmp 58), none⟩, ⟨some 60, .mv (.tmp 1), none⟩, ⟨some 61, .call (.fn 78) [(.tmp 59), (.tmp 60)], none⟩, ⟨some 53, .load (some 8) (.tmp 52), none⟩, ⟨some 62, .call (.fn 52) [(.tmp 53), (.tmp 61)], none⟩, ⟨some 1, .mv (.tmp 62), none⟩], [⟨some 48, .addOff 7 (.tmp 2), none⟩, ⟨some 50, .mv (.tmp 6), none⟩, ⟨some 54, .addOff 7 (.tmp 2), none⟩, ⟨some 55, .load none (.tmp 54), none⟩, ⟨some 56, .mv (.tmp 6), none⟩, ⟨some 57, .idxAddr 14 (.tmp 55) (.tmp 56), none⟩, ⟨some 58, .addOff 0 (.tmp 57), none⟩, ⟨some 59, .load (some 6) (.tmp 58), none⟩, ⟨some 60, .mv (.tmp 1), none⟩, ⟨some 61, .call (.fn 78) [(.tmp 59), (.tmp 60)], none⟩, ⟨some 49, .load none (.tmp 48), none⟩, ⟨some 51, .idxAddr 14 (.tmp 49) (.tmp 50), none⟩, ⟨some 52, .addOff 6 (.tmp 51), none⟩, ⟨some 53, .load (some 8) (.tmp 52), none⟩, ⟨some 62, .call (.fn 52) [(.tmp 53), (.tmp 61)], none⟩, ⟨some 1, .mv (.tmp 62), none⟩]]))
  (.region [⟨some 46, .mv (.tmp 6), none⟩,
    ⟨some 47, .bin .add (.tmp 46) (.con (.int .i64 1)), none⟩,
    ⟨some 6, .mv (.tmp 47), none⟩]))
def B52 : ACode :=
  .seq (.region [⟨some 2, .box true (.tmp 0), none⟩,
    ⟨some 4, .mv (.con (.int .i64 0)), none⟩])
  (.seq (.region [⟨some 7, .mv (.tmp 1), none⟩,
    ⟨some 8, .bin .sub (.tmp 7) (.con (.int .i64 1)), none⟩,
    ⟨some 9, .addOff 4 (.tmp 2), none⟩,
    ⟨some 10, .load none (.tmp 9), none⟩,
    ⟨some 11, .len false (.tmp 10), none⟩,
    ⟨some 12, .mnmx false [(.tmp 11), (.con (.int .i64 1048576))], none⟩,
    ⟨some 13, .bin .sub (.tmp 8) (.tmp 12), none⟩,
    ⟨some 14, .addOff 5 (.tmp 2), none⟩,
    ⟨some 15, .load none (.tmp 14), none⟩,
    ⟨some 16, .len true (.tmp 15), none⟩,
    ⟨some 17, .mnmx false [(.tmp 16), (.con (.int .i64 1048576))], none⟩,
    ⟨some 18, .bin .sub (.tmp 13) (.tmp 17), none⟩,
    ⟨some 1, .mv (.tmp 18), none⟩])
  (.seq (.seq (.region [⟨some 5, .mv (.con (.int .i64 0)), none⟩])
  (.block 0 (.loop true [false, true, true, false, false, true] [false, true, true] B52L3)))
  (.seq (.seq (.region [⟨some 6, .mv (.con (.int .i64 0)), none⟩])
  (.block 2 (.loop true [false, true, true, false, false, false, true] [false, true] B52L7)))
  (.seq (.region [⟨some 63, .mv (.tmp 1), none⟩,
    ⟨some 4, .mv (.tmp 63), none⟩])
  (.ret)))))
def A52 : AFunc := { ntmps := 64, results := [.tmp 4], body := B52, coe := true, keep := 0 }
theorem tr52 : trFunc Tryd.prog M52 true Tryd.f52 = some A52 := by kernel_rfl

/-- handloom/handloomref04.LightPat -/
def M78 : Marks := { cut := fun _ => true, hd := fun | 3 => [false, true, true, false, false, true] | _ => [], ex := fun | 3 => [false, true] | _ => [], imm := fun | 2 => true | _ => false }
abbrev H78L3 : List Bool := [false, true, true, false, false, true]
abbrev X78L3 : List Bool := [false, true]
def B78L3 : ACode :=
  .seq (.seq (.region [⟨some 13, .mv (.tmp 5), none⟩,
    ⟨some 14, .addOff 5 (.tmp 2), none⟩,
    ⟨some 15, .load none (.tmp 14), none⟩,
    ⟨some 16, .len false (.tmp 15), none⟩,
    ⟨some 17, .bin .lss (.tmp 13) (.tmp 16), none⟩,
    ⟨some 18, .mv (.tmp 17), none⟩,
    ⟨some 19, .mv (.tmp 1), (some (18, true))⟩,
    ⟨some 20, .bin .geq (.tmp 19) (.con (.int .i64 0)), (some (18, true))⟩,
    ⟨some 21, .pick (.tmp 18) (.tmp 20) (.con (.bool false)), none⟩])
  (.cond (.tmp 21) (.skip) (.exit 0)))
  (.seq (.block 1 (.region [⟨some 24, .addOff 5 (.tmp 2), none⟩,
      ⟨some 25, .load none (.tmp 24), none⟩,
      ⟨some 26, .mv (.tmp 5), none⟩,
      ⟨some 27, .idxAddr 6 (.tmp 25) (.tmp 26), none⟩,
      ⟨some 28, .load (some 6) (.tmp 27), none⟩,
      ⟨some 29, .mv (.tmp 1), none⟩,
      ⟨some 30, .call (.fn 78) [(.tmp 28), (.tmp 29)], none⟩,
      ⟨some 1, .mv (.tmp 30), none⟩]))
  (.region [⟨some 22, .mv (.tmp 5), none⟩,
    ⟨some 23, .bin .add (.tmp 22) (.con (.int .i64 1)), none⟩,
    ⟨some 5, .mv (.tmp 23), none⟩]))
def B78 : ACode :=
  .seq (.region [⟨some 2, .box true (.tmp 0), none⟩,
    ⟨some 4, .mv (.con (.int .i64 0)), none⟩])
  (.seq (.region [⟨some 6, .mv (.tmp 1), none⟩,
    ⟨some 7, .bin .sub (.tmp 6) (.con (.int .i64 1)), none⟩,
    ⟨some 8, .addOff 3 (.tmp 2), none⟩,
    ⟨some 9, .load none (.tmp 8), none⟩,
    ⟨some 10, .len true (.tmp 9), none⟩,
    ⟨some 11, .mnmx false [(.tmp 10), (.con (.int .i64 1048576))], none⟩,
    ⟨some 12, .bin .sub (.tmp 7) (.tmp 11), none⟩,
    ⟨some 1, .mv (.tmp 12), none⟩])
  (.seq (.seq (.region [⟨some 5, .mv (.con (.int .i64 0)), none⟩])
  (.block 0 (.loop true [false, true, true, false, false, true] [false, true] B78L3)))
  (.seq (.region [⟨some 31, .mv (.tmp 1), none⟩,
    ⟨some 4, .mv (.tmp 31), none⟩])
  (.ret))))
def A78 : AFunc := { ntmps := 32, results := [.tmp 4], body := B78, coe := true, keep := 0 }
theorem tr78 : trFunc Tryd.prog M78 true Tryd.f78 = some A78 := by kernel_rfl

/-- The functions' deep codes, and contracts of functions without. -/
def ext : FuncId → Option (List DV → List Res → Option DOut) := fun | 53 => some (xCopy 76) | 54 => some (xItoa) | 55 => some (xJoin) | _ => none
def env : Env := { af := fun | 3 => some A3 | 8 => some A8 | 9 => some A9 | 10 => some A10 | 11 => some A11 | 23 => some A23 | 24 => some A24 | 25 => some A25 | 26 => some A26 | 27 => some A27 | 28 => some A28 | 29 => some A29 | 30 => some A30 | 52 => some A52 | 78 => some A78 | _ => none, ext := ext }
theorem env_ok {G : Glob} (hx : ExtOk Tryd.prog G ext) : EnvOk Tryd.prog G env where
  af := fun g F h => by
    unfold env at h
    simp only at h
    split at h
    · cases h; exact ⟨Tryd.f3, M3, true, by kernel_rfl, by kernel_rfl, tr3⟩
    · cases h; exact ⟨Tryd.f8, M8, true, by kernel_rfl, by kernel_rfl, tr8⟩
    · cases h; exact ⟨Tryd.f9, M9, true, by kernel_rfl, by kernel_rfl, tr9⟩
    · cases h; exact ⟨Tryd.f10, M10, true, by kernel_rfl, by kernel_rfl, tr10⟩
    · cases h; exact ⟨Tryd.f11, M11, true, by kernel_rfl, by kernel_rfl, tr11⟩
    · cases h; exact ⟨Tryd.f23, M23, true, by kernel_rfl, by kernel_rfl, tr23⟩
    · cases h; exact ⟨Tryd.f24, M24, true, by kernel_rfl, by kernel_rfl, tr24⟩
    · cases h; exact ⟨Tryd.f25, M25, true, by kernel_rfl, by kernel_rfl, tr25⟩
    · cases h; exact ⟨Tryd.f26, M26, true, by kernel_rfl, by kernel_rfl, tr26⟩
    · cases h; exact ⟨Tryd.f27, M27, true, by kernel_rfl, by kernel_rfl, tr27⟩
    · cases h; exact ⟨Tryd.f28, M28, true, by kernel_rfl, by kernel_rfl, tr28⟩
    · cases h; exact ⟨Tryd.f29, M29, true, by kernel_rfl, by kernel_rfl, tr29⟩
    · cases h; exact ⟨Tryd.f30, M30, true, by kernel_rfl, by kernel_rfl, tr30⟩
    · cases h; exact ⟨Tryd.f52, M52, true, by kernel_rfl, by kernel_rfl, tr52⟩
    · cases h; exact ⟨Tryd.f78, M78, true, by kernel_rfl, by kernel_rfl, tr78⟩
    · cases h
  ext := hx

end Go.Proofs.YtoadpaaghjomnaaDoor.Codes
