/-
  The deep codes of functions, each with the fact that it is that of the function's code. Written by wip/gen/deep.py.
  Conditions: none.
-/
import Derived.Test.YtckmpipiginhaaaDoorDY
import Derived.Test.YtckmpipiginhaaaDoorProg
import Derived.KernelRfl
set_option maxRecDepth 100000
namespace Go.Proofs.YtckmpipiginhaaaDoor.Codes
open Go.Deepv

/-- handloom/handloomlaw19.InstGoes -/
def M3 : Marks := { cut := fun _ => true, hd := fun | 6 => [false, true, false, true, true, true, true, false, false, false, false, false, false, false, false, false, false, false, false, false, false, false, false, false, false, false, false, false, false, false, false, false, false, false, false, false, false, false, false, false, false, true, true, true] | _ => [], ex := fun | 6 => [false, true, true, true, true, true, true] | _ => [], imm := fun | 1 => true | _ => false }
abbrev H3L6 : List Bool := [false, true, false, true, true, true, true, false, false, false, false, false, false, false, false, false, false, false, false, false, false, false, false, false, false, false, false, false, false, false, false, false, false, false, false, false, false, false, false, false, false, true, true, true]
abbrev X3L6 : List Bool := [false, true, true, true, true, true, true]
def B3L6 : ACode :=
  .seq (.region [⟨some 44, .bin .lss (.tmp 43) (.tmp 42), none⟩])
  (.seq (.cond (.tmp 44) (.skip) (.exit 0))
  (.seq (.block 1 (.seq (.region [⟨some 45, .idxAddr 1 (.tmp 41) (.tmp 43), none⟩,
      ⟨some 46, .load none (.tmp 45), none⟩,
      ⟨some 8, .mv (.tmp 46), none⟩])
    (.seq (.region [⟨some 47, .mv (.tmp 8), none⟩,
      ⟨some 48, .bin .lss (.tmp 47) (.con (.int .i64 0)), none⟩,
      ⟨some 49, .mv (.tmp 48), none⟩,
      ⟨some 50, .mv (.tmp 8), (some (49, false))⟩,
      ⟨some 51, .bin .geq (.tmp 50) (.con (.int .i64 1048576)), (some (49, false))⟩,
      ⟨some 52, .pick (.tmp 49) (.con (.bool true)) (.tmp 51), none⟩])
    (.cond (.tmp 52) (.seq (.region [⟨some 2, .mv (.con (.bool false)), none⟩])
    (.ret)) (.skip)))))
  (.region [⟨some 53, .bin .add (.tmp 43) (.con (.int .i64 1)), none⟩,
    ⟨some 43, .mv (.tmp 53), none⟩])))
def B3 : ACode :=
  .seq (.region [⟨some 1, .box true (.tmp 0), none⟩,
    ⟨some 2, .mv (.con (.bool false)), none⟩])
  (.seq (.region [⟨some 11, .load (some 4) (.tmp 1), none⟩,
    ⟨some 12, .call (.fn 6) [(.tmp 11)], none⟩,
    ⟨some 10, .mv (.tmp 12), none⟩,
    ⟨some 13, .ext 0 (.tmp 10), none⟩,
    ⟨some 14, .ext 1 (.tmp 10), none⟩,
    ⟨some 3, .mv (.tmp 13), none⟩,
    ⟨some 4, .mv (.tmp 14), none⟩])
  (.seq (.region [⟨some 16, .load (some 4) (.tmp 1), none⟩,
    ⟨some 17, .call (.fn 7) [(.tmp 16)], none⟩,
    ⟨some 15, .mv (.tmp 17), none⟩,
    ⟨some 18, .ext 0 (.tmp 15), none⟩,
    ⟨some 19, .ext 1 (.tmp 15), none⟩,
    ⟨some 5, .mv (.tmp 18), none⟩,
    ⟨some 6, .mv (.tmp 19), none⟩])
  (.seq (.seq (.region [⟨some 20, .load (some 4) (.tmp 1), none⟩,
    ⟨some 21, .call (.fn 8) [(.tmp 20)], none⟩,
    ⟨some 22, .un .not (.tmp 21), none⟩])
  (.cond (.tmp 22) (.seq (.region [⟨some 23, .mv (.tmp 3), none⟩,
    ⟨some 24, .len false (.tmp 23), none⟩,
    ⟨some 25, .bin .eql (.tmp 24) (.con (.int .i64 0)), none⟩,
    ⟨some 26, .mv (.tmp 25), none⟩,
    ⟨some 27, .mv (.tmp 4), (some (26, true))⟩,
    ⟨some 28, .un .not (.tmp 27), (some (26, true))⟩,
    ⟨some 29, .pick (.tmp 26) (.tmp 28) (.con (.bool false)), none⟩,
    ⟨some 30, .mv (.tmp 29), none⟩,
    ⟨some 31, .mv (.tmp 5), (some (30, true))⟩,
    ⟨some 32, .bin .eql (.tmp 31) (.con (.int .i64 0)), (some (30, true))⟩,
    ⟨some 33, .pick (.tmp 30) (.tmp 32) (.con (.bool false)), none⟩,
    ⟨some 34, .mv (.tmp 33), none⟩,
    ⟨some 35, .mv (.tmp 6), (some (34, true))⟩,
    ⟨some 36, .bin .eql (.tmp 35) (.con (.int .i64 0)), (some (34, true))⟩,
    ⟨some 37, .pick (.tmp 34) (.tmp 36) (.con (.bool false)), none⟩,
    ⟨some 38, .mv (.tmp 37), none⟩,
    ⟨some 39, .call (.fn 9) [], (some (38, true))⟩,
    ⟨some 40, .pick (.tmp 38) (.tmp 39) (.con (.bool false)), none⟩,
    ⟨some 2, .mv (.tmp 40), none⟩])
  (.ret)) (.skip)))
  (.seq (.seq (.region [⟨some 41, .mv (.tmp 3), none⟩,
    ⟨some 42, .len false (.tmp 41), none⟩,
    ⟨some 43, .mv (.con (.int .i64 0)), none⟩])
  (.block 0 (.loop true [false, true, false, true, true, true, true, false, false, false, false, false, false, false, false, false, false, false, false, false, false, false, false, false, false, false, false, false, false, false, false, false, false, false, false, false, false, false, false, false, false, true, true, true] [false, true, true, true, true, true, true] B3L6)))
  (.seq (.region [⟨some 54, .addOff 0 (.tmp 1), none⟩,
    ⟨some 55, .load none (.tmp 54), none⟩,
    ⟨some 56, .bin .eql (.tmp 55) (.con (.int .i64 7)), none⟩,
    ⟨some 57, .mv (.tmp 56), none⟩,
    ⟨some 58, .addOff 0 (.tmp 1), (some (57, false))⟩,
    ⟨some 59, .load none (.tmp 58), (some (57, false))⟩,
    ⟨some 60, .bin .eql (.tmp 59) (.con (.int .i64 15)), (some (57, false))⟩,
    ⟨some 61, .pick (.tmp 57) (.con (.bool true)) (.tmp 60), none⟩,
    ⟨some 62, .mv (.tmp 61), none⟩,
    ⟨some 63, .addOff 0 (.tmp 1), (some (62, false))⟩,
    ⟨some 64, .load none (.tmp 63), (some (62, false))⟩,
    ⟨some 65, .bin .eql (.tmp 64) (.con (.int .i64 11)), (some (62, false))⟩,
    ⟨some 66, .pick (.tmp 62) (.con (.bool true)) (.tmp 65), none⟩,
    ⟨some 67, .mv (.tmp 66), none⟩,
    ⟨some 68, .addOff 0 (.tmp 1), (some (67, false))⟩,
    ⟨some 69, .load none (.tmp 68), (some (67, false))⟩,
    ⟨some 70, .bin .eql (.tmp 69) (.con (.int .i64 9)), (some (67, false))⟩,
    ⟨some 71, .pick (.tmp 67) (.con (.bool true)) (.tmp 70), none⟩,
    ⟨some 9, .mv (.tmp 71), none⟩])
  (.seq (.region [⟨some 72, .mv (.tmp 4), none⟩,
    ⟨some 73, .mv (.tmp 9), none⟩,
    ⟨some 74, .un .not (.tmp 73), none⟩,
    ⟨some 75, .eqb false (.tmp 72) (.tmp 74), none⟩,
    ⟨some 76, .mv (.tmp 75), none⟩,
    ⟨some 77, .mv (.tmp 3), (some (76, true))⟩,
    ⟨some 78, .len false (.tmp 77), (some (76, true))⟩,
    ⟨some 79, .bin .leq (.tmp 78) (.con (.int .i64 1)), (some (76, true))⟩,
    ⟨some 80, .pick (.tmp 76) (.tmp 79) (.con (.bool false)), none⟩,
    ⟨some 81, .mv (.tmp 80), none⟩,
    ⟨some 82, .mv (.tmp 5), (some (81, true))⟩,
    ⟨some 83, .bin .geq (.tmp 82) (.con (.int .i64 0)), (some (81, true))⟩,
    ⟨some 84, .pick (.tmp 81) (.tmp 83) (.con (.bool false)), none⟩,
    ⟨some 85, .mv (.tmp 84), none⟩,
    ⟨some 86, .mv (.tmp 5), (some (85, true))⟩,
    ⟨some 87, .addOff 1 (.tmp 1), (some (85, true))⟩,
    ⟨some 88, .load none (.tmp 87), (some (85, true))⟩,
    ⟨some 89, .bin .add (.tmp 88) (.con (.int .i64 1)), (some (85, true))⟩,
    ⟨some 90, .addOff 2 (.tmp 1), (some (85, true))⟩,
    ⟨some 91, .load none (.tmp 90), (some (85, true))⟩,
    ⟨some 92, .mnmx true [(.tmp 89), (.tmp 91), (.con (.int .i64 3))], (some (85, true))⟩,
    ⟨some 93, .bin .leq (.tmp 86) (.tmp 92), (some (85, true))⟩,
    ⟨some 94, .pick (.tmp 85) (.tmp 93) (.con (.bool false)), none⟩,
    ⟨some 95, .mv (.tmp 94), none⟩,
    ⟨some 96, .mv (.tmp 6), (some (95, true))⟩,
    ⟨some 97, .bin .geq (.tmp 96) (.con (.int .i64 0)), (some (95, true))⟩,
    ⟨some 98, .pick (.tmp 95) (.tmp 97) (.con (.bool false)), none⟩,
    ⟨some 99, .mv (.tmp 98), none⟩,
    ⟨some 100, .mv (.tmp 6), (some (99, true))⟩,
    ⟨some 101, .bin .leq (.tmp 100) (.con (.int .i64 1)), (some (99, true))⟩,
    ⟨some 102, .pick (.tmp 99) (.tmp 101) (.con (.bool false)), none⟩,
    ⟨some 103, .mv (.tmp 102), none⟩,
    ⟨some 104, .call (.fn 9) [], (some (103, true))⟩,
    ⟨some 105, .pick (.tmp 103) (.tmp 104) (.con (.bool false)), none⟩,
    ⟨some 2, .mv (.tmp 105), none⟩])
  (.ret)))))))
def A3 : AFunc := { ntmps := 106, results := [.tmp 2], body := B3, coe := true, keep := 0 }
theorem tr3 : trFunc Tryd.prog M3 true Tryd.f3 = some A3 := by kernel_rfl

/-- handloom/handloomlaw19.InstTells -/
def M4 : Marks := { cut := fun _ => true, hd := fun | _ => [], ex := fun | _ => [], imm := fun | 2 => true | _ => false, alts := fun | 9 => [[0, 1, 2, 3, 4, 5, 6, 8, 7, 9, 10, 11, 12, 13, 14, 15, 16, 17, 18, 19, 20, 21, 22, 23, 24, 25, 26, 27, 28, 29, 30, 31, 32, 33, 34, 35, 36, 37, 38, 39, 40, 41, 42, 43, 44, 45], [0, 2, 1, 3, 4, 5, 6, 7, 8, 9, 10, 11, 12, 13, 14, 15, 16, 17, 18, 19, 20, 21, 22, 23, 24, 25, 26, 27, 28, 29, 30, 31, 32, 33, 34, 35, 36, 37, 38, 39, 40, 41, 42, 43, 44, 45], [0, 2, 1, 3, 4, 5, 6, 8, 7, 9, 10, 11, 12, 13, 14, 15, 16, 17, 18, 19, 20, 21, 22, 23, 24, 25, 26, 27, 28, 29, 30, 31, 32, 33, 34, 35, 36, 37, 38, 39, 40, 41, 42, 43, 44, 45]] | _ => [] }
def B4 : ACode :=
  .seq (.region [⟨some 2, .box true (.tmp 0), none⟩,
    ⟨some 4, .mv (.con (.bool false)), none⟩])
  (.seq (.seq (.region [⟨some 17, .mv (.tmp 1), none⟩,
    ⟨some 18, .len true (.tmp 17), none⟩,
    ⟨some 19, .bin .gtr (.tmp 18) (.con (.int .i64 300)), none⟩])
  (.cond (.tmp 19) (.seq (.region [⟨some 20, .call (.fn 9) [], none⟩,
    ⟨some 4, .mv (.tmp 20), none⟩])
  (.ret)) (.skip)))
  (.seq (.region [⟨some 22, .mv (.tmp 1), none⟩,
    ⟨some 23, .call (.fn 10) [(.tmp 22)], none⟩,
    ⟨some 21, .mv (.tmp 23), none⟩,
    ⟨some 24, .ext 0 (.tmp 21), none⟩,
    ⟨some 25, .ext 1 (.tmp 21), none⟩,
    ⟨some 5, .alloc [.ok (.int .i64 0), .ok (.int .i64 0), .ok (.int .i64 0), .ok (.int .i64 0)], none⟩,
    ⟨none, .store 4 (.tmp 5) (.tmp 24), none⟩,
    ⟨some 6, .mv (.tmp 25), none⟩])
  (.seq (.region [⟨some 27, .mv (.tmp 1), none⟩,
    ⟨some 28, .call (.fn 11) [(.tmp 27)], none⟩,
    ⟨some 26, .mv (.tmp 28), none⟩,
    ⟨some 29, .ext 0 (.tmp 26), none⟩,
    ⟨some 30, .ext 1 (.tmp 26), none⟩,
    ⟨some 7, .alloc [.ok (.int .i64 0), .ok (.int .i64 0), .ok (.int .i64 0), .ok (.int .i64 0)], none⟩,
    ⟨none, .store 4 (.tmp 7) (.tmp 29), none⟩,
    ⟨some 8, .mv (.tmp 30), none⟩])
  (.seq (.region [⟨some 32, .load (some 4) (.tmp 2), none⟩,
    ⟨some 33, .call (.fn 7) [(.tmp 32)], none⟩,
    ⟨some 31, .mv (.tmp 33), none⟩,
    ⟨some 34, .ext 0 (.tmp 31), none⟩,
    ⟨some 35, .ext 1 (.tmp 31), none⟩,
    ⟨some 9, .mv (.tmp 34), none⟩,
    ⟨some 10, .mv (.tmp 35), none⟩])
  (.seq (.region [⟨some 37, .load (some 4) (.tmp 2), none⟩,
    ⟨some 38, .call (.fn 12) [(.tmp 37)], none⟩,
    ⟨some 36, .mv (.tmp 38), none⟩,
    ⟨some 39, .ext 0 (.tmp 36), none⟩,
    ⟨some 40, .ext 1 (.tmp 36), none⟩,
    ⟨some 11, .mv (.tmp 39), none⟩,
    ⟨some 12, .mv (.tmp 40), none⟩])
  (.seq (.region [⟨some 42, .load (some 4) (.tmp 2), none⟩,
    ⟨some 43, .call (.fn 6) [(.tmp 42)], none⟩,
    ⟨some 41, .mv (.tmp 43), none⟩,
    ⟨some 44, .ext 0 (.tmp 41), none⟩,
    ⟨some 45, .ext 1 (.tmp 41), none⟩,
    ⟨some 13, .mv (.tmp 44), none⟩,
    ⟨some 14, .mv (.tmp 45), none⟩])
  (.seq (.region [⟨some 47, .load (some 4) (.tmp 2), none⟩,
    ⟨some 48, .call (.fn 13) [(.tmp 47)], none⟩,
    ⟨some 46, .mv (.tmp 48), none⟩,
    ⟨some 49, .ext 0 (.tmp 46), none⟩,
    ⟨some 50, .ext 1 (.tmp 46), none⟩,
    ⟨some 15, .mv (.tmp 49), none⟩,
    ⟨some 16, .mv (.tmp 50), none⟩])
  (.seq (.draw [⟨some 51, .load (some 4) (.tmp 2), none⟩,
    ⟨some 52, .call (.fn 14) [(.tmp 51)], none⟩,
    ⟨some 53, .load (some 4) (.tmp 2), none⟩,
    ⟨some 54, .call (.fn 8) [(.tmp 53)], none⟩,
    ⟨some 55, .eqb false (.tmp 52) (.tmp 54), none⟩,
    ⟨some 56, .mv (.tmp 55), none⟩,
    ⟨some 57, .load (some 4) (.tmp 2), (some (56, true))⟩,
    ⟨some 58, .call (.fn 15) [(.tmp 57)], (some (56, true))⟩,
    ⟨some 59, .load (some 4) (.tmp 2), (some (56, true))⟩,
    ⟨some 60, .call (.fn 16) [(.tmp 59)], (some (56, true))⟩,
    ⟨some 61, .bin .eql (.tmp 58) (.tmp 60), (some (56, true))⟩,
    ⟨some 62, .pick (.tmp 56) (.tmp 61) (.con (.bool false)), none⟩,
    ⟨some 63, .mv (.tmp 62), none⟩,
    ⟨some 64, .load (some 4) (.tmp 5), (some (63, true))⟩,
    ⟨some 65, .load (some 4) (.tmp 7), (some (63, true))⟩,
    ⟨some 66, .eqs false [0, 0, 0, 0] (.tmp 64) (.tmp 65), (some (63, true))⟩,
    ⟨some 67, .pick (.tmp 63) (.tmp 66) (.con (.bool false)), none⟩,
    ⟨some 68, .mv (.tmp 67), none⟩,
    ⟨some 69, .mv (.tmp 6), (some (68, true))⟩,
    ⟨some 70, .mv (.tmp 8), (some (68, true))⟩,
    ⟨some 71, .bin .eql (.tmp 69) (.tmp 70), (some (68, true))⟩,
    ⟨some 72, .pick (.tmp 68) (.tmp 71) (.con (.bool false)), none⟩,
    ⟨some 73, .mv (.tmp 72), none⟩,
    ⟨some 74, .mv (.tmp 9), (some (73, true))⟩,
    ⟨some 75, .mv (.tmp 11), (some (73, true))⟩,
    ⟨some 76, .bin .eql (.tmp 74) (.tmp 75), (some (73, true))⟩,
    ⟨some 77, .pick (.tmp 73) (.tmp 76) (.con (.bool false)), none⟩,
    ⟨some 78, .mv (.tmp 77), none⟩,
    ⟨some 79, .mv (.tmp 10), (some (78, true))⟩,
    ⟨some 80, .mv (.tmp 12), (some (78, true))⟩,
    ⟨some 81, .bin .eql (.tmp 79) (.tmp 80), (some (78, true))⟩,
    ⟨some 82, .pick (.tmp 78) (.tmp 81) (.con (.bool false)), none⟩,
    ⟨some 83, .mv (.tmp 82), none⟩,
    ⟨some 84, .mv (.tmp 13), (some (83, true))⟩,
    ⟨some 85, .mv (.tmp 15), (some (83, true))⟩,
    ⟨some 86, .call (.fn 17) [(.tmp 84), (.tmp 85)], (some (83, true))⟩,
    ⟨some 87, .pick (.tmp 83) (.tmp 86) (.con (.bool false)), none⟩,
    ⟨some 88, .mv (.tmp 87), none⟩,
    ⟨some 89, .mv (.tmp 14), (some (88, true))⟩,
    ⟨some 90, .mv (.tmp 16), (some (88, true))⟩,
    ⟨some 91, .eqb false (.tmp 89) (.tmp 90), (some (88, true))⟩,
    ⟨some 92, .pick (.tmp 88) (.tmp 91) (.con (.bool false)), none⟩,
    ⟨some 93, .mv (.tmp 92), none⟩,
    ⟨some 94, .call (.fn 9) [], (some (93, true))⟩,
    ⟨some 95, .pick (.tmp 93) (.tmp 94) (.con (.bool false)), none⟩,
    ⟨some 4, .mv (.tmp 95), none⟩] [[⟨some 51, .load (some 4) (.tmp 2), none⟩, ⟨some 52, .call (.fn 14) [(.tmp 51)], none⟩, ⟨some 53, .load (some 4) (.tmp 2), none⟩, ⟨some 54, .call (.fn 8) [(.tmp 53)], none⟩, ⟨some 55, .eqb false (.tmp 52) (.tmp 54), none⟩, ⟨some 56, .mv (.tmp 55), none⟩, ⟨some 57, .load (some 4) (.tmp 2), (some (56, true))⟩, ⟨some 59, .load (some 4) (.tmp 2), (some (56, true))⟩, ⟨some 58, .call (.fn 15) [(.tmp 57)], (some (56, true))⟩, ⟨some 60, .call (.fn 16) [(.tmp 59)], (some (56, true))⟩, ⟨some 61, .bin .eql (.tmp 58) (.tmp 60), (some (56, true))⟩, ⟨some 62, .pick (.tmp 56) (.tmp 61) (.con (.bool false)), none⟩, ⟨some 63, .mv (.tmp 62), none⟩, ⟨some 64, .load (some 4) (.tmp 5), (some (63, true))⟩, ⟨some 65, .load (some 4) (.tmp 7), (some (63, true))⟩, ⟨some 66, .eqs false [0, 0, 0, 0] (.tmp 64) (.tmp 65), (some (63, true))⟩, ⟨some 67, .pick (.tmp 63) (.tmp 66) (.con (.bool false)), none⟩, ⟨some 68, .mv (.tmp 67), none⟩, ⟨some 69, .mv (.tmp 6), (some (68, true))⟩, ⟨some 70, .mv (.tmp 8), (some (68, true))⟩, ⟨some 71, .bin .eql (.tmp 69) (.tmp 70), (some (68, true))⟩, ⟨some 72, .pick (.tmp 68) (.tmp 71) (.con (.bool false)), none⟩, ⟨some 73, .mv (.tmp 72), none⟩, ⟨some 74, .mv (.tmp 9), (some (73, true))⟩, ⟨some 75, .mv (.tmp 11), (some (73, true))⟩, ⟨some 76, .bin .eql (.tmp 74) (.tmp 75), (some (73, true))⟩, ⟨some 77, .pick (.tmp 73) (.tmp 76) (.con (.bool false)), none⟩, ⟨some 78, .mv (.tmp 77), none⟩, ⟨some 79, .mv (.tmp 10), (some (78, true))⟩, ⟨some 80, .mv (.tmp 12), (some (78, true))⟩, ⟨some 81, .bin .eql (.tmp 79) (.tmp 80), (some (78, true))⟩, ⟨some 82, .pick (.tmp 78) (.tmp 81) (.con (.bool false)), none⟩, ⟨some 83, .mv (.tmp 82), none⟩, ⟨some 84, .mv (.tmp 13), (some (83, true))⟩, ⟨some 85, .mv (.tmp 15), (some (83, true))⟩, ⟨some 86, .call (.fn 17) [(.tmp 84), (.tmp 85)], (some (83, true))⟩, ⟨some 87, .pick (.tmp 83) (.tmp 86) (.con (.bool false)), none⟩, ⟨some 88, .mv (.tmp 87), none⟩, ⟨some 89, .mv (.tmp 14), (some (88, true))⟩, ⟨some 90, .mv (.tmp 16), (some (88, true))⟩, ⟨some 91, .eqb false (.tmp 89) (.tmp 90), (some (88, true))⟩, ⟨some 92, .pick (.tmp 88) (.tmp 91) (.con (.bool false)), none⟩, ⟨some 93, .mv (.tmp 92), none⟩, ⟨some 94, .call (.fn 9) [], (some (93, true))⟩, ⟨some 95, .pick (.tmp 93) (.tmp 94) (.con (.bool false)), none⟩, ⟨some 4, .mv (.tmp 95), none⟩], [⟨some 51, .load (some 4) (.tmp 2), none⟩, ⟨some 53, .load (some 4) (.tmp 2), none⟩, ⟨some 52, .call (.fn 14) [(.tmp 51)], none⟩, ⟨some 54, .call (.fn 8) [(.tmp 53)], none⟩, ⟨some 55, .eqb false (.tmp 52) (.tmp 54), none⟩, ⟨some 56, .mv (.tmp 55), none⟩, ⟨some 57, .load (some 4) (.tmp 2), (some (56, true))⟩, ⟨some 58, .call (.fn 15) [(.tmp 57)], (some (56, true))⟩, ⟨some 59, .load (some 4) (.tmp 2), (some (56, true))⟩, ⟨some 60, .call (.fn 16) [(.tmp 59)], (some (56, true))⟩, ⟨some 61, .bin .eql (.tmp 58) (.tmp 60), (some (56, true))⟩, ⟨some 62, .pick (.tmp 56) (.tmp 61) (.con (.bool false)), none⟩, ⟨some 63, .mv (.tmp 62), none⟩, ⟨some 64, .load (some 4) (.tmp 5), (some (63, true))⟩, ⟨some 65, .load (some 4) (.tmp 7), (some (63, true))⟩, ⟨some 66, .eqs false [0, 0, 0, 0] (.tmp 64) (.tmp 65), (some (63, true))⟩, ⟨some 67, .pick (.tmp 63) (.tmp 66) (.con (.bool false)), none⟩, ⟨some 68, .mv (.tmp 67), none⟩, ⟨some 69, .mv (.tmp 6), (some (68, true))⟩, ⟨some 70, .mv (.tmp 8), (some (68, true))⟩, ⟨some 71, .bin .eql (.tmp 69) (.tmp 70), (some (68, true))⟩, ⟨some 72, .pick (.tmp 68) (.tmp 71) (.con (.bool false)), none⟩, ⟨some 73, .mv (.tmp 72), none⟩, ⟨some 74, .mv (.tmp 9), (some (73, true))⟩, ⟨some 75, .mv (.tmp 11), (some (73, true))⟩, ⟨some 76, .bin .eql (.tmp 74) (.tmp 75), (some (73, true))⟩, ⟨some 77, .pick (.tmp 73) (.tmp 76) (.con (.bool false)), none⟩, ⟨some 78, .mv (.tmp 77), none⟩, ⟨some 79, .mv (.tmp 10), (some (78, true))⟩, ⟨some 80, .mv (.tmp 12), (some (78, true))⟩, ⟨some 81, .bin .eql (.tmp 79) (.tmp 80), (some (78, true))⟩, ⟨some 82, .pick (.tmp 78) (.tmp 81) (.con (.bool false)), none⟩, ⟨some 83, .mv (.tmp 82), none⟩, ⟨some 84, .mv (.tmp 13), (some (83, true))⟩, ⟨some 85, .mv (.tmp 15), (some (83, true))⟩, ⟨some 86, .call (.fn 17) [(.tmp 84), (.tmp 85)], (some (83, true))⟩, ⟨some 87, .pick (.tmp 83) (.tmp 86) (.con (.bool false)), none⟩, ⟨some 88, .mv (.tmp 87), none⟩, ⟨some 89, .mv (.tmp 14), (some (88, true))⟩, ⟨some 90, .mv (.tmp 16), (some (88, true))⟩, ⟨some 91, .eqb false (.tmp 89) (.tmp 90), (some (88, true))⟩, ⟨some 92, .pick (.tmp 88) (.tmp 91) (.con (.bool false)), none⟩, ⟨some 93, .mv (.tmp 92), none⟩, ⟨some 94, .call (.fn 9) [], (some (93, true))⟩, ⟨some 95, .pick (.tmp 93) (.tmp 94) (.con (.bool false)), none⟩, ⟨some 4, .mv (.tmp 95), none⟩], [⟨some 51, .load (some 4) (.tmp 2), none⟩, ⟨some 53, .load (some 4) (.tmp 2), none⟩, ⟨some 52, .call (.fn 14) [(.tmp 51)], none⟩, ⟨some 54, .call (.fn 8) [(.tmp 53)], none⟩, ⟨some 55, .eqb false (.tmp 52) (.tmp 54), none⟩, ⟨some 56, .mv (.tmp 55), none⟩, ⟨some 57, .load (some 4) (.tmp 2), (some (56, true))⟩, ⟨some 59, .load (some 4) (.tmp 2), (some (56, true))⟩, ⟨some 58, .call (.fn 15) [(.tmp 57)], (some (56, true))⟩, ⟨some 60, .call (.fn 16) [(.tmp 59)], (some (56, true))⟩, ⟨some 61, .bin .eql (.tmp 58) (.tmp 60), (some (56, true))⟩, ⟨some 62, .pick (.tmp 56) (.tmp 61) (.con (.bool false)), none⟩, ⟨some 63, .mv (.tmp 62), none⟩, ⟨some 64, .load (some 4) (.tmp 5), (some (63, true))⟩, ⟨some 65, .load (some 4) (.tmp 7), (some (63, true))⟩, ⟨some 66, .eqs false [0, 0, 0, 0] (.tmp 64) (.tmp 65), (some (63, true))⟩, ⟨some 67, .pick (.tmp 63) (.tmp 66) (.con (.bool false)), none⟩, ⟨some 68, .mv (.tmp 67), none⟩, ⟨some 69, .mv (.tmp 6), (some (68, true))⟩, ⟨some 70, .mv (.tmp 8), (some (68, true))⟩, ⟨some 71, .bin .eql (.tmp 69) (.tmp 70), (some (68, true))⟩, ⟨some 72, .pick (.tmp 68) (.tmp 71) (.con (.bool false)), none⟩, ⟨some 73, .mv (.tmp 72), none⟩, ⟨some 74, .mv (.tmp 9), (some (73, true))⟩, ⟨some 75, .mv (.tmp 11), (some (73, true))⟩, ⟨some 76, .bin .eql (.tmp 74) (.tmp 75), (some (73, true))⟩, ⟨some 77, .pick (.tmp 73) (.tmp 76) (.con (.bool false)), none⟩, ⟨some 78, .mv (.tmp 77), none⟩, ⟨some 79, .mv (.tmp 10), (some (78, true))⟩, ⟨some 80, .mv (.tmp 12), (some (78, true))⟩, ⟨some 81, .bin .eql (.tmp 79) (.tmp 80), (some (78, true))⟩, ⟨some 82, .pick (.tmp 78) (.tmp 81) (.con (.bool false)), none⟩, ⟨some 83, .mv (.tmp 82), none⟩, ⟨some 84, .mv (.tmp 13), (some (83, true))⟩, ⟨some 85, .mv (.tmp 15), (some (83, true))⟩, ⟨some 86, .call (.fn 17) [(.tmp 84), (.tmp 85)], (some (83, true))⟩, ⟨some 87, .pick (.tmp 83) (.tmp 86) (.con (.bool false)), none⟩, ⟨some 88, .mv (.tmp 87), none⟩, ⟨some 89, .mv (.tmp 14), (some (88, true))⟩, ⟨some 90, .mv (.tmp 16), (some (88, true))⟩, ⟨some 91, .eqb false (.tmp 89) (.tmp 90), (some (88, true))⟩, ⟨some 92, .pick (.tmp 88) (.tmp 91) (.con (.bool false)), none⟩, ⟨some 93, .mv (.tmp 92), none⟩, ⟨some 94, .call (.fn 9) [], (some (93, true))⟩, ⟨some 95, .pick (.tmp 93) (.tmp 94) (.con (.bool false)), none⟩, ⟨some 4, .mv (.tmp 95), none⟩]])
  (.ret)))))))))
def A4 : AFunc := { ntmps := 96, results := [.tmp 4], body := B4, coe := true, keep := 0 }
theorem tr4 : trFunc Tryd.prog M4 true Tryd.f4 = some A4 := by kernel_rfl

/-- handloom/handloomlaw19.InstBack -/
def M5 : Marks := { cut := fun _ => true, hd := fun | _ => [], ex := fun | _ => [], imm := fun | 3 => true | 4 => true | _ => false, alts := fun | 3 => [[0, 2, 1, 3, 4, 5]] | _ => [] }
def B5 : ACode :=
  .seq (.region [⟨some 3, .box true (.tmp 0), none⟩,
    ⟨some 4, .box true (.tmp 1), none⟩,
    ⟨some 6, .mv (.con (.bool false)), none⟩])
  (.seq (.seq (.region [⟨some 13, .mv (.tmp 2), none⟩,
    ⟨some 14, .len true (.tmp 13), none⟩,
    ⟨some 15, .bin .gtr (.tmp 14) (.con (.int .i64 300)), none⟩])
  (.cond (.tmp 15) (.seq (.region [⟨some 16, .call (.fn 9) [], none⟩,
    ⟨some 6, .mv (.tmp 16), none⟩])
  (.ret)) (.skip)))
  (.seq (.draw [⟨some 17, .load (some 4) (.tmp 3), none⟩,
    ⟨some 18, .call (.fn 15) [(.tmp 17)], none⟩,
    ⟨some 19, .load (some 4) (.tmp 4), none⟩,
    ⟨some 20, .call (.fn 15) [(.tmp 19)], none⟩,
    ⟨some 7, .mv (.tmp 18), none⟩,
    ⟨some 8, .mv (.tmp 20), none⟩] [[⟨some 17, .load (some 4) (.tmp 3), none⟩, ⟨some 19, .load (some 4) (.tmp 4), none⟩, ⟨some 18, .call (.fn 15) [(.tmp 17)], none⟩, ⟨some 20, .call (.fn 15) [(.tmp 19)], none⟩, ⟨some 7, .mv (.tmp 18), none⟩, ⟨some 8, .mv (.tmp 20), none⟩]])
  (.seq (.region [⟨some 22, .mv (.tmp 7), none⟩,
    ⟨some 23, .call (.fn 10) [(.tmp 22)], none⟩,
    ⟨some 21, .mv (.tmp 23), none⟩,
    ⟨some 24, .ext 0 (.tmp 21), none⟩,
    ⟨some 25, .ext 1 (.tmp 21), none⟩,
    ⟨some 9, .alloc [.ok (.int .i64 0), .ok (.int .i64 0), .ok (.int .i64 0), .ok (.int .i64 0)], none⟩,
    ⟨none, .store 4 (.tmp 9) (.tmp 24), none⟩,
    ⟨some 10, .mv (.tmp 25), none⟩])
  (.seq (.seq (.region [⟨some 26, .load (some 4) (.tmp 3), none⟩,
    ⟨some 27, .call (.fn 14) [(.tmp 26)], none⟩,
    ⟨some 28, .mv (.tmp 7), none⟩,
    ⟨some 29, .bin .neq (.tmp 28) (.con (.str ⟨#[]⟩)), none⟩,
    ⟨some 30, .eqb true (.tmp 27) (.tmp 29), none⟩,
    ⟨some 31, .mv (.tmp 30), none⟩,
    ⟨some 32, .load (some 4) (.tmp 3), (some (31, false))⟩,
    ⟨some 33, .call (.fn 14) [(.tmp 32)], (some (31, false))⟩,
    ⟨some 34, .mv (.tmp 33), (some (31, false))⟩,
    ⟨some 35, .mv (.tmp 10), (some (34, true))⟩,
    ⟨some 36, .bin .neq (.tmp 35) (.con (.int .i64 0)), (some (34, true))⟩,
    ⟨some 37, .mv (.tmp 36), (some (34, true))⟩,
    ⟨some 38, .load (some 4) (.tmp 9), (some (37, false))⟩,
    ⟨some 39, .load (some 4) (.tmp 3), (some (37, false))⟩,
    ⟨some 40, .eqs true [0, 0, 0, 0] (.tmp 38) (.tmp 39), (some (37, false))⟩,
    ⟨some 41, .pick (.tmp 37) (.con (.bool true)) (.tmp 40), (some (34, true))⟩,
    ⟨some 42, .pick (.tmp 34) (.tmp 41) (.con (.bool false)), (some (31, false))⟩,
    ⟨some 43, .pick (.tmp 31) (.con (.bool true)) (.tmp 42), none⟩,
    ⟨some 44, .mv (.tmp 43), none⟩,
    ⟨some 45, .load (some 4) (.tmp 3), (some (44, false))⟩,
    ⟨some 46, .call (.fn 14) [(.tmp 45)], (some (44, false))⟩,
    ⟨some 47, .mv (.tmp 46), (some (44, false))⟩,
    ⟨some 48, .load (some 4) (.tmp 4), (some (47, true))⟩,
    ⟨some 49, .call (.fn 14) [(.tmp 48)], (some (47, true))⟩,
    ⟨some 50, .pick (.tmp 47) (.tmp 49) (.con (.bool false)), (some (44, false))⟩,
    ⟨some 51, .mv (.tmp 50), (some (44, false))⟩,
    ⟨some 52, .mv (.tmp 7), (some (51, true))⟩,
    ⟨some 53, .mv (.tmp 8), (some (51, true))⟩,
    ⟨some 54, .bin .eql (.tmp 52) (.tmp 53), (some (51, true))⟩,
    ⟨some 55, .load (some 4) (.tmp 3), (some (51, true))⟩,
    ⟨some 56, .load (some 4) (.tmp 4), (some (51, true))⟩,
    ⟨some 57, .eqs false [0, 0, 0, 0] (.tmp 55) (.tmp 56), (some (51, true))⟩,
    ⟨some 58, .eqb true (.tmp 54) (.tmp 57), (some (51, true))⟩,
    ⟨some 59, .pick (.tmp 51) (.tmp 58) (.con (.bool false)), (some (44, false))⟩,
    ⟨some 60, .pick (.tmp 44) (.con (.bool true)) (.tmp 59), none⟩])
  (.cond (.tmp 60) (.seq (.region [⟨some 6, .mv (.con (.bool false)), none⟩])
  (.ret)) (.skip)))
  (.seq (.region [⟨some 62, .mv (.tmp 2), none⟩,
    ⟨some 63, .call (.fn 10) [(.tmp 62)], none⟩,
    ⟨some 61, .mv (.tmp 63), none⟩,
    ⟨some 64, .ext 0 (.tmp 61), none⟩,
    ⟨some 65, .ext 1 (.tmp 61), none⟩,
    ⟨some 11, .alloc [.ok (.int .i64 0), .ok (.int .i64 0), .ok (.int .i64 0), .ok (.int .i64 0)], none⟩,
    ⟨none, .store 4 (.tmp 11) (.tmp 64), none⟩,
    ⟨some 12, .mv (.tmp 65), none⟩])
  (.seq (.region [⟨some 66, .mv (.tmp 12), none⟩,
    ⟨some 67, .bin .neq (.tmp 66) (.con (.int .i64 0)), none⟩,
    ⟨some 68, .mv (.tmp 67), none⟩,
    ⟨some 69, .load (some 4) (.tmp 11), (some (68, false))⟩,
    ⟨some 70, .call (.fn 14) [(.tmp 69)], (some (68, false))⟩,
    ⟨some 71, .mv (.tmp 70), (some (68, false))⟩,
    ⟨some 72, .load (some 4) (.tmp 11), (some (71, true))⟩,
    ⟨some 73, .call (.fn 15) [(.tmp 72)], (some (71, true))⟩,
    ⟨some 74, .mv (.tmp 2), (some (71, true))⟩,
    ⟨some 75, .bin .eql (.tmp 73) (.tmp 74), (some (71, true))⟩,
    ⟨some 76, .pick (.tmp 71) (.tmp 75) (.con (.bool false)), (some (68, false))⟩,
    ⟨some 77, .pick (.tmp 68) (.con (.bool true)) (.tmp 76), none⟩,
    ⟨some 78, .mv (.tmp 77), none⟩,
    ⟨some 79, .call (.fn 9) [], (some (78, true))⟩,
    ⟨some 80, .pick (.tmp 78) (.tmp 79) (.con (.bool false)), none⟩,
    ⟨some 6, .mv (.tmp 80), none⟩])
  (.ret)))))))
def A5 : AFunc := { ntmps := 81, results := [.tmp 6], body := B5, coe := true, keep := 0 }
theorem tr5 : trFunc Tryd.prog M5 true Tryd.f5 = some A5 := by kernel_rfl

/-- handloom/inst.Goes -/
def M6 : Marks := { cut := fun _ => true, hd := fun | _ => [], ex := fun | _ => [], imm := fun | 1 => true | 8 => true | 18 => true | 22 => true | _ => false }
def B6 : ACode :=
  .seq (.region [⟨some 1, .box true (.tmp 0), none⟩,
    ⟨some 2, .nilrow 1, none⟩,
    ⟨some 3, .mv (.con (.bool false)), none⟩])
  (.seq (.region [⟨some 7, .load (some 4) (.tmp 1), none⟩,
    ⟨some 8, .calld (.fn 18) [(.tmp 7)], none⟩,
    ⟨some 6, .mv (.tmp 8), none⟩,
    ⟨some 9, .ext 0 (.tmp 6), none⟩,
    ⟨some 10, .ext 1 (.tmp 6), none⟩,
    ⟨some 4, .alloc [.ok (.str ⟨#[]⟩), .ok (.int .i64 0), .ok (.int .i64 0), .ok (.int .i64 0), .ok (.int .i64 0), .ok (.int .i64 0), .ok (.int .i64 0), .ok (.int .i64 0), .ok (.int .i64 0), .ok (.int .i64 0), .ok (.bool false)], none⟩,
    ⟨none, .store 11 (.tmp 4) (.tmp 9), none⟩,
    ⟨some 5, .mv (.tmp 10), none⟩])
  (.seq (.seq (.region [⟨some 11, .mv (.tmp 5), none⟩,
    ⟨some 12, .un .not (.tmp 11), none⟩])
  (.cond (.tmp 12) (.seq (.region [⟨some 2, .nilrow 1, none⟩,
    ⟨some 3, .mv (.con (.bool false)), none⟩])
  (.ret)) (.skip)))
  (.seq (.seq (.region [⟨some 13, .addOff 9 (.tmp 4), none⟩,
    ⟨some 14, .load none (.tmp 13), none⟩,
    ⟨some 15, .bin .geq (.tmp 14) (.con (.int .i64 0)), none⟩])
  (.cond (.tmp 15) (.draw [⟨some 16, .mv (.tmp 2), none⟩,
    ⟨some 17, .load (some 4) (.tmp 1), none⟩,
    ⟨some 18, .calld (.fn 19) [(.tmp 17)], none⟩,
    ⟨some 19, .addOff 9 (.tmp 4), none⟩,
    ⟨some 20, .load none (.tmp 19), none⟩,
    ⟨some 21, .idxVal 3 1 none (.tmp 18) (.tmp 20), none⟩,
    ⟨some 22, .lit true 0 1 1 [.int .i64 0] [(0, (.tmp 21))], none⟩,
    ⟨some 23, .app false 0 1 8 (.tmp 16) (.tmp 22), none⟩,
    ⟨some 2, .mv (.tmp 23), none⟩] []) (.skip)))
  (.seq (.draw [⟨some 24, .mv (.tmp 2), none⟩,
    ⟨some 25, .addOff 10 (.tmp 4), none⟩,
    ⟨some 26, .load none (.tmp 25), none⟩,
    ⟨some 2, .mv (.tmp 24), none⟩,
    ⟨some 3, .mv (.tmp 26), none⟩] [])
  (.ret)))))
def A6 : AFunc := { ntmps := 27, results := [.tmp 2, .tmp 3], body := B6, coe := true, keep := 0 }
theorem tr6 : trFunc Tryd.prog M6 true Tryd.f6 = some A6 := by kernel_rfl

/-- handloom/inst.Takes -/
def M7 : Marks := { cut := fun _ => true, hd := fun | _ => [], ex := fun | _ => [], imm := fun | 1 => true | _ => false, alts := fun | 9 => [[0, 1, 3, 4, 2, 5, 6]] | _ => [] }
def B7 : ACode :=
  .seq (.region [⟨some 1, .box true (.tmp 0), none⟩,
    ⟨some 2, .mv (.con (.int .i64 0)), none⟩,
    ⟨some 3, .mv (.con (.int .i64 0)), none⟩])
  (.seq (.region [⟨some 7, .load (some 4) (.tmp 1), none⟩,
    ⟨some 8, .call (.fn 18) [(.tmp 7)], none⟩,
    ⟨some 6, .mv (.tmp 8), none⟩,
    ⟨some 9, .ext 0 (.tmp 6), none⟩,
    ⟨some 10, .ext 1 (.tmp 6), none⟩,
    ⟨some 4, .alloc [.ok (.str ⟨#[]⟩), .ok (.int .i64 0), .ok (.int .i64 0), .ok (.int .i64 0), .ok (.int .i64 0), .ok (.int .i64 0), .ok (.int .i64 0), .ok (.int .i64 0), .ok (.int .i64 0), .ok (.int .i64 0), .ok (.bool false)], none⟩,
    ⟨none, .store 11 (.tmp 4) (.tmp 9), none⟩,
    ⟨some 5, .mv (.tmp 10), none⟩])
  (.seq (.seq (.region [⟨some 11, .mv (.tmp 5), none⟩,
    ⟨some 12, .un .not (.tmp 11), none⟩])
  (.cond (.tmp 12) (.seq (.region [⟨some 2, .mv (.con (.int .i64 0)), none⟩,
    ⟨some 3, .mv (.con (.int .i64 0)), none⟩])
  (.ret)) (.skip)))
  (.seq (.seq (.region [⟨some 13, .addOff 0 (.tmp 1), none⟩,
    ⟨some 14, .load none (.tmp 13), none⟩])
  (.block 0 (.seq (.seq (.region [⟨some 16, .bin .eql (.tmp 14) (.con (.int .i64 3)), none⟩,
      ⟨some 15, .mv (.tmp 16), none⟩])
    (.cond (.tmp 15) (.skip) (.region [⟨some 17, .bin .eql (.tmp 14) (.con (.int .i64 6)), none⟩,
      ⟨some 15, .mv (.tmp 17), none⟩])))
    (.cond (.tmp 15) (.seq (.draw [⟨some 18, .addOff 2 (.tmp 1), none⟩,
      ⟨some 19, .load none (.tmp 18), none⟩,
      ⟨some 20, .addOff 8 (.tmp 4), none⟩,
      ⟨some 21, .load none (.tmp 20), none⟩,
      ⟨some 2, .mv (.tmp 19), none⟩,
      ⟨some 3, .mv (.tmp 21), none⟩] [])
    (.ret)) (.seq (.region [⟨some 23, .bin .eql (.tmp 14) (.con (.int .i64 5)), none⟩,
      ⟨some 22, .mv (.tmp 23), none⟩])
    (.cond (.tmp 22) (.seq (.draw [⟨some 24, .addOff 1 (.tmp 1), none⟩,
      ⟨some 25, .load none (.tmp 24), none⟩,
      ⟨some 26, .call (.fn 20) [(.tmp 25)], none⟩,
      ⟨some 27, .addOff 8 (.tmp 4), none⟩,
      ⟨some 28, .load none (.tmp 27), none⟩,
      ⟨some 2, .mv (.tmp 26), none⟩,
      ⟨some 3, .mv (.tmp 28), none⟩] [[⟨some 24, .addOff 1 (.tmp 1), none⟩, ⟨some 25, .load none (.tmp 24), none⟩, ⟨some 27, .addOff 8 (.tmp 4), none⟩, ⟨some 28, .load none (.tmp 27), none⟩, ⟨some 26, .call (.fn 20) [(.tmp 25)], none⟩, ⟨some 2, .mv (.tmp 26), none⟩, ⟨some 3, .mv (.tmp 28), none⟩]])
    (.ret)) (.seq (.region [⟨some 30, .bin .eql (.tmp 14) (.con (.int .i64 8)), none⟩,
      ⟨some 29, .mv (.tmp 30), none⟩])
    (.cond (.tmp 29) (.seq (.draw [⟨some 31, .addOff 1 (.tmp 1), none⟩,
      ⟨some 32, .load none (.tmp 31), none⟩,
      ⟨some 33, .bin .add (.tmp 32) (.con (.int .i64 1)), none⟩,
      ⟨some 34, .addOff 8 (.tmp 4), none⟩,
      ⟨some 35, .load none (.tmp 34), none⟩,
      ⟨some 2, .mv (.tmp 33), none⟩,
      ⟨some 3, .mv (.tmp 35), none⟩] [])
    (.ret)) (.skip)))))))))
  (.seq (.draw [⟨some 36, .addOff 7 (.tmp 4), none⟩,
    ⟨some 37, .load none (.tmp 36), none⟩,
    ⟨some 38, .addOff 8 (.tmp 4), none⟩,
    ⟨some 39, .load none (.tmp 38), none⟩,
    ⟨some 2, .mv (.tmp 37), none⟩,
    ⟨some 3, .mv (.tmp 39), none⟩] [])
  (.ret)))))
def A7 : AFunc := { ntmps := 40, results := [.tmp 2, .tmp 3], body := B7, coe := true, keep := 0 }
theorem tr7 : trFunc Tryd.prog M7 true Tryd.f7 = some A7 := by kernel_rfl

/-- handloom/handloomref19.Fit -/
def M8 : Marks := { cut := fun _ => true, hd := fun | _ => [], ex := fun | _ => [], imm := fun | 1 => true | _ => false }
def B8 : ACode :=
  .seq (.region [⟨some 1, .box true (.tmp 0), none⟩,
    ⟨some 2, .mv (.con (.bool false)), none⟩])
  (.seq (.region [⟨some 5, .addOff 2 (.tmp 1), none⟩,
    ⟨some 6, .load none (.tmp 5), none⟩,
    ⟨some 7, .bin .eql (.tmp 6) (.con (.int .i64 0)), none⟩,
    ⟨some 8, .mv (.tmp 7), none⟩,
    ⟨some 9, .addOff 3 (.tmp 1), (some (8, true))⟩,
    ⟨some 10, .load none (.tmp 9), (some (8, true))⟩,
    ⟨some 11, .bin .eql (.tmp 10) (.con (.int .i64 0)), (some (8, true))⟩,
    ⟨some 12, .pick (.tmp 8) (.tmp 11) (.con (.bool false)), none⟩,
    ⟨some 3, .mv (.tmp 12), none⟩])
  (.seq (.region [⟨some 13, .addOff 3 (.tmp 1), none⟩,
    ⟨some 14, .load none (.tmp 13), none⟩,
    ⟨some 15, .bin .eql (.tmp 14) (.con (.int .i64 0)), none⟩,
    ⟨some 4, .mv (.tmp 15), none⟩])
  (.seq (.seq (.region [⟨some 16, .addOff 0 (.tmp 1), none⟩,
    ⟨some 17, .load none (.tmp 16), none⟩])
  (.block 0 (.seq (.region [⟨some 19, .bin .eql (.tmp 17) (.con (.int .i64 0)), none⟩,
      ⟨some 18, .mv (.tmp 19), none⟩])
    (.cond (.tmp 18) (.seq (.region [⟨some 20, .mv (.tmp 3), none⟩,
      ⟨some 21, .mv (.tmp 20), none⟩,
      ⟨some 22, .addOff 1 (.tmp 1), (some (21, true))⟩,
      ⟨some 23, .load none (.tmp 22), (some (21, true))⟩,
      ⟨some 24, .call (.fn 21) [(.tmp 23)], (some (21, true))⟩,
      ⟨some 25, .pick (.tmp 21) (.tmp 24) (.con (.bool false)), none⟩,
      ⟨some 2, .mv (.tmp 25), none⟩])
    (.ret)) (.seq (.region [⟨some 27, .bin .eql (.tmp 17) (.con (.int .i64 1)), none⟩,
      ⟨some 26, .mv (.tmp 27), none⟩])
    (.cond (.tmp 26) (.seq (.region [⟨some 28, .mv (.tmp 3), none⟩,
      ⟨some 29, .mv (.tmp 28), none⟩,
      ⟨some 30, .addOff 1 (.tmp 1), (some (29, true))⟩,
      ⟨some 31, .load none (.tmp 30), (some (29, true))⟩,
      ⟨some 32, .call (.fn 22) [(.tmp 31), (.con (.int .i64 4096))], (some (29, true))⟩,
      ⟨some 33, .pick (.tmp 29) (.tmp 32) (.con (.bool false)), none⟩,
      ⟨some 2, .mv (.tmp 33), none⟩])
    (.ret)) (.seq (.seq (.region [⟨some 35, .bin .eql (.tmp 17) (.con (.int .i64 2)), none⟩,
      ⟨some 34, .mv (.tmp 35), none⟩])
    (.cond (.tmp 34) (.skip) (.region [⟨some 36, .bin .eql (.tmp 17) (.con (.int .i64 14)), none⟩,
      ⟨some 34, .mv (.tmp 36), none⟩])))
    (.cond (.tmp 34) (.seq (.region [⟨some 37, .mv (.tmp 3), none⟩,
      ⟨some 38, .mv (.tmp 37), none⟩,
      ⟨some 39, .addOff 1 (.tmp 1), (some (38, true))⟩,
      ⟨some 40, .load none (.tmp 39), (some (38, true))⟩,
      ⟨some 41, .call (.fn 22) [(.tmp 40), (.con (.int .i64 8192))], (some (38, true))⟩,
      ⟨some 42, .pick (.tmp 38) (.tmp 41) (.con (.bool false)), none⟩,
      ⟨some 2, .mv (.tmp 42), none⟩])
    (.ret)) (.seq (.region [⟨some 44, .bin .eql (.tmp 17) (.con (.int .i64 3)), none⟩,
      ⟨some 43, .mv (.tmp 44), none⟩])
    (.cond (.tmp 43) (.seq (.region [⟨some 45, .mv (.tmp 4), none⟩,
      ⟨some 46, .mv (.tmp 45), none⟩,
      ⟨some 47, .addOff 1 (.tmp 1), (some (46, true))⟩,
      ⟨some 48, .load none (.tmp 47), (some (46, true))⟩,
      ⟨some 49, .call (.fn 22) [(.tmp 48), (.con (.int .i64 16))], (some (46, true))⟩,
      ⟨some 50, .pick (.tmp 46) (.tmp 49) (.con (.bool false)), none⟩,
      ⟨some 51, .mv (.tmp 50), none⟩,
      ⟨some 52, .addOff 2 (.tmp 1), (some (51, true))⟩,
      ⟨some 53, .load none (.tmp 52), (some (51, true))⟩,
      ⟨some 54, .bin .geq (.tmp 53) (.con (.int .i64 1)), (some (51, true))⟩,
      ⟨some 55, .pick (.tmp 51) (.tmp 54) (.con (.bool false)), none⟩,
      ⟨some 56, .mv (.tmp 55), none⟩,
      ⟨some 57, .addOff 2 (.tmp 1), (some (56, true))⟩,
      ⟨some 58, .load none (.tmp 57), (some (56, true))⟩,
      ⟨some 59, .bin .leq (.tmp 58) (.con (.int .i64 6)), (some (56, true))⟩,
      ⟨some 60, .pick (.tmp 56) (.tmp 59) (.con (.bool false)), none⟩,
      ⟨some 2, .mv (.tmp 60), none⟩])
    (.ret)) (.seq (.region [⟨some 62, .bin .eql (.tmp 17) (.con (.int .i64 4)), none⟩,
      ⟨some 61, .mv (.tmp 62), none⟩])
    (.cond (.tmp 61) (.seq (.region [⟨some 63, .mv (.tmp 4), none⟩,
      ⟨some 64, .mv (.tmp 63), none⟩,
      ⟨some 65, .addOff 1 (.tmp 1), (some (64, true))⟩,
      ⟨some 66, .load none (.tmp 65), (some (64, true))⟩,
      ⟨some 67, .call (.fn 22) [(.tmp 66), (.con (.int .i64 8192))], (some (64, true))⟩,
      ⟨some 68, .pick (.tmp 64) (.tmp 67) (.con (.bool false)), none⟩,
      ⟨some 69, .mv (.tmp 68), none⟩,
      ⟨some 70, .addOff 2 (.tmp 1), (some (69, true))⟩,
      ⟨some 71, .load none (.tmp 70), (some (69, true))⟩,
      ⟨some 72, .call (.fn 22) [(.tmp 71), (.con (.int .i64 6))], (some (69, true))⟩,
      ⟨some 73, .pick (.tmp 69) (.tmp 72) (.con (.bool false)), none⟩,
      ⟨some 2, .mv (.tmp 73), none⟩])
    (.ret)) (.seq (.region [⟨some 75, .bin .eql (.tmp 17) (.con (.int .i64 5)), none⟩,
      ⟨some 74, .mv (.tmp 75), none⟩])
    (.cond (.tmp 74) (.seq (.region [⟨some 76, .mv (.tmp 3), none⟩,
      ⟨some 77, .mv (.tmp 76), none⟩,
      ⟨some 78, .addOff 1 (.tmp 1), (some (77, true))⟩,
      ⟨some 79, .load none (.tmp 78), (some (77, true))⟩,
      ⟨some 80, .call (.fn 22) [(.tmp 79), (.con (.int .i64 12))], (some (77, true))⟩,
      ⟨some 81, .pick (.tmp 77) (.tmp 80) (.con (.bool false)), none⟩,
      ⟨some 2, .mv (.tmp 81), none⟩])
    (.ret)) (.seq (.region [⟨some 83, .bin .eql (.tmp 17) (.con (.int .i64 6)), none⟩,
      ⟨some 82, .mv (.tmp 83), none⟩])
    (.cond (.tmp 82) (.seq (.region [⟨some 84, .mv (.tmp 4), none⟩,
      ⟨some 85, .mv (.tmp 84), none⟩,
      ⟨some 86, .addOff 1 (.tmp 1), (some (85, true))⟩,
      ⟨some 87, .load none (.tmp 86), (some (85, true))⟩,
      ⟨some 88, .call (.fn 22) [(.tmp 87), (.con (.int .i64 80))], (some (85, true))⟩,
      ⟨some 89, .pick (.tmp 85) (.tmp 88) (.con (.bool false)), none⟩,
      ⟨some 90, .mv (.tmp 89), none⟩,
      ⟨some 91, .addOff 2 (.tmp 1), (some (90, true))⟩,
      ⟨some 92, .load none (.tmp 91), (some (90, true))⟩,
      ⟨some 93, .bin .geq (.tmp 92) (.con (.int .i64 1)), (some (90, true))⟩,
      ⟨some 94, .pick (.tmp 90) (.tmp 93) (.con (.bool false)), none⟩,
      ⟨some 95, .mv (.tmp 94), none⟩,
      ⟨some 96, .addOff 2 (.tmp 1), (some (95, true))⟩,
      ⟨some 97, .load none (.tmp 96), (some (95, true))⟩,
      ⟨some 98, .bin .leq (.tmp 97) (.con (.int .i64 6)), (some (95, true))⟩,
      ⟨some 99, .pick (.tmp 95) (.tmp 98) (.con (.bool false)), none⟩,
      ⟨some 2, .mv (.tmp 99), none⟩])
    (.ret)) (.seq (.seq (.region [⟨some 101, .bin .eql (.tmp 17) (.con (.int .i64 7)), none⟩,
      ⟨some 100, .mv (.tmp 101), none⟩])
    (.cond (.tmp 100) (.skip) (.region [⟨some 102, .bin .eql (.tmp 17) (.con (.int .i64 15)), none⟩,
      ⟨some 100, .mv (.tmp 102), none⟩])))
    (.cond (.tmp 100) (.seq (.region [⟨some 103, .mv (.tmp 3), none⟩,
      ⟨some 104, .mv (.tmp 103), none⟩,
      ⟨some 105, .addOff 1 (.tmp 1), (some (104, true))⟩,
      ⟨some 106, .load none (.tmp 105), (some (104, true))⟩,
      ⟨some 107, .bin .eql (.tmp 106) (.con (.int .i64 0)), (some (104, true))⟩,
      ⟨some 108, .pick (.tmp 104) (.tmp 107) (.con (.bool false)), none⟩,
      ⟨some 2, .mv (.tmp 108), none⟩])
    (.ret)) (.seq (.region [⟨some 110, .bin .eql (.tmp 17) (.con (.int .i64 8)), none⟩,
      ⟨some 109, .mv (.tmp 110), none⟩])
    (.cond (.tmp 109) (.seq (.region [⟨some 111, .mv (.tmp 3), none⟩,
      ⟨some 112, .mv (.tmp 111), none⟩,
      ⟨some 113, .addOff 1 (.tmp 1), (some (112, true))⟩,
      ⟨some 114, .load none (.tmp 113), (some (112, true))⟩,
      ⟨some 115, .bin .geq (.tmp 114) (.con (.int .i64 1)), (some (112, true))⟩,
      ⟨some 116, .pick (.tmp 112) (.tmp 115) (.con (.bool false)), none⟩,
      ⟨some 117, .mv (.tmp 116), none⟩,
      ⟨some 118, .addOff 1 (.tmp 1), (some (117, true))⟩,
      ⟨some 119, .load none (.tmp 118), (some (117, true))⟩,
      ⟨some 120, .bin .leq (.tmp 119) (.con (.int .i64 8192)), (some (117, true))⟩,
      ⟨some 121, .pick (.tmp 117) (.tmp 120) (.con (.bool false)), none⟩,
      ⟨some 2, .mv (.tmp 121), none⟩])
    (.ret)) (.seq (.seq (.region [⟨some 123, .bin .eql (.tmp 17) (.con (.int .i64 9)), none⟩,
      ⟨some 122, .mv (.tmp 123), none⟩])
    (.cond (.tmp 122) (.skip) (.region [⟨some 124, .bin .eql (.tmp 17) (.con (.int .i64 10)), none⟩,
      ⟨some 122, .mv (.tmp 124), none⟩])))
    (.cond (.tmp 122) (.seq (.region [⟨some 125, .mv (.tmp 3), none⟩,
      ⟨some 126, .mv (.tmp 125), none⟩,
      ⟨some 127, .addOff 1 (.tmp 1), (some (126, true))⟩,
      ⟨some 128, .load none (.tmp 127), (some (126, true))⟩,
      ⟨some 129, .call (.fn 22) [(.tmp 128), (.con (.int .i64 1048576))], (some (126, true))⟩,
      ⟨some 130, .pick (.tmp 126) (.tmp 129) (.con (.bool false)), none⟩,
      ⟨some 2, .mv (.tmp 130), none⟩])
    (.ret)) (.seq (.region [⟨some 132, .bin .eql (.tmp 17) (.con (.int .i64 11)), none⟩,
      ⟨some 131, .mv (.tmp 132), none⟩])
    (.cond (.tmp 131) (.seq (.region [⟨some 133, .mv (.tmp 4), none⟩,
      ⟨some 134, .mv (.tmp 133), none⟩,
      ⟨some 135, .addOff 1 (.tmp 1), (some (134, true))⟩,
      ⟨some 136, .load none (.tmp 135), (some (134, true))⟩,
      ⟨some 137, .call (.fn 22) [(.tmp 136), (.con (.int .i64 8192))], (some (134, true))⟩,
      ⟨some 138, .pick (.tmp 134) (.tmp 137) (.con (.bool false)), none⟩,
      ⟨some 139, .mv (.tmp 138), none⟩,
      ⟨some 140, .addOff 2 (.tmp 1), (some (139, true))⟩,
      ⟨some 141, .load none (.tmp 140), (some (139, true))⟩,
      ⟨some 142, .call (.fn 22) [(.tmp 141), (.con (.int .i64 65536))], (some (139, true))⟩,
      ⟨some 143, .pick (.tmp 139) (.tmp 142) (.con (.bool false)), none⟩,
      ⟨some 2, .mv (.tmp 143), none⟩])
    (.ret)) (.seq (.region [⟨some 145, .bin .eql (.tmp 17) (.con (.int .i64 12)), none⟩,
      ⟨some 144, .mv (.tmp 145), none⟩])
    (.cond (.tmp 144) (.seq (.region [⟨some 146, .addOff 1 (.tmp 1), none⟩,
      ⟨some 147, .load none (.tmp 146), none⟩,
      ⟨some 148, .call (.fn 22) [(.tmp 147), (.con (.int .i64 8192))], none⟩,
      ⟨some 149, .mv (.tmp 148), none⟩,
      ⟨some 150, .addOff 2 (.tmp 1), (some (149, true))⟩,
      ⟨some 151, .load none (.tmp 150), (some (149, true))⟩,
      ⟨some 152, .call (.fn 21) [(.tmp 151)], (some (149, true))⟩,
      ⟨some 153, .pick (.tmp 149) (.tmp 152) (.con (.bool false)), none⟩,
      ⟨some 154, .mv (.tmp 153), none⟩,
      ⟨some 155, .addOff 3 (.tmp 1), (some (154, true))⟩,
      ⟨some 156, .load none (.tmp 155), (some (154, true))⟩,
      ⟨some 157, .call (.fn 22) [(.tmp 156), (.con (.int .i64 1048576))], (some (154, true))⟩,
      ⟨some 158, .pick (.tmp 154) (.tmp 157) (.con (.bool false)), none⟩,
      ⟨some 2, .mv (.tmp 158), none⟩])
    (.ret)) (.seq (.region [⟨some 160, .bin .eql (.tmp 17) (.con (.int .i64 13)), none⟩,
      ⟨some 159, .mv (.tmp 160), none⟩])
    (.cond (.tmp 159) (.seq (.region [⟨some 161, .mv (.tmp 4), none⟩,
      ⟨some 162, .mv (.tmp 161), none⟩,
      ⟨some 163, .addOff 1 (.tmp 1), (some (162, true))⟩,
      ⟨some 164, .load none (.tmp 163), (some (162, true))⟩,
      ⟨some 165, .call (.fn 22) [(.tmp 164), (.con (.int .i64 8192))], (some (162, true))⟩,
      ⟨some 166, .pick (.tmp 162) (.tmp 165) (.con (.bool false)), none⟩,
      ⟨some 167, .mv (.tmp 166), none⟩,
      ⟨some 168, .addOff 2 (.tmp 1), (some (167, true))⟩,
      ⟨some 169, .load none (.tmp 168), (some (167, true))⟩,
      ⟨some 170, .call (.fn 22) [(.tmp 169), (.con (.int .i64 1048576))], (some (167, true))⟩,
      ⟨some 171, .pick (.tmp 167) (.tmp 170) (.con (.bool false)), none⟩,
      ⟨some 2, .mv (.tmp 171), none⟩])
    (.ret)) (.skip)))))))))))))))))))))))))))))
  (.seq (.region [⟨some 2, .mv (.con (.bool false)), none⟩])
  (.ret)))))
def A8 : AFunc := { ntmps := 172, results := [.tmp 2], body := B8, coe := true, keep := 0 }
theorem tr8 : trFunc Tryd.prog M8 true Tryd.f8 = some A8 := by kernel_rfl

/-- handloom/handloomlaw19.awake -/
def M9 : Marks := { cut := fun _ => true, hd := fun | _ => [], ex := fun | _ => [], imm := fun | _ => false }
def B9 : ACode :=
  .seq (.region [⟨some 0, .mv (.con (.bool false)), none⟩])
  (.seq (.region [⟨some 10, .call (.fn 10) [(.con (.str ⟨#[109, 97, 107, 101, 32, 50, 32, 51]⟩))], none⟩,
    ⟨some 9, .mv (.tmp 10), none⟩,
    ⟨some 11, .ext 0 (.tmp 9), none⟩,
    ⟨some 12, .ext 1 (.tmp 9), none⟩,
    ⟨some 1, .alloc [.ok (.int .i64 0), .ok (.int .i64 0), .ok (.int .i64 0), .ok (.int .i64 0)], none⟩,
    ⟨none, .store 4 (.tmp 1) (.tmp 11), none⟩,
    ⟨some 2, .mv (.tmp 12), none⟩])
  (.seq (.region [⟨some 14, .call (.fn 10) [(.con (.str ⟨#[105, 115, 32, 48, 32, 45, 53, 32, 55]⟩))], none⟩,
    ⟨some 13, .mv (.tmp 14), none⟩,
    ⟨some 15, .ext 0 (.tmp 13), none⟩,
    ⟨some 16, .ext 1 (.tmp 13), none⟩,
    ⟨some 3, .alloc [.ok (.int .i64 0), .ok (.int .i64 0), .ok (.int .i64 0), .ok (.int .i64 0)], none⟩,
    ⟨none, .store 4 (.tmp 3) (.tmp 15), none⟩,
    ⟨some 4, .mv (.tmp 16), none⟩])
  (.seq (.region [⟨some 18, .load (some 4) (.tmp 1), none⟩,
    ⟨some 19, .call (.fn 7) [(.tmp 18)], none⟩,
    ⟨some 17, .mv (.tmp 19), none⟩,
    ⟨some 20, .ext 0 (.tmp 17), none⟩,
    ⟨some 21, .ext 1 (.tmp 17), none⟩,
    ⟨some 5, .mv (.tmp 20), none⟩,
    ⟨some 6, .mv (.tmp 21), none⟩])
  (.seq (.region [⟨some 23, .load (some 4) (.tmp 3), none⟩,
    ⟨some 24, .call (.fn 6) [(.tmp 23)], none⟩,
    ⟨some 22, .mv (.tmp 24), none⟩,
    ⟨some 25, .ext 0 (.tmp 22), none⟩,
    ⟨some 26, .ext 1 (.tmp 22), none⟩,
    ⟨some 7, .mv (.tmp 25), none⟩,
    ⟨some 8, .mv (.tmp 26), none⟩])
  (.seq (.region [⟨some 27, .mv (.tmp 2), none⟩,
    ⟨some 28, .bin .eql (.tmp 27) (.con (.int .i64 0)), none⟩,
    ⟨some 29, .mv (.tmp 28), none⟩,
    ⟨some 30, .mv (.tmp 4), (some (29, true))⟩,
    ⟨some 31, .bin .eql (.tmp 30) (.con (.int .i64 0)), (some (29, true))⟩,
    ⟨some 32, .pick (.tmp 29) (.tmp 31) (.con (.bool false)), none⟩,
    ⟨some 33, .mv (.tmp 32), none⟩,
    ⟨some 34, .load (some 4) (.tmp 1), (some (33, true))⟩,
    ⟨some 35, .build [.int .i64 0, .int .i64 0, .int .i64 0, .int .i64 0] [(0, 1, (.con (.int .i64 3))), (1, 1, (.con (.int .i64 2))), (2, 1, (.con (.int .i64 3)))], (some (33, true))⟩,
    ⟨some 36, .eqs false [0, 0, 0, 0] (.tmp 34) (.tmp 35), (some (33, true))⟩,
    ⟨some 37, .pick (.tmp 33) (.tmp 36) (.con (.bool false)), none⟩,
    ⟨some 38, .mv (.tmp 37), none⟩,
    ⟨some 39, .mv (.tmp 5), (some (38, true))⟩,
    ⟨some 40, .bin .eql (.tmp 39) (.con (.int .i64 3)), (some (38, true))⟩,
    ⟨some 41, .pick (.tmp 38) (.tmp 40) (.con (.bool false)), none⟩,
    ⟨some 42, .mv (.tmp 41), none⟩,
    ⟨some 43, .mv (.tmp 6), (some (42, true))⟩,
    ⟨some 44, .bin .eql (.tmp 43) (.con (.int .i64 1)), (some (42, true))⟩,
    ⟨some 45, .pick (.tmp 42) (.tmp 44) (.con (.bool false)), none⟩,
    ⟨some 46, .mv (.tmp 45), none⟩,
    ⟨some 47, .mv (.tmp 7), (some (46, true))⟩,
    ⟨some 48, .len false (.tmp 47), (some (46, true))⟩,
    ⟨some 49, .bin .eql (.tmp 48) (.con (.int .i64 1)), (some (46, true))⟩,
    ⟨some 50, .pick (.tmp 46) (.tmp 49) (.con (.bool false)), none⟩,
    ⟨some 51, .mv (.tmp 50), none⟩,
    ⟨some 52, .mv (.tmp 7), (some (51, true))⟩,
    ⟨some 53, .idxAddr 1 (.tmp 52) (.con (.int .i64 0)), (some (51, true))⟩,
    ⟨some 54, .load none (.tmp 53), (some (51, true))⟩,
    ⟨some 55, .bin .eql (.tmp 54) (.con (.int .i64 7)), (some (51, true))⟩,
    ⟨some 56, .pick (.tmp 51) (.tmp 55) (.con (.bool false)), none⟩,
    ⟨some 57, .mv (.tmp 56), none⟩,
    ⟨some 58, .mv (.tmp 8), (some (57, true))⟩,
    ⟨some 59, .pick (.tmp 57) (.tmp 58) (.con (.bool false)), none⟩,
    ⟨some 0, .mv (.tmp 59), none⟩])
  (.ret))))))
def A9 : AFunc := { ntmps := 60, results := [.tmp 0], body := B9, coe := true, keep := 0 }
theorem tr9 : trFunc Tryd.prog M9 true Tryd.f9 = some A9 := by kernel_rfl

/-- handloom/inst.Read -/
def M10 : Marks := { cut := fun _ => true, hd := fun | 8 => [true, false, true, false, false, false, true, true, false, false, false, false, false, false, false, false, false, false, false, false, false, false, false, false, false, false, false, false, false, false, false, false, false, true, true, true] | _ => [], ex := fun | 8 => [true, false, true, true, false, false, true, true] | _ => [], imm := fun | _ => false, alts := fun | 4 => [[0, 1, 2, 5, 6, 7, 8, 3, 4, 9, 10, 11]] | _ => [] }
abbrev H10L8 : List Bool := [true, false, true, false, false, false, true, true, false, false, false, false, false, false, false, false, false, false, false, false, false, false, false, false, false, false, false, false, false, false, false, false, false, true, true, true]
abbrev X10L8 : List Bool := [true, false, true, true, false, false, true, true]
def B10L8 : ACode :=
  .seq (.region [⟨some 36, .bin .lss (.tmp 35) (.tmp 34), none⟩])
  (.seq (.cond (.tmp 36) (.skip) (.exit 0))
  (.seq (.block 1 (.seq (.region [⟨some 37, .mv (.tmp 35), none⟩,
      ⟨some 38, .idxAddr 1 (.tmp 33) (.tmp 35), none⟩,
      ⟨some 39, .load none (.tmp 38), none⟩,
      ⟨some 8, .mv (.tmp 37), none⟩,
      ⟨some 9, .mv (.tmp 39), none⟩])
    (.seq (.region [⟨some 41, .mv (.tmp 9), none⟩,
      ⟨some 42, .call (.fn 28) [(.tmp 41)], none⟩,
      ⟨some 40, .mv (.tmp 42), none⟩,
      ⟨some 43, .ext 0 (.tmp 40), none⟩,
      ⟨some 44, .ext 1 (.tmp 40), none⟩,
      ⟨some 10, .mv (.tmp 43), none⟩,
      ⟨some 11, .mv (.tmp 44), none⟩])
    (.seq (.seq (.region [⟨some 45, .mv (.tmp 11), none⟩,
      ⟨some 46, .isnil 1 true (.tmp 45), none⟩])
    (.cond (.tmp 46) (.seq (.region [⟨some 47, .build [.int .i64 0, .int .i64 0, .int .i64 0, .int .i64 0] [], none⟩,
      ⟨none, .store 4 (.tmp 2) (.tmp 47), none⟩,
      ⟨some 3, .mv (.con (.int .i64 19)), none⟩])
    (.ret)) (.skip)))
    (.region [⟨some 48, .mv (.tmp 8), none⟩,
      ⟨some 49, .mv (.tmp 10), none⟩,
      ⟨some 50, .idxArr 3 1 (.tmp 7) (.tmp 48), none⟩,
      ⟨none, .store 1 (.tmp 50) (.tmp 49), none⟩])))))
  (.region [⟨some 51, .bin .add (.tmp 35) (.con (.int .i64 1)), none⟩,
    ⟨some 35, .mv (.tmp 51), none⟩])))
def B10 : ACode :=
  .seq (.region [⟨some 2, .alloc [.ok (.int .i64 0), .ok (.int .i64 0), .ok (.int .i64 0), .ok (.int .i64 0)], none⟩,
    ⟨some 3, .mv (.con (.int .i64 0)), none⟩])
  (.seq (.region [⟨some 13, .mv (.tmp 0), none⟩,
    ⟨some 14, .call (.fn 23) [(.tmp 13), (.con (.str ⟨#[32]⟩))], none⟩,
    ⟨some 4, .alloc [.error 1], none⟩,
    ⟨none, .store 1 (.tmp 4) (.tmp 14), none⟩])
  (.seq (.region [⟨some 15, .call (.fn 24) [], none⟩,
    ⟨some 5, .alloc [.ok (.str ⟨#[]⟩), .ok (.int .i64 0), .ok (.int .i64 0), .ok (.int .i64 0), .ok (.int .i64 0), .ok (.int .i64 0), .ok (.int .i64 0), .ok (.int .i64 0), .ok (.int .i64 0), .ok (.int .i64 0), .ok (.bool false), .ok (.str ⟨#[]⟩), .ok (.int .i64 0), .ok (.int .i64 0), .ok (.int .i64 0), .ok (.int .i64 0), .ok (.int .i64 0), .ok (.int .i64 0), .ok (.int .i64 0), .ok (.int .i64 0), .ok (.int .i64 0), .ok (.bool false), .ok (.str ⟨#[]⟩), .ok (.int .i64 0), .ok (.int .i64 0), .ok (.int .i64 0), .ok (.int .i64 0), .ok (.int .i64 0), .ok (.int .i64 0), .ok (.int .i64 0), .ok (.int .i64 0), .ok (.int .i64 0), .ok (.bool false), .ok (.str ⟨#[]⟩), .ok (.int .i64 0), .ok (.int .i64 0), .ok (.int .i64 0), .ok (.int .i64 0), .ok (.int .i64 0), .ok (.int .i64 0), .ok (.int .i64 0), .ok (.int .i64 0), .ok (.int .i64 0), .ok (.bool false), .ok (.str ⟨#[]⟩), .ok (.int .i64 0), .ok (.int .i64 0), .ok (.int .i64 0), .ok (.int .i64 0), .ok (.int .i64 0), .ok (.int .i64 0), .ok (.int .i64 0), .ok (.int .i64 0), .ok (.int .i64 0), .ok (.bool false), .ok (.str ⟨#[]⟩), .ok (.int .i64 0), .ok (.int .i64 0), .ok (.int .i64 0), .ok (.int .i64 0), .ok (.int .i64 0), .ok (.int .i64 0), .ok (.int .i64 0), .ok (.int .i64 0), .ok (.int .i64 0), .ok (.bool false), .ok (.str ⟨#[]⟩), .ok (.int .i64 0), .ok (.int .i64 0), .ok (.int .i64 0), .ok (.int .i64 0), .ok (.int .i64 0), .ok (.int .i64 0), .ok (.int .i64 0), .ok (.int .i64 0), .ok (.int .i64 0), .ok (.bool false), .ok (.str ⟨#[]⟩), .ok (.int .i64 0), .ok (.int .i64 0), .ok (.int .i64 0), .ok (.int .i64 0), .ok (.int .i64 0), .ok (.int .i64 0), .ok (.int .i64 0), .ok (.int .i64 0), .ok (.int .i64 0), .ok (.bool false), .ok (.str ⟨#[]⟩), .ok (.int .i64 0), .ok (.int .i64 0), .ok (.int .i64 0), .ok (.int .i64 0), .ok (.int .i64 0), .ok (.int .i64 0), .ok (.int .i64 0), .ok (.int .i64 0), .ok (.int .i64 0), .ok (.bool false), .ok (.str ⟨#[]⟩), .ok (.int .i64 0), .ok (.int .i64 0), .ok (.int .i64 0), .ok (.int .i64 0), .ok (.int .i64 0), .ok (.int .i64 0), .ok (.int .i64 0), .ok (.int .i64 0), .ok (.int .i64 0), .ok (.bool false), .ok (.str ⟨#[]⟩), .ok (.int .i64 0), .ok (.int .i64 0), .ok (.int .i64 0), .ok (.int .i64 0), .ok (.int .i64 0), .ok (.int .i64 0), .ok (.int .i64 0), .ok (.int .i64 0), .ok (.int .i64 0), .ok (.bool false), .ok (.str ⟨#[]⟩), .ok (.int .i64 0), .ok (.int .i64 0), .ok (.int .i64 0), .ok (.int .i64 0), .ok (.int .i64 0), .ok (.int .i64 0), .ok (.int .i64 0), .ok (.int .i64 0), .ok (.int .i64 0), .ok (.bool false), .ok (.str ⟨#[]⟩), .ok (.int .i64 0), .ok (.int .i64 0), .ok (.int .i64 0), .ok (.int .i64 0), .ok (.int .i64 0), .ok (.int .i64 0), .ok (.int .i64 0), .ok (.int .i64 0), .ok (.int .i64 0), .ok (.bool false), .ok (.str ⟨#[]⟩), .ok (.int .i64 0), .ok (.int .i64 0), .ok (.int .i64 0), .ok (.int .i64 0), .ok (.int .i64 0), .ok (.int .i64 0), .ok (.int .i64 0), .ok (.int .i64 0), .ok (.int .i64 0), .ok (.bool false), .ok (.str ⟨#[]⟩), .ok (.int .i64 0), .ok (.int .i64 0), .ok (.int .i64 0), .ok (.int .i64 0), .ok (.int .i64 0), .ok (.int .i64 0), .ok (.int .i64 0), .ok (.int .i64 0), .ok (.int .i64 0), .ok (.bool false), .ok (.str ⟨#[]⟩), .ok (.int .i64 0), .ok (.int .i64 0), .ok (.int .i64 0), .ok (.int .i64 0), .ok (.int .i64 0), .ok (.int .i64 0), .ok (.int .i64 0), .ok (.int .i64 0), .ok (.int .i64 0), .ok (.bool false)], none⟩,
    ⟨none, .store 176 (.tmp 5) (.tmp 15), none⟩])
  (.seq (.region [⟨some 16, .slcA 16 11 (.tmp 5) none none, none⟩,
    ⟨some 17, .mkf (.func 26) [] [(.tmp 4)], none⟩,
    ⟨some 18, .call (.fn 25) [(.tmp 16), (.tmp 17)], none⟩,
    ⟨some 6, .mv (.tmp 18), none⟩])
  (.seq (.seq (.draw [⟨some 19, .mv (.tmp 6), none⟩,
    ⟨some 20, .bin .lss (.tmp 19) (.con (.int .i64 0)), none⟩,
    ⟨some 21, .mv (.tmp 20), none⟩,
    ⟨some 22, .load none (.tmp 4), (some (21, false))⟩,
    ⟨some 23, .len false (.tmp 22), (some (21, false))⟩,
    ⟨some 24, .mv (.tmp 6), (some (21, false))⟩,
    ⟨some 25, .idxArr 16 11 (.tmp 5) (.tmp 24), (some (21, false))⟩,
    ⟨some 26, .load (some 11) (.tmp 25), (some (21, false))⟩,
    ⟨some 27, .call (.fn 27) [(.tmp 26)], (some (21, false))⟩,
    ⟨some 28, .bin .add (.con (.int .i64 1)) (.tmp 27), (some (21, false))⟩,
    ⟨some 29, .bin .neq (.tmp 23) (.tmp 28), (some (21, false))⟩,
    ⟨some 30, .pick (.tmp 21) (.con (.bool true)) (.tmp 29), none⟩] [[⟨some 19, .mv (.tmp 6), none⟩, ⟨some 20, .bin .lss (.tmp 19) (.con (.int .i64 0)), none⟩, ⟨some 21, .mv (.tmp 20), none⟩, ⟨some 24, .mv (.tmp 6), (some (21, false))⟩, ⟨some 25, .idxArr 16 11 (.tmp 5) (.tmp 24), (some (21, false))⟩, ⟨some 26, .load (some 11) (.tmp 25), (some (21, false))⟩, ⟨some 27, .call (.fn 27) [(.tmp 26)], (some (21, false))⟩, ⟨some 22, .load none (.tmp 4), (some (21, false))⟩, ⟨some 23, .len false (.tmp 22), (some (21, false))⟩, ⟨some 28, .bin .add (.con (.int .i64 1)) (.tmp 27), (some (21, false))⟩, ⟨some 29, .bin .neq (.tmp 23) (.tmp 28), (some (21, false))⟩, ⟨some 30, .pick (.tmp 21) (.con (.bool true)) (.tmp 29), none⟩]])
  (.cond (.tmp 30) (.seq (.region [⟨some 31, .build [.int .i64 0, .int .i64 0, .int .i64 0, .int .i64 0] [], none⟩,
    ⟨none, .store 4 (.tmp 2) (.tmp 31), none⟩,
    ⟨some 3, .mv (.con (.int .i64 19)), none⟩])
  (.ret)) (.skip)))
  (.seq (.region [⟨some 7, .alloc [.ok (.int .i64 0), .ok (.int .i64 0), .ok (.int .i64 0)], none⟩])
  (.seq (.seq (.region [⟨some 32, .load none (.tmp 4), none⟩,
    ⟨some 33, .slc 1 (.tmp 32) (some (.con (.int .i64 1))) none, none⟩,
    ⟨some 34, .len false (.tmp 33), none⟩,
    ⟨some 35, .mv (.con (.int .i64 0)), none⟩])
  (.block 0 (.loop true [true, false, true, false, false, false, true, true, false, false, false, false, false, false, false, false, false, false, false, false, false, false, false, false, false, false, false, false, false, false, false, false, false, true, true, true] [true, false, true, true, false, false, true, true] B10L8)))
  (.seq (.region [⟨some 52, .mv (.tmp 6), none⟩,
    ⟨some 53, .idxArr 3 1 (.tmp 7) (.con (.int .i64 0)), none⟩,
    ⟨some 54, .load none (.tmp 53), none⟩,
    ⟨some 55, .idxArr 3 1 (.tmp 7) (.con (.int .i64 1)), none⟩,
    ⟨some 56, .load none (.tmp 55), none⟩,
    ⟨some 57, .idxArr 3 1 (.tmp 7) (.con (.int .i64 2)), none⟩,
    ⟨some 58, .load none (.tmp 57), none⟩,
    ⟨some 59, .build [.int .i64 0, .int .i64 0, .int .i64 0, .int .i64 0] [(0, 1, (.tmp 52)), (1, 1, (.tmp 54)), (2, 1, (.tmp 56)), (3, 1, (.tmp 58))], none⟩,
    ⟨some 12, .alloc [.ok (.int .i64 0), .ok (.int .i64 0), .ok (.int .i64 0), .ok (.int .i64 0)], none⟩,
    ⟨none, .store 4 (.tmp 12) (.tmp 59), none⟩])
  (.seq (.seq (.region [⟨some 60, .load (some 4) (.tmp 12), none⟩,
    ⟨some 61, .call (.fn 15) [(.tmp 60)], none⟩,
    ⟨some 62, .mv (.tmp 0), none⟩,
    ⟨some 63, .bin .neq (.tmp 61) (.tmp 62), none⟩])
  (.cond (.tmp 63) (.seq (.region [⟨some 64, .build [.int .i64 0, .int .i64 0, .int .i64 0, .int .i64 0] [], none⟩,
    ⟨none, .store 4 (.tmp 2) (.tmp 64), none⟩,
    ⟨some 3, .mv (.con (.int .i64 19)), none⟩])
  (.ret)) (.skip)))
  (.seq (.region [⟨some 65, .load (some 4) (.tmp 12), none⟩,
    ⟨none, .store 4 (.tmp 2) (.tmp 65), none⟩,
    ⟨some 3, .mv (.con (.int .i64 0)), none⟩])
  (.ret))))))))))
def A10 : AFunc := { ntmps := 66, results := [.cell (some 4) 2, .tmp 3], body := B10, coe := true, keep := 0 }
theorem tr10 : trFunc Tryd.prog M10 true Tryd.f10 = some A10 := by kernel_rfl

/-- handloom/handloomref19.Read -/
def M11 : Marks := { cut := fun _ => true, hd := fun | 5 => [true, false, true, false, true, true] | 12 => [true, false, true, false, true, true, false, true, true, true, true] | _ => [], ex := fun | 5 => [false, false, true, true] | 12 => [true, false, true, false, true, true, false, false, true, true] | _ => [], imm := fun | 1000041 => true | _ => false, alts := fun | 17 => [[0, 1, 2, 3, 4, 5, 6, 7, 8, 11, 9, 10, 12], [0, 1, 2, 3, 4, 5, 7, 8, 9, 11, 6, 10, 12], [0, 1, 2, 3, 4, 5, 7, 8, 11, 6, 9, 10, 12], [0, 1, 2, 4, 5, 6, 7, 8, 9, 11, 3, 10, 12], [0, 1, 2, 4, 5, 6, 7, 8, 11, 3, 9, 10, 12], [0, 1, 2, 4, 5, 7, 8, 9, 11, 3, 6, 10, 12], [0, 1, 2, 4, 5, 7, 8, 11, 3, 6, 9, 10, 12]] | _ => [] }
abbrev H11L12 : List Bool := [true, false, true, false, true, true, false, true, true, true, true]
abbrev X11L12 : List Bool := [true, false, true, false, true, true, false, false, true, true]
def B11L12 : ACode :=
  .seq (.seq (.region [⟨some 42, .mv (.tmp 10), none⟩,
    ⟨some 43, .mv (.tmp 7), none⟩,
    ⟨some 44, .bin .lss (.tmp 42) (.tmp 43), none⟩])
  (.cond (.tmp 44) (.skip) (.exit 2)))
  (.seq (.block 3 (.seq (.region [⟨some 48, .mv (.tmp 4), none⟩,
      ⟨some 49, .mv (.tmp 10), none⟩,
      ⟨some 50, .bin .add (.tmp 49) (.con (.int .i64 1)), none⟩,
      ⟨some 51, .idxAddr 1 (.tmp 48) (.tmp 50), none⟩,
      ⟨some 52, .load none (.tmp 51), none⟩,
      ⟨some 53, .call (.fn 31) [(.tmp 52)], none⟩,
      ⟨some 47, .mv (.tmp 53), none⟩,
      ⟨some 54, .ext 0 (.tmp 47), none⟩,
      ⟨some 55, .ext 1 (.tmp 47), none⟩,
      ⟨some 11, .mv (.tmp 54), none⟩,
      ⟨some 12, .mv (.tmp 55), none⟩])
    (.seq (.region [⟨some 56, .mv (.tmp 8), none⟩,
      ⟨some 57, .mv (.tmp 10), none⟩,
      ⟨some 58, .mv (.tmp 11), none⟩,
      ⟨some 59, .idxAddr 1 (.tmp 56) (.tmp 57), none⟩,
      ⟨none, .store 1 (.tmp 59) (.tmp 58), none⟩])
    (.region [⟨some 60, .mv (.tmp 9), none⟩,
      ⟨some 61, .mv (.tmp 60), none⟩,
      ⟨some 62, .mv (.tmp 12), (some (61, true))⟩,
      ⟨some 63, .pick (.tmp 61) (.tmp 62) (.con (.bool false)), none⟩,
      ⟨some 9, .mv (.tmp 63), none⟩]))))
  (.region [⟨some 45, .mv (.tmp 10), none⟩,
    ⟨some 46, .bin .add (.tmp 45) (.con (.int .i64 1)), none⟩,
    ⟨some 10, .mv (.tmp 46), none⟩]))
abbrev H11L5 : List Bool := [true, false, true, false, true, true]
abbrev X11L5 : List Bool := [false, false, true, true]
def B11L5 : ACode :=
  .seq (.seq (.region [⟨some 20, .mv (.tmp 5), none⟩,
    ⟨some 21, .bin .lss (.tmp 20) (.con (.int .i64 16)), none⟩])
  (.cond (.tmp 21) (.skip) (.exit 0)))
  (.seq (.block 1 (.seq (.region [⟨some 25, .mv (.tmp 5), none⟩,
      ⟨some 26, .call (.fn 30) [(.tmp 25)], none⟩,
      ⟨some 24, .mv (.tmp 26), none⟩,
      ⟨some 27, .ext 0 (.tmp 24), none⟩,
      ⟨some 28, .ext 1 (.tmp 24), none⟩,
      ⟨some 6, .mv (.tmp 27), none⟩,
      ⟨some 7, .mv (.tmp 28), none⟩])
    (.seq (.seq (.region [⟨some 29, .mv (.tmp 6), none⟩,
      ⟨some 30, .mv (.tmp 4), none⟩,
      ⟨some 31, .idxAddr 1 (.tmp 30) (.con (.int .i64 0)), none⟩,
      ⟨some 32, .load none (.tmp 31), none⟩,
      ⟨some 33, .bin .neq (.tmp 29) (.tmp 32), none⟩,
      ⟨some 34, .mv (.tmp 33), none⟩,
      ⟨some 35, .mv (.tmp 4), (some (34, false))⟩,
      ⟨some 36, .len false (.tmp 35), (some (34, false))⟩,
      ⟨some 37, .mv (.tmp 7), (some (34, false))⟩,
      ⟨some 38, .bin .add (.tmp 37) (.con (.int .i64 1)), (some (34, false))⟩,
      ⟨some 39, .bin .neq (.tmp 36) (.tmp 38), (some (34, false))⟩,
      ⟨some 40, .pick (.tmp 34) (.con (.bool true)) (.tmp 39), none⟩])
    (.cond (.tmp 40) (.exit 1) (.skip)))
    (.seq (.region [⟨some 41, .vlit 0 1 3 [.int .i64 0] [(0, (.con (.int .i64 0))), (1, (.con (.int .i64 0))), (2, (.con (.int .i64 0)))], none⟩,
      ⟨some 8, .mv (.tmp 41), none⟩])
    (.seq (.region [⟨some 9, .mv (.con (.bool true)), none⟩])
    (.seq (.seq (.region [⟨some 10, .mv (.con (.int .i64 0)), none⟩])
    (.block 2 (.loop true [true, false, true, false, true, true, false, true, true, true, true] [true, false, true, false, true, true, false, false, true, true] B11L12)))
    (.seq (.draw [⟨some 64, .mv (.tmp 5), none⟩,
      ⟨some 65, .mv (.tmp 8), none⟩,
      ⟨some 66, .idxAddr 1 (.tmp 65) (.con (.int .i64 0)), none⟩,
      ⟨some 67, .load none (.tmp 66), none⟩,
      ⟨some 68, .mv (.tmp 8), none⟩,
      ⟨some 69, .idxAddr 1 (.tmp 68) (.con (.int .i64 1)), none⟩,
      ⟨some 70, .load none (.tmp 69), none⟩,
      ⟨some 71, .mv (.tmp 8), none⟩,
      ⟨some 72, .idxAddr 1 (.tmp 71) (.con (.int .i64 2)), none⟩,
      ⟨some 73, .load none (.tmp 72), none⟩,
      ⟨some 74, .build [.int .i64 0, .int .i64 0, .int .i64 0, .int .i64 0] [(0, 1, (.tmp 64)), (1, 1, (.tmp 67)), (2, 1, (.tmp 70)), (3, 1, (.tmp 73))], none⟩,
      ⟨some 13, .alloc [.ok (.int .i64 0), .ok (.int .i64 0), .ok (.int .i64 0), .ok (.int .i64 0)], none⟩,
      ⟨none, .store 4 (.tmp 13) (.tmp 74), none⟩] [[⟨some 64, .mv (.tmp 5), none⟩, ⟨some 65, .mv (.tmp 8), none⟩, ⟨some 66, .idxAddr 1 (.tmp 65) (.con (.int .i64 0)), none⟩, ⟨some 67, .load none (.tmp 66), none⟩, ⟨some 68, .mv (.tmp 8), none⟩, ⟨some 69, .idxAddr 1 (.tmp 68) (.con (.int .i64 1)), none⟩, ⟨some 70, .load none (.tmp 69), none⟩, ⟨some 71, .mv (.tmp 8), none⟩, ⟨some 72, .idxAddr 1 (.tmp 71) (.con (.int .i64 2)), none⟩, ⟨some 13, .alloc [.ok (.int .i64 0), .ok (.int .i64 0), .ok (.int .i64 0), .ok (.int .i64 0)], none⟩, ⟨some 73, .load none (.tmp 72), none⟩, ⟨some 74, .build [.int .i64 0, .int .i64 0, .int .i64 0, .int .i64 0] [(0, 1, (.tmp 64)), (1, 1, (.tmp 67)), (2, 1, (.tmp 70)), (3, 1, (.tmp 73))], none⟩, ⟨none, .store 4 (.tmp 13) (.tmp 74), none⟩], [⟨some 64, .mv (.tmp 5), none⟩, ⟨some 65, .mv (.tmp 8), none⟩, ⟨some 66, .idxAddr 1 (.tmp 65) (.con (.int .i64 0)), none⟩, ⟨some 67, .load none (.tmp 66), none⟩, ⟨some 68, .mv (.tmp 8), none⟩, ⟨some 69, .idxAddr 1 (.tmp 68) (.con (.int .i64 1)), none⟩, ⟨some 71, .mv (.tmp 8), none⟩, ⟨some 72, .idxAddr 1 (.tmp 71) (.con (.int .i64 2)), none⟩, ⟨some 73, .load none (.tmp 72), none⟩, ⟨some 13, .alloc [.ok (.int .i64 0), .ok (.int .i64 0), .ok (.int .i64 0), .ok (.int .i64 0)], none⟩, ⟨some 70, .load none (.tmp 69), none⟩, ⟨some 74, .build [.int .i64 0, .int .i64 0, .int .i64 0, .int .i64 0] [(0, 1, (.tmp 64)), (1, 1, (.tmp 67)), (2, 1, (.tmp 70)), (3, 1, (.tmp 73))], none⟩, ⟨none, .store 4 (.tmp 13) (.tmp 74), none⟩], [⟨some 64, .mv (.tmp 5), none⟩, ⟨some 65, .mv (.tmp 8), none⟩, ⟨some 66, .idxAddr 1 (.tmp 65) (.con (.int .i64 0)), none⟩, ⟨some 67, .load none (.tmp 66), none⟩, ⟨some 68, .mv (.tmp 8), none⟩, ⟨some 69, .idxAddr 1 (.tmp 68) (.con (.int .i64 1)), none⟩, ⟨some 71, .mv (.tmp 8), none⟩, ⟨some 72, .idxAddr 1 (.tmp 71) (.con (.int .i64 2)), none⟩, ⟨some 13, .alloc [.ok (.int .i64 0), .ok (.int .i64 0), .ok (.int .i64 0), .ok (.int .i64 0)], none⟩, ⟨some 70, .load none (.tmp 69), none⟩, ⟨some 73, .load none (.tmp 72), none⟩, ⟨some 74, .build [.int .i64 0, .int .i64 0, .int .i64 0, .int .i64 0] [(0, 1, (.tmp 64)), (1, 1, (.tmp 67)), (2, 1, (.tmp 70)), (3, 1, (.tmp 73))], none⟩, ⟨none, .store 4 (.tmp 13) (.tmp 74), none⟩], [⟨some 64, .mv (.tmp 5), none⟩, ⟨some 65, .mv (.tmp 8), none⟩, ⟨some 66, .idxAddr 1 (.tmp 65) (.con (.int .i64 0)), none⟩, ⟨some 68, .mv (.tmp 8), none⟩, ⟨some 69, .idxAddr 1 (.tmp 68) (.con (.int .i64 1)), none⟩, ⟨some 70, .load none (.tmp 69), none⟩, ⟨some 71, .mv (.tmp 8), none⟩, ⟨some 72, .idxAddr 1 (.tmp 71) (.con (.int .i64 2)), none⟩, ⟨some 73, .load none (.tmp 72), none⟩, ⟨some 13, .alloc [.ok (.int .i64 0), .ok (.int .i64 0), .ok (.int .i64 0), .ok (.int .i64 0)], none⟩, ⟨some 67, .load none (.tmp 66), none⟩, ⟨some 74, .build [.int .i64 0, .int .i64 0, .int .i64 0, .int .i64 0] [(0, 1, (.tmp 64)), (1, 1, (.tmp 67)), (2, 1, (.tmp 70)), (3, 1, (.tmp 73))], none⟩, ⟨none, .store 4 (.tmp 13) (.tmp 74), none⟩], [⟨some 64, .mv (.tmp 5), none⟩, ⟨some 65, .mv (.tmp 8), none⟩, ⟨some 66, .idxAddr 1 (.tmp 65) (.con (.int .i64 0)), none⟩, ⟨some 68, .mv (.tmp 8), none⟩, ⟨some 69, .idxAddr 1 (.tmp 68) (.con (.int .i64 1)), none⟩, ⟨some 70, .load none (.tmp 69), none⟩, ⟨some 71, .mv (.tmp 8), none⟩, ⟨some 72, .idxAddr 1 (.tmp 71) (.con (.int .i64 2)), none⟩, ⟨some 13, .alloc [.ok (.int .i64 0), .ok (.int .i64 0), .ok (.int .i64 0), .ok (.int .i64 0)], none⟩, ⟨some 67, .load none (.tmp 66), none⟩, ⟨some 73, .load none (.tmp 72), none⟩, ⟨some 74, .build [.int .i64 0, .int .i64 0, .int .i64 0, .int .i64 0] [(0, 1, (.tmp 64)), (1, 1, (.tmp 67)), (2, 1, (.tmp 70)), (3, 1, (.tmp 73))], none⟩, ⟨none, .store 4 (.tmp 13) (.tmp 74), none⟩], [⟨some 64, .mv (.tmp 5), none⟩, ⟨some 65, .mv (.tmp 8), none⟩, ⟨some 66, .idxAddr 1 (.tmp 65) (.con (.int .i64 0)), none⟩, ⟨some 68, .mv (.tmp 8), none⟩, ⟨some 69, .idxAddr 1 (.tmp 68) (.con (.int .i64 1)), none⟩, ⟨some 71, .mv (.tmp 8), none⟩, ⟨some 72, .idxAddr 1 (.tmp 71) (.con (.int .i64 2)), none⟩, ⟨some 73, .load none (.tmp 72), none⟩, ⟨some 13, .alloc [.ok (.int .i64 0), .ok (.int .i64 0), .ok (.int .i64 0), .ok (.int .i64 0)], none⟩, ⟨some 67, .load none (.tmp 66), none⟩, ⟨some 70, .load none (.tmp 69), none⟩, ⟨some 74, .build [.int .i64 0, .int .i64 0, .int .i64 0, .int .i64 0] [(0, 1, (.tmp 64)), (1, 1, (.tmp 67)), (2, 1, (.tmp 70)), (3, 1, (.tmp 73))], none⟩, ⟨none, .store 4 (.tmp 13) (.tmp 74), none⟩], [⟨some 64, .mv (.tmp 5), none⟩, ⟨some 65, .mv (.tmp 8), none⟩, ⟨some 66, .idxAddr 1 (.tmp 65) (.con (.int .i64 0)), none⟩, ⟨some 68, .mv (.tmp 8), none⟩, ⟨some 69, .idxAddr 1 (.tmp 68) (.con (.int .i64 1)), none⟩, ⟨some 71, .mv (.tmp 8), none⟩, ⟨some 72, .idxAddr 1 (.tmp 71) (.con (.int .i64 2)), none⟩, ⟨some 13, .alloc [.ok (.int .i64 0), .ok (.int .i64 0), .ok (.int .i64 0), .ok (.int .i64 0)], none⟩, ⟨some 67, .load none (.tmp 66), none⟩, ⟨some 70, .load none (.tmp 69), none⟩, ⟨some 73, .load none (.tmp 72), none⟩, ⟨some 74, .build [.int .i64 0, .int .i64 0, .int .i64 0, .int .i64 0] [(0, 1, (.tmp 64)), (1, 1, (.tmp 67)), (2, 1, (.tmp 70)), (3, 1, (.tmp 73))], none⟩, ⟨none, .store 4 (.tmp 13) (.tmp 74), none⟩]])
    (.seq (.region [⟨some 75, .mv (.tmp 9), none⟩,
      ⟨some 76, .mv (.tmp 75), none⟩,
      ⟨some 77, .load (some 4) (.tmp 13), (some (76, true))⟩,
      ⟨some 78, .call (.fn 8) [(.tmp 77)], (some (76, true))⟩,
      ⟨some 79, .pick (.tmp 76) (.tmp 78) (.con (.bool false)), none⟩,
      ⟨some 80, .mv (.tmp 79), none⟩,
      ⟨some 81, .load (some 4) (.tmp 13), (some (80, true))⟩,
      ⟨some 82, .call (.fn 16) [(.tmp 81)], (some (80, true))⟩,
      ⟨some 83, .mv (.tmp 0), (some (80, true))⟩,
      ⟨some 84, .bin .eql (.tmp 82) (.tmp 83), (some (80, true))⟩,
      ⟨some 85, .pick (.tmp 80) (.tmp 84) (.con (.bool false)), none⟩])
    (.cond (.tmp 85) (.seq (.region [⟨some 86, .load (some 4) (.tmp 13), none⟩,
      ⟨none, .store 4 (.tmp 2) (.tmp 86), none⟩,
      ⟨some 3, .mv (.con (.int .i64 0)), none⟩])
    (.ret)) (.skip))))))))))
  (.region [⟨some 22, .mv (.tmp 5), none⟩,
    ⟨some 23, .bin .add (.tmp 22) (.con (.int .i64 1)), none⟩,
    ⟨some 5, .mv (.tmp 23), none⟩]))
def B11 : ACode :=
  .seq (.region [⟨some 2, .alloc [.ok (.int .i64 0), .ok (.int .i64 0), .ok (.int .i64 0), .ok (.int .i64 0)], none⟩,
    ⟨some 3, .mv (.con (.int .i64 0)), none⟩])
  (.seq (.seq (.region [⟨some 14, .mv (.tmp 0), none⟩,
    ⟨some 15, .len true (.tmp 14), none⟩,
    ⟨some 16, .bin .gtr (.tmp 15) (.con (.int .i64 100)), none⟩])
  (.cond (.tmp 16) (.seq (.region [⟨some 17, .build [.int .i64 0, .int .i64 0, .int .i64 0, .int .i64 0] [], none⟩,
    ⟨none, .store 4 (.tmp 2) (.tmp 17), none⟩,
    ⟨some 3, .mv (.con (.int .i64 19)), none⟩])
  (.ret)) (.skip)))
  (.seq (.region [⟨some 18, .mv (.tmp 0), none⟩,
    ⟨some 19, .call (.fn 29) [(.tmp 18)], none⟩,
    ⟨some 4, .mv (.tmp 19), none⟩])
  (.seq (.seq (.region [⟨some 5, .mv (.con (.int .i64 0)), none⟩])
  (.block 0 (.loop true [true, false, true, false, true, true] [false, false, true, true] B11L5)))
  (.seq (.region [⟨some 87, .build [.int .i64 0, .int .i64 0, .int .i64 0, .int .i64 0] [], none⟩,
    ⟨none, .store 4 (.tmp 2) (.tmp 87), none⟩,
    ⟨some 3, .mv (.con (.int .i64 19)), none⟩])
  (.ret)))))
def A11 : AFunc := { ntmps := 88, results := [.cell (some 4) 2, .tmp 3], body := B11, coe := true, keep := 0 }
theorem tr11 : trFunc Tryd.prog M11 true Tryd.f11 = some A11 := by kernel_rfl

/-- handloom/handloomref19.Takes -/
def M12 : Marks := { cut := fun _ => true, hd := fun | _ => [], ex := fun | _ => [], imm := fun | 1 => true | _ => false }
def B12 : ACode :=
  .seq (.region [⟨some 1, .box true (.tmp 0), none⟩,
    ⟨some 2, .mv (.con (.int .i64 0)), none⟩,
    ⟨some 3, .mv (.con (.int .i64 0)), none⟩])
  (.seq (.seq (.region [⟨some 6, .load (some 4) (.tmp 1), none⟩,
    ⟨some 7, .call (.fn 8) [(.tmp 6)], none⟩,
    ⟨some 8, .un .not (.tmp 7), none⟩])
  (.cond (.tmp 8) (.seq (.region [⟨some 2, .mv (.con (.int .i64 0)), none⟩,
    ⟨some 3, .mv (.con (.int .i64 0)), none⟩])
  (.ret)) (.skip)))
  (.seq (.seq (.region [⟨some 9, .addOff 0 (.tmp 1), none⟩,
    ⟨some 10, .load none (.tmp 9), none⟩])
  (.block 0 (.seq (.seq (.region [⟨some 12, .bin .eql (.tmp 10) (.con (.int .i64 0)), none⟩,
      ⟨some 11, .mv (.tmp 12), none⟩])
    (.cond (.tmp 11) (.skip) (.seq (.region [⟨some 13, .bin .eql (.tmp 10) (.con (.int .i64 1)), none⟩,
      ⟨some 11, .mv (.tmp 13), none⟩])
    (.cond (.tmp 11) (.skip) (.seq (.region [⟨some 14, .bin .eql (.tmp 10) (.con (.int .i64 2)), none⟩,
      ⟨some 11, .mv (.tmp 14), none⟩])
    (.cond (.tmp 11) (.skip) (.region [⟨some 15, .bin .eql (.tmp 10) (.con (.int .i64 4)), none⟩,
      ⟨some 11, .mv (.tmp 15), none⟩])))))))
    (.cond (.tmp 11) (.seq (.region [⟨some 2, .mv (.con (.int .i64 0)), none⟩,
      ⟨some 3, .mv (.con (.int .i64 1)), none⟩])
    (.ret)) (.seq (.seq (.region [⟨some 17, .bin .eql (.tmp 10) (.con (.int .i64 3)), none⟩,
      ⟨some 16, .mv (.tmp 17), none⟩])
    (.cond (.tmp 16) (.skip) (.region [⟨some 18, .bin .eql (.tmp 10) (.con (.int .i64 6)), none⟩,
      ⟨some 16, .mv (.tmp 18), none⟩])))
    (.cond (.tmp 16) (.seq (.region [⟨some 19, .addOff 2 (.tmp 1), none⟩,
      ⟨some 20, .load none (.tmp 19), none⟩,
      ⟨some 2, .mv (.tmp 20), none⟩,
      ⟨some 3, .mv (.con (.int .i64 1)), none⟩])
    (.ret)) (.seq (.region [⟨some 22, .bin .eql (.tmp 10) (.con (.int .i64 5)), none⟩,
      ⟨some 21, .mv (.tmp 22), none⟩])
    (.cond (.tmp 21) (.seq (.region [⟨some 24, .addOff 1 (.tmp 1), none⟩,
      ⟨some 25, .load none (.tmp 24), none⟩,
      ⟨some 26, .call (.fn 32) [(.tmp 25)], none⟩,
      ⟨some 23, .mv (.tmp 26), none⟩,
      ⟨some 27, .ext 0 (.tmp 23), none⟩,
      ⟨some 28, .ext 1 (.tmp 23), none⟩,
      ⟨some 5, .alloc [.ok (.int .i64 0), .ok (.str ⟨#[]⟩), .error 3], none⟩,
      ⟨some 4, .mv (.tmp 27), none⟩,
      ⟨none, .store 3 (.tmp 5) (.tmp 28), none⟩])
    (.seq (.region [⟨some 29, .mv (.tmp 4), none⟩,
      ⟨some 30, .len false (.tmp 29), none⟩,
      ⟨some 2, .mv (.tmp 30), none⟩,
      ⟨some 3, .mv (.con (.int .i64 1)), none⟩])
    (.ret))) (.seq (.seq (.region [⟨some 32, .bin .eql (.tmp 10) (.con (.int .i64 7)), none⟩,
      ⟨some 31, .mv (.tmp 32), none⟩])
    (.cond (.tmp 31) (.skip) (.seq (.region [⟨some 33, .bin .eql (.tmp 10) (.con (.int .i64 10)), none⟩,
      ⟨some 31, .mv (.tmp 33), none⟩])
    (.cond (.tmp 31) (.skip) (.region [⟨some 34, .bin .eql (.tmp 10) (.con (.int .i64 14)), none⟩,
      ⟨some 31, .mv (.tmp 34), none⟩])))))
    (.cond (.tmp 31) (.seq (.region [⟨some 2, .mv (.con (.int .i64 1)), none⟩,
      ⟨some 3, .mv (.con (.int .i64 0)), none⟩])
    (.ret)) (.seq (.region [⟨some 36, .bin .eql (.tmp 10) (.con (.int .i64 8)), none⟩,
      ⟨some 35, .mv (.tmp 36), none⟩])
    (.cond (.tmp 35) (.seq (.region [⟨some 37, .addOff 1 (.tmp 1), none⟩,
      ⟨some 38, .load none (.tmp 37), none⟩,
      ⟨some 39, .bin .add (.tmp 38) (.con (.int .i64 1)), none⟩,
      ⟨some 2, .mv (.tmp 39), none⟩,
      ⟨some 3, .mv (.con (.int .i64 1)), none⟩])
    (.ret)) (.skip)))))))))))))
  (.seq (.region [⟨some 2, .mv (.con (.int .i64 0)), none⟩,
    ⟨some 3, .mv (.con (.int .i64 0)), none⟩])
  (.ret))))
def A12 : AFunc := { ntmps := 40, results := [.tmp 2, .tmp 3], body := B12, coe := true, keep := 0 }
theorem tr12 : trFunc Tryd.prog M12 true Tryd.f12 = some A12 := by kernel_rfl

/-- handloom/handloomref19.Goes -/
def M13 : Marks := { cut := fun _ => true, hd := fun | _ => [], ex := fun | _ => [], imm := fun | 1 => true | 2 => true | _ => false }
def B13 : ACode :=
  .seq (.region [⟨some 1, .box true (.tmp 0), none⟩,
    ⟨some 2, .mv (.con (.slice 1 [])), none⟩,
    ⟨some 3, .mv (.con (.bool false)), none⟩])
  (.seq (.seq (.region [⟨some 4, .load (some 4) (.tmp 1), none⟩,
    ⟨some 5, .call (.fn 8) [(.tmp 4)], none⟩,
    ⟨some 6, .un .not (.tmp 5), none⟩])
  (.cond (.tmp 6) (.seq (.region [⟨some 2, .mv (.con (.slice 1 [])), none⟩,
    ⟨some 3, .mv (.con (.bool false)), none⟩])
  (.ret)) (.skip)))
  (.seq (.seq (.region [⟨some 7, .addOff 0 (.tmp 1), none⟩,
    ⟨some 8, .load none (.tmp 7), none⟩])
  (.block 0 (.seq (.seq (.region [⟨some 10, .bin .eql (.tmp 8) (.con (.int .i64 7)), none⟩,
      ⟨some 9, .mv (.tmp 10), none⟩])
    (.cond (.tmp 9) (.skip) (.seq (.region [⟨some 11, .bin .eql (.tmp 8) (.con (.int .i64 15)), none⟩,
      ⟨some 9, .mv (.tmp 11), none⟩])
    (.cond (.tmp 9) (.skip) (.region [⟨some 12, .bin .eql (.tmp 8) (.con (.int .i64 11)), none⟩,
      ⟨some 9, .mv (.tmp 12), none⟩])))))
    (.cond (.tmp 9) (.seq (.region [⟨some 2, .mv (.con (.slice 1 [])), none⟩,
      ⟨some 3, .mv (.con (.bool false)), none⟩])
    (.ret)) (.seq (.region [⟨some 14, .bin .eql (.tmp 8) (.con (.int .i64 9)), none⟩,
      ⟨some 13, .mv (.tmp 14), none⟩])
    (.cond (.tmp 13) (.seq (.region [⟨some 15, .addOff 1 (.tmp 1), none⟩,
      ⟨some 16, .load none (.tmp 15), none⟩,
      ⟨some 17, .lit false 0 1 1 [.int .i64 0] [(0, (.tmp 16))], none⟩,
      ⟨some 2, .mv (.tmp 17), none⟩,
      ⟨some 3, .mv (.con (.bool false)), none⟩])
    (.ret)) (.seq (.region [⟨some 19, .bin .eql (.tmp 8) (.con (.int .i64 10)), none⟩,
      ⟨some 18, .mv (.tmp 19), none⟩])
    (.cond (.tmp 18) (.seq (.region [⟨some 20, .addOff 1 (.tmp 1), none⟩,
      ⟨some 21, .load none (.tmp 20), none⟩,
      ⟨some 22, .lit false 0 1 1 [.int .i64 0] [(0, (.tmp 21))], none⟩,
      ⟨some 2, .mv (.tmp 22), none⟩,
      ⟨some 3, .mv (.con (.bool true)), none⟩])
    (.ret)) (.seq (.region [⟨some 24, .bin .eql (.tmp 8) (.con (.int .i64 12)), none⟩,
      ⟨some 23, .mv (.tmp 24), none⟩])
    (.cond (.tmp 23) (.seq (.region [⟨some 25, .addOff 3 (.tmp 1), none⟩,
      ⟨some 26, .load none (.tmp 25), none⟩,
      ⟨some 27, .lit false 0 1 1 [.int .i64 0] [(0, (.tmp 26))], none⟩,
      ⟨some 2, .mv (.tmp 27), none⟩,
      ⟨some 3, .mv (.con (.bool true)), none⟩])
    (.ret)) (.seq (.region [⟨some 29, .bin .eql (.tmp 8) (.con (.int .i64 13)), none⟩,
      ⟨some 28, .mv (.tmp 29), none⟩])
    (.cond (.tmp 28) (.seq (.region [⟨some 30, .addOff 2 (.tmp 1), none⟩,
      ⟨some 31, .load none (.tmp 30), none⟩,
      ⟨some 32, .lit false 0 1 1 [.int .i64 0] [(0, (.tmp 31))], none⟩,
      ⟨some 2, .mv (.tmp 32), none⟩,
      ⟨some 3, .mv (.con (.bool true)), none⟩])
    (.ret)) (.skip)))))))))))))
  (.seq (.region [⟨some 2, .mv (.con (.slice 1 [])), none⟩,
    ⟨some 3, .mv (.con (.bool true)), none⟩])
  (.ret))))
def A13 : AFunc := { ntmps := 33, results := [.tmp 2, .tmp 3], body := B13, coe := true, keep := 0 }
theorem tr13 : trFunc Tryd.prog M13 true Tryd.f13 = some A13 := by kernel_rfl

/-- handloom/inst.Fit -/
def M14 : Marks := { cut := fun _ => true, hd := fun | _ => [], ex := fun | _ => [], imm := fun | 1 => true | _ => false }
def B14 : ACode :=
  .seq (.region [⟨some 1, .box true (.tmp 0), none⟩,
    ⟨some 2, .mv (.con (.bool false)), none⟩])
  (.seq (.region [⟨some 6, .load (some 4) (.tmp 1), none⟩,
    ⟨some 7, .call (.fn 18) [(.tmp 6)], none⟩,
    ⟨some 5, .mv (.tmp 7), none⟩,
    ⟨some 8, .ext 0 (.tmp 5), none⟩,
    ⟨some 9, .ext 1 (.tmp 5), none⟩,
    ⟨some 3, .alloc [.ok (.str ⟨#[]⟩), .ok (.int .i64 0), .ok (.int .i64 0), .ok (.int .i64 0), .ok (.int .i64 0), .ok (.int .i64 0), .ok (.int .i64 0), .ok (.int .i64 0), .ok (.int .i64 0), .ok (.int .i64 0), .ok (.bool false)], none⟩,
    ⟨none, .store 11 (.tmp 3) (.tmp 8), none⟩,
    ⟨some 4, .mv (.tmp 9), none⟩])
  (.seq (.region [⟨some 10, .mv (.tmp 4), none⟩,
    ⟨some 2, .mv (.tmp 10), none⟩])
  (.ret)))
def A14 : AFunc := { ntmps := 11, results := [.tmp 2], body := B14, coe := true, keep := 0 }
theorem tr14 : trFunc Tryd.prog M14 true Tryd.f14 = some A14 := by kernel_rfl

/-- handloom/inst.Show -/
def M15 : Marks := { cut := fun _ => true, hd := fun | 6 => [false, false, false, true, false, true, false, false, false, false, false, false, false, false, false, false, false, false, false, true, true] | _ => [], ex := fun | 6 => [false, false, false, false, false, true] | _ => [], imm := fun | 1 => true | 31 => true | _ => false }
abbrev H15L6 : List Bool := [false, false, false, true, false, true, false, false, false, false, false, false, false, false, false, false, false, false, false, true, true]
abbrev X15L6 : List Bool := [false, false, false, false, false, true]
def B15L6 : ACode :=
  .seq (.region [⟨some 21, .bin .lss (.tmp 20) (.con (.int .i64 3)), none⟩])
  (.seq (.cond (.tmp 21) (.skip) (.exit 0))
  (.seq (.block 1 (.seq (.region [⟨some 22, .mv (.tmp 20), none⟩,
      ⟨some 23, .idxVal 3 1 none (.tmp 19) (.tmp 20), none⟩,
      ⟨some 6, .mv (.tmp 22), none⟩,
      ⟨some 7, .mv (.tmp 23), none⟩])
    (.seq (.region [⟨some 24, .mv (.tmp 6), none⟩,
      ⟨some 25, .load (some 11) (.tmp 3), none⟩,
      ⟨some 26, .call (.fn 27) [(.tmp 25)], none⟩,
      ⟨some 27, .bin .lss (.tmp 24) (.tmp 26), none⟩])
    (.cond (.tmp 27) (.region [⟨some 28, .mv (.tmp 5), none⟩,
      ⟨some 29, .mv (.tmp 7), none⟩,
      ⟨some 30, .call (.fn 33) [(.tmp 29)], none⟩,
      ⟨some 31, .lit true 0 1 1 [.str ⟨#[]⟩] [(0, (.tmp 30))], none⟩,
      ⟨some 32, .app false 0 1 16 (.tmp 28) (.tmp 31), none⟩,
      ⟨some 5, .mv (.tmp 32), none⟩]) (.skip)))))
  (.region [⟨some 33, .bin .add (.tmp 20) (.con (.int .i64 1)), none⟩,
    ⟨some 20, .mv (.tmp 33), none⟩])))
def B15 : ACode :=
  .seq (.region [⟨some 1, .box true (.tmp 0), none⟩,
    ⟨some 2, .mv (.con (.str ⟨#[]⟩)), none⟩])
  (.seq (.region [⟨some 9, .load (some 4) (.tmp 1), none⟩,
    ⟨some 10, .call (.fn 18) [(.tmp 9)], none⟩,
    ⟨some 8, .mv (.tmp 10), none⟩,
    ⟨some 11, .ext 0 (.tmp 8), none⟩,
    ⟨some 12, .ext 1 (.tmp 8), none⟩,
    ⟨some 3, .alloc [.ok (.str ⟨#[]⟩), .ok (.int .i64 0), .ok (.int .i64 0), .ok (.int .i64 0), .ok (.int .i64 0), .ok (.int .i64 0), .ok (.int .i64 0), .ok (.int .i64 0), .ok (.int .i64 0), .ok (.int .i64 0), .ok (.bool false)], none⟩,
    ⟨none, .store 11 (.tmp 3) (.tmp 11), none⟩,
    ⟨some 4, .mv (.tmp 12), none⟩])
  (.seq (.seq (.region [⟨some 13, .mv (.tmp 4), none⟩,
    ⟨some 14, .un .not (.tmp 13), none⟩])
  (.cond (.tmp 14) (.seq (.region [⟨some 2, .mv (.con (.str ⟨#[]⟩)), none⟩])
  (.ret)) (.skip)))
  (.seq (.region [⟨some 15, .addOff 0 (.tmp 3), none⟩,
    ⟨some 16, .load none (.tmp 15), none⟩,
    ⟨some 17, .lit false 0 1 1 [.str ⟨#[]⟩] [(0, (.tmp 16))], none⟩,
    ⟨some 5, .mv (.tmp 17), none⟩])
  (.seq (.seq (.region [⟨some 18, .load (some 4) (.tmp 1), none⟩,
    ⟨some 19, .call (.fn 19) [(.tmp 18)], none⟩,
    ⟨some 20, .mv (.con (.int .i64 0)), none⟩])
  (.block 0 (.loop true [false, false, false, true, false, true, false, false, false, false, false, false, false, false, false, false, false, false, false, true, true] [false, false, false, false, false, true] B15L6)))
  (.seq (.region [⟨some 34, .mv (.tmp 5), none⟩,
    ⟨some 35, .call (.fn 34) [(.tmp 34), (.con (.str ⟨#[32]⟩))], none⟩,
    ⟨some 2, .mv (.tmp 35), none⟩])
  (.ret))))))
def A15 : AFunc := { ntmps := 36, results := [.tmp 2], body := B15, coe := true, keep := 0 }
theorem tr15 : trFunc Tryd.prog M15 true Tryd.f15 = some A15 := by kernel_rfl

/-- handloom/handloomref19.Show -/
def M16 : Marks := { cut := fun _ => true, hd := fun | 6 => [false, false, false, true, true, true, true] | _ => [], ex := fun | 6 => [false, false, false, true] | _ => [], imm := fun | 1 => true | _ => false }
abbrev H16L6 : List Bool := [false, false, false, true, true, true, true]
abbrev X16L6 : List Bool := [false, false, false, true]
def B16L6 : ACode :=
  .seq (.seq (.region [⟨some 23, .mv (.tmp 6), none⟩,
    ⟨some 24, .mv (.tmp 4), none⟩,
    ⟨some 25, .bin .lss (.tmp 23) (.tmp 24), none⟩])
  (.cond (.tmp 25) (.skip) (.exit 0)))
  (.seq (.block 1 (.region [⟨some 28, .mv (.tmp 3), none⟩,
      ⟨some 29, .bin .add (.tmp 28) (.con (.str ⟨#[32]⟩)), none⟩,
      ⟨some 30, .mv (.tmp 5), none⟩,
      ⟨some 31, .mv (.tmp 6), none⟩,
      ⟨some 32, .idxAddr 1 (.tmp 30) (.tmp 31), none⟩,
      ⟨some 33, .load none (.tmp 32), none⟩,
      ⟨some 34, .call (.fn 35) [(.tmp 33)], none⟩,
      ⟨some 35, .bin .add (.tmp 29) (.tmp 34), none⟩,
      ⟨some 3, .mv (.tmp 35), none⟩]))
  (.region [⟨some 26, .mv (.tmp 6), none⟩,
    ⟨some 27, .bin .add (.tmp 26) (.con (.int .i64 1)), none⟩,
    ⟨some 6, .mv (.tmp 27), none⟩]))
def B16 : ACode :=
  .seq (.region [⟨some 1, .box true (.tmp 0), none⟩,
    ⟨some 2, .mv (.con (.str ⟨#[]⟩)), none⟩])
  (.seq (.seq (.region [⟨some 7, .load (some 4) (.tmp 1), none⟩,
    ⟨some 8, .call (.fn 8) [(.tmp 7)], none⟩,
    ⟨some 9, .un .not (.tmp 8), none⟩])
  (.cond (.tmp 9) (.seq (.region [⟨some 2, .mv (.con (.str ⟨#[]⟩)), none⟩])
  (.ret)) (.skip)))
  (.seq (.region [⟨some 11, .addOff 0 (.tmp 1), none⟩,
    ⟨some 12, .load none (.tmp 11), none⟩,
    ⟨some 13, .call (.fn 30) [(.tmp 12)], none⟩,
    ⟨some 10, .mv (.tmp 13), none⟩,
    ⟨some 14, .ext 0 (.tmp 10), none⟩,
    ⟨some 15, .ext 1 (.tmp 10), none⟩,
    ⟨some 3, .mv (.tmp 14), none⟩,
    ⟨some 4, .mv (.tmp 15), none⟩])
  (.seq (.region [⟨some 16, .addOff 1 (.tmp 1), none⟩,
    ⟨some 17, .load none (.tmp 16), none⟩,
    ⟨some 18, .addOff 2 (.tmp 1), none⟩,
    ⟨some 19, .load none (.tmp 18), none⟩,
    ⟨some 20, .addOff 3 (.tmp 1), none⟩,
    ⟨some 21, .load none (.tmp 20), none⟩,
    ⟨some 22, .lit false 0 1 3 [.int .i64 0] [(0, (.tmp 17)), (1, (.tmp 19)), (2, (.tmp 21))], none⟩,
    ⟨some 5, .mv (.tmp 22), none⟩])
  (.seq (.seq (.region [⟨some 6, .mv (.con (.int .i64 0)), none⟩])
  (.block 0 (.loop true [false, false, false, true, true, true, true] [false, false, false, true] B16L6)))
  (.seq (.region [⟨some 36, .mv (.tmp 3), none⟩,
    ⟨some 2, .mv (.tmp 36), none⟩])
  (.ret))))))
def A16 : AFunc := { ntmps := 37, results := [.tmp 2], body := B16, coe := true, keep := 0 }
theorem tr16 : trFunc Tryd.prog M16 true Tryd.f16 = some A16 := by kernel_rfl

/-- handloom/handloomref19.Ints -/
def M17 : Marks := { cut := fun _ => true, hd := fun | 4 => [true, true, false, false, false, true] | _ => [], ex := fun | 4 => [false, false, false, false, true] | _ => [], imm := fun | _ => false }
abbrev H17L4 : List Bool := [true, true, false, false, false, true]
abbrev X17L4 : List Bool := [false, false, false, false, true]
def B17L4 : ACode :=
  .seq (.seq (.region [⟨some 11, .mv (.tmp 5), none⟩,
    ⟨some 12, .mv (.tmp 0), none⟩,
    ⟨some 13, .len false (.tmp 12), none⟩,
    ⟨some 14, .bin .lss (.tmp 11) (.tmp 13), none⟩])
  (.cond (.tmp 14) (.skip) (.exit 0)))
  (.seq (.block 1 (.seq (.draw [⟨some 17, .mv (.tmp 0), none⟩,
      ⟨some 18, .mv (.tmp 5), none⟩,
      ⟨some 19, .idxAddr 1 (.tmp 17) (.tmp 18), none⟩,
      ⟨some 20, .load none (.tmp 19), none⟩,
      ⟨some 21, .mv (.tmp 1), none⟩,
      ⟨some 22, .mv (.tmp 5), none⟩,
      ⟨some 23, .idxAddr 1 (.tmp 21) (.tmp 22), none⟩,
      ⟨some 24, .load none (.tmp 23), none⟩,
      ⟨some 25, .bin .neq (.tmp 20) (.tmp 24), none⟩] [])
    (.cond (.tmp 25) (.seq (.region [⟨some 4, .mv (.con (.bool false)), none⟩])
    (.ret)) (.skip))))
  (.region [⟨some 15, .mv (.tmp 5), none⟩,
    ⟨some 16, .bin .add (.tmp 15) (.con (.int .i64 1)), none⟩,
    ⟨some 5, .mv (.tmp 16), none⟩]))
def B17 : ACode :=
  .seq (.region [⟨some 4, .mv (.con (.bool false)), none⟩])
  (.seq (.seq (.region [⟨some 6, .mv (.tmp 0), none⟩,
    ⟨some 7, .len false (.tmp 6), none⟩,
    ⟨some 8, .mv (.tmp 1), none⟩,
    ⟨some 9, .len false (.tmp 8), none⟩,
    ⟨some 10, .bin .neq (.tmp 7) (.tmp 9), none⟩])
  (.cond (.tmp 10) (.seq (.region [⟨some 4, .mv (.con (.bool false)), none⟩])
  (.ret)) (.skip)))
  (.seq (.seq (.region [⟨some 5, .mv (.con (.int .i64 0)), none⟩])
  (.block 0 (.loop true [true, true, false, false, false, true] [false, false, false, false, true] B17L4)))
  (.seq (.region [⟨some 4, .mv (.con (.bool true)), none⟩])
  (.ret))))
def A17 : AFunc := { ntmps := 26, results := [.tmp 4], body := B17, coe := true, keep := 0 }
theorem tr17 : trFunc Tryd.prog M17 true Tryd.f17 = some A17 := by kernel_rfl

/-- handloom/inst.of -/
def M18 : Marks := { cut := fun _ => true, hd := fun | 5 => [false, false, true, false, true, false, false, false, false, false, false, false, false, false, false, false, false, false, false, false, false, true, true] | _ => [], ex := fun | 5 => [false, false, true, true, true] | _ => [], imm := fun | 1 => true | 16 => true | 21 => true | _ => false, alts := fun | 3 => [[0, 1, 4, 2, 3, 5]] | _ => [] }
abbrev H18L5 : List Bool := [false, false, true, false, true, false, false, false, false, false, false, false, false, false, false, false, false, false, false, false, false, true, true]
abbrev X18L5 : List Bool := [false, false, true, true, true]
def B18L5 : ACode :=
  .seq (.region [⟨some 23, .bin .lss (.tmp 22) (.con (.int .i64 3)), none⟩])
  (.seq (.cond (.tmp 23) (.skip) (.exit 0))
  (.seq (.block 1 (.seq (.region [⟨some 24, .mv (.tmp 22), none⟩,
      ⟨some 25, .idxVal 3 1 none (.tmp 21) (.tmp 22), none⟩,
      ⟨some 5, .mv (.tmp 24), none⟩,
      ⟨some 6, .mv (.tmp 25), none⟩])
    (.seq (.region [⟨some 26, .mv (.tmp 6), none⟩,
      ⟨some 27, .mv (.tmp 5), none⟩,
      ⟨some 28, .addOff 1 (.tmp 4), none⟩,
      ⟨some 29, .idxArr 3 2 (.tmp 28) (.tmp 27), none⟩,
      ⟨some 30, .addOff 0 (.tmp 29), none⟩,
      ⟨some 31, .load none (.tmp 30), none⟩,
      ⟨some 32, .bin .lss (.tmp 26) (.tmp 31), none⟩,
      ⟨some 33, .mv (.tmp 32), none⟩,
      ⟨some 34, .mv (.tmp 6), (some (33, false))⟩,
      ⟨some 35, .mv (.tmp 5), (some (33, false))⟩,
      ⟨some 36, .addOff 1 (.tmp 4), (some (33, false))⟩,
      ⟨some 37, .idxArr 3 2 (.tmp 36) (.tmp 35), (some (33, false))⟩,
      ⟨some 38, .addOff 1 (.tmp 37), (some (33, false))⟩,
      ⟨some 39, .load none (.tmp 38), (some (33, false))⟩,
      ⟨some 40, .bin .gtr (.tmp 34) (.tmp 39), (some (33, false))⟩,
      ⟨some 41, .pick (.tmp 33) (.con (.bool true)) (.tmp 40), none⟩])
    (.cond (.tmp 41) (.seq (.region [⟨some 42, .build [.str ⟨#[]⟩, .int .i64 0, .int .i64 0, .int .i64 0, .int .i64 0, .int .i64 0, .int .i64 0, .int .i64 0, .int .i64 0, .int .i64 0, .bool false] [], none⟩,
      ⟨none, .store 11 (.tmp 2) (.tmp 42), none⟩,
      ⟨some 3, .mv (.con (.bool false)), none⟩])
    (.ret)) (.skip)))))
  (.region [⟨some 43, .bin .add (.tmp 22) (.con (.int .i64 1)), none⟩,
    ⟨some 22, .mv (.tmp 43), none⟩])))
def B18 : ACode :=
  .seq (.region [⟨some 1, .box true (.tmp 0), none⟩,
    ⟨some 2, .alloc [.ok (.str ⟨#[]⟩), .ok (.int .i64 0), .ok (.int .i64 0), .ok (.int .i64 0), .ok (.int .i64 0), .ok (.int .i64 0), .ok (.int .i64 0), .ok (.int .i64 0), .ok (.int .i64 0), .ok (.int .i64 0), .ok (.bool false)], none⟩,
    ⟨some 3, .mv (.con (.bool false)), none⟩])
  (.seq (.seq (.region [⟨some 7, .addOff 0 (.tmp 1), none⟩,
    ⟨some 8, .load none (.tmp 7), none⟩,
    ⟨some 9, .bin .lss (.tmp 8) (.con (.int .i64 0)), none⟩,
    ⟨some 10, .mv (.tmp 9), none⟩,
    ⟨some 11, .addOff 0 (.tmp 1), (some (10, false))⟩,
    ⟨some 12, .load none (.tmp 11), (some (10, false))⟩,
    ⟨some 13, .bin .geq (.tmp 12) (.con (.int .i64 16)), (some (10, false))⟩,
    ⟨some 14, .pick (.tmp 10) (.con (.bool true)) (.tmp 13), none⟩])
  (.cond (.tmp 14) (.seq (.region [⟨some 15, .build [.str ⟨#[]⟩, .int .i64 0, .int .i64 0, .int .i64 0, .int .i64 0, .int .i64 0, .int .i64 0, .int .i64 0, .int .i64 0, .int .i64 0, .bool false] [], none⟩,
    ⟨none, .store 11 (.tmp 2) (.tmp 15), none⟩,
    ⟨some 3, .mv (.con (.bool false)), none⟩])
  (.ret)) (.skip)))
  (.seq (.draw [⟨some 16, .calld (.fn 24) [], none⟩,
    ⟨some 17, .addOff 0 (.tmp 1), none⟩,
    ⟨some 18, .load none (.tmp 17), none⟩,
    ⟨some 19, .idxVal 16 11 (some 11) (.tmp 16) (.tmp 18), none⟩,
    ⟨some 4, .alloc [.ok (.str ⟨#[]⟩), .ok (.int .i64 0), .ok (.int .i64 0), .ok (.int .i64 0), .ok (.int .i64 0), .ok (.int .i64 0), .ok (.int .i64 0), .ok (.int .i64 0), .ok (.int .i64 0), .ok (.int .i64 0), .ok (.bool false)], none⟩,
    ⟨none, .store 11 (.tmp 4) (.tmp 19), none⟩] [[⟨some 16, .calld (.fn 24) [], none⟩, ⟨some 17, .addOff 0 (.tmp 1), none⟩, ⟨some 4, .alloc [.ok (.str ⟨#[]⟩), .ok (.int .i64 0), .ok (.int .i64 0), .ok (.int .i64 0), .ok (.int .i64 0), .ok (.int .i64 0), .ok (.int .i64 0), .ok (.int .i64 0), .ok (.int .i64 0), .ok (.int .i64 0), .ok (.bool false)], none⟩, ⟨some 18, .load none (.tmp 17), none⟩, ⟨some 19, .idxVal 16 11 (some 11) (.tmp 16) (.tmp 18), none⟩, ⟨none, .store 11 (.tmp 4) (.tmp 19), none⟩]])
  (.seq (.seq (.region [⟨some 20, .load (some 4) (.tmp 1), none⟩,
    ⟨some 21, .calld (.fn 19) [(.tmp 20)], none⟩,
    ⟨some 22, .mv (.con (.int .i64 0)), none⟩])
  (.block 0 (.loop true [false, false, true, false, true, false, false, false, false, false, false, false, false, false, false, false, false, false, false, false, false, true, true] [false, false, true, true, true] B18L5)))
  (.seq (.region [⟨some 44, .load (some 11) (.tmp 4), none⟩,
    ⟨none, .store 11 (.tmp 2) (.tmp 44), none⟩,
    ⟨some 3, .mv (.con (.bool true)), none⟩])
  (.ret)))))
def A18 : AFunc := { ntmps := 45, results := [.cell (some 11) 2, .tmp 3], body := B18, coe := true, keep := 0 }
theorem tr18 : trFunc Tryd.prog M18 true Tryd.f18 = some A18 := by kernel_rfl

/-- handloom/inst.all -/
def M19 : Marks := { cut := fun _ => true, hd := fun | _ => [], ex := fun | _ => [], imm := fun | 1 => true | _ => false }
def B19 : ACode :=
  .seq (.region [⟨some 1, .box true (.tmp 0), none⟩,
    ⟨some 2, .alloc [.ok (.int .i64 0), .ok (.int .i64 0), .ok (.int .i64 0)], none⟩])
  (.seq (.region [⟨some 3, .addOff 1 (.tmp 1), none⟩,
    ⟨some 4, .load none (.tmp 3), none⟩,
    ⟨some 5, .addOff 2 (.tmp 1), none⟩,
    ⟨some 6, .load none (.tmp 5), none⟩,
    ⟨some 7, .addOff 3 (.tmp 1), none⟩,
    ⟨some 8, .load none (.tmp 7), none⟩,
    ⟨some 9, .build [.int .i64 0, .int .i64 0, .int .i64 0] [(0, 1, (.tmp 4)), (1, 1, (.tmp 6)), (2, 1, (.tmp 8))], none⟩,
    ⟨none, .store 3 (.tmp 2) (.tmp 9), none⟩])
  (.ret))
def A19 : AFunc := { ntmps := 10, results := [.cell (some 3) 2], body := B19, coe := true, keep := 0 }
theorem tr19 : trFunc Tryd.prog M19 true Tryd.f19 = some A19 := by kernel_rfl

/-- handloom/inst.wants -/
def M20 : Marks := { cut := fun _ => true, hd := fun | _ => [], ex := fun | _ => [], imm := fun | _ => false }
def B20 : ACode :=
  .seq (.region [⟨some 2, .mv (.con (.int .i64 0)), none⟩])
  (.seq (.seq (.region [⟨some 3, .mv (.tmp 0), none⟩])
  (.block 0 (.seq (.region [⟨some 5, .bin .eql (.tmp 3) (.con (.int .i64 8)), none⟩,
      ⟨some 4, .mv (.tmp 5), none⟩])
    (.cond (.tmp 4) (.seq (.region [⟨some 2, .mv (.con (.int .i64 1)), none⟩])
    (.ret)) (.seq (.region [⟨some 7, .bin .eql (.tmp 3) (.con (.int .i64 11)), none⟩,
      ⟨some 6, .mv (.tmp 7), none⟩])
    (.cond (.tmp 6) (.seq (.region [⟨some 2, .mv (.con (.int .i64 3)), none⟩])
    (.ret)) (.skip)))))))
  (.seq (.region [⟨some 2, .mv (.con (.int .i64 2)), none⟩])
  (.ret)))
def A20 : AFunc := { ntmps := 8, results := [.tmp 2], body := B20, coe := true, keep := 0 }
theorem tr20 : trFunc Tryd.prog M20 true Tryd.f20 = some A20 := by kernel_rfl

/-- handloom/handloomref19.number -/
def M21 : Marks := { cut := fun _ => true, hd := fun | _ => [], ex := fun | _ => [], imm := fun | _ => false }
def B21 : ACode :=
  .seq (.region [⟨some 2, .mv (.con (.bool false)), none⟩])
  (.seq (.region [⟨some 3, .mv (.tmp 0), none⟩,
    ⟨some 4, .bin .geq (.tmp 3) (.con (.int .i64 (-4611686018427387904))), none⟩,
    ⟨some 5, .mv (.tmp 4), none⟩,
    ⟨some 6, .mv (.tmp 0), (some (5, true))⟩,
    ⟨some 7, .bin .lss (.tmp 6) (.con (.int .i64 4611686018427387904)), (some (5, true))⟩,
    ⟨some 8, .pick (.tmp 5) (.tmp 7) (.con (.bool false)), none⟩,
    ⟨some 2, .mv (.tmp 8), none⟩])
  (.ret))
def A21 : AFunc := { ntmps := 9, results := [.tmp 2], body := B21, coe := true, keep := 0 }
theorem tr21 : trFunc Tryd.prog M21 true Tryd.f21 = some A21 := by kernel_rfl

/-- handloom/handloomref19.below -/
def M22 : Marks := { cut := fun _ => true, hd := fun | _ => [], ex := fun | _ => [], imm := fun | _ => false }
def B22 : ACode :=
  .seq (.region [⟨some 4, .mv (.con (.bool false)), none⟩])
  (.seq (.region [⟨some 5, .mv (.tmp 0), none⟩,
    ⟨some 6, .bin .geq (.tmp 5) (.con (.int .i64 0)), none⟩,
    ⟨some 7, .mv (.tmp 6), none⟩,
    ⟨some 8, .mv (.tmp 0), (some (7, true))⟩,
    ⟨some 9, .mv (.tmp 1), (some (7, true))⟩,
    ⟨some 10, .bin .lss (.tmp 8) (.tmp 9), (some (7, true))⟩,
    ⟨some 11, .pick (.tmp 7) (.tmp 10) (.con (.bool false)), none⟩,
    ⟨some 4, .mv (.tmp 11), none⟩])
  (.ret))
def A22 : AFunc := { ntmps := 12, results := [.tmp 4], body := B22, coe := true, keep := 0 }
theorem tr22 : trFunc Tryd.prog M22 true Tryd.f22 = some A22 := by kernel_rfl

/-- handloom/inst.table -/
def M24 : Marks := { cut := fun _ => true, hd := fun | _ => [], ex := fun | _ => [], imm := fun | 3 => true | 4 => true | 5 => true | 8 => true | 14 => true | 19 => true | 22 => true | 25 => true | 41 => true | 45 => true | _ => false }
def B24 : ACode :=
  .seq (.region [⟨some 0, .alloc [.ok (.str ⟨#[]⟩), .ok (.int .i64 0), .ok (.int .i64 0), .ok (.int .i64 0), .ok (.int .i64 0), .ok (.int .i64 0), .ok (.int .i64 0), .ok (.int .i64 0), .ok (.int .i64 0), .ok (.int .i64 0), .ok (.bool false), .ok (.str ⟨#[]⟩), .ok (.int .i64 0), .ok (.int .i64 0), .ok (.int .i64 0), .ok (.int .i64 0), .ok (.int .i64 0), .ok (.int .i64 0), .ok (.int .i64 0), .ok (.int .i64 0), .ok (.int .i64 0), .ok (.bool false), .ok (.str ⟨#[]⟩), .ok (.int .i64 0), .ok (.int .i64 0), .ok (.int .i64 0), .ok (.int .i64 0), .ok (.int .i64 0), .ok (.int .i64 0), .ok (.int .i64 0), .ok (.int .i64 0), .ok (.int .i64 0), .ok (.bool false), .ok (.str ⟨#[]⟩), .ok (.int .i64 0), .ok (.int .i64 0), .ok (.int .i64 0), .ok (.int .i64 0), .ok (.int .i64 0), .ok (.int .i64 0), .ok (.int .i64 0), .ok (.int .i64 0), .ok (.int .i64 0), .ok (.bool false), .ok (.str ⟨#[]⟩), .ok (.int .i64 0), .ok (.int .i64 0), .ok (.int .i64 0), .ok (.int .i64 0), .ok (.int .i64 0), .ok (.int .i64 0), .ok (.int .i64 0), .ok (.int .i64 0), .ok (.int .i64 0), .ok (.bool false), .ok (.str ⟨#[]⟩), .ok (.int .i64 0), .ok (.int .i64 0), .ok (.int .i64 0), .ok (.int .i64 0), .ok (.int .i64 0), .ok (.int .i64 0), .ok (.int .i64 0), .ok (.int .i64 0), .ok (.int .i64 0), .ok (.bool false), .ok (.str ⟨#[]⟩), .ok (.int .i64 0), .ok (.int .i64 0), .ok (.int .i64 0), .ok (.int .i64 0), .ok (.int .i64 0), .ok (.int .i64 0), .ok (.int .i64 0), .ok (.int .i64 0), .ok (.int .i64 0), .ok (.bool false), .ok (.str ⟨#[]⟩), .ok (.int .i64 0), .ok (.int .i64 0), .ok (.int .i64 0), .ok (.int .i64 0), .ok (.int .i64 0), .ok (.int .i64 0), .ok (.int .i64 0), .ok (.int .i64 0), .ok (.int .i64 0), .ok (.bool false), .ok (.str ⟨#[]⟩), .ok (.int .i64 0), .ok (.int .i64 0), .ok (.int .i64 0), .ok (.int .i64 0), .ok (.int .i64 0), .ok (.int .i64 0), .ok (.int .i64 0), .ok (.int .i64 0), .ok (.int .i64 0), .ok (.bool false), .ok (.str ⟨#[]⟩), .ok (.int .i64 0), .ok (.int .i64 0), .ok (.int .i64 0), .ok (.int .i64 0), .ok (.int .i64 0), .ok (.int .i64 0), .ok (.int .i64 0), .ok (.int .i64 0), .ok (.int .i64 0), .ok (.bool false), .ok (.str ⟨#[]⟩), .ok (.int .i64 0), .ok (.int .i64 0), .ok (.int .i64 0), .ok (.int .i64 0), .ok (.int .i64 0), .ok (.int .i64 0), .ok (.int .i64 0), .ok (.int .i64 0), .ok (.int .i64 0), .ok (.bool false), .ok (.str ⟨#[]⟩), .ok (.int .i64 0), .ok (.int .i64 0), .ok (.int .i64 0), .ok (.int .i64 0), .ok (.int .i64 0), .ok (.int .i64 0), .ok (.int .i64 0), .ok (.int .i64 0), .ok (.int .i64 0), .ok (.bool false), .ok (.str ⟨#[]⟩), .ok (.int .i64 0), .ok (.int .i64 0), .ok (.int .i64 0), .ok (.int .i64 0), .ok (.int .i64 0), .ok (.int .i64 0), .ok (.int .i64 0), .ok (.int .i64 0), .ok (.int .i64 0), .ok (.bool false), .ok (.str ⟨#[]⟩), .ok (.int .i64 0), .ok (.int .i64 0), .ok (.int .i64 0), .ok (.int .i64 0), .ok (.int .i64 0), .ok (.int .i64 0), .ok (.int .i64 0), .ok (.int .i64 0), .ok (.int .i64 0), .ok (.bool false), .ok (.str ⟨#[]⟩), .ok (.int .i64 0), .ok (.int .i64 0), .ok (.int .i64 0), .ok (.int .i64 0), .ok (.int .i64 0), .ok (.int .i64 0), .ok (.int .i64 0), .ok (.int .i64 0), .ok (.int .i64 0), .ok (.bool false), .ok (.str ⟨#[]⟩), .ok (.int .i64 0), .ok (.int .i64 0), .ok (.int .i64 0), .ok (.int .i64 0), .ok (.int .i64 0), .ok (.int .i64 0), .ok (.int .i64 0), .ok (.int .i64 0), .ok (.int .i64 0), .ok (.bool false)], none⟩])
  (.seq (.region [⟨some 3, .calld (.fn 37) [(.con (.int .i64 8192))], none⟩,
    ⟨some 4, .calld (.fn 37) [(.con (.int .i64 1048576))], none⟩,
    ⟨some 1, .alloc [.ok (.int .i64 0), .ok (.int .i64 0)], none⟩,
    ⟨some 2, .alloc [.ok (.int .i64 0), .ok (.int .i64 0)], none⟩,
    ⟨none, .storen 2 (.tmp 1) (.tmp 3), none⟩,
    ⟨none, .storen 2 (.tmp 2) (.tmp 4), none⟩])
  (.seq (.draw [⟨some 5, .calld (.fn 38) [], none⟩,
    ⟨some 6, .build [.int .i64 0, .int .i64 0, .int .i64 0, .int .i64 0, .int .i64 0, .int .i64 0] [(0, 2, (.tmp 5))], none⟩,
    ⟨some 7, .build [.str ⟨#[]⟩, .int .i64 0, .int .i64 0, .int .i64 0, .int .i64 0, .int .i64 0, .int .i64 0, .int .i64 0, .int .i64 0, .int .i64 0, .bool false] [(0, 1, (.con (.str ⟨#[105, 110, 116]⟩))), (1, 6, (.tmp 6)), (7, 1, (.con (.int .i64 0))), (8, 1, (.con (.int .i64 1))), (9, 1, (.con (.int .i64 (-1)))), (10, 1, (.con (.bool true)))], none⟩,
    ⟨some 8, .calld (.fn 37) [(.con (.int .i64 4096))], none⟩,
    ⟨some 9, .build [.int .i64 0, .int .i64 0, .int .i64 0, .int .i64 0, .int .i64 0, .int .i64 0] [(0, 2, (.tmp 8))], none⟩,
    ⟨some 10, .build [.str ⟨#[]⟩, .int .i64 0, .int .i64 0, .int .i64 0, .int .i64 0, .int .i64 0, .int .i64 0, .int .i64 0, .int .i64 0, .int .i64 0, .bool false] [(0, 1, (.con (.str ⟨#[116, 101, 120, 116]⟩))), (1, 6, (.tmp 9)), (7, 1, (.con (.int .i64 0))), (8, 1, (.con (.int .i64 1))), (9, 1, (.con (.int .i64 (-1)))), (10, 1, (.con (.bool true)))], none⟩,
    ⟨some 11, .load (some 2) (.tmp 1), none⟩,
    ⟨some 12, .build [.int .i64 0, .int .i64 0, .int .i64 0, .int .i64 0, .int .i64 0, .int .i64 0] [(0, 2, (.tmp 11))], none⟩,
    ⟨some 13, .build [.str ⟨#[]⟩, .int .i64 0, .int .i64 0, .int .i64 0, .int .i64 0, .int .i64 0, .int .i64 0, .int .i64 0, .int .i64 0, .int .i64 0, .bool false] [(0, 1, (.con (.str ⟨#[103, 101, 116]⟩))), (1, 6, (.tmp 12)), (7, 1, (.con (.int .i64 0))), (8, 1, (.con (.int .i64 1))), (9, 1, (.con (.int .i64 (-1)))), (10, 1, (.con (.bool true)))], none⟩,
    ⟨some 14, .calld (.fn 37) [(.con (.int .i64 16))], none⟩,
    ⟨some 15, .build [.int .i64 0, .int .i64 0] [(0, 1, (.con (.int .i64 1))), (1, 1, (.con (.int .i64 6)))], none⟩,
    ⟨some 16, .build [.int .i64 0, .int .i64 0, .int .i64 0, .int .i64 0, .int .i64 0, .int .i64 0] [(0, 2, (.tmp 14)), (2, 2, (.tmp 15))], none⟩,
    ⟨some 17, .build [.str ⟨#[]⟩, .int .i64 0, .int .i64 0, .int .i64 0, .int .i64 0, .int .i64 0, .int .i64 0, .int .i64 0, .int .i64 0, .int .i64 0, .bool false] [(0, 1, (.con (.str ⟨#[109, 97, 107, 101]⟩))), (1, 6, (.tmp 16)), (7, 1, (.con (.int .i64 (-1)))), (8, 1, (.con (.int .i64 1))), (9, 1, (.con (.int .i64 (-1)))), (10, 1, (.con (.bool true)))], none⟩,
    ⟨some 18, .load (some 2) (.tmp 1), none⟩,
    ⟨some 19, .calld (.fn 37) [(.con (.int .i64 6))], none⟩,
    ⟨some 20, .build [.int .i64 0, .int .i64 0, .int .i64 0, .int .i64 0, .int .i64 0, .int .i64 0] [(0, 2, (.tmp 18)), (2, 2, (.tmp 19))], none⟩,
    ⟨some 21, .build [.str ⟨#[]⟩, .int .i64 0, .int .i64 0, .int .i64 0, .int .i64 0, .int .i64 0, .int .i64 0, .int .i64 0, .int .i64 0, .int .i64 0, .bool false] [(0, 1, (.con (.str ⟨#[102, 105, 101, 108, 100]⟩))), (1, 6, (.tmp 20)), (7, 1, (.con (.int .i64 0))), (8, 1, (.con (.int .i64 1))), (9, 1, (.con (.int .i64 (-1)))), (10, 1, (.con (.bool true)))], none⟩,
    ⟨some 22, .calld (.fn 37) [(.con (.int .i64 12))], none⟩,
    ⟨some 23, .build [.int .i64 0, .int .i64 0, .int .i64 0, .int .i64 0, .int .i64 0, .int .i64 0] [(0, 2, (.tmp 22))], none⟩,
    ⟨some 24, .build [.str ⟨#[]⟩, .int .i64 0, .int .i64 0, .int .i64 0, .int .i64 0, .int .i64 0, .int .i64 0, .int .i64 0, .int .i64 0, .int .i64 0, .bool false] [(0, 1, (.con (.str ⟨#[111, 112]⟩))), (1, 6, (.tmp 23)), (7, 1, (.con (.int .i64 (-1)))), (8, 1, (.con (.int .i64 1))), (9, 1, (.con (.int .i64 (-1)))), (10, 1, (.con (.bool true)))], none⟩,
    ⟨some 25, .calld (.fn 37) [(.con (.int .i64 80))], none⟩,
    ⟨some 26, .build [.int .i64 0, .int .i64 0] [(0, 1, (.con (.int .i64 1))), (1, 1, (.con (.int .i64 6)))], none⟩,
    ⟨some 27, .build [.int .i64 0, .int .i64 0, .int .i64 0, .int .i64 0, .int .i64 0, .int .i64 0] [(0, 2, (.tmp 25)), (2, 2, (.tmp 26))], none⟩,
    ⟨some 28, .build [.str ⟨#[]⟩, .int .i64 0, .int .i64 0, .int .i64 0, .int .i64 0, .int .i64 0, .int .i64 0, .int .i64 0, .int .i64 0, .int .i64 0, .bool false] [(0, 1, (.con (.str ⟨#[99, 97, 108, 108]⟩))), (1, 6, (.tmp 27)), (7, 1, (.con (.int .i64 (-1)))), (8, 1, (.con (.int .i64 1))), (9, 1, (.con (.int .i64 (-1)))), (10, 1, (.con (.bool true)))], none⟩,
    ⟨some 29, .build [.int .i64 0, .int .i64 0, .int .i64 0, .int .i64 0, .int .i64 0, .int .i64 0] [], none⟩,
    ⟨some 30, .build [.str ⟨#[]⟩, .int .i64 0, .int .i64 0, .int .i64 0, .int .i64 0, .int .i64 0, .int .i64 0, .int .i64 0, .int .i64 0, .int .i64 0, .bool false] [(0, 1, (.con (.str ⟨#[114, 101, 116]⟩))), (1, 6, (.tmp 29)), (7, 1, (.con (.int .i64 1))), (8, 1, (.con (.int .i64 0))), (9, 1, (.con (.int .i64 (-1)))), (10, 1, (.con (.bool false)))], none⟩,
    ⟨some 31, .build [.int .i64 0, .int .i64 0] [(0, 1, (.con (.int .i64 1))), (1, 1, (.con (.int .i64 8192)))], none⟩,
    ⟨some 32, .build [.int .i64 0, .int .i64 0, .int .i64 0, .int .i64 0, .int .i64 0, .int .i64 0] [(0, 2, (.tmp 31))], none⟩,
    ⟨some 33, .build [.str ⟨#[]⟩, .int .i64 0, .int .i64 0, .int .i64 0, .int .i64 0, .int .i64 0, .int .i64 0, .int .i64 0, .int .i64 0, .int .i64 0, .bool false] [(0, 1, (.con (.str ⟨#[115, 108, 105, 100, 101]⟩))), (1, 6, (.tmp 32)), (7, 1, (.con (.int .i64 (-1)))), (8, 1, (.con (.int .i64 1))), (9, 1, (.con (.int .i64 (-1)))), (10, 1, (.con (.bool true)))], none⟩,
    ⟨some 34, .load (some 2) (.tmp 2), none⟩,
    ⟨some 35, .build [.int .i64 0, .int .i64 0, .int .i64 0, .int .i64 0, .int .i64 0, .int .i64 0] [(0, 2, (.tmp 34))], none⟩,
    ⟨some 36, .build [.str ⟨#[]⟩, .int .i64 0, .int .i64 0, .int .i64 0, .int .i64 0, .int .i64 0, .int .i64 0, .int .i64 0, .int .i64 0, .int .i64 0, .bool false] [(0, 1, (.con (.str ⟨#[106, 117, 109, 112]⟩))), (1, 6, (.tmp 35)), (7, 1, (.con (.int .i64 0))), (8, 1, (.con (.int .i64 0))), (9, 1, (.con (.int .i64 0))), (10, 1, (.con (.bool false)))], none⟩,
    ⟨some 37, .load (some 2) (.tmp 2), none⟩,
    ⟨some 38, .build [.int .i64 0, .int .i64 0, .int .i64 0, .int .i64 0, .int .i64 0, .int .i64 0] [(0, 2, (.tmp 37))], none⟩,
    ⟨some 39, .build [.str ⟨#[]⟩, .int .i64 0, .int .i64 0, .int .i64 0, .int .i64 0, .int .i64 0, .int .i64 0, .int .i64 0, .int .i64 0, .int .i64 0, .bool false] [(0, 1, (.con (.str ⟨#[102, 97, 108, 115, 101]⟩))), (1, 6, (.tmp 38)), (7, 1, (.con (.int .i64 1))), (8, 1, (.con (.int .i64 0))), (9, 1, (.con (.int .i64 0))), (10, 1, (.con (.bool true)))], none⟩,
    ⟨some 40, .load (some 2) (.tmp 1), none⟩,
    ⟨some 41, .calld (.fn 37) [(.con (.int .i64 65536))], none⟩,
    ⟨some 42, .build [.int .i64 0, .int .i64 0, .int .i64 0, .int .i64 0, .int .i64 0, .int .i64 0] [(0, 2, (.tmp 40)), (2, 2, (.tmp 41))], none⟩,
    ⟨some 43, .build [.str ⟨#[]⟩, .int .i64 0, .int .i64 0, .int .i64 0, .int .i64 0, .int .i64 0, .int .i64 0, .int .i64 0, .int .i64 0, .int .i64 0, .bool false] [(0, 1, (.con (.str ⟨#[115, 119, 105, 116, 99, 104]⟩))), (1, 6, (.tmp 42)), (7, 1, (.con (.int .i64 0))), (8, 1, (.con (.int .i64 0))), (9, 1, (.con (.int .i64 (-1)))), (10, 1, (.con (.bool false)))], none⟩,
    ⟨some 44, .load (some 2) (.tmp 1), none⟩,
    ⟨some 45, .calld (.fn 38) [], none⟩,
    ⟨some 46, .load (some 2) (.tmp 2), none⟩,
    ⟨some 47, .build [.int .i64 0, .int .i64 0, .int .i64 0, .int .i64 0, .int .i64 0, .int .i64 0] [(0, 2, (.tmp 44)), (2, 2, (.tmp 45)), (4, 2, (.tmp 46))], none⟩,
    ⟨some 48, .build [.str ⟨#[]⟩, .int .i64 0, .int .i64 0, .int .i64 0, .int .i64 0, .int .i64 0, .int .i64 0, .int .i64 0, .int .i64 0, .int .i64 0, .bool false] [(0, 1, (.con (.str ⟨#[105, 115]⟩))), (1, 6, (.tmp 47)), (7, 1, (.con (.int .i64 0))), (8, 1, (.con (.int .i64 0))), (9, 1, (.con (.int .i64 2))), (10, 1, (.con (.bool true)))], none⟩,
    ⟨some 49, .load (some 2) (.tmp 1), none⟩,
    ⟨some 50, .load (some 2) (.tmp 2), none⟩,
    ⟨some 51, .build [.int .i64 0, .int .i64 0, .int .i64 0, .int .i64 0, .int .i64 0, .int .i64 0] [(0, 2, (.tmp 49)), (2, 2, (.tmp 50))], none⟩,
    ⟨some 52, .build [.str ⟨#[]⟩, .int .i64 0, .int .i64 0, .int .i64 0, .int .i64 0, .int .i64 0, .int .i64 0, .int .i64 0, .int .i64 0, .int .i64 0, .bool false] [(0, 1, (.con (.str ⟨#[108, 111, 111, 112]⟩))), (1, 6, (.tmp 51)), (7, 1, (.con (.int .i64 0))), (8, 1, (.con (.int .i64 0))), (9, 1, (.con (.int .i64 1))), (10, 1, (.con (.bool true)))], none⟩,
    ⟨some 53, .load (some 2) (.tmp 1), none⟩,
    ⟨some 54, .build [.int .i64 0, .int .i64 0, .int .i64 0, .int .i64 0, .int .i64 0, .int .i64 0] [(0, 2, (.tmp 53))], none⟩,
    ⟨some 55, .build [.str ⟨#[]⟩, .int .i64 0, .int .i64 0, .int .i64 0, .int .i64 0, .int .i64 0, .int .i64 0, .int .i64 0, .int .i64 0, .int .i64 0, .bool false] [(0, 1, (.con (.str ⟨#[115, 116, 111, 114, 101]⟩))), (1, 6, (.tmp 54)), (7, 1, (.con (.int .i64 1))), (8, 1, (.con (.int .i64 0))), (9, 1, (.con (.int .i64 (-1)))), (10, 1, (.con (.bool true)))], none⟩,
    ⟨some 56, .build [.int .i64 0, .int .i64 0, .int .i64 0, .int .i64 0, .int .i64 0, .int .i64 0] [], none⟩,
    ⟨some 57, .build [.str ⟨#[]⟩, .int .i64 0, .int .i64 0, .int .i64 0, .int .i64 0, .int .i64 0, .int .i64 0, .int .i64 0, .int .i64 0, .int .i64 0, .bool false] [(0, 1, (.con (.str ⟨#[116, 114, 97, 112]⟩))), (1, 6, (.tmp 56)), (7, 1, (.con (.int .i64 0))), (8, 1, (.con (.int .i64 0))), (9, 1, (.con (.int .i64 (-1)))), (10, 1, (.con (.bool false)))], none⟩,
    ⟨some 58, .build [.str ⟨#[]⟩, .int .i64 0, .int .i64 0, .int .i64 0, .int .i64 0, .int .i64 0, .int .i64 0, .int .i64 0, .int .i64 0, .int .i64 0, .bool false, .str ⟨#[]⟩, .int .i64 0, .int .i64 0, .int .i64 0, .int .i64 0, .int .i64 0, .int .i64 0, .int .i64 0, .int .i64 0, .int .i64 0, .bool false, .str ⟨#[]⟩, .int .i64 0, .int .i64 0, .int .i64 0, .int .i64 0, .int .i64 0, .int .i64 0, .int .i64 0, .int .i64 0, .int .i64 0, .bool false, .str ⟨#[]⟩, .int .i64 0, .int .i64 0, .int .i64 0, .int .i64 0, .int .i64 0, .int .i64 0, .int .i64 0, .int .i64 0, .int .i64 0, .bool false, .str ⟨#[]⟩, .int .i64 0, .int .i64 0, .int .i64 0, .int .i64 0, .int .i64 0, .int .i64 0, .int .i64 0, .int .i64 0, .int .i64 0, .bool false, .str ⟨#[]⟩, .int .i64 0, .int .i64 0, .int .i64 0, .int .i64 0, .int .i64 0, .int .i64 0, .int .i64 0, .int .i64 0, .int .i64 0, .bool false, .str ⟨#[]⟩, .int .i64 0, .int .i64 0, .int .i64 0, .int .i64 0, .int .i64 0, .int .i64 0, .int .i64 0, .int .i64 0, .int .i64 0, .bool false, .str ⟨#[]⟩, .int .i64 0, .int .i64 0, .int .i64 0, .int .i64 0, .int .i64 0, .int .i64 0, .int .i64 0, .int .i64 0, .int .i64 0, .bool false, .str ⟨#[]⟩, .int .i64 0, .int .i64 0, .int .i64 0, .int .i64 0, .int .i64 0, .int .i64 0, .int .i64 0, .int .i64 0, .int .i64 0, .bool false, .str ⟨#[]⟩, .int .i64 0, .int .i64 0, .int .i64 0, .int .i64 0, .int .i64 0, .int .i64 0, .int .i64 0, .int .i64 0, .int .i64 0, .bool false, .str ⟨#[]⟩, .int .i64 0, .int .i64 0, .int .i64 0, .int .i64 0, .int .i64 0, .int .i64 0, .int .i64 0, .int .i64 0, .int .i64 0, .bool false, .str ⟨#[]⟩, .int .i64 0, .int .i64 0, .int .i64 0, .int .i64 0, .int .i64 0, .int .i64 0, .int .i64 0, .int .i64 0, .int .i64 0, .bool false, .str ⟨#[]⟩, .int .i64 0, .int .i64 0, .int .i64 0, .int .i64 0, .int .i64 0, .int .i64 0, .int .i64 0, .int .i64 0, .int .i64 0, .bool false, .str ⟨#[]⟩, .int .i64 0, .int .i64 0, .int .i64 0, .int .i64 0, .int .i64 0, .int .i64 0, .int .i64 0, .int .i64 0, .int .i64 0, .bool false, .str ⟨#[]⟩, .int .i64 0, .int .i64 0, .int .i64 0, .int .i64 0, .int .i64 0, .int .i64 0, .int .i64 0, .int .i64 0, .int .i64 0, .bool false, .str ⟨#[]⟩, .int .i64 0, .int .i64 0, .int .i64 0, .int .i64 0, .int .i64 0, .int .i64 0, .int .i64 0, .int .i64 0, .int .i64 0, .bool false] [(0, 11, (.tmp 7)), (11, 11, (.tmp 10)), (22, 11, (.tmp 13)), (33, 11, (.tmp 17)), (44, 11, (.tmp 21)), (55, 11, (.tmp 24)), (66, 11, (.tmp 28)), (77, 11, (.tmp 30)), (88, 11, (.tmp 33)), (99, 11, (.tmp 36)), (110, 11, (.tmp 39)), (121, 11, (.tmp 43)), (132, 11, (.tmp 48)), (143, 11, (.tmp 52)), (154, 11, (.tmp 55)), (165, 11, (.tmp 57))], none⟩,
    ⟨none, .store 176 (.tmp 0) (.tmp 58), none⟩] [])
  (.ret)))
def A24 : AFunc := { ntmps := 59, results := [.cell (some 176) 0], body := B24, coe := true, keep := 0 }
theorem tr24 : trFunc Tryd.prog M24 true Tryd.f24 = some A24 := by kernel_rfl

/-- slices.IndexFunc[[]handloom/inst.row,handloom/inst.row] -/
def M25 : Marks := { cut := fun _ => true, hd := fun | 2 => [true, true, false, false, false, false, false, true, true] | _ => [], ex := fun | 2 => [false, false, false, false, true] | _ => [], imm := fun | _ => false }
abbrev H25L2 : List Bool := [true, true, false, false, false, false, false, true, true]
abbrev X25L2 : List Bool := [false, false, false, false, true]
def B25L2 : ACode :=
  .seq (.region [⟨some 9, .bin .lss (.tmp 8) (.tmp 7), none⟩])
  (.seq (.cond (.tmp 9) (.skip) (.exit 0))
  (.seq (.block 1 (.seq (.region [⟨some 10, .mv (.tmp 8), none⟩,
      ⟨some 5, .mv (.tmp 10), none⟩])
    (.seq (.region [⟨some 11, .mv (.tmp 1), none⟩,
      ⟨some 12, .mv (.tmp 0), none⟩,
      ⟨some 13, .mv (.tmp 5), none⟩,
      ⟨some 14, .idxAddr 11 (.tmp 12) (.tmp 13), none⟩,
      ⟨some 15, .load (some 11) (.tmp 14), none⟩,
      ⟨some 16, .call (.tmp 11) [(.tmp 15)], none⟩])
    (.cond (.tmp 16) (.seq (.region [⟨some 17, .mv (.tmp 5), none⟩,
      ⟨some 4, .mv (.tmp 17), none⟩])
    (.ret)) (.skip)))))
  (.region [⟨some 18, .bin .add (.tmp 8) (.con (.int .i64 1)), none⟩,
    ⟨some 8, .mv (.tmp 18), none⟩])))
def B25 : ACode :=
  .seq (.region [⟨some 4, .mv (.con (.int .i64 0)), none⟩])
  (.seq (.seq (.region [⟨some 6, .mv (.tmp 0), none⟩,
    ⟨some 7, .len false (.tmp 6), none⟩,
    ⟨some 8, .mv (.con (.int .i64 0)), none⟩])
  (.block 0 (.loop true [true, true, false, false, false, false, false, true, true] [false, false, false, false, true] B25L2)))
  (.seq (.region [⟨some 4, .mv (.con (.int .i64 (-1))), none⟩])
  (.ret)))
def A25 : AFunc := { ntmps := 19, results := [.tmp 4], body := B25, coe := true, keep := 0 }
theorem tr25 : trFunc Tryd.prog M25 true Tryd.f25 = some A25 := by kernel_rfl

/-- handloom/inst.Read$1 -/
def M26 : Marks := { cut := fun _ => true, hd := fun | _ => [], ex := fun | _ => [], imm := fun | 2 => true | _ => false }
def B26 : ACode :=
  .seq (.region [⟨some 2, .box true (.tmp 0), none⟩,
    ⟨some 3, .mv (.con (.bool false)), none⟩])
  (.seq (.draw [⟨some 4, .addOff 0 (.tmp 2), none⟩,
    ⟨some 5, .load none (.tmp 4), none⟩,
    ⟨some 6, .load none (.tmp 1), none⟩,
    ⟨some 7, .idxAddr 1 (.tmp 6) (.con (.int .i64 0)), none⟩,
    ⟨some 8, .load none (.tmp 7), none⟩,
    ⟨some 9, .bin .eql (.tmp 5) (.tmp 8), none⟩,
    ⟨some 3, .mv (.tmp 9), none⟩] [])
  (.ret))
def A26 : AFunc := { ntmps := 10, results := [.tmp 3], body := B26, coe := true, keep := 0 }
theorem tr26 : trFunc Tryd.prog M26 true Tryd.f26 = some A26 := by kernel_rfl

/-- (handloom/inst.row).numbers -/
def M27 : Marks := { cut := fun _ => true, hd := fun | 2 => [false, true, false, true] | _ => [], ex := fun | 2 => [false, false, false, true] | _ => [], imm := fun | 1 => true | _ => false }
abbrev H27L2 : List Bool := [false, true, false, true]
abbrev X27L2 : List Bool := [false, false, false, true]
def B27L2 : ACode :=
  .seq (.seq (.region [⟨some 4, .mv (.tmp 3), none⟩,
    ⟨some 5, .bin .lss (.tmp 4) (.con (.int .i64 3)), none⟩,
    ⟨some 6, .mv (.tmp 5), none⟩,
    ⟨some 7, .mv (.tmp 3), (some (6, true))⟩,
    ⟨some 8, .addOff 1 (.tmp 1), (some (6, true))⟩,
    ⟨some 9, .idxArr 3 2 (.tmp 8) (.tmp 7), (some (6, true))⟩,
    ⟨some 10, .load (some 2) (.tmp 9), (some (6, true))⟩,
    ⟨some 11, .build [.int .i64 0, .int .i64 0] [], (some (6, true))⟩,
    ⟨some 12, .eqs true [0, 0] (.tmp 10) (.tmp 11), (some (6, true))⟩,
    ⟨some 13, .pick (.tmp 6) (.tmp 12) (.con (.bool false)), none⟩])
  (.cond (.tmp 13) (.skip) (.exit 0)))
  (.block 1 (.region [⟨some 14, .mv (.tmp 3), none⟩,
      ⟨some 15, .bin .add (.tmp 14) (.con (.int .i64 1)), none⟩,
      ⟨some 3, .mv (.tmp 15), none⟩]))
def B27 : ACode :=
  .seq (.region [⟨some 1, .box true (.tmp 0), none⟩,
    ⟨some 2, .mv (.con (.int .i64 0)), none⟩])
  (.seq (.region [⟨some 3, .mv (.con (.int .i64 0)), none⟩])
  (.seq (.block 0 (.loop true [false, true, false, true] [false, false, false, true] B27L2))
  (.seq (.region [⟨some 16, .mv (.tmp 3), none⟩,
    ⟨some 2, .mv (.tmp 16), none⟩])
  (.ret))))
def A27 : AFunc := { ntmps := 17, results := [.tmp 2], body := B27, coe := true, keep := 0 }
theorem tr27 : trFunc Tryd.prog M27 true Tryd.f27 = some A27 := by kernel_rfl

/-- handloom/handloomref19.words -/
def M29 : Marks := { cut := fun _ => true, hd := fun | 3 => [true, false, false, true, true] | _ => [], ex := fun | 3 => [false, false, false, true] | _ => [], imm := fun | 2 => true | 18 => true | 1000006 => true | 1000019 => true | 2000002 => true | _ => false }
abbrev H29L3 : List Bool := [true, false, false, true, true]
abbrev X29L3 : List Bool := [false, false, false, true]
def B29L3 : ACode :=
  .seq (.seq (.region [⟨some 7, .mv (.tmp 4), none⟩,
    ⟨some 8, .mv (.tmp 0), none⟩,
    ⟨some 9, .len true (.tmp 8), none⟩,
    ⟨some 10, .bin .lss (.tmp 7) (.tmp 9), none⟩])
  (.cond (.tmp 10) (.skip) (.exit 0)))
  (.seq (.block 1 (.seq (.region [⟨some 13, .mv (.tmp 0), none⟩,
      ⟨some 14, .mv (.tmp 4), none⟩,
      ⟨some 15, .idxStr (.tmp 13) (.tmp 14), none⟩,
      ⟨some 16, .bin .eql (.tmp 15) (.con (.int .u8 32)), none⟩])
    (.cond (.tmp 16) (.region [⟨some 17, .mv (.tmp 3), none⟩,
      ⟨some 18, .lit true 0 1 1 [.str ⟨#[]⟩] [(0, (.con (.str ⟨#[]⟩)))], none⟩,
      ⟨some 19, .vapp 0 1 16 (.tmp 17) (.tmp 18), none⟩,
      ⟨some 3, .mv (.tmp 19), none⟩]) (.seq (.region [⟨some 20, .mv (.tmp 3), none⟩,
      ⟨some 21, .len false (.tmp 20), none⟩,
      ⟨some 22, .bin .sub (.tmp 21) (.con (.int .i64 1)), none⟩,
      ⟨some 5, .mv (.tmp 22), none⟩])
    (.draw [⟨some 23, .mv (.tmp 3), none⟩,
      ⟨some 24, .mv (.tmp 5), none⟩,
      ⟨some 25, .mv (.tmp 3), none⟩,
      ⟨some 26, .mv (.tmp 5), none⟩,
      ⟨some 27, .idxAddr 1 (.tmp 25) (.tmp 26), none⟩,
      ⟨some 28, .load none (.tmp 27), none⟩,
      ⟨some 29, .mv (.tmp 0), none⟩,
      ⟨some 30, .mv (.tmp 4), none⟩,
      ⟨some 31, .mv (.tmp 4), none⟩,
      ⟨some 32, .bin .add (.tmp 31) (.con (.int .i64 1)), none⟩,
      ⟨some 33, .slcStr (.tmp 29) (some (.tmp 30)) (some (.tmp 32)), none⟩,
      ⟨some 34, .bin .add (.tmp 28) (.tmp 33), none⟩,
      ⟨some 35, .idxAddr 1 (.tmp 23) (.tmp 24), none⟩,
      ⟨none, .store 1 (.tmp 35) (.tmp 34), none⟩] [])))))
  (.region [⟨some 11, .mv (.tmp 4), none⟩,
    ⟨some 12, .bin .add (.tmp 11) (.con (.int .i64 1)), none⟩,
    ⟨some 4, .mv (.tmp 12), none⟩]))
def B29 : ACode :=
  .seq (.region [⟨some 2, .frz (.con (.slice 1 [])), none⟩])
  (.seq (.region [⟨some 6, .vlit 0 1 1 [.str ⟨#[]⟩] [(0, (.con (.str ⟨#[]⟩)))], none⟩,
    ⟨some 3, .mv (.tmp 6), none⟩])
  (.seq (.seq (.region [⟨some 4, .mv (.con (.int .i64 0)), none⟩])
  (.block 0 (.loop true [true, false, false, true, true] [false, false, false, true] B29L3)))
  (.seq (.region [⟨some 36, .mv (.tmp 3), none⟩,
    ⟨some 2, .frz (.tmp 36), none⟩])
  (.ret))))
def A29 : AFunc := { ntmps := 37, results := [.tmp 2], body := B29, coe := true, keep := 0 }
theorem tr29 : trFunc Tryd.prog M29 true Tryd.f29 = some A29 := by kernel_rfl

/-- handloom/handloomref19.Name -/
def M30 : Marks := { cut := fun _ => true, hd := fun | _ => [], ex := fun | _ => [], imm := fun | _ => false }
def B30 : ACode :=
  .seq (.region [⟨some 2, .mv (.con (.str ⟨#[]⟩)), none⟩,
    ⟨some 3, .mv (.con (.int .i64 0)), none⟩])
  (.seq (.region [⟨some 6, .lit false 0 1 16 [.str ⟨#[]⟩] [(0, (.con (.str ⟨#[105, 110, 116]⟩))), (1, (.con (.str ⟨#[116, 101, 120, 116]⟩))), (2, (.con (.str ⟨#[103, 101, 116]⟩))), (3, (.con (.str ⟨#[109, 97, 107, 101]⟩))), (4, (.con (.str ⟨#[102, 105, 101, 108, 100]⟩))), (5, (.con (.str ⟨#[111, 112]⟩))), (6, (.con (.str ⟨#[99, 97, 108, 108]⟩))), (7, (.con (.str ⟨#[114, 101, 116]⟩))), (8, (.con (.str ⟨#[115, 108, 105, 100, 101]⟩))), (9, (.con (.str ⟨#[106, 117, 109, 112]⟩))), (10, (.con (.str ⟨#[102, 97, 108, 115, 101]⟩))), (11, (.con (.str ⟨#[115, 119, 105, 116, 99, 104]⟩))), (12, (.con (.str ⟨#[105, 115]⟩))), (13, (.con (.str ⟨#[108, 111, 111, 112]⟩))), (14, (.con (.str ⟨#[115, 116, 111, 114, 101]⟩))), (15, (.con (.str ⟨#[116, 114, 97, 112]⟩)))], none⟩,
    ⟨some 4, .mv (.tmp 6), none⟩])
  (.seq (.region [⟨some 7, .lit false 0 1 16 [.int .i64 0] [(0, (.con (.int .i64 1))), (1, (.con (.int .i64 1))), (2, (.con (.int .i64 1))), (3, (.con (.int .i64 2))), (4, (.con (.int .i64 2))), (5, (.con (.int .i64 1))), (6, (.con (.int .i64 2))), (7, (.con (.int .i64 0))), (8, (.con (.int .i64 1))), (9, (.con (.int .i64 1))), (10, (.con (.int .i64 1))), (11, (.con (.int .i64 2))), (12, (.con (.int .i64 3))), (13, (.con (.int .i64 2))), (14, (.con (.int .i64 1))), (15, (.con (.int .i64 0)))], none⟩,
    ⟨some 5, .mv (.tmp 7), none⟩])
  (.seq (.draw [⟨some 8, .mv (.tmp 4), none⟩,
    ⟨some 9, .mv (.tmp 0), none⟩,
    ⟨some 10, .idxAddr 1 (.tmp 8) (.tmp 9), none⟩,
    ⟨some 11, .load none (.tmp 10), none⟩,
    ⟨some 12, .mv (.tmp 5), none⟩,
    ⟨some 13, .mv (.tmp 0), none⟩,
    ⟨some 14, .idxAddr 1 (.tmp 12) (.tmp 13), none⟩,
    ⟨some 15, .load none (.tmp 14), none⟩,
    ⟨some 2, .mv (.tmp 11), none⟩,
    ⟨some 3, .mv (.tmp 15), none⟩] [])
  (.ret))))
def A30 : AFunc := { ntmps := 16, results := [.tmp 2, .tmp 3], body := B30, coe := true, keep := 0 }
theorem tr30 : trFunc Tryd.prog M30 true Tryd.f30 = some A30 := by kernel_rfl

/-- handloom/handloomref19.value -/
def M31 : Marks := { cut := fun _ => true, hd := fun | 6 => [true, false, false, false, true, true, true] | _ => [], ex := fun | 6 => [true, false, true, true, true, true] | _ => [], imm := fun | _ => false }
abbrev H31L6 : List Bool := [true, false, false, false, true, true, true]
abbrev X31L6 : List Bool := [true, false, true, true, true, true]
def B31L6 : ACode :=
  .seq (.seq (.region [⟨some 18, .mv (.tmp 6), none⟩,
    ⟨some 19, .mv (.tmp 0), none⟩,
    ⟨some 20, .len true (.tmp 19), none⟩,
    ⟨some 21, .bin .lss (.tmp 18) (.tmp 20), none⟩])
  (.cond (.tmp 21) (.skip) (.exit 0)))
  (.seq (.block 1 (.seq (.seq (.region [⟨some 24, .mv (.tmp 0), none⟩,
      ⟨some 25, .mv (.tmp 6), none⟩,
      ⟨some 26, .idxStr (.tmp 24) (.tmp 25), none⟩,
      ⟨some 27, .bin .lss (.tmp 26) (.con (.int .u8 48)), none⟩,
      ⟨some 28, .mv (.tmp 27), none⟩,
      ⟨some 29, .mv (.tmp 0), (some (28, false))⟩,
      ⟨some 30, .mv (.tmp 6), (some (28, false))⟩,
      ⟨some 31, .idxStr (.tmp 29) (.tmp 30), (some (28, false))⟩,
      ⟨some 32, .bin .gtr (.tmp 31) (.con (.int .u8 57)), (some (28, false))⟩,
      ⟨some 33, .pick (.tmp 28) (.con (.bool true)) (.tmp 32), none⟩,
      ⟨some 34, .mv (.tmp 33), none⟩,
      ⟨some 35, .mv (.tmp 5), (some (34, false))⟩,
      ⟨some 36, .bin .gtr (.tmp 35) (.con (.int .i64 576460752303423488)), (some (34, false))⟩,
      ⟨some 37, .pick (.tmp 34) (.con (.bool true)) (.tmp 36), none⟩])
    (.cond (.tmp 37) (.seq (.region [⟨some 2, .mv (.con (.int .i64 0)), none⟩,
      ⟨some 3, .mv (.con (.bool false)), none⟩])
    (.ret)) (.skip)))
    (.region [⟨some 38, .mv (.tmp 5), none⟩,
      ⟨some 39, .bin .mul (.tmp 38) (.con (.int .i64 10)), none⟩,
      ⟨some 40, .mv (.tmp 0), none⟩,
      ⟨some 41, .mv (.tmp 6), none⟩,
      ⟨some 42, .idxStr (.tmp 40) (.tmp 41), none⟩,
      ⟨some 43, .bin .sub (.tmp 42) (.con (.int .u8 48)), none⟩,
      ⟨some 44, .cvt .i64 (.tmp 43), none⟩,
      ⟨some 45, .bin .add (.tmp 39) (.tmp 44), none⟩,
      ⟨some 5, .mv (.tmp 45), none⟩])))
  (.region [⟨some 22, .mv (.tmp 6), none⟩,
    ⟨some 23, .bin .add (.tmp 22) (.con (.int .i64 1)), none⟩,
    ⟨some 6, .mv (.tmp 23), none⟩]))
def B31 : ACode :=
  .seq (.region [⟨some 2, .mv (.con (.int .i64 0)), none⟩,
    ⟨some 3, .mv (.con (.bool false)), none⟩])
  (.seq (.region [⟨some 7, .mv (.tmp 0), none⟩,
    ⟨some 8, .len true (.tmp 7), none⟩,
    ⟨some 9, .bin .gtr (.tmp 8) (.con (.int .i64 0)), none⟩,
    ⟨some 10, .mv (.tmp 9), none⟩,
    ⟨some 11, .mv (.tmp 0), (some (10, true))⟩,
    ⟨some 12, .idxStr (.tmp 11) (.con (.int .i64 0)), (some (10, true))⟩,
    ⟨some 13, .bin .eql (.tmp 12) (.con (.int .u8 45)), (some (10, true))⟩,
    ⟨some 14, .pick (.tmp 10) (.tmp 13) (.con (.bool false)), none⟩,
    ⟨some 4, .mv (.tmp 14), none⟩])
  (.seq (.seq (.region [⟨some 15, .mv (.tmp 4), none⟩])
  (.cond (.tmp 15) (.region [⟨some 16, .mv (.tmp 0), none⟩,
    ⟨some 17, .slcStr (.tmp 16) (some (.con (.int .i64 1))) none, none⟩,
    ⟨some 0, .mv (.tmp 17), none⟩]) (.skip)))
  (.seq (.region [⟨some 5, .mv (.con (.int .i64 0)), none⟩])
  (.seq (.seq (.region [⟨some 6, .mv (.con (.int .i64 0)), none⟩])
  (.block 0 (.loop true [true, false, false, false, true, true, true] [true, false, true, true, true, true] B31L6)))
  (.seq (.seq (.region [⟨some 46, .mv (.tmp 4), none⟩])
  (.cond (.tmp 46) (.region [⟨some 47, .mv (.tmp 5), none⟩,
    ⟨some 48, .un .neg (.tmp 47), none⟩,
    ⟨some 5, .mv (.tmp 48), none⟩]) (.skip)))
  (.seq (.region [⟨some 49, .mv (.tmp 5), none⟩,
    ⟨some 50, .mv (.tmp 0), none⟩,
    ⟨some 51, .len true (.tmp 50), none⟩,
    ⟨some 52, .bin .gtr (.tmp 51) (.con (.int .i64 0)), none⟩,
    ⟨some 2, .mv (.tmp 49), none⟩,
    ⟨some 3, .mv (.tmp 52), none⟩])
  (.ret)))))))
def A31 : AFunc := { ntmps := 53, results := [.tmp 2, .tmp 3], body := B31, coe := true, keep := 0 }
theorem tr31 : trFunc Tryd.prog M31 true Tryd.f31 = some A31 := by kernel_rfl

/-- handloom/handloomref09.Ops -/
def M32 : Marks := { cut := fun _ => true, hd := fun | _ => [], ex := fun | _ => [], imm := fun | 2 => true | _ => false, alts := fun | 7 => [[0, 1, 3, 2, 4, 5], [0, 3, 1, 2, 4, 5], [1, 3, 0, 2, 4, 5], [3, 0, 1, 2, 4, 5]] | 9 => [[0, 2, 1, 3, 4]] | 11 => [[0, 1, 3, 2, 4, 5]] | 13 => [[0, 1, 3, 2, 4, 5]] | 15 => [[0, 1, 2, 4, 3, 5, 6]] | 16 => [[0, 1, 3, 2, 4, 5]] | _ => [] }
def B32 : ACode :=
  .seq (.region [⟨some 2, .mv (.con (.slice 3 [])), none⟩,
    ⟨some 3, .alloc [.ok (.int .i64 0), .ok (.str ⟨#[]⟩), .error 3], none⟩])
  (.seq (.region [⟨some 6, .build [.int .i64 0, .str ⟨#[]⟩, .slice 3 []] [(0, 1, (.con (.int .i64 0)))], none⟩,
    ⟨some 4, .alloc [.ok (.int .i64 0), .ok (.str ⟨#[]⟩), .error 3], none⟩,
    ⟨none, .store 3 (.tmp 4) (.tmp 6), none⟩])
  (.seq (.region [⟨some 7, .build [.int .i64 0, .str ⟨#[]⟩, .slice 3 []] [(0, 1, (.con (.int .i64 1)))], none⟩,
    ⟨some 5, .alloc [.ok (.int .i64 0), .ok (.str ⟨#[]⟩), .error 3], none⟩,
    ⟨none, .store 3 (.tmp 5) (.tmp 7), none⟩])
  (.seq (.seq (.region [⟨some 8, .mv (.tmp 0), none⟩])
  (.block 0 (.seq (.seq (.region [⟨some 10, .bin .eql (.tmp 8) (.con (.int .i64 5)), none⟩,
      ⟨some 9, .mv (.tmp 10), none⟩])
    (.cond (.tmp 9) (.skip) (.seq (.region [⟨some 11, .bin .eql (.tmp 8) (.con (.int .i64 6)), none⟩,
      ⟨some 9, .mv (.tmp 11), none⟩])
    (.cond (.tmp 9) (.skip) (.region [⟨some 12, .bin .eql (.tmp 8) (.con (.int .i64 7)), none⟩,
      ⟨some 9, .mv (.tmp 12), none⟩])))))
    (.cond (.tmp 9) (.seq (.draw [⟨some 13, .load (some 3) (.tmp 4), none⟩,
      ⟨some 14, .load (some 3) (.tmp 4), none⟩,
      ⟨some 15, .lit false 0 3 2 [.int .i64 0, .str ⟨#[]⟩, .slice 3 []] [(0, (.tmp 13)), (1, (.tmp 14))], none⟩,
      ⟨some 16, .call (.fn 41) [], none⟩,
      ⟨some 2, .mv (.tmp 15), none⟩,
      ⟨none, .store 3 (.tmp 3) (.tmp 16), none⟩] [[⟨some 13, .load (some 3) (.tmp 4), none⟩, ⟨some 14, .load (some 3) (.tmp 4), none⟩, ⟨some 16, .call (.fn 41) [], none⟩, ⟨some 15, .lit false 0 3 2 [.int .i64 0, .str ⟨#[]⟩, .slice 3 []] [(0, (.tmp 13)), (1, (.tmp 14))], none⟩, ⟨some 2, .mv (.tmp 15), none⟩, ⟨none, .store 3 (.tmp 3) (.tmp 16), none⟩], [⟨some 13, .load (some 3) (.tmp 4), none⟩, ⟨some 16, .call (.fn 41) [], none⟩, ⟨some 14, .load (some 3) (.tmp 4), none⟩, ⟨some 15, .lit false 0 3 2 [.int .i64 0, .str ⟨#[]⟩, .slice 3 []] [(0, (.tmp 13)), (1, (.tmp 14))], none⟩, ⟨some 2, .mv (.tmp 15), none⟩, ⟨none, .store 3 (.tmp 3) (.tmp 16), none⟩], [⟨some 14, .load (some 3) (.tmp 4), none⟩, ⟨some 16, .call (.fn 41) [], none⟩, ⟨some 13, .load (some 3) (.tmp 4), none⟩, ⟨some 15, .lit false 0 3 2 [.int .i64 0, .str ⟨#[]⟩, .slice 3 []] [(0, (.tmp 13)), (1, (.tmp 14))], none⟩, ⟨some 2, .mv (.tmp 15), none⟩, ⟨none, .store 3 (.tmp 3) (.tmp 16), none⟩], [⟨some 16, .call (.fn 41) [], none⟩, ⟨some 13, .load (some 3) (.tmp 4), none⟩, ⟨some 14, .load (some 3) (.tmp 4), none⟩, ⟨some 15, .lit false 0 3 2 [.int .i64 0, .str ⟨#[]⟩, .slice 3 []] [(0, (.tmp 13)), (1, (.tmp 14))], none⟩, ⟨some 2, .mv (.tmp 15), none⟩, ⟨none, .store 3 (.tmp 3) (.tmp 16), none⟩]])
    (.ret)) (.seq (.region [⟨some 18, .bin .eql (.tmp 8) (.con (.int .i64 8)), none⟩,
      ⟨some 17, .mv (.tmp 18), none⟩])
    (.cond (.tmp 17) (.seq (.draw [⟨some 19, .load (some 3) (.tmp 5), none⟩,
      ⟨some 20, .lit false 0 3 1 [.int .i64 0, .str ⟨#[]⟩, .slice 3 []] [(0, (.tmp 19))], none⟩,
      ⟨some 21, .load (some 3) (.tmp 4), none⟩,
      ⟨some 2, .mv (.tmp 20), none⟩,
      ⟨none, .store 3 (.tmp 3) (.tmp 21), none⟩] [[⟨some 19, .load (some 3) (.tmp 5), none⟩, ⟨some 21, .load (some 3) (.tmp 4), none⟩, ⟨some 20, .lit false 0 3 1 [.int .i64 0, .str ⟨#[]⟩, .slice 3 []] [(0, (.tmp 19))], none⟩, ⟨some 2, .mv (.tmp 20), none⟩, ⟨none, .store 3 (.tmp 3) (.tmp 21), none⟩]])
    (.ret)) (.seq (.region [⟨some 23, .bin .eql (.tmp 8) (.con (.int .i64 9)), none⟩,
      ⟨some 22, .mv (.tmp 23), none⟩])
    (.cond (.tmp 22) (.seq (.draw [⟨some 24, .load (some 3) (.tmp 5), none⟩,
      ⟨some 25, .load (some 3) (.tmp 4), none⟩,
      ⟨some 26, .lit false 0 3 2 [.int .i64 0, .str ⟨#[]⟩, .slice 3 []] [(0, (.tmp 24)), (1, (.tmp 25))], none⟩,
      ⟨some 27, .load (some 3) (.tmp 4), none⟩,
      ⟨some 2, .mv (.tmp 26), none⟩,
      ⟨none, .store 3 (.tmp 3) (.tmp 27), none⟩] [[⟨some 24, .load (some 3) (.tmp 5), none⟩, ⟨some 25, .load (some 3) (.tmp 4), none⟩, ⟨some 27, .load (some 3) (.tmp 4), none⟩, ⟨some 26, .lit false 0 3 2 [.int .i64 0, .str ⟨#[]⟩, .slice 3 []] [(0, (.tmp 24)), (1, (.tmp 25))], none⟩, ⟨some 2, .mv (.tmp 26), none⟩, ⟨none, .store 3 (.tmp 3) (.tmp 27), none⟩]])
    (.ret)) (.seq (.region [⟨some 29, .bin .eql (.tmp 8) (.con (.int .i64 10)), none⟩,
      ⟨some 28, .mv (.tmp 29), none⟩])
    (.cond (.tmp 28) (.seq (.draw [⟨some 30, .load (some 3) (.tmp 5), none⟩,
      ⟨some 31, .load (some 3) (.tmp 5), none⟩,
      ⟨some 32, .lit false 0 3 2 [.int .i64 0, .str ⟨#[]⟩, .slice 3 []] [(0, (.tmp 30)), (1, (.tmp 31))], none⟩,
      ⟨some 33, .load (some 3) (.tmp 5), none⟩,
      ⟨some 2, .mv (.tmp 32), none⟩,
      ⟨none, .store 3 (.tmp 3) (.tmp 33), none⟩] [[⟨some 30, .load (some 3) (.tmp 5), none⟩, ⟨some 31, .load (some 3) (.tmp 5), none⟩, ⟨some 33, .load (some 3) (.tmp 5), none⟩, ⟨some 32, .lit false 0 3 2 [.int .i64 0, .str ⟨#[]⟩, .slice 3 []] [(0, (.tmp 30)), (1, (.tmp 31))], none⟩, ⟨some 2, .mv (.tmp 32), none⟩, ⟨none, .store 3 (.tmp 3) (.tmp 33), none⟩]])
    (.ret)) (.seq (.region [⟨some 35, .bin .eql (.tmp 8) (.con (.int .i64 11)), none⟩,
      ⟨some 34, .mv (.tmp 35), none⟩])
    (.cond (.tmp 34) (.seq (.draw [⟨some 36, .load (some 3) (.tmp 5), none⟩,
      ⟨some 37, .load (some 3) (.tmp 4), none⟩,
      ⟨some 38, .load (some 3) (.tmp 4), none⟩,
      ⟨some 39, .lit false 0 3 3 [.int .i64 0, .str ⟨#[]⟩, .slice 3 []] [(0, (.tmp 36)), (1, (.tmp 37)), (2, (.tmp 38))], none⟩,
      ⟨some 40, .load (some 3) (.tmp 5), none⟩,
      ⟨some 2, .mv (.tmp 39), none⟩,
      ⟨none, .store 3 (.tmp 3) (.tmp 40), none⟩] [[⟨some 36, .load (some 3) (.tmp 5), none⟩, ⟨some 37, .load (some 3) (.tmp 4), none⟩, ⟨some 38, .load (some 3) (.tmp 4), none⟩, ⟨some 40, .load (some 3) (.tmp 5), none⟩, ⟨some 39, .lit false 0 3 3 [.int .i64 0, .str ⟨#[]⟩, .slice 3 []] [(0, (.tmp 36)), (1, (.tmp 37)), (2, (.tmp 38))], none⟩, ⟨some 2, .mv (.tmp 39), none⟩, ⟨none, .store 3 (.tmp 3) (.tmp 40), none⟩]])
    (.ret)) (.skip)))))))))))))
  (.seq (.draw [⟨some 41, .load (some 3) (.tmp 4), none⟩,
    ⟨some 42, .load (some 3) (.tmp 4), none⟩,
    ⟨some 43, .lit false 0 3 2 [.int .i64 0, .str ⟨#[]⟩, .slice 3 []] [(0, (.tmp 41)), (1, (.tmp 42))], none⟩,
    ⟨some 44, .load (some 3) (.tmp 4), none⟩,
    ⟨some 2, .mv (.tmp 43), none⟩,
    ⟨none, .store 3 (.tmp 3) (.tmp 44), none⟩] [[⟨some 41, .load (some 3) (.tmp 4), none⟩, ⟨some 42, .load (some 3) (.tmp 4), none⟩, ⟨some 44, .load (some 3) (.tmp 4), none⟩, ⟨some 43, .lit false 0 3 2 [.int .i64 0, .str ⟨#[]⟩, .slice 3 []] [(0, (.tmp 41)), (1, (.tmp 42))], none⟩, ⟨some 2, .mv (.tmp 43), none⟩, ⟨none, .store 3 (.tmp 3) (.tmp 44), none⟩]])
  (.ret)))))
def A32 : AFunc := { ntmps := 45, results := [.tmp 2, .cell (some 3) 3], body := B32, coe := true, keep := 0 }
theorem tr32 : trFunc Tryd.prog M32 true Tryd.f32 = some A32 := by kernel_rfl

/-- handloom/handloomref19.digits -/
def M35 : Marks := { cut := fun _ => true, hd := fun | _ => [], ex := fun | _ => [], imm := fun | _ => false }
def B35 : ACode :=
  .seq (.region [⟨some 2, .mv (.con (.str ⟨#[]⟩)), none⟩])
  (.seq (.seq (.region [⟨some 3, .mv (.tmp 0), none⟩,
    ⟨some 4, .bin .lss (.tmp 3) (.con (.int .i64 0)), none⟩])
  (.cond (.tmp 4) (.seq (.region [⟨some 5, .mv (.tmp 0), none⟩,
    ⟨some 6, .un .neg (.tmp 5), none⟩,
    ⟨some 7, .call (.fn 35) [(.tmp 6)], none⟩,
    ⟨some 8, .bin .add (.con (.str ⟨#[45]⟩)) (.tmp 7), none⟩,
    ⟨some 2, .mv (.tmp 8), none⟩])
  (.ret)) (.skip)))
  (.seq (.seq (.region [⟨some 9, .mv (.tmp 0), none⟩,
    ⟨some 10, .bin .gtr (.tmp 9) (.con (.int .i64 9)), none⟩])
  (.cond (.tmp 10) (.seq (.region [⟨some 11, .mv (.tmp 0), none⟩,
    ⟨some 12, .bin .quo (.tmp 11) (.con (.int .i64 10)), none⟩,
    ⟨some 13, .call (.fn 35) [(.tmp 12)], none⟩,
    ⟨some 14, .mv (.tmp 0), none⟩,
    ⟨some 15, .bin .rem (.tmp 14) (.con (.int .i64 10)), none⟩,
    ⟨some 16, .call (.fn 35) [(.tmp 15)], none⟩,
    ⟨some 17, .bin .add (.tmp 13) (.tmp 16), none⟩,
    ⟨some 2, .mv (.tmp 17), none⟩])
  (.ret)) (.skip)))
  (.seq (.region [⟨some 18, .mv (.tmp 0), none⟩,
    ⟨some 19, .bin .add (.con (.int .i64 48)) (.tmp 18), none⟩,
    ⟨some 20, .cvt .u8 (.tmp 19), none⟩,
    ⟨some 21, .lit false 5 1 1 [.int .u8 0] [(0, (.tmp 20))], none⟩,
    ⟨some 22, .bstr (.tmp 21), none⟩,
    ⟨some 2, .mv (.tmp 22), none⟩])
  (.ret))))
def A35 : AFunc := { ntmps := 23, results := [.tmp 2], body := B35, coe := true, keep := 0 }
theorem tr35 : trFunc Tryd.prog M35 true Tryd.f35 = some A35 := by kernel_rfl

/-- handloom/inst.upTo -/
def M37 : Marks := { cut := fun _ => true, hd := fun | _ => [], ex := fun | _ => [], imm := fun | _ => false }
def B37 : ACode :=
  .seq (.region [⟨some 2, .alloc [.ok (.int .i64 0), .ok (.int .i64 0)], none⟩])
  (.seq (.region [⟨some 3, .mv (.tmp 0), none⟩,
    ⟨some 4, .bin .sub (.tmp 3) (.con (.int .i64 1)), none⟩,
    ⟨some 5, .build [.int .i64 0, .int .i64 0] [(0, 1, (.con (.int .i64 0))), (1, 1, (.tmp 4))], none⟩,
    ⟨none, .store 2 (.tmp 2) (.tmp 5), none⟩])
  (.ret))
def A37 : AFunc := { ntmps := 6, results := [.cell (some 2) 2], body := B37, coe := true, keep := 0 }
theorem tr37 : trFunc Tryd.prog M37 true Tryd.f37 = some A37 := by kernel_rfl

/-- handloom/inst.num -/
def M38 : Marks := { cut := fun _ => true, hd := fun | _ => [], ex := fun | _ => [], imm := fun | _ => false }
def B38 : ACode :=
  .seq (.region [⟨some 0, .alloc [.ok (.int .i64 0), .ok (.int .i64 0)], none⟩])
  (.seq (.region [⟨some 1, .build [.int .i64 0, .int .i64 0] [(0, 1, (.con (.int .i64 (-4611686018427387904)))), (1, 1, (.con (.int .i64 4611686018427387903)))], none⟩,
    ⟨none, .store 2 (.tmp 0) (.tmp 1), none⟩])
  (.ret))
def A38 : AFunc := { ntmps := 2, results := [.cell (some 2) 0], body := B38, coe := true, keep := 0 }
theorem tr38 : trFunc Tryd.prog M38 true Tryd.f38 = some A38 := by kernel_rfl

/-- handloom/handloomref09.Bool -/
def M41 : Marks := { cut := fun _ => true, hd := fun | _ => [], ex := fun | _ => [], imm := fun | _ => false }
def B41 : ACode :=
  .seq (.region [⟨some 0, .alloc [.ok (.int .i64 0), .ok (.str ⟨#[]⟩), .error 3], none⟩])
  (.seq (.region [⟨some 1, .build [.int .i64 0, .str ⟨#[]⟩, .slice 3 []] [(0, 1, (.con (.int .i64 2))), (1, 1, (.con (.str ⟨#[98, 111, 111, 108]⟩)))], none⟩,
    ⟨none, .store 3 (.tmp 0) (.tmp 1), none⟩])
  (.ret))
def A41 : AFunc := { ntmps := 2, results := [.cell (some 3) 0], body := B41, coe := true, keep := 0 }
theorem tr41 : trFunc Tryd.prog M41 true Tryd.f41 = some A41 := by kernel_rfl

/-- The functions' deep codes, and contracts of functions without. -/
def ext : FuncId → Option (List DV → List Res → Option DOut) := fun | 23 => some (xSplit) | 28 => some (xAtoi 92) | 33 => some (xItoa) | 34 => some (xJoin) | _ => none
def env : Env := { af := fun | 3 => some A3 | 4 => some A4 | 5 => some A5 | 6 => some A6 | 7 => some A7 | 8 => some A8 | 9 => some A9 | 10 => some A10 | 11 => some A11 | 12 => some A12 | 13 => some A13 | 14 => some A14 | 15 => some A15 | 16 => some A16 | 17 => some A17 | 18 => some A18 | 19 => some A19 | 20 => some A20 | 21 => some A21 | 22 => some A22 | 24 => some A24 | 25 => some A25 | 26 => some A26 | 27 => some A27 | 29 => some A29 | 30 => some A30 | 31 => some A31 | 32 => some A32 | 35 => some A35 | 37 => some A37 | 38 => some A38 | 41 => some A41 | _ => none, ext := ext }
theorem env_ok {G : Glob} (hx : ExtOk Tryd.prog G ext) : EnvOk Tryd.prog G env where
  af := fun g F h => by
    unfold env at h
    simp only at h
    split at h
    · cases h; exact ⟨Tryd.f3, M3, true, by kernel_rfl, by kernel_rfl, tr3⟩
    · cases h; exact ⟨Tryd.f4, M4, true, by kernel_rfl, by kernel_rfl, tr4⟩
    · cases h; exact ⟨Tryd.f5, M5, true, by kernel_rfl, by kernel_rfl, tr5⟩
    · cases h; exact ⟨Tryd.f6, M6, true, by kernel_rfl, by kernel_rfl, tr6⟩
    · cases h; exact ⟨Tryd.f7, M7, true, by kernel_rfl, by kernel_rfl, tr7⟩
    · cases h; exact ⟨Tryd.f8, M8, true, by kernel_rfl, by kernel_rfl, tr8⟩
    · cases h; exact ⟨Tryd.f9, M9, true, by kernel_rfl, by kernel_rfl, tr9⟩
    · cases h; exact ⟨Tryd.f10, M10, true, by kernel_rfl, by kernel_rfl, tr10⟩
    · cases h; exact ⟨Tryd.f11, M11, true, by kernel_rfl, by kernel_rfl, tr11⟩
    · cases h; exact ⟨Tryd.f12, M12, true, by kernel_rfl, by kernel_rfl, tr12⟩
    · cases h; exact ⟨Tryd.f13, M13, true, by kernel_rfl, by kernel_rfl, tr13⟩
    · cases h; exact ⟨Tryd.f14, M14, true, by kernel_rfl, by kernel_rfl, tr14⟩
    · cases h; exact ⟨Tryd.f15, M15, true, by kernel_rfl, by kernel_rfl, tr15⟩
    · cases h; exact ⟨Tryd.f16, M16, true, by kernel_rfl, by kernel_rfl, tr16⟩
    · cases h; exact ⟨Tryd.f17, M17, true, by kernel_rfl, by kernel_rfl, tr17⟩
    · cases h; exact ⟨Tryd.f18, M18, true, by kernel_rfl, by kernel_rfl, tr18⟩
    · cases h; exact ⟨Tryd.f19, M19, true, by kernel_rfl, by kernel_rfl, tr19⟩
    · cases h; exact ⟨Tryd.f20, M20, true, by kernel_rfl, by kernel_rfl, tr20⟩
    · cases h; exact ⟨Tryd.f21, M21, true, by kernel_rfl, by kernel_rfl, tr21⟩
    · cases h; exact ⟨Tryd.f22, M22, true, by kernel_rfl, by kernel_rfl, tr22⟩
    · cases h; exact ⟨Tryd.f24, M24, true, by kernel_rfl, by kernel_rfl, tr24⟩
    · cases h; exact ⟨Tryd.f25, M25, true, by kernel_rfl, by kernel_rfl, tr25⟩
    · cases h; exact ⟨Tryd.f26, M26, true, by kernel_rfl, by kernel_rfl, tr26⟩
    · cases h; exact ⟨Tryd.f27, M27, true, by kernel_rfl, by kernel_rfl, tr27⟩
    · cases h; exact ⟨Tryd.f29, M29, true, by kernel_rfl, by kernel_rfl, tr29⟩
    · cases h; exact ⟨Tryd.f30, M30, true, by kernel_rfl, by kernel_rfl, tr30⟩
    · cases h; exact ⟨Tryd.f31, M31, true, by kernel_rfl, by kernel_rfl, tr31⟩
    · cases h; exact ⟨Tryd.f32, M32, true, by kernel_rfl, by kernel_rfl, tr32⟩
    · cases h; exact ⟨Tryd.f35, M35, true, by kernel_rfl, by kernel_rfl, tr35⟩
    · cases h; exact ⟨Tryd.f37, M37, true, by kernel_rfl, by kernel_rfl, tr37⟩
    · cases h; exact ⟨Tryd.f38, M38, true, by kernel_rfl, by kernel_rfl, tr38⟩
    · cases h; exact ⟨Tryd.f41, M41, true, by kernel_rfl, by kernel_rfl, tr41⟩
    · cases h
  ext := hx

end Go.Proofs.YtckmpipiginhaaaDoor.Codes
