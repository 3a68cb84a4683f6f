/-
  The deep codes of functions, each with the fact that it is that of the function's code. Written by wip/gen/deep.py.
  Conditions: none.
-/
import Derived.Test.YtpemlmhggiaflaaGreatDoorDY
import Derived.Test.YtpemlmhggiaflaaGreatDoorProg
import Derived.KernelRfl
set_option maxRecDepth 100000
namespace Go.Proofs.YtpemlmhggiaflaaGreatDoor.Codes
open Go.Deepv

/-- handloom/handloomlaw33.TraceWaits -/
abbrev H5L12 : List Bool := [true, false, false, false, false, true, true, false, false, true, true, true, false, false, false, false, false, false, false, false, false, false, false, true, true, true, false, false, false, false, false, true, true, true]
abbrev X5L12 : List Bool := [true, false, false, false, false, true, true, false, false, true, true, true, false, false, false, false, false, false, false, false, false, false, false, true, true, true]
abbrev H5L22 : List Bool := [true, false, false, false, false, true, true, false, false, true, true, false, false, false, true, false, false, false, false, false, false, false, false, true, true, true, false, false, false, false, false, false, false, false, false, false, false, false, false, false, false, false, false, false, false, false, false, false, false, false, false, false, false, false, false, false, false, false, false, false, false, false, false, false, false, false, false, true, true]
abbrev X5L22 : List Bool := [true, false, false, false, true, true, true, false, false, false, true, false, false, false, false, false, false, false, false, false, false, false, false, true, true, true]
abbrev H5L6 : List Bool := [true, false, false, false, false, true, true, false, false, false, false, false, false, false, false, false, false, false, false, false, false, false, false, true, true, true]
abbrev X5L6 : List Bool := [true, false, false, false, true, true, true]
def M5 : Marks := { cut := fun _ => true, hd := fun | 6 => H5L6 | 12 => H5L12 | 22 => H5L22 | _ => [], ex := fun | 6 => X5L6 | 12 => X5L12 | 22 => X5L22 | _ => [], imm := fun | 41 => true | 101 => true | _ => false }
def B5L12 : ACode :=
 .seq (.region [⟨some 34, .bin .lss (.tmp 33) (.tmp 32), none⟩])
 (.seq (.cond (.tmp 34) (.skip) (.exit 2))
 (.seq (.block 3 (.seq (.region [⟨some 35, .idxAddr 4 (.tmp 31) (.tmp 33), none⟩,
 ⟨some 36, .load (some 4) (.tmp 35), none⟩,
 ⟨some 13, .alloc [.ok (.int .i64 0), .ok (.int .i64 0), .ok (.int .i64 0), .error 1], none⟩,
 ⟨none, .store 4 (.tmp 13) (.tmp 36), none⟩])
 (.seq (.region [⟨some 37, .mv (.tmp 10), none⟩,
 ⟨some 38, .build [.int .i64 0, .int .i64 0, .int .i64 0, .slice 1 []] [(0, 1, (.con (.int .i64 5))), (2, 1, (.con (.int .i64 3)))], none⟩,
 ⟨some 39, .load (some 4) (.tmp 13), none⟩,
 ⟨some 40, .build [.int .i64 0, .int .i64 0, .int .i64 0, .slice 1 []] [(0, 1, (.con (.int .i64 8)))], none⟩,
 ⟨some 41, .lit true 0 4 3 [.int .i64 0, .int .i64 0, .int .i64 0, .slice 1 []] [(0, (.tmp 38)), (1, (.tmp 39)), (2, (.tmp 40))], none⟩,
 ⟨some 42, .app false 0 4 48 (.tmp 37) (.tmp 41), none⟩,
 ⟨some 10, .mv (.tmp 42), none⟩])
 (.seq (.region [⟨some 43, .addOff 0 (.tmp 13), none⟩,
 ⟨some 44, .load none (.tmp 43), none⟩,
 ⟨some 45, .bin .eql (.tmp 44) (.con (.int .i64 0)), none⟩,
 ⟨some 46, .mv (.tmp 45), none⟩,
 ⟨some 47, .addOff 0 (.tmp 13), (some (46, false))⟩,
 ⟨some 48, .load none (.tmp 47), (some (46, false))⟩,
 ⟨some 49, .bin .eql (.tmp 48) (.con (.int .i64 4)), (some (46, false))⟩,
 ⟨some 50, .pick (.tmp 46) (.con (.bool true)) (.tmp 49), none⟩])
 (.cond (.tmp 50) (.region [⟨some 51, .mv (.tmp 11), none⟩,
 ⟨some 52, .bin .add (.tmp 51) (.con (.int .i64 1)), none⟩,
 ⟨some 11, .mv (.tmp 52), none⟩]) (.skip))))))
 (.region [⟨some 53, .bin .add (.tmp 33) (.con (.int .i64 1)), none⟩,
 ⟨some 33, .mv (.tmp 53), none⟩])))
def B5L22 : ACode :=
 .seq (.region [⟨some 69, .bin .lss (.tmp 68) (.tmp 67), none⟩])
 (.seq (.cond (.tmp 69) (.skip) (.exit 4))
 (.seq (.block 5 (.seq (.region [⟨some 70, .mv (.tmp 68), none⟩,
 ⟨some 15, .mv (.tmp 70), none⟩])
 (.seq (.draw [⟨some 71, .mv (.tmp 9), none⟩,
 ⟨some 72, .mv (.tmp 15), none⟩,
 ⟨some 73, .idxAddr 1 (.tmp 71) (.tmp 72), none⟩,
 ⟨some 74, .load none (.tmp 73), none⟩,
 ⟨some 75, .mv (.tmp 14), none⟩,
 ⟨some 76, .mv (.tmp 15), none⟩,
 ⟨some 77, .idxAddr 1 (.tmp 75) (.tmp 76), none⟩,
 ⟨some 78, .load none (.tmp 77), none⟩,
 ⟨some 79, .bin .neq (.tmp 74) (.tmp 78), none⟩,
 ⟨some 80, .mv (.tmp 79), none⟩,
 ⟨some 81, .mv (.tmp 9), (some (80, false))⟩,
 ⟨some 82, .mv (.tmp 15), (some (80, false))⟩,
 ⟨some 83, .idxAddr 1 (.tmp 81) (.tmp 82), (some (80, false))⟩,
 ⟨some 84, .load none (.tmp 83), (some (80, false))⟩,
 ⟨some 85, .bin .lss (.tmp 84) (.con (.int .i64 0)), (some (80, false))⟩,
 ⟨some 86, .pick (.tmp 80) (.con (.bool true)) (.tmp 85), none⟩,
 ⟨some 87, .mv (.tmp 86), none⟩,
 ⟨some 88, .mv (.tmp 5), (some (87, false))⟩,
 ⟨some 89, .mv (.tmp 88), (some (87, false))⟩,
 ⟨some 90, .mv (.tmp 9), (some (89, true))⟩,
 ⟨some 91, .mv (.tmp 15), (some (89, true))⟩,
 ⟨some 92, .idxAddr 1 (.tmp 90) (.tmp 91), (some (89, true))⟩,
 ⟨some 93, .load none (.tmp 92), (some (89, true))⟩,
 ⟨some 94, .mv (.tmp 0), (some (89, true))⟩,
 ⟨some 95, .bin .geq (.tmp 93) (.tmp 94), (some (89, true))⟩,
 ⟨some 96, .pick (.tmp 89) (.tmp 95) (.con (.bool false)), (some (87, false))⟩,
 ⟨some 97, .pick (.tmp 87) (.con (.bool true)) (.tmp 96), none⟩] [])
 (.cond (.tmp 97) (.seq (.region [⟨some 4, .mv (.con (.bool false)), none⟩])
 (.ret)) (.skip)))))
 (.region [⟨some 98, .bin .add (.tmp 68) (.con (.int .i64 1)), none⟩,
 ⟨some 68, .mv (.tmp 98), none⟩])))
def B5L6 : ACode :=
 .seq (.region [⟨some 26, .bin .lss (.tmp 25) (.tmp 24), none⟩])
 (.seq (.cond (.tmp 26) (.skip) (.exit 0))
 (.seq (.block 1 (.seq (.region [⟨some 27, .idxAddr 1 (.tmp 23) (.tmp 25), none⟩,
 ⟨some 28, .load none (.tmp 27), none⟩,
 ⟨some 8, .mv (.tmp 28), none⟩])
 (.seq (.region [⟨some 29, .mv (.tmp 8), none⟩,
 ⟨some 30, .call (.fn 15) [(.tmp 29)], none⟩,
 ⟨some 9, .mv (.tmp 30), none⟩])
 (.seq (.region [⟨some 10, .nilrow 4, none⟩])
 (.seq (.region [⟨some 11, .mv (.con (.int .i64 0)), none⟩])
 (.seq (.seq (.region [⟨some 31, .mv (.tmp 8), none⟩,
 ⟨some 32, .len false (.tmp 31), none⟩,
 ⟨some 33, .mv (.con (.int .i64 0)), none⟩])
 (.block 2 (.loop true H5L12 X5L12 B5L12)))
 (.seq (.region [⟨some 54, .mv (.tmp 10), none⟩,
 ⟨some 55, .call (.fn 15) [(.tmp 54)], none⟩,
 ⟨some 14, .mv (.tmp 55), none⟩])
 (.seq (.seq (.region [⟨some 56, .mv (.tmp 9), none⟩,
 ⟨some 57, .len false (.tmp 56), none⟩,
 ⟨some 58, .mv (.tmp 11), none⟩,
 ⟨some 59, .bin .neq (.tmp 57) (.tmp 58), none⟩,
 ⟨some 60, .mv (.tmp 59), none⟩,
 ⟨some 61, .mv (.tmp 14), (some (60, false))⟩,
 ⟨some 62, .len false (.tmp 61), (some (60, false))⟩,
 ⟨some 63, .mv (.tmp 11), (some (60, false))⟩,
 ⟨some 64, .bin .neq (.tmp 62) (.tmp 63), (some (60, false))⟩,
 ⟨some 65, .pick (.tmp 60) (.con (.bool true)) (.tmp 64), none⟩])
 (.cond (.tmp 65) (.seq (.region [⟨some 4, .mv (.con (.bool false)), none⟩])
 (.ret)) (.skip)))
 (.seq (.seq (.region [⟨some 66, .mv (.tmp 9), none⟩,
 ⟨some 67, .len false (.tmp 66), none⟩,
 ⟨some 68, .mv (.con (.int .i64 0)), none⟩])
 (.block 4 (.loop true H5L22 X5L22 B5L22)))
 (.region [⟨some 99, .mv (.tmp 6), none⟩,
 ⟨some 100, .mv (.tmp 10), none⟩,
 ⟨some 101, .lit true 0 1 1 [.slice 4 []] [(0, (.tmp 100))], none⟩,
 ⟨some 102, .app false 0 1 24 (.tmp 99) (.tmp 101), none⟩,
 ⟨some 6, .mv (.tmp 102), none⟩]))))))))))
 (.region [⟨some 103, .bin .add (.tmp 25) (.con (.int .i64 1)), none⟩,
 ⟨some 25, .mv (.tmp 103), none⟩])))
def B5 : ACode :=
 .seq (.region [⟨some 4, .mv (.con (.bool false)), none⟩])
 (.seq (.seq (.region [⟨some 16, .mv (.tmp 1), none⟩,
 ⟨some 17, .call (.fn 13) [(.tmp 16)], none⟩,
 ⟨some 18, .un .not (.tmp 17), none⟩])
 (.cond (.tmp 18) (.seq (.region [⟨some 19, .call (.fn 6) [], none⟩,
 ⟨some 4, .mv (.tmp 19), none⟩])
 (.ret)) (.skip)))
 (.seq (.region [⟨some 20, .mv (.tmp 0), none⟩,
 ⟨some 21, .mv (.tmp 1), none⟩,
 ⟨some 22, .call (.fn 14) [(.tmp 20), (.tmp 21)], none⟩,
 ⟨some 5, .mv (.tmp 22), none⟩])
 (.seq (.region [⟨some 6, .nilrow 1, none⟩])
 (.seq (.seq (.region [⟨some 23, .mv (.tmp 1), none⟩,
 ⟨some 24, .len false (.tmp 23), none⟩,
 ⟨some 25, .mv (.con (.int .i64 0)), none⟩])
 (.block 0 (.loop true H5L6 X5L6 B5L6)))
 (.seq (.region [⟨some 104, .mv (.tmp 0), none⟩,
 ⟨some 105, .mv (.tmp 6), none⟩,
 ⟨some 106, .call (.fn 14) [(.tmp 104), (.tmp 105)], none⟩,
 ⟨some 107, .mv (.tmp 5), none⟩,
 ⟨some 108, .eqb false (.tmp 106) (.tmp 107), none⟩,
 ⟨some 109, .mv (.tmp 108), none⟩,
 ⟨some 110, .call (.fn 6) [], (some (109, true))⟩,
 ⟨some 111, .pick (.tmp 109) (.tmp 110) (.con (.bool false)), none⟩,
 ⟨some 4, .mv (.tmp 111), none⟩])
 (.ret))))))
def A5 : AFunc := { ntmps := 112, results := [.tmp 4], body := B5, coe := true, keep := 0 }
theorem tr5 : trFunc Tryz.prog M5 true Tryz.f5 = some A5 := by kernel_rfl

/-- handloom/handloomlaw33.awake -/
def M6 : Marks := { cut := fun _ => true, hd := fun | _ => [], ex := fun | _ => [], imm := fun | _ => false }
def B6 : ACode :=
 .seq (.region [⟨some 0, .mv (.con (.bool false)), none⟩])
 (.seq (.region [⟨some 4, .call (.fn 7) [(.con (.str ⟨#[102, 105, 114, 101, 100, 32, 51, 32, 45, 49]⟩))], none⟩,
 ⟨some 3, .mv (.tmp 4), none⟩,
 ⟨some 5, .ext 0 (.tmp 3), none⟩,
 ⟨some 6, .ext 1 (.tmp 3), none⟩,
 ⟨some 1, .alloc [.ok (.int .i64 0), .ok (.int .i64 0), .ok (.int .i64 0), .error 1], none⟩,
 ⟨none, .store 4 (.tmp 1) (.tmp 5), none⟩,
 ⟨some 2, .mv (.tmp 6), none⟩])
 (.seq (.region [⟨some 7, .lit false 5 1 2 [.int .u8 0] [(0, (.con (.int .u8 97))), (1, (.con (.int .u8 10)))], none⟩,
 ⟨some 8, .mark (.tmp 7), none⟩,
 ⟨some 9, .build [.int .i64 0, .int .i64 0, .int .i64 0, .slice 1 []] [(0, 1, (.con (.int .i64 6))), (3, 1, (.tmp 8))], none⟩,
 ⟨some 10, .call (.fn 9) [(.tmp 9)], none⟩,
 ⟨some 11, .bin .eql (.tmp 10) (.con (.str ⟨#[116, 111, 108, 100, 32, 34, 97, 92, 120, 48, 97, 34]⟩)), none⟩,
 ⟨some 12, .mv (.tmp 11), none⟩,
 ⟨some 13, .mv (.tmp 2), (some (12, true))⟩,
 ⟨some 14, .bin .eql (.tmp 13) (.con (.int .i64 0)), (some (12, true))⟩,
 ⟨some 15, .pick (.tmp 12) (.tmp 14) (.con (.bool false)), none⟩,
 ⟨some 16, .mv (.tmp 15), none⟩,
 ⟨some 17, .addOff 0 (.tmp 1), (some (16, true))⟩,
 ⟨some 18, .load none (.tmp 17), (some (16, true))⟩,
 ⟨some 19, .bin .eql (.tmp 18) (.con (.int .i64 4)), (some (16, true))⟩,
 ⟨some 20, .pick (.tmp 16) (.tmp 19) (.con (.bool false)), none⟩,
 ⟨some 21, .mv (.tmp 20), none⟩,
 ⟨some 22, .addOff 1 (.tmp 1), (some (21, true))⟩,
 ⟨some 23, .load none (.tmp 22), (some (21, true))⟩,
 ⟨some 24, .bin .eql (.tmp 23) (.con (.int .i64 3)), (some (21, true))⟩,
 ⟨some 25, .pick (.tmp 21) (.tmp 24) (.con (.bool false)), none⟩,
 ⟨some 26, .mv (.tmp 25), none⟩,
 ⟨some 27, .addOff 2 (.tmp 1), (some (26, true))⟩,
 ⟨some 28, .load none (.tmp 27), (some (26, true))⟩,
 ⟨some 29, .bin .eql (.tmp 28) (.con (.int .i64 (-1))), (some (26, true))⟩,
 ⟨some 30, .pick (.tmp 26) (.tmp 29) (.con (.bool false)), none⟩,
 ⟨some 0, .mv (.tmp 30), none⟩])
 (.ret)))
def A6 : AFunc := { ntmps := 31, results := [.tmp 0], body := B6, coe := true, keep := 0 }
theorem tr6 : trFunc Tryz.prog M6 true Tryz.f6 = some A6 := by kernel_rfl

/-- handloom/trace.Read -/
abbrev H7L2 : List Bool := [true, false, true, false, false, false, false, false, false, true, true, true]
abbrev X7L2 : List Bool := [false, false, true, true]
def M7 : Marks := { cut := fun _ => true, hd := fun | 2 => H7L2 | _ => [], ex := fun | 2 => X7L2 | _ => [], imm := fun | _ => false }
def B7L2 : ACode :=
 .seq (.region [⟨some 12, .bin .lss (.tmp 11) (.tmp 10), none⟩])
 (.seq (.cond (.tmp 12) (.skip) (.exit 0))
 (.seq (.block 1 (.seq (.region [⟨some 13, .mv (.tmp 11), none⟩,
 ⟨some 14, .idxAddr 4 (.tmp 9) (.tmp 11), none⟩,
 ⟨some 15, .load (some 4) (.tmp 14), none⟩,
 ⟨some 5, .alloc [.ok (.str ⟨#[]⟩), .ok (.bool false), .ok (.bool false), .ok (.bool false)], none⟩,
 ⟨some 4, .mv (.tmp 13), none⟩,
 ⟨none, .store 4 (.tmp 5) (.tmp 15), none⟩])
 (.seq (.region [⟨some 16, .mv (.tmp 4), none⟩,
 ⟨some 17, .build [.int .i64 0, .int .i64 0, .int .i64 0, .slice 1 []] [(0, 1, (.tmp 16))], none⟩,
 ⟨some 6, .alloc [.ok (.int .i64 0), .ok (.int .i64 0), .ok (.int .i64 0), .error 1], none⟩,
 ⟨none, .store 4 (.tmp 6) (.tmp 17), none⟩])
 (.seq (.region [⟨some 19, .mv (.tmp 0), none⟩,
 ⟨some 20, .addOff 0 (.tmp 5), none⟩,
 ⟨some 21, .load none (.tmp 20), none⟩,
 ⟨some 22, .call (.fn 17) [(.tmp 19), (.tmp 21)], none⟩,
 ⟨some 18, .mv (.tmp 22), none⟩,
 ⟨some 23, .ext 0 (.tmp 18), none⟩,
 ⟨some 24, .ext 1 (.tmp 18), none⟩,
 ⟨some 7, .mv (.tmp 23), none⟩,
 ⟨some 8, .mv (.tmp 24), none⟩])
 (.seq (.block 2 (.seq (.block 5 (.block 4 (.seq (.block 3 (.seq (.seq (.seq (.region [⟨some 26, .mv (.tmp 8), none⟩,
 ⟨some 27, .un .not (.tmp 26), none⟩,
 ⟨some 25, .mv (.tmp 27), none⟩])
 (.cond (.tmp 25) (.exit 3) (.skip)))
 (.seq (.seq (.seq (.region [⟨some 29, .addOff 1 (.tmp 5), none⟩,
 ⟨some 30, .load none (.tmp 29), none⟩,
 ⟨some 28, .mv (.tmp 30), none⟩])
 (.cond (.tmp 28) (.skip) (.region [⟨some 31, .addOff 2 (.tmp 5), none⟩,
 ⟨some 32, .load none (.tmp 31), none⟩,
 ⟨some 28, .mv (.tmp 32), none⟩])))
 (.cond (.tmp 28) (.exit 4) (.skip)))
 (.seq (.region [⟨some 34, .addOff 3 (.tmp 5), none⟩,
 ⟨some 35, .load none (.tmp 34), none⟩,
 ⟨some 33, .mv (.tmp 35), none⟩])
 (.cond (.tmp 33) (.exit 5) (.skip)))))
 (.exit 2)))
 (.seq (.exit 1)
 (.exit 2)))))
 (.seq (.seq (.region [⟨some 37, .mv (.tmp 7), none⟩,
 ⟨some 38, .call (.fn 17) [(.tmp 37), (.con (.str ⟨#[32]⟩))], none⟩,
 ⟨some 36, .mv (.tmp 38), none⟩,
 ⟨some 39, .ext 0 (.tmp 36), none⟩,
 ⟨some 40, .ext 1 (.tmp 36), none⟩,
 ⟨some 7, .mv (.tmp 39), none⟩,
 ⟨some 8, .mv (.tmp 40), none⟩])
 (.seq (.region [⟨some 41, .mv (.tmp 8), none⟩])
 (.cond (.tmp 41) (.region [⟨some 43, .mv (.tmp 4), none⟩,
 ⟨some 44, .load (some 4) (.tmp 5), none⟩,
 ⟨some 45, .mv (.tmp 7), none⟩,
 ⟨some 46, .call (.fn 18) [(.tmp 43), (.tmp 44), (.tmp 45)], none⟩,
 ⟨some 42, .mv (.tmp 46), none⟩,
 ⟨some 47, .ext 0 (.tmp 42), none⟩,
 ⟨some 48, .ext 1 (.tmp 42), none⟩,
 ⟨none, .store 4 (.tmp 6) (.tmp 47), none⟩,
 ⟨some 8, .mv (.tmp 48), none⟩]) (.skip))))
 (.exit 2))))
 (.seq (.region [⟨some 49, .mv (.tmp 8), none⟩,
 ⟨some 50, .mv (.tmp 49), none⟩,
 ⟨some 51, .load (some 4) (.tmp 6), (some (50, true))⟩,
 ⟨some 52, .call (.fn 9) [(.tmp 51)], (some (50, true))⟩,
 ⟨some 53, .mv (.tmp 0), (some (50, true))⟩,
 ⟨some 54, .bin .eql (.tmp 52) (.tmp 53), (some (50, true))⟩,
 ⟨some 55, .pick (.tmp 50) (.tmp 54) (.con (.bool false)), none⟩])
 (.cond (.tmp 55) (.seq (.region [⟨some 56, .load (some 4) (.tmp 6), none⟩,
 ⟨none, .store 4 (.tmp 2) (.tmp 56), none⟩,
 ⟨some 3, .mv (.con (.int .i64 0)), none⟩])
 (.ret)) (.skip))))))))
 (.region [⟨some 57, .bin .add (.tmp 11) (.con (.int .i64 1)), none⟩,
 ⟨some 11, .mv (.tmp 57), none⟩])))
def B7 : ACode :=
 .seq (.region [⟨some 2, .alloc [.ok (.int .i64 0), .ok (.int .i64 0), .ok (.int .i64 0), .error 1], none⟩,
 ⟨some 3, .mv (.con (.int .i64 0)), none⟩])
 (.seq (.seq (.region [⟨some 9, .call (.fn 16) [], none⟩,
 ⟨some 10, .len false (.tmp 9), none⟩,
 ⟨some 11, .mv (.con (.int .i64 0)), none⟩])
 (.block 0 (.loop true H7L2 X7L2 B7L2)))
 (.seq (.region [⟨some 58, .build [.int .i64 0, .int .i64 0, .int .i64 0, .slice 1 []] [], none⟩,
 ⟨none, .store 4 (.tmp 2) (.tmp 58), none⟩,
 ⟨some 3, .mv (.con (.int .i64 19)), none⟩])
 (.ret)))
def A7 : AFunc := { ntmps := 59, results := [.cell (some 4) 2, .tmp 3], body := B7, coe := true, keep := 0 }
theorem tr7 : trFunc Tryz.prog M7 true Tryz.f7 = some A7 := by kernel_rfl

/-- handloom/trace.Show -/
def M9 : Marks := { cut := fun _ => true, hd := fun | _ => [], ex := fun | _ => [], imm := fun | 1 => true | 22 => true | 30 => true | 39 => true | _ => false }
def B9 : ACode :=
 .seq (.region [⟨some 1, .box true (.tmp 0), none⟩,
 ⟨some 2, .mv (.con (.str ⟨#[]⟩)), none⟩])
 (.seq (.region [⟨some 7, .load (some 4) (.tmp 1), none⟩,
 ⟨some 8, .call (.fn 20) [(.tmp 7)], none⟩,
 ⟨some 6, .mv (.tmp 8), none⟩,
 ⟨some 9, .ext 0 (.tmp 6), none⟩,
 ⟨some 10, .ext 1 (.tmp 6), none⟩,
 ⟨some 3, .alloc [.ok (.str ⟨#[]⟩), .ok (.bool false), .ok (.bool false), .ok (.bool false)], none⟩,
 ⟨none, .store 4 (.tmp 3) (.tmp 9), none⟩,
 ⟨some 4, .mv (.tmp 10), none⟩])
 (.seq (.seq (.region [⟨some 11, .mv (.tmp 4), none⟩,
 ⟨some 12, .un .not (.tmp 11), none⟩])
 (.cond (.tmp 12) (.seq (.region [⟨some 2, .mv (.con (.str ⟨#[]⟩)), none⟩])
 (.ret)) (.skip)))
 (.seq (.region [⟨some 13, .addOff 0 (.tmp 3), none⟩,
 ⟨some 14, .load none (.tmp 13), none⟩,
 ⟨some 15, .lit false 0 1 1 [.str ⟨#[]⟩] [(0, (.tmp 14))], none⟩,
 ⟨some 5, .mv (.tmp 15), none⟩])
 (.seq (.seq (.region [⟨some 16, .addOff 1 (.tmp 3), none⟩,
 ⟨some 17, .load none (.tmp 16), none⟩])
 (.cond (.tmp 17) (.region [⟨some 18, .mv (.tmp 5), none⟩,
 ⟨some 19, .addOff 1 (.tmp 1), none⟩,
 ⟨some 20, .load none (.tmp 19), none⟩,
 ⟨some 21, .call (.fn 21) [(.tmp 20)], none⟩,
 ⟨some 22, .lit true 0 1 1 [.str ⟨#[]⟩] [(0, (.tmp 21))], none⟩,
 ⟨some 23, .app false 0 1 16 (.tmp 18) (.tmp 22), none⟩,
 ⟨some 5, .mv (.tmp 23), none⟩]) (.skip)))
 (.seq (.seq (.region [⟨some 24, .addOff 2 (.tmp 3), none⟩,
 ⟨some 25, .load none (.tmp 24), none⟩])
 (.cond (.tmp 25) (.region [⟨some 26, .mv (.tmp 5), none⟩,
 ⟨some 27, .addOff 2 (.tmp 1), none⟩,
 ⟨some 28, .load none (.tmp 27), none⟩,
 ⟨some 29, .call (.fn 22) [(.tmp 28), (.con (.int .i64 10))], none⟩,
 ⟨some 30, .lit true 0 1 1 [.str ⟨#[]⟩] [(0, (.tmp 29))], none⟩,
 ⟨some 31, .app false 0 1 16 (.tmp 26) (.tmp 30), none⟩,
 ⟨some 5, .mv (.tmp 31), none⟩]) (.skip)))
 (.seq (.seq (.region [⟨some 32, .addOff 3 (.tmp 3), none⟩,
 ⟨some 33, .load none (.tmp 32), none⟩])
 (.cond (.tmp 33) (.region [⟨some 34, .mv (.tmp 5), none⟩,
 ⟨some 35, .addOff 3 (.tmp 1), none⟩,
 ⟨some 36, .load none (.tmp 35), none⟩,
 ⟨some 37, .build [.int .i64 0, .str ⟨#[]⟩, .int .i64 0, .slice 1 [], .int .i64 0, .int .i64 0] [(0, 1, (.con (.int .i64 4))), (3, 1, (.tmp 36))], none⟩,
 ⟨some 38, .call (.fn 23) [(.tmp 37)], none⟩,
 ⟨some 39, .lit true 0 1 1 [.str ⟨#[]⟩] [(0, (.tmp 38))], none⟩,
 ⟨some 40, .app false 0 1 16 (.tmp 34) (.tmp 39), none⟩,
 ⟨some 5, .mv (.tmp 40), none⟩]) (.skip)))
 (.seq (.region [⟨some 41, .mv (.tmp 5), none⟩,
 ⟨some 42, .call (.fn 24) [(.tmp 41), (.con (.str ⟨#[32]⟩))], none⟩,
 ⟨some 2, .mv (.tmp 42), none⟩])
 (.ret))))))))
def A9 : AFunc := { ntmps := 43, results := [.tmp 2], body := B9, coe := true, keep := 0 }
theorem tr9 : trFunc Tryz.prog M9 true Tryz.f9 = some A9 := by kernel_rfl

/-- handloom/handloomlaw33.few -/
abbrev H13L3 : List Bool := [false, false, false, true, false, false, true, true, true]
abbrev X13L3 : List Bool := [false, false, true]
def M13 : Marks := { cut := fun _ => true, hd := fun | 3 => H13L3 | _ => [], ex := fun | 3 => X13L3 | _ => [], imm := fun | _ => false }
def B13L3 : ACode :=
 .seq (.region [⟨some 9, .bin .lss (.tmp 8) (.tmp 7), none⟩])
 (.seq (.cond (.tmp 9) (.skip) (.exit 0))
 (.seq (.block 1 (.seq (.region [⟨some 10, .idxAddr 1 (.tmp 6) (.tmp 8), none⟩,
 ⟨some 11, .load none (.tmp 10), none⟩,
 ⟨some 5, .mv (.tmp 11), none⟩])
 (.seq (.region [⟨some 12, .mv (.tmp 3), none⟩,
 ⟨some 13, .mv (.tmp 5), none⟩,
 ⟨some 14, .len false (.tmp 13), none⟩,
 ⟨some 15, .bin .add (.con (.int .i64 1)) (.tmp 14), none⟩,
 ⟨some 16, .bin .add (.tmp 12) (.tmp 15), none⟩,
 ⟨some 3, .mv (.tmp 16), none⟩])
 (.seq (.region [⟨some 17, .mv (.tmp 3), none⟩,
 ⟨some 18, .bin .gtr (.tmp 17) (.con (.int .i64 2000)), none⟩])
 (.cond (.tmp 18) (.seq (.region [⟨some 2, .mv (.con (.bool false)), none⟩])
 (.ret)) (.skip))))))
 (.region [⟨some 19, .bin .add (.tmp 8) (.con (.int .i64 1)), none⟩,
 ⟨some 8, .mv (.tmp 19), none⟩])))
def B13 : ACode :=
 .seq (.region [⟨some 2, .mv (.con (.bool false)), none⟩])
 (.seq (.region [⟨some 3, .mv (.con (.int .i64 0)), none⟩])
 (.seq (.seq (.region [⟨some 6, .mv (.tmp 0), none⟩,
 ⟨some 7, .len false (.tmp 6), none⟩,
 ⟨some 8, .mv (.con (.int .i64 0)), none⟩])
 (.block 0 (.loop true H13L3 X13L3 B13L3)))
 (.seq (.region [⟨some 2, .mv (.con (.bool true)), none⟩])
 (.ret))))
def A13 : AFunc := { ntmps := 20, results := [.tmp 2], body := B13, coe := true, keep := 0 }
theorem tr13 : trFunc Tryz.prog M13 true Tryz.f13 = some A13 := by kernel_rfl

/-- handloom/trace.Right -/
def M14 : Marks := { cut := fun _ => true, hd := fun | _ => [], ex := fun | _ => [], imm := fun | _ => false }
def B14 : ACode :=
 .seq (.region [⟨some 2, .box false (.tmp 0), none⟩,
 ⟨some 4, .mv (.con (.bool false)), none⟩])
 (.seq (.region [⟨some 5, .alloc [.ok (.int .i64 0)], none⟩,
 ⟨some 6, .alloc [.ok (.int .i64 0)], none⟩,
 ⟨none, .store 1 (.tmp 5) (.con (.int .i64 0)), none⟩,
 ⟨none, .store 1 (.tmp 6) (.con (.int .i64 0)), none⟩])
 (.seq (.region [⟨some 7, .mv (.tmp 1), none⟩,
 ⟨some 8, .mkf (.func 30) [] [(.tmp 5), (.tmp 6), (.tmp 2)], none⟩,
 ⟨some 9, .call (.fn 29) [(.tmp 7), (.tmp 8)], none⟩,
 ⟨some 10, .un .not (.tmp 9), none⟩,
 ⟨some 4, .mv (.tmp 10), none⟩])
 (.ret)))
def A14 : AFunc := { ntmps := 11, results := [.tmp 4], body := B14, coe := true, keep := 0 }
theorem tr14 : trFunc Tryz.prog M14 true Tryz.f14 = some A14 := by kernel_rfl

/-- handloom/trace.Waits -/
abbrev H15L4 : List Bool := [false, false, false, true, true, false, false, true, true, true]
abbrev X15L4 : List Bool := [false, false, false, true]
def M15 : Marks := { cut := fun _ => true, hd := fun | 4 => H15L4 | _ => [], ex := fun | 4 => X15L4 | _ => [], imm := fun | 2 => true | 21 => true | _ => false }
def B15L4 : ACode :=
 .seq (.region [⟨some 10, .bin .lss (.tmp 9) (.tmp 8), none⟩])
 (.seq (.cond (.tmp 10) (.skip) (.exit 0))
 (.seq (.block 1 (.seq (.region [⟨some 11, .idxAddr 4 (.tmp 7) (.tmp 9), none⟩,
 ⟨some 12, .load (some 4) (.tmp 11), none⟩,
 ⟨some 6, .alloc [.ok (.int .i64 0), .ok (.int .i64 0), .ok (.int .i64 0), .error 1], none⟩,
 ⟨none, .store 4 (.tmp 6) (.tmp 12), none⟩])
 (.seq (.region [⟨some 13, .addOff 0 (.tmp 6), none⟩,
 ⟨some 14, .load none (.tmp 13), none⟩])
 (.block 2 (.seq (.seq (.region [⟨some 16, .bin .eql (.tmp 14) (.con (.int .i64 0)), none⟩,
 ⟨some 15, .mv (.tmp 16), none⟩])
 (.cond (.tmp 15) (.skip) (.region [⟨some 17, .bin .eql (.tmp 14) (.con (.int .i64 4)), none⟩,
 ⟨some 15, .mv (.tmp 17), none⟩])))
 (.cond (.tmp 15) (.seq (.region [⟨some 18, .mv (.tmp 3), none⟩,
 ⟨some 19, .mv (.tmp 4), none⟩,
 ⟨some 20, .mnmx true [(.tmp 19), (.con (.int .i64 0))], none⟩,
 ⟨some 21, .lit true 0 1 1 [.int .i64 0] [(0, (.tmp 20))], none⟩,
 ⟨some 22, .app false 0 1 8 (.tmp 18) (.tmp 21), none⟩,
 ⟨some 3, .mv (.tmp 22), none⟩])
 (.region [⟨some 23, .mv (.tmp 4), none⟩,
 ⟨some 24, .bin .add (.tmp 23) (.con (.int .i64 1)), none⟩,
 ⟨some 4, .mv (.tmp 24), none⟩])) (.seq (.region [⟨some 26, .bin .eql (.tmp 14) (.con (.int .i64 9)), none⟩,
 ⟨some 25, .mv (.tmp 26), none⟩])
 (.cond (.tmp 25) (.region [⟨some 27, .mv (.tmp 4), none⟩,
 ⟨some 28, .bin .sub (.tmp 27) (.con (.int .i64 1)), none⟩,
 ⟨some 4, .mv (.tmp 28), none⟩]) (.skip)))))))))
 (.region [⟨some 29, .bin .add (.tmp 9) (.con (.int .i64 1)), none⟩,
 ⟨some 9, .mv (.tmp 29), none⟩])))
def B15 : ACode :=
 .seq (.region [⟨some 2, .mv (.con (.slice 1 [])), none⟩])
 (.seq (.region [⟨some 3, .nilrow 1, none⟩])
 (.seq (.region [⟨some 4, .mv (.con (.int .i64 0)), none⟩])
 (.seq (.seq (.region [⟨some 7, .mv (.tmp 0), none⟩,
 ⟨some 8, .len false (.tmp 7), none⟩,
 ⟨some 9, .mv (.con (.int .i64 0)), none⟩])
 (.block 0 (.loop true H15L4 X15L4 B15L4)))
 (.seq (.region [⟨some 30, .mv (.tmp 3), none⟩,
 ⟨some 2, .mv (.tmp 30), none⟩])
 (.ret)))))
def A15 : AFunc := { ntmps := 31, results := [.tmp 2], body := B15, coe := true, keep := 0 }
theorem tr15 : trFunc Tryz.prog M15 true Tryz.f15 = some A15 := by kernel_rfl

/-- handloom/trace.shapes -/
def M16 : Marks := { cut := fun _ => true, hd := fun | _ => [], ex := fun | _ => [], imm := fun | 0 => true | _ => false }
def B16 : ACode :=
 .seq (.region [⟨some 0, .mv (.con (.slice 4 [])), none⟩])
 (.seq (.region [⟨some 1, .build [.str ⟨#[]⟩, .bool false, .bool false, .bool false] [(0, 1, (.con (.str ⟨#[116, 97, 107, 101, 110]⟩))), (1, 1, (.con (.bool true)))], none⟩,
 ⟨some 2, .build [.str ⟨#[]⟩, .bool false, .bool false, .bool false] [(0, 1, (.con (.str ⟨#[117, 110, 107, 110, 111, 119, 110]⟩)))], none⟩,
 ⟨some 3, .build [.str ⟨#[]⟩, .bool false, .bool false, .bool false] [(0, 1, (.con (.str ⟨#[109, 97, 108, 102, 111, 114, 109, 101, 100]⟩)))], none⟩,
 ⟨some 4, .build [.str ⟨#[]⟩, .bool false, .bool false, .bool false] [(0, 1, (.con (.str ⟨#[102, 117, 108, 108]⟩)))], none⟩,
 ⟨some 5, .build [.str ⟨#[]⟩, .bool false, .bool false, .bool false] [(0, 1, (.con (.str ⟨#[102, 105, 114, 101, 100]⟩))), (1, 1, (.con (.bool true))), (2, 1, (.con (.bool true)))], none⟩,
 ⟨some 6, .build [.str ⟨#[]⟩, .bool false, .bool false, .bool false] [(0, 1, (.con (.str ⟨#[115, 97, 105, 100]⟩))), (2, 1, (.con (.bool true)))], none⟩,
 ⟨some 7, .build [.str ⟨#[]⟩, .bool false, .bool false, .bool false] [(0, 1, (.con (.str ⟨#[116, 111, 108, 100]⟩))), (3, 1, (.con (.bool true)))], none⟩,
 ⟨some 8, .build [.str ⟨#[]⟩, .bool false, .bool false, .bool false] [(0, 1, (.con (.str ⟨#[110, 111, 32, 116, 105, 109, 101, 114]⟩))), (2, 1, (.con (.bool true)))], none⟩,
 ⟨some 9, .build [.str ⟨#[]⟩, .bool false, .bool false, .bool false] [(0, 1, (.con (.str ⟨#[107, 101, 112, 116]⟩)))], none⟩,
 ⟨some 10, .build [.str ⟨#[]⟩, .bool false, .bool false, .bool false] [(0, 1, (.con (.str ⟨#[100, 111, 110, 101]⟩))), (1, 1, (.con (.bool true)))], none⟩,
 ⟨some 11, .lit false 0 4 10 [.str ⟨#[]⟩, .bool false, .bool false, .bool false] [(0, (.tmp 1)), (1, (.tmp 2)), (2, (.tmp 3)), (3, (.tmp 4)), (4, (.tmp 5)), (5, (.tmp 6)), (6, (.tmp 7)), (7, (.tmp 8)), (8, (.tmp 9)), (9, (.tmp 10))], none⟩,
 ⟨some 0, .mv (.tmp 11), none⟩])
 (.ret))
def A16 : AFunc := { ntmps := 12, results := [.tmp 0], body := B16, coe := true, keep := 0 }
theorem tr16 : trFunc Tryz.prog M16 true Tryz.f16 = some A16 := by kernel_rfl

/-- strings.CutPrefix -/
def M17 : Marks := { cut := fun _ => true, hd := fun | _ => [], ex := fun | _ => [], imm := fun | _ => false }
def B17 : ACode :=
 .seq (.region [⟨some 4, .mv (.con (.str ⟨#[]⟩)), none⟩,
 ⟨some 5, .mv (.con (.bool false)), none⟩])
 (.seq (.region [⟨some 6, .mv (.tmp 0), none⟩,
 ⟨some 7, .mv (.tmp 1), none⟩,
 ⟨some 8, .call (.fn 31) [(.tmp 6), (.tmp 7)], none⟩,
 ⟨some 9, .ext 0 (.tmp 8), none⟩,
 ⟨some 10, .ext 1 (.tmp 8), none⟩,
 ⟨some 4, .mv (.tmp 9), none⟩,
 ⟨some 5, .mv (.tmp 10), none⟩])
 (.ret))
def A17 : AFunc := { ntmps := 11, results := [.tmp 4, .tmp 5], body := B17, coe := true, keep := 0 }
theorem tr17 : trFunc Tryz.prog M17 true Tryz.f17 = some A17 := by kernel_rfl

/-- handloom/trace.filled -/
def M18 : Marks := { cut := fun _ => true, hd := fun | _ => [], ex := fun | _ => [], imm := fun | 4 => true | _ => false, alts := fun | 17 => [[0, 1, 2, 7, 3, 4, 5, 6, 8]] | _ => [] }
def B18 : ACode :=
 .seq (.region [⟨some 4, .box true (.tmp 1), none⟩,
 ⟨some 6, .alloc [.ok (.int .i64 0), .ok (.int .i64 0), .ok (.int .i64 0), .error 1], none⟩,
 ⟨some 7, .mv (.con (.bool false)), none⟩])
 (.seq (.region [⟨some 18, .mv (.tmp 0), none⟩,
 ⟨some 19, .build [.int .i64 0, .int .i64 0, .int .i64 0, .slice 1 []] [(0, 1, (.tmp 18))], none⟩,
 ⟨some 8, .alloc [.ok (.int .i64 0), .ok (.int .i64 0), .ok (.int .i64 0), .error 1], none⟩,
 ⟨none, .store 4 (.tmp 8) (.tmp 19), none⟩])
 (.seq (.seq (.region [⟨some 20, .addOff 3 (.tmp 4), none⟩,
 ⟨some 21, .load none (.tmp 20), none⟩])
 (.cond (.tmp 21) (.seq (.region [⟨some 23, .mv (.tmp 2), none⟩,
 ⟨some 24, .call (.fn 32) [(.tmp 23)], none⟩,
 ⟨some 22, .mv (.tmp 24), none⟩,
 ⟨some 25, .ext 0 (.tmp 22), none⟩,
 ⟨some 26, .ext 1 (.tmp 22), none⟩,
 ⟨some 10, .alloc [.ok (.int .i64 0), .ok (.int .i64 0), .ok (.int .i64 0)], none⟩,
 ⟨some 9, .mv (.tmp 25), none⟩,
 ⟨none, .store 3 (.tmp 10) (.tmp 26), none⟩])
 (.seq (.seq (.region [⟨some 27, .addOff 0 (.tmp 10), none⟩,
 ⟨some 28, .load none (.tmp 27), none⟩,
 ⟨some 29, .bin .neq (.tmp 28) (.con (.int .i64 0)), none⟩,
 ⟨some 30, .mv (.tmp 29), none⟩,
 ⟨some 31, .mv (.tmp 9), (some (30, false))⟩,
 ⟨some 32, .len false (.tmp 31), (some (30, false))⟩,
 ⟨some 33, .bin .neq (.tmp 32) (.con (.int .i64 2)), (some (30, false))⟩,
 ⟨some 34, .pick (.tmp 30) (.con (.bool true)) (.tmp 33), none⟩,
 ⟨some 35, .mv (.tmp 34), none⟩,
 ⟨some 36, .mv (.tmp 9), (some (35, false))⟩,
 ⟨some 37, .idxAddr 6 (.tmp 36) (.con (.int .i64 0)), (some (35, false))⟩,
 ⟨some 38, .addOff 0 (.tmp 37), (some (35, false))⟩,
 ⟨some 39, .load none (.tmp 38), (some (35, false))⟩,
 ⟨some 40, .bin .neq (.tmp 39) (.con (.int .i64 4)), (some (35, false))⟩,
 ⟨some 41, .pick (.tmp 35) (.con (.bool true)) (.tmp 40), none⟩])
 (.cond (.tmp 41) (.seq (.region [⟨some 42, .load (some 4) (.tmp 8), none⟩,
 ⟨none, .store 4 (.tmp 6) (.tmp 42), none⟩,
 ⟨some 7, .mv (.con (.bool false)), none⟩])
 (.ret)) (.skip)))
 (.seq (.region [⟨some 43, .mv (.tmp 9), none⟩,
 ⟨some 44, .idxAddr 6 (.tmp 43) (.con (.int .i64 0)), none⟩,
 ⟨some 45, .addOff 3 (.tmp 44), none⟩,
 ⟨some 46, .load none (.tmp 45), none⟩,
 ⟨some 47, .addOff 3 (.tmp 8), none⟩,
 ⟨none, .store 1 (.tmp 47) (.tmp 46), none⟩])
 (.seq (.region [⟨some 48, .load (some 4) (.tmp 8), none⟩,
 ⟨none, .store 4 (.tmp 6) (.tmp 48), none⟩,
 ⟨some 7, .mv (.con (.bool true)), none⟩])
 (.ret))))) (.skip)))
 (.seq (.region [⟨some 49, .mv (.tmp 2), none⟩,
 ⟨some 50, .call (.fn 33) [(.tmp 49), (.con (.str ⟨#[32]⟩))], none⟩,
 ⟨some 11, .alloc [.error 1], none⟩,
 ⟨none, .store 1 (.tmp 11) (.tmp 50), none⟩])
 (.seq (.region [⟨some 51, .mkf (.func 34) [] [(.tmp 11)], none⟩,
 ⟨some 12, .mv (.tmp 51), none⟩])
 (.seq (.region [⟨some 13, .mv (.con (.bool true)), none⟩])
 (.seq (.seq (.region [⟨some 52, .addOff 1 (.tmp 4), none⟩,
 ⟨some 53, .load none (.tmp 52), none⟩])
 (.cond (.tmp 53) (.seq (.region [⟨some 55, .mv (.tmp 12), none⟩,
 ⟨some 56, .call (.tmp 55) [], none⟩,
 ⟨some 54, .mv (.tmp 56), none⟩,
 ⟨some 57, .ext 0 (.tmp 54), none⟩,
 ⟨some 58, .ext 1 (.tmp 54), none⟩,
 ⟨some 14, .mv (.tmp 57), none⟩,
 ⟨some 15, .mv (.tmp 58), none⟩])
 (.region [⟨some 59, .mv (.tmp 14), none⟩,
 ⟨some 60, .mv (.tmp 15), none⟩,
 ⟨some 61, .addOff 1 (.tmp 8), none⟩,
 ⟨none, .store 1 (.tmp 61) (.tmp 59), none⟩,
 ⟨some 13, .mv (.tmp 60), none⟩])) (.skip)))
 (.seq (.seq (.region [⟨some 62, .addOff 2 (.tmp 4), none⟩,
 ⟨some 63, .load none (.tmp 62), none⟩])
 (.cond (.tmp 63) (.seq (.region [⟨some 65, .mv (.tmp 12), none⟩,
 ⟨some 66, .call (.tmp 65) [], none⟩,
 ⟨some 64, .mv (.tmp 66), none⟩,
 ⟨some 67, .ext 0 (.tmp 64), none⟩,
 ⟨some 68, .ext 1 (.tmp 64), none⟩,
 ⟨some 16, .mv (.tmp 67), none⟩,
 ⟨some 17, .mv (.tmp 68), none⟩])
 (.region [⟨some 69, .mv (.tmp 16), none⟩,
 ⟨some 70, .mv (.tmp 13), none⟩,
 ⟨some 71, .mv (.tmp 70), none⟩,
 ⟨some 72, .mv (.tmp 17), (some (71, true))⟩,
 ⟨some 73, .pick (.tmp 71) (.tmp 72) (.con (.bool false)), none⟩,
 ⟨some 74, .addOff 2 (.tmp 8), none⟩,
 ⟨none, .store 1 (.tmp 74) (.tmp 69), none⟩,
 ⟨some 13, .mv (.tmp 73), none⟩])) (.skip)))
 (.seq (.draw [⟨some 75, .load (some 4) (.tmp 8), none⟩,
 ⟨some 76, .mv (.tmp 13), none⟩,
 ⟨some 77, .mv (.tmp 76), none⟩,
 ⟨some 78, .load none (.tmp 11), (some (77, true))⟩,
 ⟨some 79, .len false (.tmp 78), (some (77, true))⟩,
 ⟨some 80, .bin .eql (.tmp 79) (.con (.int .i64 0)), (some (77, true))⟩,
 ⟨some 81, .pick (.tmp 77) (.tmp 80) (.con (.bool false)), none⟩,
 ⟨none, .store 4 (.tmp 6) (.tmp 75), none⟩,
 ⟨some 7, .mv (.tmp 81), none⟩] [[⟨some 75, .load (some 4) (.tmp 8), none⟩, ⟨some 76, .mv (.tmp 13), none⟩, ⟨some 77, .mv (.tmp 76), none⟩, ⟨none, .store 4 (.tmp 6) (.tmp 75), none⟩, ⟨some 78, .load none (.tmp 11), (some (77, true))⟩, ⟨some 79, .len false (.tmp 78), (some (77, true))⟩, ⟨some 80, .bin .eql (.tmp 79) (.con (.int .i64 0)), (some (77, true))⟩, ⟨some 81, .pick (.tmp 77) (.tmp 80) (.con (.bool false)), none⟩, ⟨some 7, .mv (.tmp 81), none⟩]])
 (.ret)))))))))
def A18 : AFunc := { ntmps := 82, results := [.cell (some 4) 6, .tmp 7], body := B18, coe := true, keep := 0 }
theorem tr18 : trFunc Tryz.prog M18 true Tryz.f18 = some A18 := by kernel_rfl

/-- handloom/trace.of -/
def M20 : Marks := { cut := fun _ => true, hd := fun | _ => [], ex := fun | _ => [], imm := fun | 1 => true | 14 => true | _ => false, alts := fun | 3 => [[0, 1, 2, 3, 5, 4, 6], [0, 1, 5, 2, 3, 4, 6]] | _ => [] }
def B20 : ACode :=
 .seq (.region [⟨some 1, .box true (.tmp 0), none⟩,
 ⟨some 2, .alloc [.ok (.str ⟨#[]⟩), .ok (.bool false), .ok (.bool false), .ok (.bool false)], none⟩,
 ⟨some 3, .mv (.con (.bool false)), none⟩])
 (.seq (.seq (.region [⟨some 5, .addOff 0 (.tmp 1), none⟩,
 ⟨some 6, .load none (.tmp 5), none⟩,
 ⟨some 7, .bin .lss (.tmp 6) (.con (.int .i64 0)), none⟩,
 ⟨some 8, .mv (.tmp 7), none⟩,
 ⟨some 9, .addOff 0 (.tmp 1), (some (8, false))⟩,
 ⟨some 10, .load none (.tmp 9), (some (8, false))⟩,
 ⟨some 11, .bin .gtr (.tmp 10) (.con (.int .i64 9)), (some (8, false))⟩,
 ⟨some 12, .pick (.tmp 8) (.con (.bool true)) (.tmp 11), none⟩])
 (.cond (.tmp 12) (.seq (.region [⟨some 13, .build [.str ⟨#[]⟩, .bool false, .bool false, .bool false] [], none⟩,
 ⟨none, .store 4 (.tmp 2) (.tmp 13), none⟩,
 ⟨some 3, .mv (.con (.bool false)), none⟩])
 (.ret)) (.skip)))
 (.seq (.draw [⟨some 14, .calld (.fn 16) [], none⟩,
 ⟨some 15, .addOff 0 (.tmp 1), none⟩,
 ⟨some 16, .load none (.tmp 15), none⟩,
 ⟨some 17, .idxAddr 4 (.tmp 14) (.tmp 16), none⟩,
 ⟨some 18, .load (some 4) (.tmp 17), none⟩,
 ⟨some 4, .alloc [.ok (.str ⟨#[]⟩), .ok (.bool false), .ok (.bool false), .ok (.bool false)], none⟩,
 ⟨none, .store 4 (.tmp 4) (.tmp 18), none⟩] [[⟨some 14, .calld (.fn 16) [], none⟩, ⟨some 15, .addOff 0 (.tmp 1), none⟩, ⟨some 16, .load none (.tmp 15), none⟩, ⟨some 17, .idxAddr 4 (.tmp 14) (.tmp 16), none⟩, ⟨some 4, .alloc [.ok (.str ⟨#[]⟩), .ok (.bool false), .ok (.bool false), .ok (.bool false)], none⟩, ⟨some 18, .load (some 4) (.tmp 17), none⟩, ⟨none, .store 4 (.tmp 4) (.tmp 18), none⟩], [⟨some 14, .calld (.fn 16) [], none⟩, ⟨some 15, .addOff 0 (.tmp 1), none⟩, ⟨some 4, .alloc [.ok (.str ⟨#[]⟩), .ok (.bool false), .ok (.bool false), .ok (.bool false)], none⟩, ⟨some 16, .load none (.tmp 15), none⟩, ⟨some 17, .idxAddr 4 (.tmp 14) (.tmp 16), none⟩, ⟨some 18, .load (some 4) (.tmp 17), none⟩, ⟨none, .store 4 (.tmp 4) (.tmp 18), none⟩]])
 (.seq (.block 0 (.seq (.seq (.region [⟨some 20, .addOff 1 (.tmp 4), none⟩,
 ⟨some 21, .load none (.tmp 20), none⟩,
 ⟨some 22, .mv (.tmp 21), none⟩,
 ⟨some 23, .addOff 1 (.tmp 1), (some (22, true))⟩,
 ⟨some 24, .load none (.tmp 23), (some (22, true))⟩,
 ⟨some 25, .bin .lss (.tmp 24) (.con (.int .i64 1)), (some (22, true))⟩,
 ⟨some 26, .mv (.tmp 25), (some (22, true))⟩,
 ⟨some 27, .addOff 1 (.tmp 1), (some (26, false))⟩,
 ⟨some 28, .load none (.tmp 27), (some (26, false))⟩,
 ⟨some 29, .bin .gtr (.tmp 28) (.con (.int .i64 1099511627776)), (some (26, false))⟩,
 ⟨some 30, .pick (.tmp 26) (.con (.bool true)) (.tmp 29), (some (22, true))⟩,
 ⟨some 31, .pick (.tmp 22) (.tmp 30) (.con (.bool false)), none⟩,
 ⟨some 19, .mv (.tmp 31), none⟩])
 (.cond (.tmp 19) (.skip) (.region [⟨some 32, .addOff 1 (.tmp 4), none⟩,
 ⟨some 33, .load none (.tmp 32), none⟩,
 ⟨some 34, .un .not (.tmp 33), none⟩,
 ⟨some 35, .mv (.tmp 34), none⟩,
 ⟨some 36, .addOff 1 (.tmp 1), (some (35, true))⟩,
 ⟨some 37, .load none (.tmp 36), (some (35, true))⟩,
 ⟨some 38, .bin .neq (.tmp 37) (.con (.int .i64 0)), (some (35, true))⟩,
 ⟨some 39, .pick (.tmp 35) (.tmp 38) (.con (.bool false)), none⟩,
 ⟨some 19, .mv (.tmp 39), none⟩])))
 (.cond (.tmp 19) (.seq (.region [⟨some 40, .load (some 4) (.tmp 4), none⟩,
 ⟨none, .store 4 (.tmp 2) (.tmp 40), none⟩,
 ⟨some 3, .mv (.con (.bool false)), none⟩])
 (.ret)) (.seq (.seq (.region [⟨some 42, .addOff 2 (.tmp 1), none⟩,
 ⟨some 43, .load none (.tmp 42), none⟩,
 ⟨some 44, .bin .lss (.tmp 43) (.con (.int .i64 (-4611686018427387904))), none⟩,
 ⟨some 41, .mv (.tmp 44), none⟩])
 (.cond (.tmp 41) (.skip) (.seq (.region [⟨some 45, .addOff 2 (.tmp 1), none⟩,
 ⟨some 46, .load none (.tmp 45), none⟩,
 ⟨some 47, .bin .geq (.tmp 46) (.con (.int .i64 4611686018427387904)), none⟩,
 ⟨some 41, .mv (.tmp 47), none⟩])
 (.cond (.tmp 41) (.skip) (.region [⟨some 48, .addOff 2 (.tmp 4), none⟩,
 ⟨some 49, .load none (.tmp 48), none⟩,
 ⟨some 50, .un .not (.tmp 49), none⟩,
 ⟨some 51, .mv (.tmp 50), none⟩,
 ⟨some 52, .addOff 2 (.tmp 1), (some (51, true))⟩,
 ⟨some 53, .load none (.tmp 52), (some (51, true))⟩,
 ⟨some 54, .bin .neq (.tmp 53) (.con (.int .i64 0)), (some (51, true))⟩,
 ⟨some 55, .pick (.tmp 51) (.tmp 54) (.con (.bool false)), none⟩,
 ⟨some 41, .mv (.tmp 55), none⟩])))))
 (.cond (.tmp 41) (.seq (.region [⟨some 56, .load (some 4) (.tmp 4), none⟩,
 ⟨none, .store 4 (.tmp 2) (.tmp 56), none⟩,
 ⟨some 3, .mv (.con (.bool false)), none⟩])
 (.ret)) (.seq (.seq (.region [⟨some 58, .addOff 3 (.tmp 1), none⟩,
 ⟨some 59, .load none (.tmp 58), none⟩,
 ⟨some 60, .len false (.tmp 59), none⟩,
 ⟨some 61, .bin .gtr (.tmp 60) (.con (.int .i64 64)), none⟩,
 ⟨some 57, .mv (.tmp 61), none⟩])
 (.cond (.tmp 57) (.skip) (.region [⟨some 62, .addOff 3 (.tmp 4), none⟩,
 ⟨some 63, .load none (.tmp 62), none⟩,
 ⟨some 64, .un .not (.tmp 63), none⟩,
 ⟨some 65, .mv (.tmp 64), none⟩,
 ⟨some 66, .addOff 3 (.tmp 1), (some (65, true))⟩,
 ⟨some 67, .load none (.tmp 66), (some (65, true))⟩,
 ⟨some 68, .len false (.tmp 67), (some (65, true))⟩,
 ⟨some 69, .bin .gtr (.tmp 68) (.con (.int .i64 0)), (some (65, true))⟩,
 ⟨some 70, .pick (.tmp 65) (.tmp 69) (.con (.bool false)), none⟩,
 ⟨some 57, .mv (.tmp 70), none⟩])))
 (.cond (.tmp 57) (.seq (.region [⟨some 71, .load (some 4) (.tmp 4), none⟩,
 ⟨none, .store 4 (.tmp 2) (.tmp 71), none⟩,
 ⟨some 3, .mv (.con (.bool false)), none⟩])
 (.ret)) (.skip))))))))
 (.seq (.region [⟨some 72, .load (some 4) (.tmp 4), none⟩,
 ⟨none, .store 4 (.tmp 2) (.tmp 72), none⟩,
 ⟨some 3, .mv (.con (.bool true)), none⟩])
 (.ret)))))
def A20 : AFunc := { ntmps := 73, results := [.cell (some 4) 2, .tmp 3], body := B20, coe := true, keep := 0 }
theorem tr20 : trFunc Tryz.prog M20 true Tryz.f20 = some A20 := by kernel_rfl

/-- handloom/lex.Show -/
abbrev H23L12 : List Bool := [false, false, false, true, false, false, false, false, false, false, false, false, false, false, false, false, false, false, false, false, false, false, false, false, false, true, true, true]
abbrev X23L12 : List Bool := [false, false, false, true]
def M23 : Marks := { cut := fun _ => true, hd := fun | 12 => H23L12 | _ => [], ex := fun | 12 => X23L12 | _ => [], imm := fun | 1 => true | 38 => true | 49 => true | 60 => true | 64 => true | _ => false }
def B23L12 : ACode :=
 .seq (.region [⟨some 28, .bin .lss (.tmp 27) (.tmp 26), none⟩])
 (.seq (.cond (.tmp 28) (.skip) (.exit 1))
 (.seq (.block 2 (.seq (.region [⟨some 29, .idxAddr 1 (.tmp 25) (.tmp 27), none⟩,
 ⟨some 30, .load none (.tmp 29), none⟩,
 ⟨some 5, .mv (.tmp 30), none⟩])
 (.block 3 (.seq (.region [⟨some 41, .mv (.tmp 5), none⟩,
 ⟨some 42, .bin .eql (.tmp 41) (.con (.int .u8 34)), none⟩,
 ⟨some 43, .mv (.tmp 42), none⟩,
 ⟨some 44, .mv (.tmp 5), (some (43, false))⟩,
 ⟨some 45, .bin .eql (.tmp 44) (.con (.int .u8 92)), (some (43, false))⟩,
 ⟨some 46, .pick (.tmp 43) (.con (.bool true)) (.tmp 45), none⟩,
 ⟨some 40, .mv (.tmp 46), none⟩])
 (.cond (.tmp 40) (.region [⟨some 47, .mv (.tmp 3), none⟩,
 ⟨some 48, .mv (.tmp 5), none⟩,
 ⟨some 49, .lit true 5 1 2 [.int .u8 0] [(0, (.con (.int .u8 92))), (1, (.tmp 48))], none⟩,
 ⟨some 50, .app false 5 1 1 (.tmp 47) (.tmp 49), none⟩,
 ⟨some 3, .mv (.tmp 50), none⟩]) (.seq (.region [⟨some 52, .mv (.tmp 5), none⟩,
 ⟨some 53, .bin .geq (.tmp 52) (.con (.int .u8 32)), none⟩,
 ⟨some 54, .mv (.tmp 53), none⟩,
 ⟨some 55, .mv (.tmp 5), (some (54, true))⟩,
 ⟨some 56, .bin .leq (.tmp 55) (.con (.int .u8 126)), (some (54, true))⟩,
 ⟨some 57, .pick (.tmp 54) (.tmp 56) (.con (.bool false)), none⟩,
 ⟨some 51, .mv (.tmp 57), none⟩])
 (.cond (.tmp 51) (.region [⟨some 58, .mv (.tmp 3), none⟩,
 ⟨some 59, .mv (.tmp 5), none⟩,
 ⟨some 60, .lit true 5 1 1 [.int .u8 0] [(0, (.tmp 59))], none⟩,
 ⟨some 61, .app false 5 1 1 (.tmp 58) (.tmp 60), none⟩,
 ⟨some 3, .mv (.tmp 61), none⟩]) (.draw [⟨some 31, .mv (.tmp 3), none⟩,
 ⟨some 32, .mv (.tmp 5), none⟩,
 ⟨some 33, .bin .shr (.tmp 32) (.con (.int .u64 4)), none⟩,
 ⟨some 34, .idxStr (.con (.str ⟨#[48, 49, 50, 51, 52, 53, 54, 55, 56, 57, 97, 98, 99, 100, 101, 102]⟩)) (.tmp 33), none⟩,
 ⟨some 35, .mv (.tmp 5), none⟩,
 ⟨some 36, .bin .and (.tmp 35) (.con (.int .u8 15)), none⟩,
 ⟨some 37, .idxStr (.con (.str ⟨#[48, 49, 50, 51, 52, 53, 54, 55, 56, 57, 97, 98, 99, 100, 101, 102]⟩)) (.tmp 36), none⟩,
 ⟨some 38, .lit true 5 1 4 [.int .u8 0] [(0, (.con (.int .u8 92))), (1, (.con (.int .u8 120))), (2, (.tmp 34)), (3, (.tmp 37))], none⟩,
 ⟨some 39, .app false 5 1 1 (.tmp 31) (.tmp 38), none⟩,
 ⟨some 3, .mv (.tmp 39), none⟩] []))))))))
 (.region [⟨some 62, .bin .add (.tmp 27) (.con (.int .i64 1)), none⟩,
 ⟨some 27, .mv (.tmp 62), none⟩])))
def B23 : ACode :=
 .seq (.region [⟨some 1, .box true (.tmp 0), none⟩,
 ⟨some 2, .mv (.con (.str ⟨#[]⟩)), none⟩])
 (.seq (.seq (.region [⟨some 6, .addOff 0 (.tmp 1), none⟩,
 ⟨some 7, .load none (.tmp 6), none⟩])
 (.block 0 (.seq (.seq (.region [⟨some 9, .bin .eql (.tmp 7) (.con (.int .i64 1)), none⟩,
 ⟨some 8, .mv (.tmp 9), none⟩])
 (.cond (.tmp 8) (.skip) (.seq (.region [⟨some 10, .bin .eql (.tmp 7) (.con (.int .i64 2)), none⟩,
 ⟨some 8, .mv (.tmp 10), none⟩])
 (.cond (.tmp 8) (.skip) (.seq (.region [⟨some 11, .bin .eql (.tmp 7) (.con (.int .i64 5)), none⟩,
 ⟨some 8, .mv (.tmp 11), none⟩])
 (.cond (.tmp 8) (.skip) (.region [⟨some 12, .bin .eql (.tmp 7) (.con (.int .i64 6)), none⟩,
 ⟨some 8, .mv (.tmp 12), none⟩])))))))
 (.cond (.tmp 8) (.seq (.region [⟨some 13, .addOff 1 (.tmp 1), none⟩,
 ⟨some 14, .load none (.tmp 13), none⟩,
 ⟨some 2, .mv (.tmp 14), none⟩])
 (.ret)) (.seq (.region [⟨some 16, .bin .eql (.tmp 7) (.con (.int .i64 3)), none⟩,
 ⟨some 15, .mv (.tmp 16), none⟩])
 (.cond (.tmp 15) (.seq (.region [⟨some 17, .addOff 2 (.tmp 1), none⟩,
 ⟨some 18, .load none (.tmp 17), none⟩,
 ⟨some 19, .mnmx true [(.tmp 18), (.con (.int .i64 0))], none⟩,
 ⟨some 20, .call (.fn 22) [(.tmp 19), (.con (.int .i64 10))], none⟩,
 ⟨some 2, .mv (.tmp 20), none⟩])
 (.ret)) (.seq (.region [⟨some 22, .bin .eql (.tmp 7) (.con (.int .i64 4)), none⟩,
 ⟨some 21, .mv (.tmp 22), none⟩])
 (.cond (.tmp 21) (.seq (.region [⟨some 23, .lit false 5 1 1 [.int .u8 0] [(0, (.con (.int .u8 34)))], none⟩,
 ⟨some 3, .mv (.tmp 23), none⟩])
 (.seq (.seq (.region [⟨some 24, .addOff 3 (.tmp 1), none⟩,
 ⟨some 25, .load none (.tmp 24), none⟩,
 ⟨some 26, .len false (.tmp 25), none⟩,
 ⟨some 27, .mv (.con (.int .i64 0)), none⟩])
 (.block 1 (.loop true H23L12 X23L12 B23L12)))
 (.seq (.region [⟨some 63, .mv (.tmp 3), none⟩,
 ⟨some 64, .lit true 5 1 1 [.int .u8 0] [(0, (.con (.int .u8 34)))], none⟩,
 ⟨some 65, .app false 5 1 1 (.tmp 63) (.tmp 64), none⟩,
 ⟨some 66, .bstr (.tmp 65), none⟩,
 ⟨some 2, .mv (.tmp 66), none⟩])
 (.ret)))) (.skip)))))))))
 (.seq (.region [⟨some 2, .mv (.con (.str ⟨#[]⟩)), none⟩])
 (.ret)))
def A23 : AFunc := { ntmps := 67, results := [.tmp 2], body := B23, coe := true, keep := 0 }
theorem tr23 : trFunc Tryz.prog M23 true Tryz.f23 = some A23 := by kernel_rfl

/-- slices.ContainsFunc[[][]handloom/api.Resp,[]handloom/api.Resp] -/
def M29 : Marks := { cut := fun _ => true, hd := fun | _ => [], ex := fun | _ => [], imm := fun | _ => false }
def B29 : ACode :=
 .seq (.region [⟨some 4, .mv (.con (.bool false)), none⟩])
 (.seq (.region [⟨some 5, .mv (.tmp 0), none⟩,
 ⟨some 6, .mv (.tmp 1), none⟩,
 ⟨some 7, .call (.fn 45) [(.tmp 5), (.tmp 6)], none⟩,
 ⟨some 8, .bin .geq (.tmp 7) (.con (.int .i64 0)), none⟩,
 ⟨some 4, .mv (.tmp 8), none⟩])
 (.ret))
def A29 : AFunc := { ntmps := 9, results := [.tmp 4], body := B29, coe := true, keep := 0 }
theorem tr29 : trFunc Tryz.prog M29 true Tryz.f29 = some A29 := by kernel_rfl

/-- handloom/trace.Right$1 -/
abbrev H30L2 : List Bool := [false, true, true, true, false, false, false, false, true, true, true]
abbrev X30L2 : List Bool := [false, true, true, false, false, true]
def M30 : Marks := { cut := fun _ => true, hd := fun | 2 => H30L2 | _ => [], ex := fun | 2 => X30L2 | _ => [], imm := fun | _ => false }
def B30L2 : ACode :=
 .seq (.region [⟨some 11, .bin .lss (.tmp 10) (.tmp 9), none⟩])
 (.seq (.cond (.tmp 11) (.skip) (.exit 0))
 (.seq (.block 1 (.seq (.region [⟨some 12, .idxAddr 4 (.tmp 8) (.tmp 10), none⟩,
 ⟨some 13, .load (some 4) (.tmp 12), none⟩,
 ⟨some 7, .alloc [.ok (.int .i64 0), .ok (.int .i64 0), .ok (.int .i64 0), .error 1], none⟩,
 ⟨none, .store 4 (.tmp 7) (.tmp 13), none⟩])
 (.seq (.region [⟨some 14, .addOff 0 (.tmp 7), none⟩,
 ⟨some 15, .load none (.tmp 14), none⟩])
 (.block 2 (.seq (.seq (.region [⟨some 17, .bin .eql (.tmp 15) (.con (.int .i64 0)), none⟩,
 ⟨some 16, .mv (.tmp 17), none⟩])
 (.cond (.tmp 16) (.skip) (.region [⟨some 18, .bin .eql (.tmp 15) (.con (.int .i64 4)), none⟩,
 ⟨some 16, .mv (.tmp 18), none⟩])))
 (.cond (.tmp 16) (.seq (.region [⟨some 19, .load none (.tmp 1), none⟩,
 ⟨some 20, .bin .add (.tmp 19) (.con (.int .i64 1)), none⟩,
 ⟨none, .store 1 (.tmp 1) (.tmp 20), none⟩])
 (.seq (.region [⟨some 21, .addOff 1 (.tmp 7), none⟩,
 ⟨some 22, .load none (.tmp 21), none⟩,
 ⟨some 23, .load none (.tmp 1), none⟩,
 ⟨some 24, .bin .neq (.tmp 22) (.tmp 23), none⟩,
 ⟨some 25, .mv (.tmp 24), none⟩,
 ⟨some 26, .load none (.tmp 1), (some (25, false))⟩,
 ⟨some 27, .load none (.tmp 2), (some (25, false))⟩,
 ⟨some 28, .bin .sub (.tmp 26) (.tmp 27), (some (25, false))⟩,
 ⟨some 29, .load none (.tmp 3), (some (25, false))⟩,
 ⟨some 30, .bin .gtr (.tmp 28) (.tmp 29), (some (25, false))⟩,
 ⟨some 31, .pick (.tmp 25) (.con (.bool true)) (.tmp 30), none⟩])
 (.cond (.tmp 31) (.seq (.region [⟨some 5, .mv (.con (.bool true)), none⟩])
 (.ret)) (.skip)))) (.seq (.region [⟨some 33, .bin .eql (.tmp 15) (.con (.int .i64 9)), none⟩,
 ⟨some 32, .mv (.tmp 33), none⟩])
 (.cond (.tmp 32) (.seq (.region [⟨some 34, .load none (.tmp 2), none⟩,
 ⟨some 35, .bin .add (.tmp 34) (.con (.int .i64 1)), none⟩,
 ⟨none, .store 1 (.tmp 2) (.tmp 35), none⟩])
 (.seq (.region [⟨some 36, .addOff 1 (.tmp 7), none⟩,
 ⟨some 37, .load none (.tmp 36), none⟩,
 ⟨some 38, .load none (.tmp 2), none⟩,
 ⟨some 39, .bin .neq (.tmp 37) (.tmp 38), none⟩,
 ⟨some 40, .mv (.tmp 39), none⟩,
 ⟨some 41, .load none (.tmp 2), (some (40, false))⟩,
 ⟨some 42, .load none (.tmp 1), (some (40, false))⟩,
 ⟨some 43, .bin .gtr (.tmp 41) (.tmp 42), (some (40, false))⟩,
 ⟨some 44, .pick (.tmp 40) (.con (.bool true)) (.tmp 43), none⟩])
 (.cond (.tmp 44) (.seq (.region [⟨some 5, .mv (.con (.bool true)), none⟩])
 (.ret)) (.skip)))) (.skip)))))))))
 (.region [⟨some 45, .bin .add (.tmp 10) (.con (.int .i64 1)), none⟩,
 ⟨some 10, .mv (.tmp 45), none⟩])))
def B30 : ACode :=
 .seq (.region [⟨some 5, .mv (.con (.bool false)), none⟩])
 (.seq (.seq (.region [⟨some 8, .mv (.tmp 0), none⟩,
 ⟨some 9, .len false (.tmp 8), none⟩,
 ⟨some 10, .mv (.con (.int .i64 0)), none⟩])
 (.block 0 (.loop true H30L2 X30L2 B30L2)))
 (.seq (.region [⟨some 46, .load none (.tmp 2), none⟩,
 ⟨some 47, .load none (.tmp 1), none⟩,
 ⟨some 48, .bin .neq (.tmp 46) (.tmp 47), none⟩,
 ⟨some 5, .mv (.tmp 48), none⟩])
 (.ret)))
def A30 : AFunc := { ntmps := 49, results := [.tmp 5], body := B30, coe := true, keep := 0 }
theorem tr30 : trFunc Tryz.prog M30 true Tryz.f30 = some A30 := by kernel_rfl

/-- internal/stringslite.CutPrefix -/
def M31 : Marks := { cut := fun _ => true, hd := fun | _ => [], ex := fun | _ => [], imm := fun | _ => false }
def B31 : ACode :=
 .seq (.region [⟨some 4, .mv (.con (.str ⟨#[]⟩)), none⟩,
 ⟨some 5, .mv (.con (.bool false)), none⟩])
 (.seq (.seq (.region [⟨some 6, .mv (.tmp 0), none⟩,
 ⟨some 7, .mv (.tmp 1), none⟩,
 ⟨some 8, .call (.fn 46) [(.tmp 6), (.tmp 7)], none⟩,
 ⟨some 9, .un .not (.tmp 8), none⟩])
 (.cond (.tmp 9) (.seq (.region [⟨some 10, .mv (.tmp 0), none⟩,
 ⟨some 4, .mv (.tmp 10), none⟩,
 ⟨some 5, .mv (.con (.bool false)), none⟩])
 (.ret)) (.skip)))
 (.seq (.region [⟨some 11, .mv (.tmp 0), none⟩,
 ⟨some 12, .mv (.tmp 1), none⟩,
 ⟨some 13, .len true (.tmp 12), none⟩,
 ⟨some 14, .slcStr (.tmp 11) (some (.tmp 13)) none, none⟩,
 ⟨some 4, .mv (.tmp 14), none⟩,
 ⟨some 5, .mv (.con (.bool true)), none⟩])
 (.ret)))
def A31 : AFunc := { ntmps := 15, results := [.tmp 4, .tmp 5], body := B31, coe := true, keep := 0 }
theorem tr31 : trFunc Tryz.prog M31 true Tryz.f31 = some A31 := by kernel_rfl

/-- handloom/lex.Lex -/
abbrev H32L7 : List Bool := [true, false, false, true, false, false, true, true]
abbrev X32L7 : List Bool := [true, false, true, true, false, false, false, true]
def M32 : Marks := { cut := fun _ => true, hd := fun | 7 => H32L7 | _ => [], ex := fun | 7 => X32L7 | _ => [], imm := fun | 2 => true | 50 => true | 65 => true | _ => false }
def B32L7 : ACode :=
 .seq (.seq (.region [⟨some 24, .mv (.tmp 6), none⟩,
 ⟨some 25, .call (.fn 49) [(.tmp 24)], none⟩,
 ⟨some 26, .un .not (.tmp 25), none⟩])
 (.cond (.tmp 26) (.skip) (.exit 0)))
 (.seq (.block 1 (.seq (.region [⟨some 29, .mv (.tmp 6), none⟩,
 ⟨some 30, .call (.fn 50) [(.tmp 29)], none⟩,
 ⟨some 8, .alloc [.ok (.int .i64 0), .ok (.str ⟨#[]⟩), .ok (.int .i64 0), .error 1, .ok (.int .i64 0), .ok (.int .i64 0)], none⟩,
 ⟨none, .store 6 (.tmp 8) (.tmp 30), none⟩])
 (.seq (.seq (.region [⟨some 31, .mv (.tmp 7), none⟩,
 ⟨some 32, .len false (.tmp 31), none⟩,
 ⟨some 33, .bin .eql (.tmp 32) (.con (.int .i64 4096)), none⟩])
 (.cond (.tmp 33) (.region [⟨some 34, .mv (.tmp 6), none⟩,
 ⟨some 35, .addOff 4 (.tmp 8), none⟩,
 ⟨some 36, .load (some 2) (.tmp 35), none⟩,
 ⟨some 37, .call (.fn 51) [(.tmp 34), (.con (.int .i64 27)), (.tmp 36)], none⟩]) (.skip)))
 (.seq (.seq (.region [⟨some 38, .mv (.tmp 6), none⟩,
 ⟨some 39, .nilchk (.tmp 38), none⟩,
 ⟨some 40, .addOff 2 (.tmp 39), none⟩,
 ⟨some 41, .addOff 0 (.tmp 40), none⟩,
 ⟨some 42, .load none (.tmp 41), none⟩,
 ⟨some 43, .bin .neq (.tmp 42) (.con (.int .i64 0)), none⟩])
 (.cond (.tmp 43) (.seq (.draw [⟨some 44, .mv (.tmp 6), none⟩,
 ⟨some 45, .nilchk (.tmp 44), none⟩,
 ⟨some 46, .addOff 2 (.tmp 45), none⟩,
 ⟨some 47, .load (some 3) (.tmp 46), none⟩,
 ⟨some 2, .mv (.con (.slice 6 [])), none⟩,
 ⟨none, .store 3 (.tmp 3) (.tmp 47), none⟩] [])
 (.ret)) (.skip)))
 (.region [⟨some 48, .mv (.tmp 7), none⟩,
 ⟨some 49, .load (some 6) (.tmp 8), none⟩,
 ⟨some 50, .lit true 0 6 1 [.int .i64 0, .str ⟨#[]⟩, .int .i64 0, .slice 1 [], .int .i64 0, .int .i64 0] [(0, (.tmp 49))], none⟩,
 ⟨some 51, .app false 0 6 72 (.tmp 48) (.tmp 50), none⟩,
 ⟨some 7, .mv (.tmp 51), none⟩])))))
 (.region [⟨some 27, .mv (.tmp 6), none⟩,
 ⟨some 28, .call (.fn 48) [(.tmp 27)], none⟩]))
def B32 : ACode :=
 .seq (.region [⟨some 2, .mv (.con (.slice 6 [])), none⟩,
 ⟨some 3, .alloc [.ok (.int .i64 0), .ok (.int .i64 0), .ok (.int .i64 0)], none⟩])
 (.seq (.region [⟨some 11, .mv (.tmp 0), none⟩,
 ⟨some 12, .call (.fn 47) [(.tmp 11)], none⟩,
 ⟨some 10, .mv (.tmp 12), none⟩,
 ⟨some 13, .ext 0 (.tmp 10), none⟩,
 ⟨some 14, .ext 1 (.tmp 10), none⟩,
 ⟨some 5, .alloc [.ok (.int .i64 0), .ok (.int .i64 0), .ok (.int .i64 0)], none⟩,
 ⟨some 4, .mv (.tmp 13), none⟩,
 ⟨none, .store 3 (.tmp 5) (.tmp 14), none⟩])
 (.seq (.seq (.region [⟨some 15, .addOff 0 (.tmp 5), none⟩,
 ⟨some 16, .load none (.tmp 15), none⟩,
 ⟨some 17, .bin .neq (.tmp 16) (.con (.int .i64 0)), none⟩])
 (.cond (.tmp 17) (.seq (.draw [⟨some 18, .load (some 3) (.tmp 5), none⟩,
 ⟨some 2, .mv (.con (.slice 6 [])), none⟩,
 ⟨none, .store 3 (.tmp 3) (.tmp 18), none⟩] [])
 (.ret)) (.skip)))
 (.seq (.region [⟨some 19, .mv (.tmp 4), none⟩,
 ⟨some 20, .build [.slice 4 [], .int .i64 0, .int .i64 0, .int .i64 0, .int .i64 0] [(0, 1, (.tmp 19))], none⟩,
 ⟨some 21, .box false (.tmp 20), none⟩,
 ⟨some 6, .mv (.tmp 21), none⟩])
 (.seq (.region [⟨some 7, .nilrow 6, none⟩])
 (.seq (.seq (.region [⟨some 22, .mv (.tmp 6), none⟩,
 ⟨some 23, .call (.fn 48) [(.tmp 22)], none⟩])
 (.block 0 (.loop true H32L7 X32L7 B32L7)))
 (.seq (.region [⟨some 52, .mv (.tmp 0), none⟩,
 ⟨some 53, .mv (.tmp 0), none⟩,
 ⟨some 54, .len true (.tmp 53), none⟩,
 ⟨some 55, .call (.fn 52) [(.tmp 52), (.tmp 54)], none⟩,
 ⟨some 56, .build [.int .i64 0, .str ⟨#[]⟩, .int .i64 0, .slice 1 [], .int .i64 0, .int .i64 0] [(4, 2, (.tmp 55))], none⟩,
 ⟨some 9, .alloc [.ok (.int .i64 0), .ok (.str ⟨#[]⟩), .ok (.int .i64 0), .error 1, .ok (.int .i64 0), .ok (.int .i64 0)], none⟩,
 ⟨none, .store 6 (.tmp 9) (.tmp 56), none⟩])
 (.seq (.seq (.region [⟨some 57, .mv (.tmp 7), none⟩,
 ⟨some 58, .len false (.tmp 57), none⟩,
 ⟨some 59, .bin .eql (.tmp 58) (.con (.int .i64 4096)), none⟩])
 (.cond (.tmp 59) (.seq (.draw [⟨some 60, .addOff 4 (.tmp 9), none⟩,
 ⟨some 61, .load (some 2) (.tmp 60), none⟩,
 ⟨some 62, .build [.int .i64 0, .int .i64 0, .int .i64 0] [(0, 1, (.con (.int .i64 27))), (1, 2, (.tmp 61))], none⟩,
 ⟨some 2, .mv (.con (.slice 6 [])), none⟩,
 ⟨none, .store 3 (.tmp 3) (.tmp 62), none⟩] [])
 (.ret)) (.skip)))
 (.seq (.region [⟨some 63, .mv (.tmp 7), none⟩,
 ⟨some 64, .load (some 6) (.tmp 9), none⟩,
 ⟨some 65, .lit true 0 6 1 [.int .i64 0, .str ⟨#[]⟩, .int .i64 0, .slice 1 [], .int .i64 0, .int .i64 0] [(0, (.tmp 64))], none⟩,
 ⟨some 66, .app false 0 6 72 (.tmp 63) (.tmp 65), none⟩,
 ⟨some 67, .build [.int .i64 0, .int .i64 0, .int .i64 0] [], none⟩,
 ⟨some 2, .mv (.tmp 66), none⟩,
 ⟨none, .store 3 (.tmp 3) (.tmp 67), none⟩])
 (.ret)))))))))
def A32 : AFunc := { ntmps := 68, results := [.tmp 2, .cell (some 3) 3], body := B32, coe := true, keep := 0 }
theorem tr32 : trFunc Tryz.prog M32 true Tryz.f32 = some A32 := by kernel_rfl

/-- handloom/trace.filled$1 -/
def M34 : Marks := { cut := fun _ => true, hd := fun | _ => [], ex := fun | _ => [], imm := fun | _ => false }
def B34 : ACode :=
 .seq (.region [⟨some 1, .mv (.con (.int .i64 0)), none⟩,
 ⟨some 2, .mv (.con (.bool false)), none⟩])
 (.seq (.seq (.region [⟨some 5, .load none (.tmp 0), none⟩,
 ⟨some 6, .len false (.tmp 5), none⟩,
 ⟨some 7, .bin .eql (.tmp 6) (.con (.int .i64 0)), none⟩])
 (.cond (.tmp 7) (.seq (.region [⟨some 1, .mv (.con (.int .i64 0)), none⟩,
 ⟨some 2, .mv (.con (.bool false)), none⟩])
 (.ret)) (.skip)))
 (.seq (.region [⟨some 9, .load none (.tmp 0), none⟩,
 ⟨some 10, .idxAddr 1 (.tmp 9) (.con (.int .i64 0)), none⟩,
 ⟨some 11, .load none (.tmp 10), none⟩,
 ⟨some 12, .call (.fn 35) [(.tmp 11), (.con (.int .i64 10)), (.con (.int .i64 64))], none⟩,
 ⟨some 8, .mv (.tmp 12), none⟩,
 ⟨some 13, .ext 0 (.tmp 8), none⟩,
 ⟨some 14, .ext 1 (.tmp 8), none⟩,
 ⟨some 3, .mv (.tmp 13), none⟩,
 ⟨some 4, .mv (.tmp 14), none⟩])
 (.seq (.region [⟨some 15, .load none (.tmp 0), none⟩,
 ⟨some 16, .slc 1 (.tmp 15) (some (.con (.int .i64 1))) none, none⟩,
 ⟨none, .store 1 (.tmp 0) (.tmp 16), none⟩])
 (.seq (.draw [⟨some 17, .mv (.tmp 3), none⟩,
 ⟨some 18, .mv (.tmp 4), none⟩,
 ⟨some 19, .isnil 1 false (.tmp 18), none⟩,
 ⟨some 1, .mv (.tmp 17), none⟩,
 ⟨some 2, .mv (.tmp 19), none⟩] [])
 (.ret)))))
def A34 : AFunc := { ntmps := 20, results := [.tmp 1, .tmp 2], body := B34, coe := true, keep := 0 }
theorem tr34 : trFunc Tryz.prog M34 true Tryz.f34 = some A34 := by kernel_rfl

/-- strconv.ParseInt -/
def M35 : Marks := { cut := fun _ => true, hd := fun | _ => [], ex := fun | _ => [], imm := fun | _ => false }
def B35 : ACode :=
 .seq (.region [⟨some 6, .mv (.con (.int .i64 0)), none⟩,
 ⟨some 7, .mv (.con (.nili)), none⟩])
 (.seq (.region [⟨some 10, .mv (.tmp 0), none⟩,
 ⟨some 11, .mv (.tmp 1), none⟩,
 ⟨some 12, .mv (.tmp 2), none⟩,
 ⟨some 13, .call (.fn 54) [(.tmp 10), (.tmp 11), (.tmp 12)], none⟩,
 ⟨some 9, .mv (.tmp 13), none⟩,
 ⟨some 14, .ext 0 (.tmp 9), none⟩,
 ⟨some 15, .ext 1 (.tmp 9), none⟩,
 ⟨some 8, .mv (.tmp 14), none⟩,
 ⟨some 7, .mv (.tmp 15), none⟩])
 (.seq (.seq (.region [⟨some 16, .mv (.tmp 7), none⟩,
 ⟨some 17, .isnil 1 true (.tmp 16), none⟩])
 (.cond (.tmp 17) (.seq (.region [⟨some 18, .mv (.tmp 8), none⟩,
 ⟨some 19, .mv (.tmp 0), none⟩,
 ⟨some 20, .mv (.tmp 1), none⟩,
 ⟨some 21, .mv (.tmp 2), none⟩,
 ⟨some 22, .mv (.tmp 7), none⟩,
 ⟨some 23, .call (.fn 55) [(.con (.str ⟨#[80, 97, 114, 115, 101, 73, 110, 116]⟩)), (.tmp 19), (.tmp 20), (.tmp 21), (.tmp 22)], none⟩,
 ⟨some 6, .mv (.tmp 18), none⟩,
 ⟨some 7, .mv (.tmp 23), none⟩])
 (.ret)) (.skip)))
 (.seq (.region [⟨some 24, .mv (.tmp 8), none⟩,
 ⟨some 6, .mv (.tmp 24), none⟩,
 ⟨some 7, .mv (.con (.nili)), none⟩])
 (.ret))))
def A35 : AFunc := { ntmps := 25, results := [.tmp 6, .tmp 7], body := B35, coe := true, keep := 0 }
theorem tr35 : trFunc Tryz.prog M35 true Tryz.f35 = some A35 := by kernel_rfl

/-- slices.IndexFunc[[][]handloom/api.Resp,[]handloom/api.Resp] -/
abbrev H45L2 : List Bool := [true, true, false, false, false, false, false, true, true]
abbrev X45L2 : List Bool := [false, false, false, false, true]
def M45 : Marks := { cut := fun _ => true, hd := fun | 2 => H45L2 | _ => [], ex := fun | 2 => X45L2 | _ => [], imm := fun | _ => false }
def B45L2 : ACode :=
 .seq (.region [⟨some 9, .bin .lss (.tmp 8) (.tmp 7), none⟩])
 (.seq (.cond (.tmp 9) (.skip) (.exit 0))
 (.seq (.block 1 (.seq (.region [⟨some 10, .mv (.tmp 8), none⟩,
 ⟨some 5, .mv (.tmp 10), none⟩])
 (.seq (.region [⟨some 11, .mv (.tmp 1), none⟩,
 ⟨some 12, .mv (.tmp 0), none⟩,
 ⟨some 13, .mv (.tmp 5), none⟩,
 ⟨some 14, .idxAddr 1 (.tmp 12) (.tmp 13), none⟩,
 ⟨some 15, .load none (.tmp 14), none⟩,
 ⟨some 16, .call (.tmp 11) [(.tmp 15)], none⟩])
 (.cond (.tmp 16) (.seq (.region [⟨some 17, .mv (.tmp 5), none⟩,
 ⟨some 4, .mv (.tmp 17), none⟩])
 (.ret)) (.skip)))))
 (.region [⟨some 18, .bin .add (.tmp 8) (.con (.int .i64 1)), none⟩,
 ⟨some 8, .mv (.tmp 18), none⟩])))
def B45 : ACode :=
 .seq (.region [⟨some 4, .mv (.con (.int .i64 0)), none⟩])
 (.seq (.seq (.region [⟨some 6, .mv (.tmp 0), none⟩,
 ⟨some 7, .len false (.tmp 6), none⟩,
 ⟨some 8, .mv (.con (.int .i64 0)), none⟩])
 (.block 0 (.loop true H45L2 X45L2 B45L2)))
 (.seq (.region [⟨some 4, .mv (.con (.int .i64 (-1))), none⟩])
 (.ret)))
def A45 : AFunc := { ntmps := 19, results := [.tmp 4], body := B45, coe := true, keep := 0 }
theorem tr45 : trFunc Tryz.prog M45 true Tryz.f45 = some A45 := by kernel_rfl

/-- internal/stringslite.HasPrefix -/
def M46 : Marks := { cut := fun _ => true, hd := fun | _ => [], ex := fun | _ => [], imm := fun | _ => false }
def B46 : ACode :=
 .seq (.region [⟨some 4, .mv (.con (.bool false)), none⟩])
 (.seq (.region [⟨some 5, .mv (.tmp 0), none⟩,
 ⟨some 6, .len true (.tmp 5), none⟩,
 ⟨some 7, .mv (.tmp 1), none⟩,
 ⟨some 8, .len true (.tmp 7), none⟩,
 ⟨some 9, .bin .geq (.tmp 6) (.tmp 8), none⟩,
 ⟨some 10, .mv (.tmp 9), none⟩,
 ⟨some 11, .mv (.tmp 0), (some (10, true))⟩,
 ⟨some 12, .mv (.tmp 1), (some (10, true))⟩,
 ⟨some 13, .len true (.tmp 12), (some (10, true))⟩,
 ⟨some 14, .slcStr (.tmp 11) none (some (.tmp 13)), (some (10, true))⟩,
 ⟨some 15, .mv (.tmp 1), (some (10, true))⟩,
 ⟨some 16, .bin .eql (.tmp 14) (.tmp 15), (some (10, true))⟩,
 ⟨some 17, .pick (.tmp 10) (.tmp 16) (.con (.bool false)), none⟩,
 ⟨some 4, .mv (.tmp 17), none⟩])
 (.ret))
def A46 : AFunc := { ntmps := 18, results := [.tmp 4], body := B46, coe := true, keep := 0 }
theorem tr46 : trFunc Tryz.prog M46 true Tryz.f46 = some A46 := by kernel_rfl

/-- handloom/runes.Split -/
abbrev H47L6 : List Bool := [true, false, false, true, true, true, false, false, false, false, false, false, false, false, false, false, false, false, true]
abbrev X47L6 : List Bool := [false, false, true, true, false, true]
def M47 : Marks := { cut := fun _ => true, hd := fun | 6 => H47L6 | _ => [], ex := fun | 6 => X47L6 | _ => [], imm := fun | 2 => true | 45 => true | _ => false }
def B47L6 : ACode :=
 .seq (.region [⟨some 19, .next (.tmp 18), none⟩,
 ⟨some 20, .ext 0 (.tmp 19), none⟩])
 (.seq (.cond (.tmp 20) (.skip) (.exit 0))
 (.block 1 (.seq (.region [⟨some 21, .ext 1 (.tmp 19), none⟩,
 ⟨some 22, .ext 2 (.tmp 19), none⟩,
 ⟨some 6, .mv (.tmp 21), none⟩,
 ⟨some 7, .mv (.tmp 22), none⟩])
 (.seq (.seq (.region [⟨some 23, .mv (.tmp 7), none⟩,
 ⟨some 24, .bin .eql (.tmp 23) (.con (.int .i32 65533)), none⟩,
 ⟨some 25, .mv (.tmp 24), none⟩,
 ⟨some 26, .mv (.tmp 0), (some (25, true))⟩,
 ⟨some 27, .mv (.tmp 6), (some (25, true))⟩,
 ⟨some 28, .slcStr (.tmp 26) (some (.tmp 27)) none, (some (25, true))⟩,
 ⟨some 29, .call (.fn 64) [(.tmp 28), (.con (.str ⟨#[239, 191, 189]⟩))], (some (25, true))⟩,
 ⟨some 30, .un .not (.tmp 29), (some (25, true))⟩,
 ⟨some 31, .pick (.tmp 25) (.tmp 30) (.con (.bool false)), none⟩])
 (.cond (.tmp 31) (.seq (.draw [⟨some 32, .mv (.tmp 4), none⟩,
 ⟨some 33, .nilchk (.tmp 32), none⟩,
 ⟨some 34, .addOff 0 (.tmp 33), none⟩,
 ⟨some 35, .load (some 2) (.tmp 34), none⟩,
 ⟨some 36, .build [.int .i64 0, .int .i64 0, .int .i64 0] [(0, 1, (.con (.int .i64 1))), (1, 2, (.tmp 35))], none⟩,
 ⟨some 2, .mv (.con (.slice 4 [])), none⟩,
 ⟨none, .store 3 (.tmp 3) (.tmp 36), none⟩] [])
 (.ret)) (.skip)))
 (.seq (.region [⟨some 37, .mv (.tmp 5), none⟩,
 ⟨some 38, .mv (.tmp 7), none⟩,
 ⟨some 39, .mv (.tmp 6), none⟩,
 ⟨some 40, .mv (.tmp 4), none⟩,
 ⟨some 41, .nilchk (.tmp 40), none⟩,
 ⟨some 42, .addOff 0 (.tmp 41), none⟩,
 ⟨some 43, .load (some 2) (.tmp 42), none⟩,
 ⟨some 44, .build [.int .i32 0, .int .i64 0, .int .i64 0, .int .i64 0] [(0, 1, (.tmp 38)), (1, 1, (.tmp 39)), (2, 2, (.tmp 43))], none⟩,
 ⟨some 45, .lit true 0 4 1 [.int .i32 0, .int .i64 0, .int .i64 0, .int .i64 0] [(0, (.tmp 44))], none⟩,
 ⟨some 46, .app false 0 4 32 (.tmp 37) (.tmp 45), none⟩,
 ⟨some 5, .mv (.tmp 46), none⟩])
 (.region [⟨some 47, .mv (.tmp 4), none⟩,
 ⟨some 48, .mv (.tmp 7), none⟩,
 ⟨some 49, .call (.fn 65) [(.tmp 47), (.tmp 48)], none⟩]))))))
def B47 : ACode :=
 .seq (.region [⟨some 2, .mv (.con (.slice 4 [])), none⟩,
 ⟨some 3, .alloc [.ok (.int .i64 0), .ok (.int .i64 0), .ok (.int .i64 0)], none⟩])
 (.seq (.region [⟨some 8, .call (.fn 63) [], none⟩,
 ⟨some 4, .mv (.tmp 8), none⟩])
 (.seq (.seq (.region [⟨some 9, .mv (.tmp 0), none⟩,
 ⟨some 10, .len true (.tmp 9), none⟩,
 ⟨some 11, .bin .gtr (.tmp 10) (.con (.int .i64 16384)), none⟩])
 (.cond (.tmp 11) (.seq (.draw [⟨some 12, .mv (.tmp 4), none⟩,
 ⟨some 13, .nilchk (.tmp 12), none⟩,
 ⟨some 14, .addOff 0 (.tmp 13), none⟩,
 ⟨some 15, .load (some 2) (.tmp 14), none⟩,
 ⟨some 16, .build [.int .i64 0, .int .i64 0, .int .i64 0] [(0, 1, (.con (.int .i64 5))), (1, 2, (.tmp 15))], none⟩,
 ⟨some 2, .mv (.con (.slice 4 [])), none⟩,
 ⟨none, .store 3 (.tmp 3) (.tmp 16), none⟩] [])
 (.ret)) (.skip)))
 (.seq (.region [⟨some 5, .nilrow 4, none⟩])
 (.seq (.seq (.region [⟨some 17, .mv (.tmp 0), none⟩,
 ⟨some 18, .rng (.tmp 17), none⟩])
 (.block 0 (.loop true H47L6 X47L6 B47L6)))
 (.seq (.region [⟨some 50, .mv (.tmp 5), none⟩,
 ⟨some 51, .build [.int .i64 0, .int .i64 0, .int .i64 0] [], none⟩,
 ⟨some 2, .mv (.tmp 50), none⟩,
 ⟨none, .store 3 (.tmp 3) (.tmp 51), none⟩])
 (.ret))))))
def A47 : AFunc := { ntmps := 52, results := [.tmp 2, .cell (some 3) 3], body := B47, coe := true, keep := 0 }
theorem tr47 : trFunc Tryz.prog M47 true Tryz.f47 = some A47 := by kernel_rfl

/-- (*handloom/lex.reader).skip -/
abbrev S48R0 : List Bool := []
abbrev S48R1 : List Bool := []
abbrev H48L0 : List Bool := [true]
abbrev X48L0 : List Bool := []
def M48 : Marks := { cut := fun _ => true, hd := fun | 0 => H48L0 | _ => [], ex := fun | 0 => X48L0 | _ => [], imm := fun | _ => false, sn := fun | 0 => [] | _ => [] }
def N48R0 : ACode :=
 .skip
def B48R0 : ACode :=
 .block 3 (.skip)
def N48R1 : ACode :=
 .skip
def B48R1 : ACode :=
 .block 5 (.skip)
def B48L0 : ACode :=
 .block 1 (.seq (.seq (.region [⟨some 2, .mv (.tmp 0), none⟩,
 ⟨some 3, .call (.fn 66) [(.tmp 2), (.fn 67)], none⟩])
 (.block 2 (.rangeFn (.tmp 3) [4] [] N48R0 B48R0)))
 (.seq (.seq (.region [⟨some 5, .mv (.tmp 0), none⟩,
 ⟨some 6, .call (.fn 68) [(.tmp 5), (.con (.int .i64 0))], none⟩,
 ⟨some 7, .bin .neq (.tmp 6) (.con (.int .i32 35)), none⟩])
 (.cond (.tmp 7) (.ret) (.skip)))
 (.seq (.region [⟨some 8, .mv (.tmp 0), none⟩,
 ⟨some 9, .call (.fn 66) [(.tmp 8), (.fn 69)], none⟩])
 (.block 4 (.rangeFn (.tmp 9) [10] [] N48R1 B48R1)))))
def B48 : ACode :=
 .block 0 (.loop true H48L0 X48L0 B48L0)
def A48 : AFunc := { ntmps := 11, results := [], body := B48, coe := true, keep := 0 }
theorem tr48 : trFunc Tryz.prog M48 true Tryz.f48 = some A48 := by kernel_rfl

/-- (*handloom/lex.reader).over -/
def M49 : Marks := { cut := fun _ => true, hd := fun | _ => [], ex := fun | _ => [], imm := fun | _ => false }
def B49 : ACode :=
 .seq (.region [⟨some 2, .mv (.con (.bool false)), none⟩])
 (.seq (.draw [⟨some 3, .mv (.tmp 0), none⟩,
 ⟨some 4, .nilchk (.tmp 3), none⟩,
 ⟨some 5, .addOff 1 (.tmp 4), none⟩,
 ⟨some 6, .load none (.tmp 5), none⟩,
 ⟨some 7, .mv (.tmp 0), none⟩,
 ⟨some 8, .nilchk (.tmp 7), none⟩,
 ⟨some 9, .addOff 0 (.tmp 8), none⟩,
 ⟨some 10, .load none (.tmp 9), none⟩,
 ⟨some 11, .len false (.tmp 10), none⟩,
 ⟨some 12, .bin .geq (.tmp 6) (.tmp 11), none⟩,
 ⟨some 2, .mv (.tmp 12), none⟩] [])
 (.ret))
def A49 : AFunc := { ntmps := 13, results := [.tmp 2], body := B49, coe := true, keep := 0 }
theorem tr49 : trFunc Tryz.prog M49 true Tryz.f49 = some A49 := by kernel_rfl

/-- (*handloom/lex.reader).token -/
def M50 : Marks := { cut := fun _ => true, hd := fun | _ => [], ex := fun | _ => [], imm := fun | _ => false, alts := fun | 1 => [[0, 1, 2, 3, 4, 5, 6, 7, 8, 9, 12, 10, 11, 13], [0, 1, 2, 3, 4, 5, 6, 12, 7, 8, 9, 10, 11, 13], [0, 1, 2, 4, 5, 6, 7, 12, 3, 8, 9, 10, 11, 13], [0, 1, 2, 4, 5, 6, 12, 3, 7, 8, 9, 10, 11, 13]] | _ => [] }
def B50 : ACode :=
 .seq (.region [⟨some 2, .alloc [.ok (.int .i64 0), .ok (.str ⟨#[]⟩), .ok (.int .i64 0), .error 1, .ok (.int .i64 0), .ok (.int .i64 0)], none⟩])
 (.seq (.draw [⟨some 5, .mv (.tmp 0), none⟩,
 ⟨some 6, .nilchk (.tmp 5), none⟩,
 ⟨some 7, .addOff 0 (.tmp 6), none⟩,
 ⟨some 8, .load none (.tmp 7), none⟩,
 ⟨some 9, .mv (.tmp 0), none⟩,
 ⟨some 10, .nilchk (.tmp 9), none⟩,
 ⟨some 11, .addOff 1 (.tmp 10), none⟩,
 ⟨some 12, .load none (.tmp 11), none⟩,
 ⟨some 13, .idxAddr 4 (.tmp 8) (.tmp 12), none⟩,
 ⟨some 14, .addOff 2 (.tmp 13), none⟩,
 ⟨some 15, .load (some 2) (.tmp 14), none⟩,
 ⟨some 16, .build [.int .i64 0, .str ⟨#[]⟩, .int .i64 0, .slice 1 [], .int .i64 0, .int .i64 0] [(4, 2, (.tmp 15))], none⟩,
 ⟨some 3, .alloc [.ok (.int .i64 0), .ok (.str ⟨#[]⟩), .ok (.int .i64 0), .error 1, .ok (.int .i64 0), .ok (.int .i64 0)], none⟩,
 ⟨none, .store 6 (.tmp 3) (.tmp 16), none⟩] [[⟨some 5, .mv (.tmp 0), none⟩, ⟨some 6, .nilchk (.tmp 5), none⟩, ⟨some 7, .addOff 0 (.tmp 6), none⟩, ⟨some 8, .load none (.tmp 7), none⟩, ⟨some 9, .mv (.tmp 0), none⟩, ⟨some 10, .nilchk (.tmp 9), none⟩, ⟨some 11, .addOff 1 (.tmp 10), none⟩, ⟨some 12, .load none (.tmp 11), none⟩, ⟨some 13, .idxAddr 4 (.tmp 8) (.tmp 12), none⟩, ⟨some 14, .addOff 2 (.tmp 13), none⟩, ⟨some 3, .alloc [.ok (.int .i64 0), .ok (.str ⟨#[]⟩), .ok (.int .i64 0), .error 1, .ok (.int .i64 0), .ok (.int .i64 0)], none⟩, ⟨some 15, .load (some 2) (.tmp 14), none⟩, ⟨some 16, .build [.int .i64 0, .str ⟨#[]⟩, .int .i64 0, .slice 1 [], .int .i64 0, .int .i64 0] [(4, 2, (.tmp 15))], none⟩, ⟨none, .store 6 (.tmp 3) (.tmp 16), none⟩], [⟨some 5, .mv (.tmp 0), none⟩, ⟨some 6, .nilchk (.tmp 5), none⟩, ⟨some 7, .addOff 0 (.tmp 6), none⟩, ⟨some 8, .load none (.tmp 7), none⟩, ⟨some 9, .mv (.tmp 0), none⟩, ⟨some 10, .nilchk (.tmp 9), none⟩, ⟨some 11, .addOff 1 (.tmp 10), none⟩, ⟨some 3, .alloc [.ok (.int .i64 0), .ok (.str ⟨#[]⟩), .ok (.int .i64 0), .error 1, .ok (.int .i64 0), .ok (.int .i64 0)], none⟩, ⟨some 12, .load none (.tmp 11), none⟩, ⟨some 13, .idxAddr 4 (.tmp 8) (.tmp 12), none⟩, ⟨some 14, .addOff 2 (.tmp 13), none⟩, ⟨some 15, .load (some 2) (.tmp 14), none⟩, ⟨some 16, .build [.int .i64 0, .str ⟨#[]⟩, .int .i64 0, .slice 1 [], .int .i64 0, .int .i64 0] [(4, 2, (.tmp 15))], none⟩, ⟨none, .store 6 (.tmp 3) (.tmp 16), none⟩], [⟨some 5, .mv (.tmp 0), none⟩, ⟨some 6, .nilchk (.tmp 5), none⟩, ⟨some 7, .addOff 0 (.tmp 6), none⟩, ⟨some 9, .mv (.tmp 0), none⟩, ⟨some 10, .nilchk (.tmp 9), none⟩, ⟨some 11, .addOff 1 (.tmp 10), none⟩, ⟨some 12, .load none (.tmp 11), none⟩, ⟨some 3, .alloc [.ok (.int .i64 0), .ok (.str ⟨#[]⟩), .ok (.int .i64 0), .error 1, .ok (.int .i64 0), .ok (.int .i64 0)], none⟩, ⟨some 8, .load none (.tmp 7), none⟩, ⟨some 13, .idxAddr 4 (.tmp 8) (.tmp 12), none⟩, ⟨some 14, .addOff 2 (.tmp 13), none⟩, ⟨some 15, .load (some 2) (.tmp 14), none⟩, ⟨some 16, .build [.int .i64 0, .str ⟨#[]⟩, .int .i64 0, .slice 1 [], .int .i64 0, .int .i64 0] [(4, 2, (.tmp 15))], none⟩, ⟨none, .store 6 (.tmp 3) (.tmp 16), none⟩], [⟨some 5, .mv (.tmp 0), none⟩, ⟨some 6, .nilchk (.tmp 5), none⟩, ⟨some 7, .addOff 0 (.tmp 6), none⟩, ⟨some 9, .mv (.tmp 0), none⟩, ⟨some 10, .nilchk (.tmp 9), none⟩, ⟨some 11, .addOff 1 (.tmp 10), none⟩, ⟨some 3, .alloc [.ok (.int .i64 0), .ok (.str ⟨#[]⟩), .ok (.int .i64 0), .error 1, .ok (.int .i64 0), .ok (.int .i64 0)], none⟩, ⟨some 8, .load none (.tmp 7), none⟩, ⟨some 12, .load none (.tmp 11), none⟩, ⟨some 13, .idxAddr 4 (.tmp 8) (.tmp 12), none⟩, ⟨some 14, .addOff 2 (.tmp 13), none⟩, ⟨some 15, .load (some 2) (.tmp 14), none⟩, ⟨some 16, .build [.int .i64 0, .str ⟨#[]⟩, .int .i64 0, .slice 1 [], .int .i64 0, .int .i64 0] [(4, 2, (.tmp 15))], none⟩, ⟨none, .store 6 (.tmp 3) (.tmp 16), none⟩]])
 (.seq (.seq (.region [⟨some 17, .mv (.tmp 0), none⟩,
 ⟨some 18, .call (.fn 68) [(.tmp 17), (.con (.int .i64 0))], none⟩,
 ⟨some 4, .mv (.tmp 18), none⟩])
 (.block 0 (.seq (.region [⟨some 22, .mv (.tmp 4), none⟩,
 ⟨some 23, .call (.fn 70) [(.tmp 22)], none⟩,
 ⟨some 24, .mv (.tmp 23), none⟩,
 ⟨some 25, .mv (.tmp 4), (some (24, false))⟩,
 ⟨some 26, .call (.fn 71) [(.tmp 25)], (some (24, false))⟩,
 ⟨some 27, .pick (.tmp 24) (.con (.bool true)) (.tmp 26), none⟩,
 ⟨some 21, .mv (.tmp 27), none⟩])
 (.cond (.tmp 21) (.region [⟨some 28, .mv (.tmp 0), none⟩,
 ⟨some 29, .call (.fn 72) [(.tmp 28), (.tmp 3)], none⟩]) (.seq (.region [⟨some 31, .mv (.tmp 4), none⟩,
 ⟨some 32, .call (.fn 73) [(.tmp 31)], none⟩,
 ⟨some 30, .mv (.tmp 32), none⟩])
 (.cond (.tmp 30) (.region [⟨some 33, .mv (.tmp 0), none⟩,
 ⟨some 34, .call (.fn 74) [(.tmp 33), (.tmp 3)], none⟩]) (.seq (.region [⟨some 36, .mv (.tmp 4), none⟩,
 ⟨some 37, .bin .eql (.tmp 36) (.con (.int .i32 34)), none⟩,
 ⟨some 35, .mv (.tmp 37), none⟩])
 (.cond (.tmp 35) (.region [⟨some 38, .mv (.tmp 0), none⟩,
 ⟨some 39, .call (.fn 75) [(.tmp 38), (.tmp 3)], none⟩]) (.region [⟨some 19, .mv (.tmp 0), none⟩,
 ⟨some 20, .call (.fn 76) [(.tmp 19), (.tmp 3)], none⟩])))))))))
 (.seq (.region [⟨some 40, .load (some 6) (.tmp 3), none⟩,
 ⟨none, .store 6 (.tmp 2) (.tmp 40), none⟩])
 (.ret))))
def A50 : AFunc := { ntmps := 41, results := [.cell (some 6) 2], body := B50, coe := true, keep := 0 }
theorem tr50 : trFunc Tryz.prog M50 true Tryz.f50 = some A50 := by kernel_rfl

/-- (*handloom/lex.reader).fail -/
def M51 : Marks := { cut := fun _ => true, hd := fun | _ => [], ex := fun | _ => [], imm := fun | 5 => true | _ => false }
def B51 : ACode :=
 .seq (.region [⟨some 5, .box true (.tmp 2), none⟩])
 (.seq (.region [⟨some 6, .mv (.tmp 0), none⟩,
 ⟨some 7, .nilchk (.tmp 6), none⟩,
 ⟨some 8, .addOff 2 (.tmp 7), none⟩,
 ⟨some 9, .addOff 0 (.tmp 8), none⟩,
 ⟨some 10, .load none (.tmp 9), none⟩,
 ⟨some 11, .bin .eql (.tmp 10) (.con (.int .i64 0)), none⟩])
 (.cond (.tmp 11) (.region [⟨some 12, .mv (.tmp 0), none⟩,
 ⟨some 13, .mv (.tmp 1), none⟩,
 ⟨some 14, .load (some 2) (.tmp 5), none⟩,
 ⟨some 15, .build [.int .i64 0, .int .i64 0, .int .i64 0] [(0, 1, (.tmp 13)), (1, 2, (.tmp 14))], none⟩,
 ⟨some 16, .nilchk (.tmp 12), none⟩,
 ⟨some 17, .addOff 2 (.tmp 16), none⟩,
 ⟨none, .store 3 (.tmp 17) (.tmp 15), none⟩]) (.skip)))
def A51 : AFunc := { ntmps := 18, results := [], body := B51, coe := true, keep := 0 }
theorem tr51 : trFunc Tryz.prog M51 true Tryz.f51 = some A51 := by kernel_rfl

/-- handloom/runes.Place -/
abbrev H52L6 : List Bool := [true, true, false, false, true, true, true, false, false, false, false, false, false, false, false, true]
abbrev X52L6 : List Bool := [true, true, false, false, true, true, true]
def M52 : Marks := { cut := fun _ => true, hd := fun | 6 => H52L6 | _ => [], ex := fun | 6 => X52L6 | _ => [], imm := fun | _ => false }
def B52L6 : ACode :=
 .seq (.region [⟨some 16, .next (.tmp 15), none⟩,
 ⟨some 17, .ext 0 (.tmp 16), none⟩])
 (.seq (.cond (.tmp 17) (.skip) (.exit 0))
 (.block 1 (.seq (.region [⟨some 18, .ext 1 (.tmp 16), none⟩,
 ⟨some 19, .ext 2 (.tmp 16), none⟩,
 ⟨some 7, .mv (.tmp 18), none⟩,
 ⟨some 8, .mv (.tmp 19), none⟩])
 (.seq (.seq (.region [⟨some 20, .mv (.tmp 7), none⟩,
 ⟨some 21, .bin .gtr (.tmp 20) (.con (.int .i64 0)), none⟩])
 (.cond (.tmp 21) (.seq (.seq (.region [⟨some 22, .mv (.tmp 1), none⟩,
 ⟨some 23, .mv (.tmp 7), none⟩,
 ⟨some 24, .bin .lss (.tmp 22) (.tmp 23), none⟩])
 (.cond (.tmp 24) (.seq (.region [⟨some 25, .mv (.tmp 5), none⟩,
 ⟨some 26, .nilchk (.tmp 25), none⟩,
 ⟨some 27, .addOff 0 (.tmp 26), none⟩,
 ⟨some 28, .load (some 2) (.tmp 27), none⟩,
 ⟨none, .store 2 (.tmp 4) (.tmp 28), none⟩])
 (.ret)) (.skip)))
 (.region [⟨some 29, .mv (.tmp 5), none⟩,
 ⟨some 30, .mv (.tmp 6), none⟩,
 ⟨some 31, .call (.fn 65) [(.tmp 29), (.tmp 30)], none⟩])) (.skip)))
 (.region [⟨some 32, .mv (.tmp 8), none⟩,
 ⟨some 6, .mv (.tmp 32), none⟩])))))
def B52 : ACode :=
 .seq (.region [⟨some 4, .alloc [.ok (.int .i64 0), .ok (.int .i64 0)], none⟩])
 (.seq (.seq (.region [⟨some 9, .mv (.tmp 0), none⟩,
 ⟨some 10, .len true (.tmp 9), none⟩,
 ⟨some 11, .bin .gtr (.tmp 10) (.con (.int .i64 16384)), none⟩])
 (.cond (.tmp 11) (.seq (.region [⟨some 12, .build [.int .i64 0, .int .i64 0] [], none⟩,
 ⟨none, .store 2 (.tmp 4) (.tmp 12), none⟩])
 (.ret)) (.skip)))
 (.seq (.region [⟨some 13, .call (.fn 63) [], none⟩,
 ⟨some 5, .mv (.tmp 13), none⟩])
 (.seq (.region [⟨some 6, .mv (.con (.int .i32 0)), none⟩])
 (.seq (.seq (.region [⟨some 14, .mv (.tmp 0), none⟩,
 ⟨some 15, .rng (.tmp 14), none⟩])
 (.block 0 (.loop true H52L6 X52L6 B52L6)))
 (.seq (.seq (.region [⟨some 33, .mv (.tmp 0), none⟩,
 ⟨some 34, .bin .neq (.tmp 33) (.con (.str ⟨#[]⟩)), none⟩,
 ⟨some 35, .mv (.tmp 34), none⟩,
 ⟨some 36, .mv (.tmp 1), (some (35, true))⟩,
 ⟨some 37, .mv (.tmp 0), (some (35, true))⟩,
 ⟨some 38, .len true (.tmp 37), (some (35, true))⟩,
 ⟨some 39, .bin .geq (.tmp 36) (.tmp 38), (some (35, true))⟩,
 ⟨some 40, .pick (.tmp 35) (.tmp 39) (.con (.bool false)), none⟩])
 (.cond (.tmp 40) (.region [⟨some 41, .mv (.tmp 5), none⟩,
 ⟨some 42, .mv (.tmp 6), none⟩,
 ⟨some 43, .call (.fn 65) [(.tmp 41), (.tmp 42)], none⟩]) (.skip)))
 (.seq (.region [⟨some 44, .mv (.tmp 5), none⟩,
 ⟨some 45, .nilchk (.tmp 44), none⟩,
 ⟨some 46, .addOff 0 (.tmp 45), none⟩,
 ⟨some 47, .load (some 2) (.tmp 46), none⟩,
 ⟨none, .store 2 (.tmp 4) (.tmp 47), none⟩])
 (.ret)))))))
def A52 : AFunc := { ntmps := 48, results := [.cell (some 2) 4], body := B52, coe := true, keep := 0 }
theorem tr52 : trFunc Tryz.prog M52 true Tryz.f52 = some A52 := by kernel_rfl

/-- internal/strconv.ParseInt -/
def M54 : Marks := { cut := fun _ => true, hd := fun | _ => [], ex := fun | _ => [], imm := fun | _ => false }
def B54 : ACode :=
 .seq (.region [⟨some 6, .mv (.con (.int .i64 0)), none⟩,
 ⟨some 7, .mv (.con (.nili)), none⟩])
 (.seq (.seq (.region [⟨some 12, .mv (.tmp 0), none⟩,
 ⟨some 13, .bin .eql (.tmp 12) (.con (.str ⟨#[]⟩)), none⟩])
 (.cond (.tmp 13) (.seq (.region [⟨some 14, .mki 127 (.con (.int .i64 2)), none⟩,
 ⟨some 6, .mv (.con (.int .i64 0)), none⟩,
 ⟨some 7, .mv (.tmp 14), none⟩])
 (.ret)) (.skip)))
 (.seq (.region [⟨some 8, .mv (.con (.bool false)), none⟩])
 (.seq (.seq (.region [⟨some 15, .mv (.tmp 0), none⟩,
 ⟨some 16, .idxStr (.tmp 15) (.con (.int .i64 0)), none⟩])
 (.block 0 (.seq (.region [⟨some 18, .bin .eql (.tmp 16) (.con (.int .u8 43)), none⟩,
 ⟨some 17, .mv (.tmp 18), none⟩])
 (.cond (.tmp 17) (.region [⟨some 19, .mv (.tmp 0), none⟩,
 ⟨some 20, .slcStr (.tmp 19) (some (.con (.int .i64 1))) none, none⟩,
 ⟨some 0, .mv (.tmp 20), none⟩]) (.seq (.region [⟨some 22, .bin .eql (.tmp 16) (.con (.int .u8 45)), none⟩,
 ⟨some 21, .mv (.tmp 22), none⟩])
 (.cond (.tmp 21) (.seq (.region [⟨some 23, .mv (.tmp 0), none⟩,
 ⟨some 24, .slcStr (.tmp 23) (some (.con (.int .i64 1))) none, none⟩,
 ⟨some 0, .mv (.tmp 24), none⟩])
 (.region [⟨some 8, .mv (.con (.bool true)), none⟩])) (.skip)))))))
 (.seq (.region [⟨some 9, .mv (.con (.int .u64 0)), none⟩])
 (.seq (.region [⟨some 26, .mv (.tmp 0), none⟩,
 ⟨some 27, .mv (.tmp 1), none⟩,
 ⟨some 28, .mv (.tmp 2), none⟩,
 ⟨some 29, .call (.fn 80) [(.tmp 26), (.tmp 27), (.tmp 28)], none⟩,
 ⟨some 25, .mv (.tmp 29), none⟩,
 ⟨some 30, .ext 0 (.tmp 25), none⟩,
 ⟨some 31, .ext 1 (.tmp 25), none⟩,
 ⟨some 9, .mv (.tmp 30), none⟩,
 ⟨some 7, .mv (.tmp 31), none⟩])
 (.seq (.seq (.region [⟨some 32, .mv (.tmp 7), none⟩,
 ⟨some 33, .isnil 1 true (.tmp 32), none⟩,
 ⟨some 34, .mv (.tmp 33), none⟩,
 ⟨some 35, .mv (.tmp 7), (some (34, true))⟩,
 ⟨some 36, .mki 127 (.con (.int .i64 1)), (some (34, true))⟩,
 ⟨some 37, .stuck, (some (34, true))⟩,
 ⟨some 38, .pick (.tmp 34) (.tmp 37) (.con (.bool false)), none⟩])
 (.cond (.tmp 38) (.seq (.region [⟨some 39, .mv (.tmp 7), none⟩,
 ⟨some 6, .mv (.con (.int .i64 0)), none⟩,
 ⟨some 7, .mv (.tmp 39), none⟩])
 (.ret)) (.skip)))
 (.seq (.seq (.region [⟨some 40, .mv (.tmp 2), none⟩,
 ⟨some 41, .bin .eql (.tmp 40) (.con (.int .i64 0)), none⟩])
 (.cond (.tmp 41) (.region [⟨some 2, .mv (.con (.int .i64 64)), none⟩]) (.skip)))
 (.seq (.region [⟨some 42, .mv (.tmp 2), none⟩,
 ⟨some 43, .bin .sub (.tmp 42) (.con (.int .i64 1)), none⟩,
 ⟨some 44, .cvt .u64 (.tmp 43), none⟩,
 ⟨some 45, .bin .shl (.con (.int .u64 1)) (.tmp 44), none⟩,
 ⟨some 10, .mv (.tmp 45), none⟩])
 (.seq (.seq (.region [⟨some 46, .mv (.tmp 8), none⟩,
 ⟨some 47, .un .not (.tmp 46), none⟩,
 ⟨some 48, .mv (.tmp 47), none⟩,
 ⟨some 49, .mv (.tmp 9), (some (48, true))⟩,
 ⟨some 50, .mv (.tmp 10), (some (48, true))⟩,
 ⟨some 51, .bin .geq (.tmp 49) (.tmp 50), (some (48, true))⟩,
 ⟨some 52, .pick (.tmp 48) (.tmp 51) (.con (.bool false)), none⟩])
 (.cond (.tmp 52) (.seq (.region [⟨some 53, .mv (.tmp 10), none⟩,
 ⟨some 54, .bin .sub (.tmp 53) (.con (.int .u64 1)), none⟩,
 ⟨some 55, .cvt .i64 (.tmp 54), none⟩,
 ⟨some 56, .mki 127 (.con (.int .i64 1)), none⟩,
 ⟨some 6, .mv (.tmp 55), none⟩,
 ⟨some 7, .mv (.tmp 56), none⟩])
 (.ret)) (.skip)))
 (.seq (.seq (.region [⟨some 57, .mv (.tmp 8), none⟩,
 ⟨some 58, .mv (.tmp 57), none⟩,
 ⟨some 59, .mv (.tmp 9), (some (58, true))⟩,
 ⟨some 60, .mv (.tmp 10), (some (58, true))⟩,
 ⟨some 61, .bin .gtr (.tmp 59) (.tmp 60), (some (58, true))⟩,
 ⟨some 62, .pick (.tmp 58) (.tmp 61) (.con (.bool false)), none⟩])
 (.cond (.tmp 62) (.seq (.region [⟨some 63, .mv (.tmp 10), none⟩,
 ⟨some 64, .cvt .i64 (.tmp 63), none⟩,
 ⟨some 65, .un .neg (.tmp 64), none⟩,
 ⟨some 66, .mki 127 (.con (.int .i64 1)), none⟩,
 ⟨some 6, .mv (.tmp 65), none⟩,
 ⟨some 7, .mv (.tmp 66), none⟩])
 (.ret)) (.skip)))
 (.seq (.region [⟨some 67, .mv (.tmp 9), none⟩,
 ⟨some 68, .cvt .i64 (.tmp 67), none⟩,
 ⟨some 11, .mv (.tmp 68), none⟩])
 (.seq (.seq (.region [⟨some 69, .mv (.tmp 8), none⟩])
 (.cond (.tmp 69) (.region [⟨some 70, .mv (.tmp 11), none⟩,
 ⟨some 71, .un .neg (.tmp 70), none⟩,
 ⟨some 11, .mv (.tmp 71), none⟩]) (.skip)))
 (.seq (.region [⟨some 72, .mv (.tmp 11), none⟩,
 ⟨some 6, .mv (.tmp 72), none⟩,
 ⟨some 7, .mv (.con (.nili)), none⟩])
 (.ret))))))))))))))
def A54 : AFunc := { ntmps := 73, results := [.tmp 6, .tmp 7], body := B54, coe := true, keep := 0 }
theorem tr54 : trFunc Tryz.prog M54 true Tryz.f54 = some A54 := by kernel_rfl

/-- strconv.toError -/
def M55 : Marks := { cut := fun _ => true, hd := fun | _ => [], ex := fun | _ => [], imm := fun | _ => false }
def B55 : ACode :=
 .seq (.region [⟨some 10, .mv (.con (.nili)), none⟩])
 (.seq (.seq (.region [⟨some 11, .mv (.tmp 4), none⟩])
 (.block 0 (.seq (.region [⟨some 13, .mki 127 (.con (.int .i64 2)), none⟩,
 ⟨some 14, .stuck, none⟩,
 ⟨some 12, .mv (.tmp 14), none⟩])
 (.cond (.tmp 12) (.seq (.region [⟨some 15, .mv (.tmp 0), none⟩,
 ⟨some 16, .mv (.tmp 1), none⟩,
 ⟨some 17, .call (.fn 81) [(.tmp 15), (.tmp 16)], none⟩,
 ⟨some 18, .mki 130 (.tmp 17), none⟩,
 ⟨some 10, .mv (.tmp 18), none⟩])
 (.ret)) (.seq (.region [⟨some 20, .mki 127 (.con (.int .i64 1)), none⟩,
 ⟨some 21, .stuck, none⟩,
 ⟨some 19, .mv (.tmp 21), none⟩])
 (.cond (.tmp 19) (.seq (.region [⟨some 22, .mv (.tmp 0), none⟩,
 ⟨some 23, .mv (.tmp 1), none⟩,
 ⟨some 24, .call (.fn 82) [(.tmp 22), (.tmp 23)], none⟩,
 ⟨some 25, .mki 130 (.tmp 24), none⟩,
 ⟨some 10, .mv (.tmp 25), none⟩])
 (.ret)) (.seq (.region [⟨some 27, .mki 127 (.con (.int .i64 3)), none⟩,
 ⟨some 28, .stuck, none⟩,
 ⟨some 26, .mv (.tmp 28), none⟩])
 (.cond (.tmp 26) (.seq (.region [⟨some 29, .mv (.tmp 0), none⟩,
 ⟨some 30, .mv (.tmp 1), none⟩,
 ⟨some 31, .mv (.tmp 2), none⟩,
 ⟨some 32, .call (.fn 83) [(.tmp 29), (.tmp 30), (.tmp 31)], none⟩,
 ⟨some 33, .mki 130 (.tmp 32), none⟩,
 ⟨some 10, .mv (.tmp 33), none⟩])
 (.ret)) (.seq (.region [⟨some 35, .mki 127 (.con (.int .i64 4)), none⟩,
 ⟨some 36, .stuck, none⟩,
 ⟨some 34, .mv (.tmp 36), none⟩])
 (.cond (.tmp 34) (.seq (.region [⟨some 37, .mv (.tmp 0), none⟩,
 ⟨some 38, .mv (.tmp 1), none⟩,
 ⟨some 39, .mv (.tmp 3), none⟩,
 ⟨some 40, .call (.fn 84) [(.tmp 37), (.tmp 38), (.tmp 39)], none⟩,
 ⟨some 41, .mki 130 (.tmp 40), none⟩,
 ⟨some 10, .mv (.tmp 41), none⟩])
 (.ret)) (.skip)))))))))))
 (.seq (.region [⟨some 42, .mv (.tmp 4), none⟩,
 ⟨some 10, .mv (.tmp 42), none⟩])
 (.ret)))
def A55 : AFunc := { ntmps := 43, results := [.tmp 10], body := B55, coe := true, keep := 0 }
theorem tr55 : trFunc Tryz.prog M55 true Tryz.f55 = some A55 := by kernel_rfl

/-- handloom/runes.begun -/
def M63 : Marks := { cut := fun _ => true, hd := fun | _ => [], ex := fun | _ => [], imm := fun | 3 => true | _ => false }
def B63 : ACode :=
 .seq (.region [⟨some 0, .mv (.con (.nilp)), none⟩])
 (.seq (.region [⟨some 1, .build [.int .i64 0, .int .i64 0] [(0, 1, (.con (.int .i64 1))), (1, 1, (.con (.int .i64 1)))], none⟩,
 ⟨some 2, .build [.int .i64 0, .int .i64 0] [(0, 2, (.tmp 1))], none⟩,
 ⟨some 3, .box true (.tmp 2), none⟩,
 ⟨some 0, .mv (.tmp 3), none⟩])
 (.ret))
def A63 : AFunc := { ntmps := 4, results := [.tmp 0], body := B63, coe := true, keep := 0 }
theorem tr63 : trFunc Tryz.prog M63 true Tryz.f63 = some A63 := by kernel_rfl

/-- strings.HasPrefix -/
def M64 : Marks := { cut := fun _ => true, hd := fun | _ => [], ex := fun | _ => [], imm := fun | _ => false }
def B64 : ACode :=
 .seq (.region [⟨some 4, .mv (.con (.bool false)), none⟩])
 (.seq (.region [⟨some 5, .mv (.tmp 0), none⟩,
 ⟨some 6, .mv (.tmp 1), none⟩,
 ⟨some 7, .call (.fn 46) [(.tmp 5), (.tmp 6)], none⟩,
 ⟨some 4, .mv (.tmp 7), none⟩])
 (.ret))
def A64 : AFunc := { ntmps := 8, results := [.tmp 4], body := B64, coe := true, keep := 0 }
theorem tr64 : trFunc Tryz.prog M64 true Tryz.f64 = some A64 := by kernel_rfl

/-- (*handloom/runes.walker).past -/
def M65 : Marks := { cut := fun _ => true, hd := fun | _ => [], ex := fun | _ => [], imm := fun | _ => false }
def B65 : ACode :=
 .seq (.region [⟨some 4, .mv (.tmp 0), none⟩,
 ⟨some 5, .nilchk (.tmp 4), none⟩,
 ⟨some 6, .addOff 0 (.tmp 5), none⟩,
 ⟨some 7, .addOff 1 (.tmp 6), none⟩,
 ⟨some 8, .load none (.tmp 7), none⟩,
 ⟨some 9, .bin .add (.tmp 8) (.con (.int .i64 1)), none⟩,
 ⟨some 10, .nilchk (.tmp 4), none⟩,
 ⟨some 11, .addOff 0 (.tmp 10), none⟩,
 ⟨some 12, .addOff 1 (.tmp 11), none⟩,
 ⟨none, .store 1 (.tmp 12) (.tmp 9), none⟩])
 (.seq (.region [⟨some 13, .mv (.tmp 1), none⟩,
 ⟨some 14, .bin .eql (.tmp 13) (.con (.int .i32 10)), none⟩])
 (.cond (.tmp 14) (.region [⟨some 15, .mv (.tmp 0), none⟩,
 ⟨some 16, .mv (.tmp 0), none⟩,
 ⟨some 17, .mv (.tmp 0), none⟩,
 ⟨some 18, .nilchk (.tmp 17), none⟩,
 ⟨some 19, .addOff 0 (.tmp 18), none⟩,
 ⟨some 20, .addOff 0 (.tmp 19), none⟩,
 ⟨some 21, .load none (.tmp 20), none⟩,
 ⟨some 22, .bin .add (.tmp 21) (.con (.int .i64 1)), none⟩,
 ⟨some 23, .nilchk (.tmp 15), none⟩,
 ⟨some 24, .addOff 0 (.tmp 23), none⟩,
 ⟨some 25, .addOff 0 (.tmp 24), none⟩,
 ⟨none, .store 1 (.tmp 25) (.tmp 22), none⟩,
 ⟨some 26, .nilchk (.tmp 16), none⟩,
 ⟨some 27, .addOff 0 (.tmp 26), none⟩,
 ⟨some 28, .addOff 1 (.tmp 27), none⟩,
 ⟨none, .store 1 (.tmp 28) (.con (.int .i64 1)), none⟩]) (.skip)))
def A65 : AFunc := { ntmps := 29, results := [], body := B65, coe := true, keep := 0 }
theorem tr65 : trFunc Tryz.prog M65 true Tryz.f65 = some A65 := by kernel_rfl

/-- (*handloom/lex.reader).take -/
def M66 : Marks := { cut := fun _ => true, hd := fun | _ => [], ex := fun | _ => [], imm := fun | _ => false }
def B66 : ACode :=
 .seq (.region [⟨some 2, .box false (.tmp 0), none⟩,
 ⟨some 3, .box false (.tmp 1), none⟩,
 ⟨some 4, .mv (.con (.nilf)), none⟩])
 (.seq (.region [⟨some 5, .mkf (.func 96) [] [(.tmp 2), (.tmp 3)], none⟩,
 ⟨some 4, .mv (.tmp 5), none⟩])
 (.ret))
def A66 : AFunc := { ntmps := 6, results := [.tmp 4], body := B66, coe := true, keep := 0 }
theorem tr66 : trFunc Tryz.prog M66 true Tryz.f66 = some A66 := by kernel_rfl

/-- handloom/runes.Blank -/
def M67 : Marks := { cut := fun _ => true, hd := fun | _ => [], ex := fun | _ => [], imm := fun | _ => false }
def B67 : ACode :=
 .seq (.region [⟨some 2, .mv (.con (.bool false)), none⟩])
 (.seq (.seq (.region [⟨some 3, .mv (.tmp 0), none⟩])
 (.block 0 (.seq (.seq (.region [⟨some 5, .bin .eql (.tmp 3) (.con (.int .i32 9)), none⟩,
 ⟨some 4, .mv (.tmp 5), none⟩])
 (.cond (.tmp 4) (.skip) (.seq (.region [⟨some 6, .bin .eql (.tmp 3) (.con (.int .i32 10)), none⟩,
 ⟨some 4, .mv (.tmp 6), none⟩])
 (.cond (.tmp 4) (.skip) (.seq (.region [⟨some 7, .bin .eql (.tmp 3) (.con (.int .i32 13)), none⟩,
 ⟨some 4, .mv (.tmp 7), none⟩])
 (.cond (.tmp 4) (.skip) (.region [⟨some 8, .bin .eql (.tmp 3) (.con (.int .i32 32)), none⟩,
 ⟨some 4, .mv (.tmp 8), none⟩])))))))
 (.cond (.tmp 4) (.seq (.region [⟨some 2, .mv (.con (.bool true)), none⟩])
 (.ret)) (.skip)))))
 (.seq (.region [⟨some 2, .mv (.con (.bool false)), none⟩])
 (.ret)))
def A67 : AFunc := { ntmps := 9, results := [.tmp 2], body := B67, coe := true, keep := 0 }
theorem tr67 : trFunc Tryz.prog M67 true Tryz.f67 = some A67 := by kernel_rfl

/-- (*handloom/lex.reader).peek -/
def M68 : Marks := { cut := fun _ => true, hd := fun | _ => [], ex := fun | _ => [], imm := fun | _ => false }
def B68 : ACode :=
 .seq (.region [⟨some 4, .mv (.con (.int .i32 0)), none⟩])
 (.seq (.seq (.draw [⟨some 5, .mv (.tmp 0), none⟩,
 ⟨some 6, .nilchk (.tmp 5), none⟩,
 ⟨some 7, .addOff 1 (.tmp 6), none⟩,
 ⟨some 8, .load none (.tmp 7), none⟩,
 ⟨some 9, .mv (.tmp 1), none⟩,
 ⟨some 10, .bin .add (.tmp 8) (.tmp 9), none⟩,
 ⟨some 11, .mv (.tmp 0), none⟩,
 ⟨some 12, .nilchk (.tmp 11), none⟩,
 ⟨some 13, .addOff 0 (.tmp 12), none⟩,
 ⟨some 14, .load none (.tmp 13), none⟩,
 ⟨some 15, .len false (.tmp 14), none⟩,
 ⟨some 16, .bin .geq (.tmp 10) (.tmp 15), none⟩] [])
 (.cond (.tmp 16) (.seq (.region [⟨some 4, .mv (.con (.int .i32 (-1))), none⟩])
 (.ret)) (.skip)))
 (.seq (.draw [⟨some 17, .mv (.tmp 0), none⟩,
 ⟨some 18, .nilchk (.tmp 17), none⟩,
 ⟨some 19, .addOff 0 (.tmp 18), none⟩,
 ⟨some 20, .load none (.tmp 19), none⟩,
 ⟨some 21, .mv (.tmp 0), none⟩,
 ⟨some 22, .nilchk (.tmp 21), none⟩,
 ⟨some 23, .addOff 1 (.tmp 22), none⟩,
 ⟨some 24, .load none (.tmp 23), none⟩,
 ⟨some 25, .mv (.tmp 1), none⟩,
 ⟨some 26, .bin .add (.tmp 24) (.tmp 25), none⟩,
 ⟨some 27, .idxAddr 4 (.tmp 20) (.tmp 26), none⟩,
 ⟨some 28, .addOff 0 (.tmp 27), none⟩,
 ⟨some 29, .load none (.tmp 28), none⟩,
 ⟨some 4, .mv (.tmp 29), none⟩] [])
 (.ret)))
def A68 : AFunc := { ntmps := 30, results := [.tmp 4], body := B68, coe := true, keep := 0 }
theorem tr68 : trFunc Tryz.prog M68 true Tryz.f68 = some A68 := by kernel_rfl

/-- (*handloom/lex.reader).skip$1 -/
def M69 : Marks := { cut := fun _ => true, hd := fun | _ => [], ex := fun | _ => [], imm := fun | _ => false }
def B69 : ACode :=
 .seq (.region [⟨some 2, .mv (.con (.bool false)), none⟩])
 (.seq (.region [⟨some 3, .mv (.tmp 0), none⟩,
 ⟨some 4, .bin .neq (.tmp 3) (.con (.int .i32 10)), none⟩,
 ⟨some 2, .mv (.tmp 4), none⟩])
 (.ret))
def A69 : AFunc := { ntmps := 5, results := [.tmp 2], body := B69, coe := true, keep := 0 }
theorem tr69 : trFunc Tryz.prog M69 true Tryz.f69 = some A69 := by kernel_rfl

/-- handloom/runes.Low -/
def M70 : Marks := { cut := fun _ => true, hd := fun | _ => [], ex := fun | _ => [], imm := fun | _ => false }
def B70 : ACode :=
 .seq (.region [⟨some 2, .mv (.con (.bool false)), none⟩])
 (.seq (.region [⟨some 3, .mv (.tmp 0), none⟩,
 ⟨some 4, .bin .geq (.tmp 3) (.con (.int .i32 97)), none⟩,
 ⟨some 5, .mv (.tmp 4), none⟩,
 ⟨some 6, .mv (.tmp 0), (some (5, true))⟩,
 ⟨some 7, .bin .leq (.tmp 6) (.con (.int .i32 122)), (some (5, true))⟩,
 ⟨some 8, .pick (.tmp 5) (.tmp 7) (.con (.bool false)), none⟩,
 ⟨some 9, .mv (.tmp 8), none⟩,
 ⟨some 10, .mv (.tmp 0), (some (9, false))⟩,
 ⟨some 11, .bin .geq (.tmp 10) (.con (.int .i32 128)), (some (9, false))⟩,
 ⟨some 12, .mv (.tmp 11), (some (9, false))⟩,
 ⟨some 13, .mv (.tmp 0), (some (12, true))⟩,
 ⟨some 14, .call (.fn 97) [(.tmp 13)], (some (12, true))⟩,
 ⟨some 15, .pick (.tmp 12) (.tmp 14) (.con (.bool false)), (some (9, false))⟩,
 ⟨some 16, .pick (.tmp 9) (.con (.bool true)) (.tmp 15), none⟩,
 ⟨some 2, .mv (.tmp 16), none⟩])
 (.ret))
def A70 : AFunc := { ntmps := 17, results := [.tmp 2], body := B70, coe := true, keep := 0 }
theorem tr70 : trFunc Tryz.prog M70 true Tryz.f70 = some A70 := by kernel_rfl

/-- handloom/runes.Up -/
def M71 : Marks := { cut := fun _ => true, hd := fun | _ => [], ex := fun | _ => [], imm := fun | _ => false }
def B71 : ACode :=
 .seq (.region [⟨some 2, .mv (.con (.bool false)), none⟩])
 (.seq (.region [⟨some 3, .mv (.tmp 0), none⟩,
 ⟨some 4, .bin .geq (.tmp 3) (.con (.int .i32 65)), none⟩,
 ⟨some 5, .mv (.tmp 4), none⟩,
 ⟨some 6, .mv (.tmp 0), (some (5, true))⟩,
 ⟨some 7, .bin .leq (.tmp 6) (.con (.int .i32 90)), (some (5, true))⟩,
 ⟨some 8, .pick (.tmp 5) (.tmp 7) (.con (.bool false)), none⟩,
 ⟨some 2, .mv (.tmp 8), none⟩])
 (.ret))
def A71 : AFunc := { ntmps := 9, results := [.tmp 2], body := B71, coe := true, keep := 0 }
theorem tr71 : trFunc Tryz.prog M71 true Tryz.f71 = some A71 := by kernel_rfl

/-- (*handloom/lex.reader).name -/
abbrev S72R0 : List Bool := [false, false, false, false, true, true]
def M72 : Marks := { cut := fun _ => true, hd := fun | _ => [], ex := fun | _ => [], imm := fun | _ => false, sn := fun | 7 => [false, false, false, false, true, true] | _ => [] }
def N72R0 : ACode :=
 .region [⟨some 6, .mv (.tmp 18), none⟩]
def B72R0 : ACode :=
 .block 1 (.seq (.region [⟨some 19, .mv (.tmp 6), none⟩,
 ⟨some 20, .call (.fn 99) [(.tmp 4), (.tmp 19)], none⟩])
 (.region [⟨some 21, .load none (.tmp 5), none⟩,
 ⟨some 22, .bin .add (.tmp 21) (.con (.int .i64 1)), none⟩,
 ⟨none, .store 1 (.tmp 5) (.tmp 22), none⟩]))
def B72 : ACode :=
 .seq (.region [⟨some 7, .mv (.tmp 1), none⟩,
 ⟨some 8, .nilchk (.tmp 7), none⟩,
 ⟨some 9, .addOff 0 (.tmp 8), none⟩,
 ⟨none, .store 1 (.tmp 9) (.con (.int .i64 1)), none⟩])
 (.seq (.seq (.region [⟨some 10, .mv (.tmp 0), none⟩,
 ⟨some 11, .call (.fn 68) [(.tmp 10), (.con (.int .i64 0))], none⟩,
 ⟨some 12, .call (.fn 71) [(.tmp 11)], none⟩])
 (.cond (.tmp 12) (.region [⟨some 13, .mv (.tmp 1), none⟩,
 ⟨some 14, .nilchk (.tmp 13), none⟩,
 ⟨some 15, .addOff 0 (.tmp 14), none⟩,
 ⟨none, .store 1 (.tmp 15) (.con (.int .i64 2)), none⟩]) (.skip)))
 (.seq (.region [⟨some 4, .alloc [.ok (.nilp), .error 1] 86, none⟩])
 (.seq (.region [⟨some 5, .alloc [.ok (.int .i64 0)], none⟩,
 ⟨none, .store 1 (.tmp 5) (.con (.int .i64 0)), none⟩])
 (.seq (.seq (.region [⟨some 16, .mv (.tmp 0), none⟩,
 ⟨some 17, .call (.fn 66) [(.tmp 16), (.fn 98)], none⟩])
 (.block 0 (.rangeFn (.tmp 17) [18] [false, false, false, false, true, true] N72R0 B72R0)))
 (.seq (.seq (.region [⟨some 23, .mv (.tmp 1), none⟩,
 ⟨some 24, .call (.fn 43) [(.tmp 4)], none⟩,
 ⟨some 25, .nilchk (.tmp 23), none⟩,
 ⟨some 26, .addOff 1 (.tmp 25), none⟩,
 ⟨none, .store 1 (.tmp 26) (.tmp 24), none⟩])
 (.seq (.region [⟨some 27, .load none (.tmp 5), none⟩,
 ⟨some 28, .bin .gtr (.tmp 27) (.con (.int .i64 24)), none⟩])
 (.cond (.tmp 28) (.region [⟨some 29, .mv (.tmp 0), none⟩,
 ⟨some 30, .mv (.tmp 1), none⟩,
 ⟨some 31, .nilchk (.tmp 30), none⟩,
 ⟨some 32, .addOff 4 (.tmp 31), none⟩,
 ⟨some 33, .load (some 2) (.tmp 32), none⟩,
 ⟨some 34, .call (.fn 51) [(.tmp 29), (.con (.int .i64 5)), (.tmp 33)], none⟩]) (.skip))))
 (.seq (.region [⟨some 35, .mv (.tmp 1), none⟩,
 ⟨some 36, .nilchk (.tmp 35), none⟩,
 ⟨some 37, .addOff 1 (.tmp 36), none⟩,
 ⟨some 38, .load none (.tmp 37), none⟩,
 ⟨some 39, .call (.fn 100) [(.tmp 38)], none⟩])
 (.cond (.tmp 39) (.region [⟨some 40, .mv (.tmp 1), none⟩,
 ⟨some 41, .nilchk (.tmp 40), none⟩,
 ⟨some 42, .addOff 0 (.tmp 41), none⟩,
 ⟨none, .store 1 (.tmp 42) (.con (.int .i64 5)), none⟩]) (.skip))))))))
def A72 : AFunc := { ntmps := 43, results := [], body := B72, coe := true, keep := 0 }
theorem tr72 : trFunc Tryz.prog M72 true Tryz.f72 = some A72 := by kernel_rfl

/-- handloom/runes.Digit -/
def M73 : Marks := { cut := fun _ => true, hd := fun | _ => [], ex := fun | _ => [], imm := fun | _ => false }
def B73 : ACode :=
 .seq (.region [⟨some 2, .mv (.con (.bool false)), none⟩])
 (.seq (.region [⟨some 3, .mv (.tmp 0), none⟩,
 ⟨some 4, .bin .geq (.tmp 3) (.con (.int .i32 48)), none⟩,
 ⟨some 5, .mv (.tmp 4), none⟩,
 ⟨some 6, .mv (.tmp 0), (some (5, true))⟩,
 ⟨some 7, .bin .leq (.tmp 6) (.con (.int .i32 57)), (some (5, true))⟩,
 ⟨some 8, .pick (.tmp 5) (.tmp 7) (.con (.bool false)), none⟩,
 ⟨some 2, .mv (.tmp 8), none⟩])
 (.ret))
def A73 : AFunc := { ntmps := 9, results := [.tmp 2], body := B73, coe := true, keep := 0 }
theorem tr73 : trFunc Tryz.prog M73 true Tryz.f73 = some A73 := by kernel_rfl

/-- (*handloom/lex.reader).number -/
abbrev S74R0 : List Bool := [false, false, false, true, true]
def M74 : Marks := { cut := fun _ => true, hd := fun | _ => [], ex := fun | _ => [], imm := fun | 3 => true | _ => false, sn := fun | 5 => [false, false, false, true, true] | _ => [] }
def N74R0 : ACode :=
 .region [⟨some 5, .mv (.tmp 12), none⟩]
def B74R0 : ACode :=
 .block 1 (.seq (.region [⟨some 13, .mv (.tmp 5), none⟩,
 ⟨some 14, .bin .sub (.tmp 13) (.con (.int .i32 48)), none⟩,
 ⟨some 15, .cvt .i64 (.tmp 14), none⟩,
 ⟨some 6, .mv (.tmp 15), none⟩])
 (.seq (.region [⟨some 16, .load none (.tmp 4), none⟩,
 ⟨some 17, .mv (.tmp 16), none⟩,
 ⟨some 18, .load none (.tmp 3), (some (17, false))⟩,
 ⟨some 19, .nilchk (.tmp 18), (some (17, false))⟩,
 ⟨some 20, .addOff 2 (.tmp 19), (some (17, false))⟩,
 ⟨some 21, .load none (.tmp 20), (some (17, false))⟩,
 ⟨some 22, .mv (.tmp 6), (some (17, false))⟩,
 ⟨some 23, .bin .sub (.con (.int .i64 4611686018427387903)) (.tmp 22), (some (17, false))⟩,
 ⟨some 24, .bin .quo (.tmp 23) (.con (.int .i64 10)), (some (17, false))⟩,
 ⟨some 25, .bin .gtr (.tmp 21) (.tmp 24), (some (17, false))⟩,
 ⟨some 26, .pick (.tmp 17) (.con (.bool true)) (.tmp 25), none⟩,
 ⟨none, .store 1 (.tmp 4) (.tmp 26), none⟩])
 (.seq (.region [⟨some 27, .load none (.tmp 4), none⟩,
 ⟨some 28, .un .not (.tmp 27), none⟩])
 (.cond (.tmp 28) (.draw [⟨some 29, .load none (.tmp 3), none⟩,
 ⟨some 30, .load none (.tmp 3), none⟩,
 ⟨some 31, .nilchk (.tmp 30), none⟩,
 ⟨some 32, .addOff 2 (.tmp 31), none⟩,
 ⟨some 33, .load none (.tmp 32), none⟩,
 ⟨some 34, .bin .mul (.tmp 33) (.con (.int .i64 10)), none⟩,
 ⟨some 35, .mv (.tmp 6), none⟩,
 ⟨some 36, .bin .add (.tmp 34) (.tmp 35), none⟩,
 ⟨some 37, .nilchk (.tmp 29), none⟩,
 ⟨some 38, .addOff 2 (.tmp 37), none⟩,
 ⟨none, .store 1 (.tmp 38) (.tmp 36), none⟩] []) (.skip)))))
def B74 : ACode :=
 .seq (.region [⟨some 3, .box true (.tmp 1), none⟩])
 (.seq (.region [⟨some 7, .load none (.tmp 3), none⟩,
 ⟨some 8, .nilchk (.tmp 7), none⟩,
 ⟨some 9, .addOff 0 (.tmp 8), none⟩,
 ⟨none, .store 1 (.tmp 9) (.con (.int .i64 3)), none⟩])
 (.seq (.region [⟨some 4, .alloc [.ok (.bool false)], none⟩,
 ⟨none, .store 1 (.tmp 4) (.con (.bool false)), none⟩])
 (.seq (.seq (.region [⟨some 10, .mv (.tmp 0), none⟩,
 ⟨some 11, .call (.fn 66) [(.tmp 10), (.fn 73)], none⟩])
 (.block 0 (.rangeFn (.tmp 11) [12] [false, false, false, true, true] N74R0 B74R0)))
 (.seq (.region [⟨some 39, .load none (.tmp 4), none⟩])
 (.cond (.tmp 39) (.region [⟨some 40, .mv (.tmp 0), none⟩,
 ⟨some 41, .load none (.tmp 3), none⟩,
 ⟨some 42, .nilchk (.tmp 41), none⟩,
 ⟨some 43, .addOff 4 (.tmp 42), none⟩,
 ⟨some 44, .load (some 2) (.tmp 43), none⟩,
 ⟨some 45, .call (.fn 51) [(.tmp 40), (.con (.int .i64 3)), (.tmp 44)], none⟩]) (.skip))))))
def A74 : AFunc := { ntmps := 46, results := [], body := B74, coe := true, keep := 0 }
theorem tr74 : trFunc Tryz.prog M74 true Tryz.f74 = some A74 := by kernel_rfl

/-- (*handloom/lex.reader).text -/
abbrev H75L2 : List Bool := [true, true]
abbrev X75L2 : List Bool := []
def M75 : Marks := { cut := fun _ => true, hd := fun | 2 => H75L2 | _ => [], ex := fun | 2 => X75L2 | _ => [], imm := fun | 84 => true | _ => false, alts := fun | 7 => [[0, 1, 2, 3, 5, 6, 4, 7, 8, 9, 10]] | _ => [] }
def B75L2 : ACode :=
 .block 1 (.seq (.region [⟨some 17, .mv (.tmp 0), none⟩,
 ⟨some 18, .call (.fn 68) [(.tmp 17), (.con (.int .i64 0))], none⟩,
 ⟨some 4, .mv (.tmp 18), none⟩])
 (.seq (.seq (.region [⟨some 19, .mv (.tmp 4), none⟩,
 ⟨some 20, .bin .lss (.tmp 19) (.con (.int .i32 0)), none⟩,
 ⟨some 21, .mv (.tmp 20), none⟩,
 ⟨some 22, .mv (.tmp 4), (some (21, false))⟩,
 ⟨some 23, .bin .eql (.tmp 22) (.con (.int .i32 10)), (some (21, false))⟩,
 ⟨some 24, .pick (.tmp 21) (.con (.bool true)) (.tmp 23), none⟩])
 (.cond (.tmp 24) (.seq (.region [⟨some 25, .mv (.tmp 0), none⟩,
 ⟨some 26, .mv (.tmp 1), none⟩,
 ⟨some 27, .nilchk (.tmp 26), none⟩,
 ⟨some 28, .addOff 4 (.tmp 27), none⟩,
 ⟨some 29, .load (some 2) (.tmp 28), none⟩,
 ⟨some 30, .call (.fn 51) [(.tmp 25), (.con (.int .i64 4)), (.tmp 29)], none⟩])
 (.ret)) (.skip)))
 (.seq (.region [⟨some 31, .mv (.tmp 0), none⟩,
 ⟨some 32, .nilchk (.tmp 31), none⟩,
 ⟨some 33, .addOff 1 (.tmp 32), none⟩,
 ⟨some 34, .load none (.tmp 33), none⟩,
 ⟨some 35, .bin .add (.tmp 34) (.con (.int .i64 1)), none⟩,
 ⟨some 36, .nilchk (.tmp 31), none⟩,
 ⟨some 37, .addOff 1 (.tmp 36), none⟩,
 ⟨none, .store 1 (.tmp 37) (.tmp 35), none⟩])
 (.seq (.region [⟨some 38, .mv (.tmp 4), none⟩])
 (.block 2 (.seq (.region [⟨some 50, .bin .eql (.tmp 38) (.con (.int .i32 34)), none⟩,
 ⟨some 49, .mv (.tmp 50), none⟩])
 (.cond (.tmp 49) (.seq (.seq (.region [⟨some 51, .mv (.tmp 1), none⟩,
 ⟨some 52, .nilchk (.tmp 51), none⟩,
 ⟨some 53, .addOff 3 (.tmp 52), none⟩,
 ⟨some 54, .load none (.tmp 53), none⟩,
 ⟨some 55, .len false (.tmp 54), none⟩,
 ⟨some 56, .bin .gtr (.tmp 55) (.con (.int .i64 64)), none⟩])
 (.cond (.tmp 56) (.region [⟨some 57, .mv (.tmp 0), none⟩,
 ⟨some 58, .mv (.tmp 1), none⟩,
 ⟨some 59, .nilchk (.tmp 58), none⟩,
 ⟨some 60, .addOff 4 (.tmp 59), none⟩,
 ⟨some 61, .load (some 2) (.tmp 60), none⟩,
 ⟨some 62, .call (.fn 51) [(.tmp 57), (.con (.int .i64 5)), (.tmp 61)], none⟩]) (.skip)))
 (.ret)) (.seq (.region [⟨some 64, .bin .eql (.tmp 38) (.con (.int .i32 92)), none⟩,
 ⟨some 63, .mv (.tmp 64), none⟩])
 (.cond (.tmp 63) (.seq (.region [⟨some 66, .mv (.tmp 0), none⟩,
 ⟨some 67, .call (.fn 101) [(.tmp 66)], none⟩,
 ⟨some 65, .mv (.tmp 67), none⟩,
 ⟨some 68, .ext 0 (.tmp 65), none⟩,
 ⟨some 69, .ext 1 (.tmp 65), none⟩,
 ⟨some 5, .mv (.tmp 68), none⟩,
 ⟨some 6, .mv (.tmp 69), none⟩])
 (.seq (.seq (.region [⟨some 70, .mv (.tmp 6), none⟩,
 ⟨some 71, .un .not (.tmp 70), none⟩])
 (.cond (.tmp 71) (.seq (.region [⟨some 72, .mv (.tmp 0), none⟩,
 ⟨some 73, .mv (.tmp 1), none⟩,
 ⟨some 74, .nilchk (.tmp 73), none⟩,
 ⟨some 75, .addOff 4 (.tmp 74), none⟩,
 ⟨some 76, .load (some 2) (.tmp 75), none⟩,
 ⟨some 77, .call (.fn 51) [(.tmp 72), (.con (.int .i64 4)), (.tmp 76)], none⟩])
 (.ret)) (.skip)))
 (.region [⟨some 78, .mv (.tmp 1), none⟩,
 ⟨some 79, .mv (.tmp 1), none⟩,
 ⟨some 80, .nilchk (.tmp 79), none⟩,
 ⟨some 81, .addOff 3 (.tmp 80), none⟩,
 ⟨some 82, .load none (.tmp 81), none⟩,
 ⟨some 83, .mv (.tmp 5), none⟩,
 ⟨some 84, .lit true 5 1 1 [.int .u8 0] [(0, (.tmp 83))], none⟩,
 ⟨some 85, .app false 5 1 1 (.tmp 82) (.tmp 84), none⟩,
 ⟨some 86, .nilchk (.tmp 78), none⟩,
 ⟨some 87, .addOff 3 (.tmp 86), none⟩,
 ⟨none, .store 1 (.tmp 87) (.tmp 85), none⟩]))) (.draw [⟨some 39, .mv (.tmp 1), none⟩,
 ⟨some 40, .mv (.tmp 1), none⟩,
 ⟨some 41, .nilchk (.tmp 40), none⟩,
 ⟨some 42, .addOff 3 (.tmp 41), none⟩,
 ⟨some 43, .load none (.tmp 42), none⟩,
 ⟨some 44, .mv (.tmp 4), none⟩,
 ⟨some 45, .call (.fn 102) [(.tmp 44)], none⟩,
 ⟨some 46, .app false 5 1 1 (.tmp 43) (.tmp 45), none⟩,
 ⟨some 47, .nilchk (.tmp 39), none⟩,
 ⟨some 48, .addOff 3 (.tmp 47), none⟩,
 ⟨none, .store 1 (.tmp 48) (.tmp 46), none⟩] [[⟨some 39, .mv (.tmp 1), none⟩, ⟨some 40, .mv (.tmp 1), none⟩, ⟨some 41, .nilchk (.tmp 40), none⟩, ⟨some 42, .addOff 3 (.tmp 41), none⟩, ⟨some 44, .mv (.tmp 4), none⟩, ⟨some 45, .call (.fn 102) [(.tmp 44)], none⟩, ⟨some 43, .load none (.tmp 42), none⟩, ⟨some 46, .app false 5 1 1 (.tmp 43) (.tmp 45), none⟩, ⟨some 47, .nilchk (.tmp 39), none⟩, ⟨some 48, .addOff 3 (.tmp 47), none⟩, ⟨none, .store 1 (.tmp 48) (.tmp 46), none⟩]]))))))))))
def B75 : ACode :=
 .seq (.region [⟨some 7, .mv (.tmp 1), none⟩,
 ⟨some 8, .nilchk (.tmp 7), none⟩,
 ⟨some 9, .addOff 0 (.tmp 8), none⟩,
 ⟨none, .store 1 (.tmp 9) (.con (.int .i64 4)), none⟩])
 (.seq (.region [⟨some 10, .mv (.tmp 0), none⟩,
 ⟨some 11, .nilchk (.tmp 10), none⟩,
 ⟨some 12, .addOff 1 (.tmp 11), none⟩,
 ⟨some 13, .load none (.tmp 12), none⟩,
 ⟨some 14, .bin .add (.tmp 13) (.con (.int .i64 1)), none⟩,
 ⟨some 15, .nilchk (.tmp 10), none⟩,
 ⟨some 16, .addOff 1 (.tmp 15), none⟩,
 ⟨none, .store 1 (.tmp 16) (.tmp 14), none⟩])
 (.block 0 (.loop true H75L2 X75L2 B75L2)))
def A75 : AFunc := { ntmps := 88, results := [], body := B75, coe := true, keep := 0 }
theorem tr75 : trFunc Tryz.prog M75 true Tryz.f75 = some A75 := by kernel_rfl

/-- (*handloom/lex.reader).sign -/
abbrev H76L10 : List Bool := [true, true, false, false, false, false, false, false, false, false, false, false, false, false, false, false, false, false, false, false, false, false, false, false, false, false, false, false, false, false, false, false, false, false, false, false, false, false, false, false, false, false, false, false, false, false, false, false, true, true]
abbrev X76L10 : List Bool := []
def M76 : Marks := { cut := fun _ => true, hd := fun | 10 => H76L10 | _ => [], ex := fun | 10 => X76L10 | _ => [], imm := fun | _ => false, alts := fun | 11 => [[0, 1, 2, 4, 5, 3, 6, 7, 8, 9, 10]] | _ => [] }
def B76L10 : ACode :=
 .seq (.region [⟨some 50, .bin .lss (.tmp 49) (.tmp 48), none⟩])
 (.seq (.cond (.tmp 50) (.skip) (.exit 1))
 (.seq (.block 2 (.seq (.draw [⟨some 51, .mv (.tmp 1), none⟩,
 ⟨some 52, .nilchk (.tmp 51), none⟩,
 ⟨some 53, .addOff 1 (.tmp 52), none⟩,
 ⟨some 54, .load none (.tmp 53), none⟩,
 ⟨some 55, .mv (.tmp 0), none⟩,
 ⟨some 56, .call (.fn 68) [(.tmp 55), (.con (.int .i64 0))], none⟩,
 ⟨some 57, .rstr (.tmp 56), none⟩,
 ⟨some 58, .bin .add (.tmp 54) (.tmp 57), none⟩,
 ⟨some 59, .nilchk (.tmp 51), none⟩,
 ⟨some 60, .addOff 1 (.tmp 59), none⟩,
 ⟨none, .store 1 (.tmp 60) (.tmp 58), none⟩] [[⟨some 51, .mv (.tmp 1), none⟩, ⟨some 52, .nilchk (.tmp 51), none⟩, ⟨some 53, .addOff 1 (.tmp 52), none⟩, ⟨some 55, .mv (.tmp 0), none⟩, ⟨some 56, .call (.fn 68) [(.tmp 55), (.con (.int .i64 0))], none⟩, ⟨some 54, .load none (.tmp 53), none⟩, ⟨some 57, .rstr (.tmp 56), none⟩, ⟨some 58, .bin .add (.tmp 54) (.tmp 57), none⟩, ⟨some 59, .nilchk (.tmp 51), none⟩, ⟨some 60, .addOff 1 (.tmp 59), none⟩, ⟨none, .store 1 (.tmp 60) (.tmp 58), none⟩]])
 (.region [⟨some 61, .mv (.tmp 0), none⟩,
 ⟨some 62, .nilchk (.tmp 61), none⟩,
 ⟨some 63, .addOff 1 (.tmp 62), none⟩,
 ⟨some 64, .load none (.tmp 63), none⟩,
 ⟨some 65, .bin .add (.tmp 64) (.con (.int .i64 1)), none⟩,
 ⟨some 66, .nilchk (.tmp 61), none⟩,
 ⟨some 67, .addOff 1 (.tmp 66), none⟩,
 ⟨none, .store 1 (.tmp 67) (.tmp 65), none⟩])))
 (.region [⟨some 68, .bin .add (.tmp 49) (.con (.int .i64 1)), none⟩,
 ⟨some 49, .mv (.tmp 68), none⟩])))
def B76 : ACode :=
 .seq (.region [⟨some 7, .mv (.tmp 1), none⟩,
 ⟨some 8, .nilchk (.tmp 7), none⟩,
 ⟨some 9, .addOff 0 (.tmp 8), none⟩,
 ⟨none, .store 1 (.tmp 9) (.con (.int .i64 6)), none⟩])
 (.seq (.region [⟨some 10, .mv (.tmp 0), none⟩,
 ⟨some 11, .call (.fn 68) [(.tmp 10), (.con (.int .i64 0))], none⟩,
 ⟨some 12, .mv (.tmp 0), none⟩,
 ⟨some 13, .call (.fn 68) [(.tmp 12), (.con (.int .i64 1))], none⟩,
 ⟨some 4, .mv (.tmp 11), none⟩,
 ⟨some 5, .mv (.tmp 13), none⟩])
 (.seq (.region [⟨some 6, .mv (.con (.int .i64 1)), none⟩])
 (.seq (.block 0 (.seq (.seq (.region [⟨some 15, .mv (.tmp 4), none⟩,
 ⟨some 16, .bin .eql (.tmp 15) (.con (.int .i32 45)), none⟩,
 ⟨some 17, .mv (.tmp 16), none⟩,
 ⟨some 18, .mv (.tmp 5), (some (17, true))⟩,
 ⟨some 19, .bin .eql (.tmp 18) (.con (.int .i32 62)), (some (17, true))⟩,
 ⟨some 20, .pick (.tmp 17) (.tmp 19) (.con (.bool false)), none⟩,
 ⟨some 14, .mv (.tmp 20), none⟩])
 (.cond (.tmp 14) (.skip) (.seq (.region [⟨some 21, .mv (.tmp 4), none⟩,
 ⟨some 22, .bin .eql (.tmp 21) (.con (.int .i32 60)), none⟩,
 ⟨some 23, .mv (.tmp 22), none⟩,
 ⟨some 24, .mv (.tmp 5), (some (23, true))⟩,
 ⟨some 25, .bin .eql (.tmp 24) (.con (.int .i32 61)), (some (23, true))⟩,
 ⟨some 26, .pick (.tmp 23) (.tmp 25) (.con (.bool false)), none⟩,
 ⟨some 14, .mv (.tmp 26), none⟩])
 (.cond (.tmp 14) (.skip) (.region [⟨some 27, .mv (.tmp 4), none⟩,
 ⟨some 28, .bin .eql (.tmp 27) (.con (.int .i32 61)), none⟩,
 ⟨some 29, .mv (.tmp 28), none⟩,
 ⟨some 30, .mv (.tmp 5), (some (29, true))⟩,
 ⟨some 31, .bin .eql (.tmp 30) (.con (.int .i32 61)), (some (29, true))⟩,
 ⟨some 32, .pick (.tmp 29) (.tmp 31) (.con (.bool false)), none⟩,
 ⟨some 14, .mv (.tmp 32), none⟩])))))
 (.cond (.tmp 14) (.region [⟨some 6, .mv (.con (.int .i64 2)), none⟩]) (.seq (.region [⟨some 34, .mv (.tmp 4), none⟩,
 ⟨some 35, .bin .gtr (.tmp 34) (.con (.int .i32 126)), none⟩,
 ⟨some 36, .mv (.tmp 35), none⟩,
 ⟨some 37, .mv (.tmp 4), (some (36, false))⟩,
 ⟨some 38, .cvt .u8 (.tmp 37), (some (36, false))⟩,
 ⟨some 39, .call (.fn 103) [(.con (.str ⟨#[40, 41, 44, 124, 61, 58, 43, 45, 42, 47, 37, 60, 95, 126]⟩)), (.tmp 38)], (some (36, false))⟩,
 ⟨some 40, .bin .lss (.tmp 39) (.con (.int .i64 0)), (some (36, false))⟩,
 ⟨some 41, .pick (.tmp 36) (.con (.bool true)) (.tmp 40), none⟩,
 ⟨some 33, .mv (.tmp 41), none⟩])
 (.cond (.tmp 33) (.seq (.region [⟨some 42, .mv (.tmp 0), none⟩,
 ⟨some 43, .mv (.tmp 1), none⟩,
 ⟨some 44, .nilchk (.tmp 43), none⟩,
 ⟨some 45, .addOff 4 (.tmp 44), none⟩,
 ⟨some 46, .load (some 2) (.tmp 45), none⟩,
 ⟨some 47, .call (.fn 51) [(.tmp 42), (.con (.int .i64 2)), (.tmp 46)], none⟩])
 (.ret)) (.skip))))))
 (.seq (.region [⟨some 48, .mv (.tmp 6), none⟩,
 ⟨some 49, .mv (.con (.int .i64 0)), none⟩])
 (.block 1 (.loop true H76L10 X76L10 B76L10))))))
def A76 : AFunc := { ntmps := 69, results := [], body := B76, coe := true, keep := 0 }
theorem tr76 : trFunc Tryz.prog M76 true Tryz.f76 = some A76 := by kernel_rfl

/-- internal/strconv.ParseUint -/
abbrev H80L36 : List Bool := [false, true, false, false, false, false, false, false, true, true, true, true, true, true, false, false, false, false, false, false, false, false, false, false, false, false, false, false, false, false, false, false, false, false, false, false, false, false, false, false, false, false, false, false, false, false, false, false, false, false, false, false, false, false, false, false, false, false, false, false, false, false, false, false, false, false, false, false, false, false, false, false, false, false, false, false, false, false, false, false, false, false, false, false, false, false, false, false, false, false, false, false, false, false, false, false, false, false, false, true, true, true]
abbrev X80L36 : List Bool := [false, false, false, false, false, false, true, true, false, true, false, false, true, true]
def M80 : Marks := { cut := fun _ => true, hd := fun | 36 => H80L36 | _ => [], ex := fun | 36 => X80L36 | _ => [], imm := fun | _ => false }
def B80L36 : ACode :=
 .seq (.region [⟨some 102, .bin .lss (.tmp 101) (.tmp 100), none⟩])
 (.seq (.cond (.tmp 102) (.skip) (.exit 3))
 (.seq (.block 4 (.seq (.region [⟨some 103, .idxAddr 1 (.tmp 99) (.tmp 101), none⟩,
 ⟨some 104, .load none (.tmp 103), none⟩,
 ⟨some 15, .mv (.tmp 104), none⟩])
 (.seq (.region [⟨some 16, .mv (.con (.int .u8 0)), none⟩])
 (.seq (.block 5 (.seq (.region [⟨some 107, .mv (.tmp 15), none⟩,
 ⟨some 108, .bin .eql (.tmp 107) (.con (.int .u8 95)), none⟩,
 ⟨some 109, .mv (.tmp 108), none⟩,
 ⟨some 110, .mv (.tmp 8), (some (109, true))⟩,
 ⟨some 111, .pick (.tmp 109) (.tmp 110) (.con (.bool false)), none⟩,
 ⟨some 106, .mv (.tmp 111), none⟩])
 (.cond (.tmp 106) (.seq (.region [⟨some 12, .mv (.con (.bool true)), none⟩])
 (.exit 4)) (.seq (.region [⟨some 113, .mv (.tmp 15), none⟩,
 ⟨some 114, .bin .leq (.con (.int .u8 48)) (.tmp 113), none⟩,
 ⟨some 115, .mv (.tmp 114), none⟩,
 ⟨some 116, .mv (.tmp 15), (some (115, true))⟩,
 ⟨some 117, .bin .leq (.tmp 116) (.con (.int .u8 57)), (some (115, true))⟩,
 ⟨some 118, .pick (.tmp 115) (.tmp 117) (.con (.bool false)), none⟩,
 ⟨some 112, .mv (.tmp 118), none⟩])
 (.cond (.tmp 112) (.region [⟨some 119, .mv (.tmp 15), none⟩,
 ⟨some 120, .bin .sub (.tmp 119) (.con (.int .u8 48)), none⟩,
 ⟨some 16, .mv (.tmp 120), none⟩]) (.seq (.region [⟨some 122, .mv (.tmp 15), none⟩,
 ⟨some 123, .call (.fn 108) [(.tmp 122)], none⟩,
 ⟨some 124, .bin .leq (.con (.int .u8 97)) (.tmp 123), none⟩,
 ⟨some 125, .mv (.tmp 124), none⟩,
 ⟨some 126, .mv (.tmp 15), (some (125, true))⟩,
 ⟨some 127, .call (.fn 108) [(.tmp 126)], (some (125, true))⟩,
 ⟨some 128, .bin .leq (.tmp 127) (.con (.int .u8 122)), (some (125, true))⟩,
 ⟨some 129, .pick (.tmp 125) (.tmp 128) (.con (.bool false)), none⟩,
 ⟨some 121, .mv (.tmp 129), none⟩])
 (.cond (.tmp 121) (.region [⟨some 130, .mv (.tmp 15), none⟩,
 ⟨some 131, .call (.fn 108) [(.tmp 130)], none⟩,
 ⟨some 132, .bin .sub (.tmp 131) (.con (.int .u8 97)), none⟩,
 ⟨some 133, .bin .add (.tmp 132) (.con (.int .u8 10)), none⟩,
 ⟨some 16, .mv (.tmp 133), none⟩]) (.seq (.region [⟨some 105, .mki 127 (.con (.int .i64 2)), none⟩,
 ⟨some 6, .mv (.con (.int .u64 0)), none⟩,
 ⟨some 7, .mv (.tmp 105), none⟩])
 (.ret)))))))))
 (.seq (.seq (.region [⟨some 134, .mv (.tmp 16), none⟩,
 ⟨some 135, .mv (.tmp 1), none⟩,
 ⟨some 136, .cvt .u8 (.tmp 135), none⟩,
 ⟨some 137, .bin .geq (.tmp 134) (.tmp 136), none⟩])
 (.cond (.tmp 137) (.seq (.region [⟨some 138, .mki 127 (.con (.int .i64 2)), none⟩,
 ⟨some 6, .mv (.con (.int .u64 0)), none⟩,
 ⟨some 7, .mv (.tmp 138), none⟩])
 (.ret)) (.skip)))
 (.seq (.seq (.region [⟨some 139, .mv (.tmp 13), none⟩,
 ⟨some 140, .mv (.tmp 10), none⟩,
 ⟨some 141, .bin .geq (.tmp 139) (.tmp 140), none⟩])
 (.cond (.tmp 141) (.seq (.region [⟨some 142, .mv (.tmp 11), none⟩,
 ⟨some 143, .mki 127 (.con (.int .i64 1)), none⟩,
 ⟨some 6, .mv (.tmp 142), none⟩,
 ⟨some 7, .mv (.tmp 143), none⟩])
 (.ret)) (.skip)))
 (.seq (.region [⟨some 144, .mv (.tmp 13), none⟩,
 ⟨some 145, .mv (.tmp 1), none⟩,
 ⟨some 146, .cvt .u64 (.tmp 145), none⟩,
 ⟨some 147, .bin .mul (.tmp 144) (.tmp 146), none⟩,
 ⟨some 13, .mv (.tmp 147), none⟩])
 (.seq (.region [⟨some 148, .mv (.tmp 13), none⟩,
 ⟨some 149, .mv (.tmp 16), none⟩,
 ⟨some 150, .cvt .u64 (.tmp 149), none⟩,
 ⟨some 151, .bin .add (.tmp 148) (.tmp 150), none⟩,
 ⟨some 17, .mv (.tmp 151), none⟩])
 (.seq (.seq (.region [⟨some 152, .mv (.tmp 17), none⟩,
 ⟨some 153, .mv (.tmp 13), none⟩,
 ⟨some 154, .bin .lss (.tmp 152) (.tmp 153), none⟩,
 ⟨some 155, .mv (.tmp 154), none⟩,
 ⟨some 156, .mv (.tmp 17), (some (155, false))⟩,
 ⟨some 157, .mv (.tmp 11), (some (155, false))⟩,
 ⟨some 158, .bin .gtr (.tmp 156) (.tmp 157), (some (155, false))⟩,
 ⟨some 159, .pick (.tmp 155) (.con (.bool true)) (.tmp 158), none⟩])
 (.cond (.tmp 159) (.seq (.region [⟨some 160, .mv (.tmp 11), none⟩,
 ⟨some 161, .mki 127 (.con (.int .i64 1)), none⟩,
 ⟨some 6, .mv (.tmp 160), none⟩,
 ⟨some 7, .mv (.tmp 161), none⟩])
 (.ret)) (.skip)))
 (.region [⟨some 162, .mv (.tmp 17), none⟩,
 ⟨some 13, .mv (.tmp 162), none⟩]))))))))))
 (.region [⟨some 163, .bin .add (.tmp 101) (.con (.int .i64 1)), none⟩,
 ⟨some 101, .mv (.tmp 163), none⟩])))
def B80 : ACode :=
 .seq (.region [⟨some 6, .mv (.con (.int .u64 0)), none⟩,
 ⟨some 7, .mv (.con (.nili)), none⟩])
 (.seq (.seq (.region [⟨some 18, .mv (.tmp 0), none⟩,
 ⟨some 19, .bin .eql (.tmp 18) (.con (.str ⟨#[]⟩)), none⟩])
 (.cond (.tmp 19) (.seq (.region [⟨some 20, .mki 127 (.con (.int .i64 2)), none⟩,
 ⟨some 6, .mv (.con (.int .u64 0)), none⟩,
 ⟨some 7, .mv (.tmp 20), none⟩])
 (.ret)) (.skip)))
 (.seq (.region [⟨some 21, .mv (.tmp 1), none⟩,
 ⟨some 22, .bin .eql (.tmp 21) (.con (.int .i64 0)), none⟩,
 ⟨some 8, .mv (.tmp 22), none⟩])
 (.seq (.region [⟨some 23, .mv (.tmp 0), none⟩,
 ⟨some 9, .mv (.tmp 23), none⟩])
 (.seq (.block 0 (.seq (.region [⟨some 26, .mv (.tmp 1), none⟩,
 ⟨some 27, .bin .leq (.con (.int .i64 2)) (.tmp 26), none⟩,
 ⟨some 28, .mv (.tmp 27), none⟩,
 ⟨some 29, .mv (.tmp 1), (some (28, true))⟩,
 ⟨some 30, .bin .leq (.tmp 29) (.con (.int .i64 36)), (some (28, true))⟩,
 ⟨some 31, .pick (.tmp 28) (.tmp 30) (.con (.bool false)), none⟩,
 ⟨some 25, .mv (.tmp 31), none⟩])
 (.cond (.tmp 25) (.skip) (.seq (.region [⟨some 33, .mv (.tmp 1), none⟩,
 ⟨some 34, .bin .eql (.tmp 33) (.con (.int .i64 0)), none⟩,
 ⟨some 32, .mv (.tmp 34), none⟩])
 (.cond (.tmp 32) (.seq (.region [⟨some 1, .mv (.con (.int .i64 10)), none⟩])
 (.seq (.region [⟨some 35, .mv (.tmp 0), none⟩,
 ⟨some 36, .idxStr (.tmp 35) (.con (.int .i64 0)), none⟩,
 ⟨some 37, .bin .eql (.tmp 36) (.con (.int .u8 48)), none⟩])
 (.cond (.tmp 37) (.block 1 (.seq (.region [⟨some 41, .mv (.tmp 0), none⟩,
 ⟨some 42, .len true (.tmp 41), none⟩,
 ⟨some 43, .bin .geq (.tmp 42) (.con (.int .i64 3)), none⟩,
 ⟨some 44, .mv (.tmp 43), none⟩,
 ⟨some 45, .mv (.tmp 0), (some (44, true))⟩,
 ⟨some 46, .idxStr (.tmp 45) (.con (.int .i64 1)), (some (44, true))⟩,
 ⟨some 47, .call (.fn 108) [(.tmp 46)], (some (44, true))⟩,
 ⟨some 48, .bin .eql (.tmp 47) (.con (.int .u8 98)), (some (44, true))⟩,
 ⟨some 49, .pick (.tmp 44) (.tmp 48) (.con (.bool false)), none⟩,
 ⟨some 40, .mv (.tmp 49), none⟩])
 (.cond (.tmp 40) (.seq (.region [⟨some 1, .mv (.con (.int .i64 2)), none⟩])
 (.region [⟨some 50, .mv (.tmp 0), none⟩,
 ⟨some 51, .slcStr (.tmp 50) (some (.con (.int .i64 2))) none, none⟩,
 ⟨some 0, .mv (.tmp 51), none⟩])) (.seq (.region [⟨some 53, .mv (.tmp 0), none⟩,
 ⟨some 54, .len true (.tmp 53), none⟩,
 ⟨some 55, .bin .geq (.tmp 54) (.con (.int .i64 3)), none⟩,
 ⟨some 56, .mv (.tmp 55), none⟩,
 ⟨some 57, .mv (.tmp 0), (some (56, true))⟩,
 ⟨some 58, .idxStr (.tmp 57) (.con (.int .i64 1)), (some (56, true))⟩,
 ⟨some 59, .call (.fn 108) [(.tmp 58)], (some (56, true))⟩,
 ⟨some 60, .bin .eql (.tmp 59) (.con (.int .u8 111)), (some (56, true))⟩,
 ⟨some 61, .pick (.tmp 56) (.tmp 60) (.con (.bool false)), none⟩,
 ⟨some 52, .mv (.tmp 61), none⟩])
 (.cond (.tmp 52) (.seq (.region [⟨some 1, .mv (.con (.int .i64 8)), none⟩])
 (.region [⟨some 62, .mv (.tmp 0), none⟩,
 ⟨some 63, .slcStr (.tmp 62) (some (.con (.int .i64 2))) none, none⟩,
 ⟨some 0, .mv (.tmp 63), none⟩])) (.seq (.region [⟨some 65, .mv (.tmp 0), none⟩,
 ⟨some 66, .len true (.tmp 65), none⟩,
 ⟨some 67, .bin .geq (.tmp 66) (.con (.int .i64 3)), none⟩,
 ⟨some 68, .mv (.tmp 67), none⟩,
 ⟨some 69, .mv (.tmp 0), (some (68, true))⟩,
 ⟨some 70, .idxStr (.tmp 69) (.con (.int .i64 1)), (some (68, true))⟩,
 ⟨some 71, .call (.fn 108) [(.tmp 70)], (some (68, true))⟩,
 ⟨some 72, .bin .eql (.tmp 71) (.con (.int .u8 120)), (some (68, true))⟩,
 ⟨some 73, .pick (.tmp 68) (.tmp 72) (.con (.bool false)), none⟩,
 ⟨some 64, .mv (.tmp 73), none⟩])
 (.cond (.tmp 64) (.seq (.region [⟨some 1, .mv (.con (.int .i64 16)), none⟩])
 (.region [⟨some 74, .mv (.tmp 0), none⟩,
 ⟨some 75, .slcStr (.tmp 74) (some (.con (.int .i64 2))) none, none⟩,
 ⟨some 0, .mv (.tmp 75), none⟩])) (.seq (.region [⟨some 1, .mv (.con (.int .i64 8)), none⟩])
 (.region [⟨some 38, .mv (.tmp 0), none⟩,
 ⟨some 39, .slcStr (.tmp 38) (some (.con (.int .i64 1))) none, none⟩,
 ⟨some 0, .mv (.tmp 39), none⟩]))))))))) (.skip)))) (.seq (.region [⟨some 24, .mki 127 (.con (.int .i64 3)), none⟩,
 ⟨some 6, .mv (.con (.int .u64 0)), none⟩,
 ⟨some 7, .mv (.tmp 24), none⟩])
 (.ret)))))))
 (.seq (.seq (.region [⟨some 76, .mv (.tmp 2), none⟩,
 ⟨some 77, .bin .eql (.tmp 76) (.con (.int .i64 0)), none⟩])
 (.cond (.tmp 77) (.region [⟨some 2, .mv (.con (.int .i64 64)), none⟩]) (.seq (.region [⟨some 78, .mv (.tmp 2), none⟩,
 ⟨some 79, .bin .lss (.tmp 78) (.con (.int .i64 0)), none⟩,
 ⟨some 80, .mv (.tmp 79), none⟩,
 ⟨some 81, .mv (.tmp 2), (some (80, false))⟩,
 ⟨some 82, .bin .gtr (.tmp 81) (.con (.int .i64 64)), (some (80, false))⟩,
 ⟨some 83, .pick (.tmp 80) (.con (.bool true)) (.tmp 82), none⟩])
 (.cond (.tmp 83) (.seq (.region [⟨some 84, .mki 127 (.con (.int .i64 4)), none⟩,
 ⟨some 6, .mv (.con (.int .u64 0)), none⟩,
 ⟨some 7, .mv (.tmp 84), none⟩])
 (.ret)) (.skip)))))
 (.seq (.region [⟨some 10, .mv (.con (.int .u64 0)), none⟩])
 (.seq (.seq (.region [⟨some 85, .mv (.tmp 1), none⟩])
 (.block 2 (.seq (.region [⟨some 91, .bin .eql (.tmp 85) (.con (.int .i64 10)), none⟩,
 ⟨some 90, .mv (.tmp 91), none⟩])
 (.cond (.tmp 90) (.region [⟨some 10, .mv (.con (.int .u64 1844674407370955162)), none⟩]) (.seq (.region [⟨some 93, .bin .eql (.tmp 85) (.con (.int .i64 16)), none⟩,
 ⟨some 92, .mv (.tmp 93), none⟩])
 (.cond (.tmp 92) (.region [⟨some 10, .mv (.con (.int .u64 1152921504606846976)), none⟩]) (.region [⟨some 86, .mv (.tmp 1), none⟩,
 ⟨some 87, .cvt .u64 (.tmp 86), none⟩,
 ⟨some 88, .bin .quo (.con (.int .u64 18446744073709551615)) (.tmp 87), none⟩,
 ⟨some 89, .bin .add (.tmp 88) (.con (.int .u64 1)), none⟩,
 ⟨some 10, .mv (.tmp 89), none⟩])))))))
 (.seq (.region [⟨some 94, .mv (.tmp 2), none⟩,
 ⟨some 95, .cvt .u64 (.tmp 94), none⟩,
 ⟨some 96, .bin .shl (.con (.int .u64 1)) (.tmp 95), none⟩,
 ⟨some 97, .bin .sub (.tmp 96) (.con (.int .u64 1)), none⟩,
 ⟨some 11, .mv (.tmp 97), none⟩])
 (.seq (.region [⟨some 12, .mv (.con (.bool false)), none⟩])
 (.seq (.region [⟨some 13, .mv (.con (.int .u64 0)), none⟩])
 (.seq (.seq (.region [⟨some 98, .mv (.tmp 0), none⟩,
 ⟨some 99, .sbytes (.tmp 98), none⟩,
 ⟨some 100, .len false (.tmp 99), none⟩,
 ⟨some 101, .mv (.con (.int .i64 0)), none⟩])
 (.block 3 (.loop true H80L36 X80L36 B80L36)))
 (.seq (.seq (.region [⟨some 164, .mv (.tmp 12), none⟩,
 ⟨some 165, .mv (.tmp 164), none⟩,
 ⟨some 166, .mv (.tmp 9), (some (165, true))⟩,
 ⟨some 167, .call (.fn 109) [(.tmp 166)], (some (165, true))⟩,
 ⟨some 168, .un .not (.tmp 167), (some (165, true))⟩,
 ⟨some 169, .pick (.tmp 165) (.tmp 168) (.con (.bool false)), none⟩])
 (.cond (.tmp 169) (.seq (.region [⟨some 170, .mki 127 (.con (.int .i64 2)), none⟩,
 ⟨some 6, .mv (.con (.int .u64 0)), none⟩,
 ⟨some 7, .mv (.tmp 170), none⟩])
 (.ret)) (.skip)))
 (.seq (.region [⟨some 171, .mv (.tmp 13), none⟩,
 ⟨some 6, .mv (.tmp 171), none⟩,
 ⟨some 7, .mv (.con (.nili)), none⟩])
 (.ret))))))))))))))
def A80 : AFunc := { ntmps := 172, results := [.tmp 6, .tmp 7], body := B80, coe := true, keep := 0 }
theorem tr80 : trFunc Tryz.prog M80 true Tryz.f80 = some A80 := by kernel_rfl

/-- strconv.syntaxError -/
def M81 : Marks := { cut := fun _ => true, hd := fun | _ => [], ex := fun | _ => [], imm := fun | 10 => true | _ => false, alts := fun | 1 => [[0, 1, 3, 2, 4, 5, 6]] | _ => [] }
def B81 : ACode :=
 .seq (.region [⟨some 4, .mv (.con (.nilp)), none⟩])
 (.seq (.draw [⟨some 5, .mv (.tmp 0), none⟩,
 ⟨some 6, .mv (.tmp 1), none⟩,
 ⟨some 7, .call (.fn 110) [(.tmp 6)], none⟩,
 ⟨some 8, .stuck, none⟩,
 ⟨some 9, .build [.str ⟨#[]⟩, .str ⟨#[]⟩, .nili] [(0, 1, (.tmp 5)), (1, 1, (.tmp 7)), (2, 1, (.tmp 8))], none⟩,
 ⟨some 10, .box true (.tmp 9), none⟩,
 ⟨some 4, .mv (.tmp 10), none⟩] [[⟨some 5, .mv (.tmp 0), none⟩, ⟨some 6, .mv (.tmp 1), none⟩, ⟨some 8, .stuck, none⟩, ⟨some 7, .call (.fn 110) [(.tmp 6)], none⟩, ⟨some 9, .build [.str ⟨#[]⟩, .str ⟨#[]⟩, .nili] [(0, 1, (.tmp 5)), (1, 1, (.tmp 7)), (2, 1, (.tmp 8))], none⟩, ⟨some 10, .box true (.tmp 9), none⟩, ⟨some 4, .mv (.tmp 10), none⟩]])
 (.ret))
def A81 : AFunc := { ntmps := 11, results := [.tmp 4], body := B81, coe := true, keep := 0 }
theorem tr81 : trFunc Tryz.prog M81 true Tryz.f81 = some A81 := by kernel_rfl

/-- strconv.rangeError -/
def M82 : Marks := { cut := fun _ => true, hd := fun | _ => [], ex := fun | _ => [], imm := fun | 10 => true | _ => false, alts := fun | 1 => [[0, 1, 3, 2, 4, 5, 6]] | _ => [] }
def B82 : ACode :=
 .seq (.region [⟨some 4, .mv (.con (.nilp)), none⟩])
 (.seq (.draw [⟨some 5, .mv (.tmp 0), none⟩,
 ⟨some 6, .mv (.tmp 1), none⟩,
 ⟨some 7, .call (.fn 110) [(.tmp 6)], none⟩,
 ⟨some 8, .stuck, none⟩,
 ⟨some 9, .build [.str ⟨#[]⟩, .str ⟨#[]⟩, .nili] [(0, 1, (.tmp 5)), (1, 1, (.tmp 7)), (2, 1, (.tmp 8))], none⟩,
 ⟨some 10, .box true (.tmp 9), none⟩,
 ⟨some 4, .mv (.tmp 10), none⟩] [[⟨some 5, .mv (.tmp 0), none⟩, ⟨some 6, .mv (.tmp 1), none⟩, ⟨some 8, .stuck, none⟩, ⟨some 7, .call (.fn 110) [(.tmp 6)], none⟩, ⟨some 9, .build [.str ⟨#[]⟩, .str ⟨#[]⟩, .nili] [(0, 1, (.tmp 5)), (1, 1, (.tmp 7)), (2, 1, (.tmp 8))], none⟩, ⟨some 10, .box true (.tmp 9), none⟩, ⟨some 4, .mv (.tmp 10), none⟩]])
 (.ret))
def A82 : AFunc := { ntmps := 11, results := [.tmp 4], body := B82, coe := true, keep := 0 }
theorem tr82 : trFunc Tryz.prog M82 true Tryz.f82 = some A82 := by kernel_rfl

/-- strconv.baseError -/
def M83 : Marks := { cut := fun _ => true, hd := fun | _ => [], ex := fun | _ => [], imm := fun | 15 => true | _ => false }
def B83 : ACode :=
 .seq (.region [⟨some 6, .mv (.con (.nilp)), none⟩])
 (.seq (.region [⟨some 7, .mv (.tmp 0), none⟩,
 ⟨some 8, .mv (.tmp 1), none⟩,
 ⟨some 9, .call (.fn 110) [(.tmp 8)], none⟩,
 ⟨some 10, .mv (.tmp 2), none⟩,
 ⟨some 11, .call (.fn 21) [(.tmp 10)], none⟩,
 ⟨some 12, .bin .add (.con (.str ⟨#[105, 110, 118, 97, 108, 105, 100, 32, 98, 97, 115, 101, 32]⟩)) (.tmp 11), none⟩,
 ⟨some 13, .call (.fn 111) [(.tmp 12)], none⟩,
 ⟨some 14, .build [.str ⟨#[]⟩, .str ⟨#[]⟩, .nili] [(0, 1, (.tmp 7)), (1, 1, (.tmp 9)), (2, 1, (.tmp 13))], none⟩,
 ⟨some 15, .box true (.tmp 14), none⟩,
 ⟨some 6, .mv (.tmp 15), none⟩])
 (.ret))
def A83 : AFunc := { ntmps := 16, results := [.tmp 6], body := B83, coe := true, keep := 0 }
theorem tr83 : trFunc Tryz.prog M83 true Tryz.f83 = some A83 := by kernel_rfl

/-- strconv.bitSizeError -/
def M84 : Marks := { cut := fun _ => true, hd := fun | _ => [], ex := fun | _ => [], imm := fun | 15 => true | _ => false }
def B84 : ACode :=
 .seq (.region [⟨some 6, .mv (.con (.nilp)), none⟩])
 (.seq (.region [⟨some 7, .mv (.tmp 0), none⟩,
 ⟨some 8, .mv (.tmp 1), none⟩,
 ⟨some 9, .call (.fn 110) [(.tmp 8)], none⟩,
 ⟨some 10, .mv (.tmp 2), none⟩,
 ⟨some 11, .call (.fn 21) [(.tmp 10)], none⟩,
 ⟨some 12, .bin .add (.con (.str ⟨#[105, 110, 118, 97, 108, 105, 100, 32, 98, 105, 116, 32, 115, 105, 122, 101, 32]⟩)) (.tmp 11), none⟩,
 ⟨some 13, .call (.fn 111) [(.tmp 12)], none⟩,
 ⟨some 14, .build [.str ⟨#[]⟩, .str ⟨#[]⟩, .nili] [(0, 1, (.tmp 7)), (1, 1, (.tmp 9)), (2, 1, (.tmp 13))], none⟩,
 ⟨some 15, .box true (.tmp 14), none⟩,
 ⟨some 6, .mv (.tmp 15), none⟩])
 (.ret))
def A84 : AFunc := { ntmps := 16, results := [.tmp 6], body := B84, coe := true, keep := 0 }
theorem tr84 : trFunc Tryz.prog M84 true Tryz.f84 = some A84 := by kernel_rfl

/-- (*handloom/lex.reader).take$1 -/
abbrev H96L0 : List Bool := [true, true, true]
abbrev X96L0 : List Bool := []
def M96 : Marks := { cut := fun _ => true, hd := fun | 0 => H96L0 | _ => [], ex := fun | 0 => X96L0 | _ => [], imm := fun | _ => false, alts := fun | 0 => [[0, 1, 2, 3, 5, 6, 4, 7, 8]] | _ => [] }
def B96L0 : ACode :=
 .seq (.seq (.draw [⟨some 5, .load none (.tmp 1), none⟩,
 ⟨some 6, .call (.fn 49) [(.tmp 5)], none⟩,
 ⟨some 7, .un .not (.tmp 6), none⟩,
 ⟨some 8, .mv (.tmp 7), none⟩,
 ⟨some 9, .load none (.tmp 2), (some (8, true))⟩,
 ⟨some 10, .load none (.tmp 1), (some (8, true))⟩,
 ⟨some 11, .call (.fn 68) [(.tmp 10), (.con (.int .i64 0))], (some (8, true))⟩,
 ⟨some 12, .call (.tmp 9) [(.tmp 11)], (some (8, true))⟩,
 ⟨some 13, .pick (.tmp 8) (.tmp 12) (.con (.bool false)), none⟩] [[⟨some 5, .load none (.tmp 1), none⟩, ⟨some 6, .call (.fn 49) [(.tmp 5)], none⟩, ⟨some 7, .un .not (.tmp 6), none⟩, ⟨some 8, .mv (.tmp 7), none⟩, ⟨some 10, .load none (.tmp 1), (some (8, true))⟩, ⟨some 11, .call (.fn 68) [(.tmp 10), (.con (.int .i64 0))], (some (8, true))⟩, ⟨some 9, .load none (.tmp 2), (some (8, true))⟩, ⟨some 12, .call (.tmp 9) [(.tmp 11)], (some (8, true))⟩, ⟨some 13, .pick (.tmp 8) (.tmp 12) (.con (.bool false)), none⟩]])
 (.cond (.tmp 13) (.skip) (.exit 0)))
 (.block 1 (.seq (.region [⟨some 14, .load none (.tmp 1), none⟩,
 ⟨some 15, .call (.fn 68) [(.tmp 14), (.con (.int .i64 0))], none⟩,
 ⟨some 4, .mv (.tmp 15), none⟩])
 (.seq (.region [⟨some 16, .load none (.tmp 1), none⟩,
 ⟨some 17, .nilchk (.tmp 16), none⟩,
 ⟨some 18, .addOff 1 (.tmp 17), none⟩,
 ⟨some 19, .load none (.tmp 18), none⟩,
 ⟨some 20, .bin .add (.tmp 19) (.con (.int .i64 1)), none⟩,
 ⟨some 21, .nilchk (.tmp 16), none⟩,
 ⟨some 22, .addOff 1 (.tmp 21), none⟩,
 ⟨none, .store 1 (.tmp 22) (.tmp 20), none⟩])
 (.seq (.region [⟨some 23, .mv (.tmp 0), none⟩,
 ⟨some 24, .mv (.tmp 4), none⟩,
 ⟨some 25, .call (.tmp 23) [(.tmp 24)], none⟩,
 ⟨some 26, .un .not (.tmp 25), none⟩])
 (.cond (.tmp 26) (.ret) (.skip))))))
def B96 : ACode :=
 .block 0 (.loop true H96L0 X96L0 B96L0)
def A96 : AFunc := { ntmps := 27, results := [], body := B96, coe := true, keep := 0 }
theorem tr96 : trFunc Tryz.prog M96 true Tryz.f96 = some A96 := by kernel_rfl

/-- unicode/utf8.ValidRune -/
def M97 : Marks := { cut := fun _ => true, hd := fun | _ => [], ex := fun | _ => [], imm := fun | _ => false }
def B97 : ACode :=
 .seq (.region [⟨some 2, .mv (.con (.bool false)), none⟩])
 (.seq (.block 0 (.seq (.region [⟨some 4, .mv (.tmp 0), none⟩,
 ⟨some 5, .bin .leq (.con (.int .i32 0)) (.tmp 4), none⟩,
 ⟨some 6, .mv (.tmp 5), none⟩,
 ⟨some 7, .mv (.tmp 0), (some (6, true))⟩,
 ⟨some 8, .bin .lss (.tmp 7) (.con (.int .i32 55296)), (some (6, true))⟩,
 ⟨some 9, .pick (.tmp 6) (.tmp 8) (.con (.bool false)), none⟩,
 ⟨some 3, .mv (.tmp 9), none⟩])
 (.cond (.tmp 3) (.seq (.region [⟨some 2, .mv (.con (.bool true)), none⟩])
 (.ret)) (.seq (.region [⟨some 11, .mv (.tmp 0), none⟩,
 ⟨some 12, .bin .lss (.con (.int .i32 57343)) (.tmp 11), none⟩,
 ⟨some 13, .mv (.tmp 12), none⟩,
 ⟨some 14, .mv (.tmp 0), (some (13, true))⟩,
 ⟨some 15, .bin .leq (.tmp 14) (.con (.int .i32 1114111)), (some (13, true))⟩,
 ⟨some 16, .pick (.tmp 13) (.tmp 15) (.con (.bool false)), none⟩,
 ⟨some 10, .mv (.tmp 16), none⟩])
 (.cond (.tmp 10) (.seq (.region [⟨some 2, .mv (.con (.bool true)), none⟩])
 (.ret)) (.skip))))))
 (.seq (.region [⟨some 2, .mv (.con (.bool false)), none⟩])
 (.ret)))
def A97 : AFunc := { ntmps := 17, results := [.tmp 2], body := B97, coe := true, keep := 0 }
theorem tr97 : trFunc Tryz.prog M97 true Tryz.f97 = some A97 := by kernel_rfl

/-- handloom/lex.part -/
def M98 : Marks := { cut := fun _ => true, hd := fun | _ => [], ex := fun | _ => [], imm := fun | _ => false }
def B98 : ACode :=
 .seq (.region [⟨some 2, .mv (.con (.bool false)), none⟩])
 (.seq (.region [⟨some 3, .mv (.tmp 0), none⟩,
 ⟨some 4, .call (.fn 70) [(.tmp 3)], none⟩,
 ⟨some 5, .mv (.tmp 4), none⟩,
 ⟨some 6, .mv (.tmp 0), (some (5, false))⟩,
 ⟨some 7, .call (.fn 71) [(.tmp 6)], (some (5, false))⟩,
 ⟨some 8, .pick (.tmp 5) (.con (.bool true)) (.tmp 7), none⟩,
 ⟨some 9, .mv (.tmp 8), none⟩,
 ⟨some 10, .mv (.tmp 0), (some (9, false))⟩,
 ⟨some 11, .call (.fn 73) [(.tmp 10)], (some (9, false))⟩,
 ⟨some 12, .pick (.tmp 9) (.con (.bool true)) (.tmp 11), none⟩,
 ⟨some 13, .mv (.tmp 12), none⟩,
 ⟨some 14, .mv (.tmp 0), (some (13, false))⟩,
 ⟨some 15, .bin .eql (.tmp 14) (.con (.int .i32 95)), (some (13, false))⟩,
 ⟨some 16, .pick (.tmp 13) (.con (.bool true)) (.tmp 15), none⟩,
 ⟨some 2, .mv (.tmp 16), none⟩])
 (.ret))
def A98 : AFunc := { ntmps := 17, results := [.tmp 2], body := B98, coe := true, keep := 0 }
theorem tr98 : trFunc Tryz.prog M98 true Tryz.f98 = some A98 := by kernel_rfl

/-- (*strings.Builder).WriteRune -/
def M99 : Marks := { cut := fun _ => true, hd := fun | _ => [], ex := fun | _ => [], imm := fun | _ => false }
def B99 : ACode :=
 .seq (.region [⟨some 4, .mv (.con (.int .i64 0)), none⟩,
 ⟨some 5, .mv (.con (.nili)), none⟩])
 (.seq (.region [⟨some 7, .mv (.tmp 0), none⟩,
 ⟨some 8, .call (.fn 61) [(.tmp 7)], none⟩])
 (.seq (.region [⟨some 9, .mv (.tmp 0), none⟩,
 ⟨some 10, .nilchk (.tmp 9), none⟩,
 ⟨some 11, .addOff 1 (.tmp 10), none⟩,
 ⟨some 12, .load none (.tmp 11), none⟩,
 ⟨some 13, .len false (.tmp 12), none⟩,
 ⟨some 6, .mv (.tmp 13), none⟩])
 (.seq (.region [⟨some 14, .mv (.tmp 0), none⟩,
 ⟨some 15, .mv (.tmp 0), none⟩,
 ⟨some 16, .nilchk (.tmp 15), none⟩,
 ⟨some 17, .addOff 1 (.tmp 16), none⟩,
 ⟨some 18, .load none (.tmp 17), none⟩,
 ⟨some 19, .mv (.tmp 1), none⟩,
 ⟨some 20, .call (.fn 123) [(.tmp 18), (.tmp 19)], none⟩,
 ⟨some 21, .nilchk (.tmp 14), none⟩,
 ⟨some 22, .addOff 1 (.tmp 21), none⟩,
 ⟨none, .store 1 (.tmp 22) (.tmp 20), none⟩])
 (.seq (.region [⟨some 23, .mv (.tmp 0), none⟩,
 ⟨some 24, .nilchk (.tmp 23), none⟩,
 ⟨some 25, .addOff 1 (.tmp 24), none⟩,
 ⟨some 26, .load none (.tmp 25), none⟩,
 ⟨some 27, .len false (.tmp 26), none⟩,
 ⟨some 28, .mv (.tmp 6), none⟩,
 ⟨some 29, .bin .sub (.tmp 27) (.tmp 28), none⟩,
 ⟨some 4, .mv (.tmp 29), none⟩,
 ⟨some 5, .mv (.con (.nili)), none⟩])
 (.ret)))))
def A99 : AFunc := { ntmps := 30, results := [.tmp 4, .tmp 5], body := B99, coe := true, keep := 0 }
theorem tr99 : trFunc Tryz.prog M99 true Tryz.f99 = some A99 := by kernel_rfl

/-- handloom/lex.Word -/
def M100 : Marks := { cut := fun _ => true, hd := fun | _ => [], ex := fun | _ => [], imm := fun | _ => false }
def B100 : ACode :=
 .seq (.region [⟨some 2, .mv (.con (.bool false)), none⟩])
 (.seq (.seq (.region [⟨some 3, .mv (.tmp 0), none⟩])
 (.block 0 (.seq (.seq (.region [⟨some 5, .bin .eql (.tmp 3) (.con (.str ⟨#[99, 97, 112]⟩)), none⟩,
 ⟨some 4, .mv (.tmp 5), none⟩])
 (.cond (.tmp 4) (.skip) (.seq (.region [⟨some 6, .bin .eql (.tmp 3) (.con (.str ⟨#[100, 111]⟩)), none⟩,
 ⟨some 4, .mv (.tmp 6), none⟩])
 (.cond (.tmp 4) (.skip) (.seq (.region [⟨some 7, .bin .eql (.tmp 3) (.con (.str ⟨#[101, 108, 115, 101]⟩)), none⟩,
 ⟨some 4, .mv (.tmp 7), none⟩])
 (.cond (.tmp 4) (.skip) (.seq (.region [⟨some 8, .bin .eql (.tmp 3) (.con (.str ⟨#[101, 110, 100]⟩)), none⟩,
 ⟨some 4, .mv (.tmp 8), none⟩])
 (.cond (.tmp 4) (.skip) (.seq (.region [⟨some 9, .bin .eql (.tmp 3) (.con (.str ⟨#[102, 111, 114]⟩)), none⟩,
 ⟨some 4, .mv (.tmp 9), none⟩])
 (.cond (.tmp 4) (.skip) (.seq (.region [⟨some 10, .bin .eql (.tmp 3) (.con (.str ⟨#[102, 117, 110]⟩)), none⟩,
 ⟨some 4, .mv (.tmp 10), none⟩])
 (.cond (.tmp 4) (.skip) (.seq (.region [⟨some 11, .bin .eql (.tmp 3) (.con (.str ⟨#[105, 102]⟩)), none⟩,
 ⟨some 4, .mv (.tmp 11), none⟩])
 (.cond (.tmp 4) (.skip) (.seq (.region [⟨some 12, .bin .eql (.tmp 3) (.con (.str ⟨#[105, 110]⟩)), none⟩,
 ⟨some 4, .mv (.tmp 12), none⟩])
 (.cond (.tmp 4) (.skip) (.seq (.region [⟨some 13, .bin .eql (.tmp 3) (.con (.str ⟨#[108, 101, 116]⟩)), none⟩,
 ⟨some 4, .mv (.tmp 13), none⟩])
 (.cond (.tmp 4) (.skip) (.seq (.region [⟨some 14, .bin .eql (.tmp 3) (.con (.str ⟨#[109, 97, 116, 99, 104]⟩)), none⟩,
 ⟨some 4, .mv (.tmp 14), none⟩])
 (.cond (.tmp 4) (.skip) (.seq (.region [⟨some 15, .bin .eql (.tmp 3) (.con (.str ⟨#[111, 102]⟩)), none⟩,
 ⟨some 4, .mv (.tmp 15), none⟩])
 (.cond (.tmp 4) (.skip) (.seq (.region [⟨some 16, .bin .eql (.tmp 3) (.con (.str ⟨#[111, 110]⟩)), none⟩,
 ⟨some 4, .mv (.tmp 16), none⟩])
 (.cond (.tmp 4) (.skip) (.seq (.region [⟨some 17, .bin .eql (.tmp 3) (.con (.str ⟨#[113, 117, 101, 117, 101]⟩)), none⟩,
 ⟨some 4, .mv (.tmp 17), none⟩])
 (.cond (.tmp 4) (.skip) (.seq (.region [⟨some 18, .bin .eql (.tmp 3) (.con (.str ⟨#[115, 116, 97, 116, 101]⟩)), none⟩,
 ⟨some 4, .mv (.tmp 18), none⟩])
 (.cond (.tmp 4) (.skip) (.seq (.region [⟨some 19, .bin .eql (.tmp 3) (.con (.str ⟨#[116, 104, 101, 110]⟩)), none⟩,
 ⟨some 4, .mv (.tmp 19), none⟩])
 (.cond (.tmp 4) (.skip) (.seq (.region [⟨some 20, .bin .eql (.tmp 3) (.con (.str ⟨#[116, 105, 109, 101, 114, 115]⟩)), none⟩,
 ⟨some 4, .mv (.tmp 20), none⟩])
 (.cond (.tmp 4) (.skip) (.seq (.region [⟨some 21, .bin .eql (.tmp 3) (.con (.str ⟨#[116, 121, 112, 101]⟩)), none⟩,
 ⟨some 4, .mv (.tmp 21), none⟩])
 (.cond (.tmp 4) (.skip) (.region [⟨some 22, .bin .eql (.tmp 3) (.con (.str ⟨#[119, 105, 116, 104]⟩)), none⟩,
 ⟨some 4, .mv (.tmp 22), none⟩])))))))))))))))))))))))))))))))))))
 (.cond (.tmp 4) (.seq (.region [⟨some 2, .mv (.con (.bool true)), none⟩])
 (.ret)) (.skip)))))
 (.seq (.region [⟨some 2, .mv (.con (.bool false)), none⟩])
 (.ret)))
def A100 : AFunc := { ntmps := 23, results := [.tmp 2], body := B100, coe := true, keep := 0 }
theorem tr100 : trFunc Tryz.prog M100 true Tryz.f100 = some A100 := by kernel_rfl

/-- (*handloom/lex.reader).escape -/
def M101 : Marks := { cut := fun _ => true, hd := fun | _ => [], ex := fun | _ => [], imm := fun | _ => false }
def B101 : ACode :=
 .seq (.region [⟨some 2, .mv (.con (.int .u8 0)), none⟩,
 ⟨some 3, .mv (.con (.bool false)), none⟩])
 (.seq (.region [⟨some 7, .mv (.tmp 0), none⟩,
 ⟨some 8, .call (.fn 68) [(.tmp 7), (.con (.int .i64 0))], none⟩,
 ⟨some 4, .mv (.tmp 8), none⟩])
 (.seq (.region [⟨some 9, .mv (.tmp 0), none⟩,
 ⟨some 10, .nilchk (.tmp 9), none⟩,
 ⟨some 11, .addOff 1 (.tmp 10), none⟩,
 ⟨some 12, .load none (.tmp 11), none⟩,
 ⟨some 13, .bin .add (.tmp 12) (.con (.int .i64 1)), none⟩,
 ⟨some 14, .nilchk (.tmp 9), none⟩,
 ⟨some 15, .addOff 1 (.tmp 14), none⟩,
 ⟨none, .store 1 (.tmp 15) (.tmp 13), none⟩])
 (.seq (.seq (.region [⟨some 16, .mv (.tmp 4), none⟩])
 (.block 0 (.seq (.block 5 (.seq (.block 4 (.block 3 (.seq (.block 2 (.seq (.block 1 (.seq (.seq (.seq (.region [⟨some 18, .bin .eql (.tmp 16) (.con (.int .i32 110)), none⟩,
 ⟨some 17, .mv (.tmp 18), none⟩])
 (.cond (.tmp 17) (.exit 1) (.skip)))
 (.seq (.seq (.region [⟨some 20, .bin .eql (.tmp 16) (.con (.int .i32 116)), none⟩,
 ⟨some 19, .mv (.tmp 20), none⟩])
 (.cond (.tmp 19) (.exit 2) (.skip)))
 (.seq (.seq (.region [⟨some 22, .bin .eql (.tmp 16) (.con (.int .i32 34)), none⟩,
 ⟨some 21, .mv (.tmp 22), none⟩])
 (.cond (.tmp 21) (.exit 3) (.skip)))
 (.seq (.seq (.region [⟨some 24, .bin .eql (.tmp 16) (.con (.int .i32 92)), none⟩,
 ⟨some 23, .mv (.tmp 24), none⟩])
 (.cond (.tmp 23) (.exit 4) (.skip)))
 (.seq (.region [⟨some 26, .bin .eql (.tmp 16) (.con (.int .i32 120)), none⟩,
 ⟨some 25, .mv (.tmp 26), none⟩])
 (.cond (.tmp 25) (.exit 5) (.skip)))))))
 (.exit 0)))
 (.seq (.seq (.region [⟨some 2, .mv (.con (.int .u8 10)), none⟩,
 ⟨some 3, .mv (.con (.bool true)), none⟩])
 (.ret))
 (.exit 0))))
 (.seq (.seq (.region [⟨some 2, .mv (.con (.int .u8 9)), none⟩,
 ⟨some 3, .mv (.con (.bool true)), none⟩])
 (.ret))
 (.exit 0)))))
 (.seq (.seq (.region [⟨some 27, .mv (.tmp 4), none⟩,
 ⟨some 28, .cvt .u8 (.tmp 27), none⟩,
 ⟨some 2, .mv (.tmp 28), none⟩,
 ⟨some 3, .mv (.con (.bool true)), none⟩])
 (.ret))
 (.exit 0))))
 (.seq (.seq (.region [⟨some 29, .mv (.tmp 0), none⟩,
 ⟨some 30, .call (.fn 68) [(.tmp 29), (.con (.int .i64 0))], none⟩,
 ⟨some 31, .call (.fn 124) [(.con (.str ⟨#[48, 49, 50, 51, 52, 53, 54, 55, 56, 57, 97, 98, 99, 100, 101, 102]⟩)), (.tmp 30)], none⟩,
 ⟨some 32, .mv (.tmp 0), none⟩,
 ⟨some 33, .call (.fn 68) [(.tmp 32), (.con (.int .i64 1))], none⟩,
 ⟨some 34, .call (.fn 124) [(.con (.str ⟨#[48, 49, 50, 51, 52, 53, 54, 55, 56, 57, 97, 98, 99, 100, 101, 102]⟩)), (.tmp 33)], none⟩,
 ⟨some 5, .mv (.tmp 31), none⟩,
 ⟨some 6, .mv (.tmp 34), none⟩])
 (.seq (.region [⟨some 35, .mv (.tmp 0), none⟩,
 ⟨some 36, .nilchk (.tmp 35), none⟩,
 ⟨some 37, .addOff 1 (.tmp 36), none⟩,
 ⟨some 38, .load none (.tmp 37), none⟩,
 ⟨some 39, .bin .add (.tmp 38) (.con (.int .i64 2)), none⟩,
 ⟨some 40, .nilchk (.tmp 35), none⟩,
 ⟨some 41, .addOff 1 (.tmp 40), none⟩,
 ⟨none, .store 1 (.tmp 41) (.tmp 39), none⟩])
 (.seq (.region [⟨some 42, .mv (.tmp 5), none⟩,
 ⟨some 43, .bin .shl (.tmp 42) (.con (.int .u64 4)), none⟩,
 ⟨some 44, .mv (.tmp 6), none⟩,
 ⟨some 45, .bin .and (.tmp 44) (.con (.int .i64 15)), none⟩,
 ⟨some 46, .bin .or (.tmp 43) (.tmp 45), none⟩,
 ⟨some 47, .cvt .u8 (.tmp 46), none⟩,
 ⟨some 48, .mv (.tmp 5), none⟩,
 ⟨some 49, .bin .geq (.tmp 48) (.con (.int .i64 0)), none⟩,
 ⟨some 50, .mv (.tmp 49), none⟩,
 ⟨some 51, .mv (.tmp 6), (some (50, true))⟩,
 ⟨some 52, .bin .geq (.tmp 51) (.con (.int .i64 0)), (some (50, true))⟩,
 ⟨some 53, .pick (.tmp 50) (.tmp 52) (.con (.bool false)), none⟩,
 ⟨some 2, .mv (.tmp 47), none⟩,
 ⟨some 3, .mv (.tmp 53), none⟩])
 (.ret))))
 (.exit 0)))))
 (.seq (.region [⟨some 2, .mv (.con (.int .u8 0)), none⟩,
 ⟨some 3, .mv (.con (.bool false)), none⟩])
 (.ret)))))
def A101 : AFunc := { ntmps := 54, results := [.tmp 2, .tmp 3], body := B101, coe := true, keep := 0 }
theorem tr101 : trFunc Tryz.prog M101 true Tryz.f101 = some A101 := by kernel_rfl

/-- handloom/runes.Put -/
def M102 : Marks := { cut := fun _ => true, hd := fun | _ => [], ex := fun | _ => [], imm := fun | 2 => true | _ => false }
def B102 : ACode :=
 .seq (.region [⟨some 2, .mv (.con (.slice 1 [])), none⟩])
 (.seq (.seq (.region [⟨some 3, .mv (.tmp 0), none⟩,
 ⟨some 4, .call (.fn 97) [(.tmp 3)], none⟩,
 ⟨some 5, .un .not (.tmp 4), none⟩])
 (.cond (.tmp 5) (.seq (.region [⟨some 2, .mv (.con (.slice 1 [])), none⟩])
 (.ret)) (.skip)))
 (.seq (.region [⟨some 6, .mv (.tmp 0), none⟩,
 ⟨some 7, .calln 1 (.fn 123) [(.tmp 6)], none⟩,
 ⟨some 2, .mv (.tmp 7), none⟩])
 (.ret)))
def A102 : AFunc := { ntmps := 8, results := [.tmp 2], body := B102, coe := true, keep := 0 }
theorem tr102 : trFunc Tryz.prog M102 true Tryz.f102 = some A102 := by kernel_rfl

/-- strings.IndexByte -/
def M103 : Marks := { cut := fun _ => true, hd := fun | _ => [], ex := fun | _ => [], imm := fun | _ => false }
def B103 : ACode :=
 .seq (.region [⟨some 4, .mv (.con (.int .i64 0)), none⟩])
 (.seq (.region [⟨some 5, .mv (.tmp 0), none⟩,
 ⟨some 6, .mv (.tmp 1), none⟩,
 ⟨some 7, .call (.fn 125) [(.tmp 5), (.tmp 6)], none⟩,
 ⟨some 4, .mv (.tmp 7), none⟩])
 (.ret))
def A103 : AFunc := { ntmps := 8, results := [.tmp 4], body := B103, coe := true, keep := 0 }
theorem tr103 : trFunc Tryz.prog M103 true Tryz.f103 = some A103 := by kernel_rfl

/-- internal/strconv.lower -/
def M108 : Marks := { cut := fun _ => true, hd := fun | _ => [], ex := fun | _ => [], imm := fun | _ => false }
def B108 : ACode :=
 .seq (.region [⟨some 2, .mv (.con (.int .u8 0)), none⟩])
 (.seq (.region [⟨some 3, .mv (.tmp 0), none⟩,
 ⟨some 4, .bin .or (.tmp 3) (.con (.int .u8 32)), none⟩,
 ⟨some 2, .mv (.tmp 4), none⟩])
 (.ret))
def A108 : AFunc := { ntmps := 5, results := [.tmp 2], body := B108, coe := true, keep := 0 }
theorem tr108 : trFunc Tryz.prog M108 true Tryz.f108 = some A108 := by kernel_rfl

/-- internal/strconv.underscoreOK -/
abbrev H109L10 : List Bool := [true, false, false, true, true, true]
abbrev X109L10 : List Bool := [false, false, true, true]
def M109 : Marks := { cut := fun _ => true, hd := fun | 10 => H109L10 | _ => [], ex := fun | 10 => X109L10 | _ => [], imm := fun | _ => false }
def B109L10 : ACode :=
 .seq (.seq (.region [⟨some 51, .mv (.tmp 4), none⟩,
 ⟨some 52, .mv (.tmp 0), none⟩,
 ⟨some 53, .len true (.tmp 52), none⟩,
 ⟨some 54, .bin .lss (.tmp 51) (.tmp 53), none⟩])
 (.cond (.tmp 54) (.skip) (.exit 0)))
 (.seq (.block 1 (.seq (.seq (.region [⟨some 57, .mv (.tmp 0), none⟩,
 ⟨some 58, .mv (.tmp 4), none⟩,
 ⟨some 59, .idxStr (.tmp 57) (.tmp 58), none⟩,
 ⟨some 60, .bin .leq (.con (.int .u8 48)) (.tmp 59), none⟩,
 ⟨some 61, .mv (.tmp 60), none⟩,
 ⟨some 62, .mv (.tmp 0), (some (61, true))⟩,
 ⟨some 63, .mv (.tmp 4), (some (61, true))⟩,
 ⟨some 64, .idxStr (.tmp 62) (.tmp 63), (some (61, true))⟩,
 ⟨some 65, .bin .leq (.tmp 64) (.con (.int .u8 57)), (some (61, true))⟩,
 ⟨some 66, .pick (.tmp 61) (.tmp 65) (.con (.bool false)), none⟩,
 ⟨some 67, .mv (.tmp 66), none⟩,
 ⟨some 68, .mv (.tmp 5), (some (67, false))⟩,
 ⟨some 69, .mv (.tmp 68), (some (67, false))⟩,
 ⟨some 70, .mv (.tmp 0), (some (69, true))⟩,
 ⟨some 71, .mv (.tmp 4), (some (69, true))⟩,
 ⟨some 72, .idxStr (.tmp 70) (.tmp 71), (some (69, true))⟩,
 ⟨some 73, .call (.fn 108) [(.tmp 72)], (some (69, true))⟩,
 ⟨some 74, .bin .leq (.con (.int .u8 97)) (.tmp 73), (some (69, true))⟩,
 ⟨some 75, .pick (.tmp 69) (.tmp 74) (.con (.bool false)), (some (67, false))⟩,
 ⟨some 76, .mv (.tmp 75), (some (67, false))⟩,
 ⟨some 77, .mv (.tmp 0), (some (76, true))⟩,
 ⟨some 78, .mv (.tmp 4), (some (76, true))⟩,
 ⟨some 79, .idxStr (.tmp 77) (.tmp 78), (some (76, true))⟩,
 ⟨some 80, .call (.fn 108) [(.tmp 79)], (some (76, true))⟩,
 ⟨some 81, .bin .leq (.tmp 80) (.con (.int .u8 102)), (some (76, true))⟩,
 ⟨some 82, .pick (.tmp 76) (.tmp 81) (.con (.bool false)), (some (67, false))⟩,
 ⟨some 83, .pick (.tmp 67) (.con (.bool true)) (.tmp 82), none⟩])
 (.cond (.tmp 83) (.seq (.region [⟨some 3, .mv (.con (.int .i32 48)), none⟩])
 (.exit 1)) (.skip)))
 (.seq (.seq (.region [⟨some 84, .mv (.tmp 0), none⟩,
 ⟨some 85, .mv (.tmp 4), none⟩,
 ⟨some 86, .idxStr (.tmp 84) (.tmp 85), none⟩,
 ⟨some 87, .bin .eql (.tmp 86) (.con (.int .u8 95)), none⟩])
 (.cond (.tmp 87) (.seq (.seq (.region [⟨some 88, .mv (.tmp 3), none⟩,
 ⟨some 89, .bin .neq (.tmp 88) (.con (.int .i32 48)), none⟩])
 (.cond (.tmp 89) (.seq (.region [⟨some 2, .mv (.con (.bool false)), none⟩])
 (.ret)) (.skip)))
 (.seq (.region [⟨some 3, .mv (.con (.int .i32 95)), none⟩])
 (.exit 1))) (.skip)))
 (.seq (.seq (.region [⟨some 90, .mv (.tmp 3), none⟩,
 ⟨some 91, .bin .eql (.tmp 90) (.con (.int .i32 95)), none⟩])
 (.cond (.tmp 91) (.seq (.region [⟨some 2, .mv (.con (.bool false)), none⟩])
 (.ret)) (.skip)))
 (.region [⟨some 3, .mv (.con (.int .i32 33)), none⟩])))))
 (.region [⟨some 55, .mv (.tmp 4), none⟩,
 ⟨some 56, .bin .add (.tmp 55) (.con (.int .i64 1)), none⟩,
 ⟨some 4, .mv (.tmp 56), none⟩]))
def B109 : ACode :=
 .seq (.region [⟨some 2, .mv (.con (.bool false)), none⟩])
 (.seq (.region [⟨some 3, .mv (.con (.int .i32 94)), none⟩])
 (.seq (.region [⟨some 4, .mv (.con (.int .i64 0)), none⟩])
 (.seq (.seq (.region [⟨some 6, .mv (.tmp 0), none⟩,
 ⟨some 7, .len true (.tmp 6), none⟩,
 ⟨some 8, .bin .geq (.tmp 7) (.con (.int .i64 1)), none⟩,
 ⟨some 9, .mv (.tmp 8), none⟩,
 ⟨some 10, .mv (.tmp 0), (some (9, true))⟩,
 ⟨some 11, .idxStr (.tmp 10) (.con (.int .i64 0)), (some (9, true))⟩,
 ⟨some 12, .bin .eql (.tmp 11) (.con (.int .u8 45)), (some (9, true))⟩,
 ⟨some 13, .mv (.tmp 12), (some (9, true))⟩,
 ⟨some 14, .mv (.tmp 0), (some (13, false))⟩,
 ⟨some 15, .idxStr (.tmp 14) (.con (.int .i64 0)), (some (13, false))⟩,
 ⟨some 16, .bin .eql (.tmp 15) (.con (.int .u8 43)), (some (13, false))⟩,
 ⟨some 17, .pick (.tmp 13) (.con (.bool true)) (.tmp 16), (some (9, true))⟩,
 ⟨some 18, .pick (.tmp 9) (.tmp 17) (.con (.bool false)), none⟩])
 (.cond (.tmp 18) (.region [⟨some 19, .mv (.tmp 0), none⟩,
 ⟨some 20, .slcStr (.tmp 19) (some (.con (.int .i64 1))) none, none⟩,
 ⟨some 0, .mv (.tmp 20), none⟩]) (.skip)))
 (.seq (.region [⟨some 5, .mv (.con (.bool false)), none⟩])
 (.seq (.seq (.region [⟨some 21, .mv (.tmp 0), none⟩,
 ⟨some 22, .len true (.tmp 21), none⟩,
 ⟨some 23, .bin .geq (.tmp 22) (.con (.int .i64 2)), none⟩,
 ⟨some 24, .mv (.tmp 23), none⟩,
 ⟨some 25, .mv (.tmp 0), (some (24, true))⟩,
 ⟨some 26, .idxStr (.tmp 25) (.con (.int .i64 0)), (some (24, true))⟩,
 ⟨some 27, .bin .eql (.tmp 26) (.con (.int .u8 48)), (some (24, true))⟩,
 ⟨some 28, .pick (.tmp 24) (.tmp 27) (.con (.bool false)), none⟩,
 ⟨some 29, .mv (.tmp 28), none⟩,
 ⟨some 30, .mv (.tmp 0), (some (29, true))⟩,
 ⟨some 31, .idxStr (.tmp 30) (.con (.int .i64 1)), (some (29, true))⟩,
 ⟨some 32, .call (.fn 108) [(.tmp 31)], (some (29, true))⟩,
 ⟨some 33, .bin .eql (.tmp 32) (.con (.int .u8 98)), (some (29, true))⟩,
 ⟨some 34, .mv (.tmp 33), (some (29, true))⟩,
 ⟨some 35, .mv (.tmp 0), (some (34, false))⟩,
 ⟨some 36, .idxStr (.tmp 35) (.con (.int .i64 1)), (some (34, false))⟩,
 ⟨some 37, .call (.fn 108) [(.tmp 36)], (some (34, false))⟩,
 ⟨some 38, .bin .eql (.tmp 37) (.con (.int .u8 111)), (some (34, false))⟩,
 ⟨some 39, .pick (.tmp 34) (.con (.bool true)) (.tmp 38), (some (29, true))⟩,
 ⟨some 40, .mv (.tmp 39), (some (29, true))⟩,
 ⟨some 41, .mv (.tmp 0), (some (40, false))⟩,
 ⟨some 42, .idxStr (.tmp 41) (.con (.int .i64 1)), (some (40, false))⟩,
 ⟨some 43, .call (.fn 108) [(.tmp 42)], (some (40, false))⟩,
 ⟨some 44, .bin .eql (.tmp 43) (.con (.int .u8 120)), (some (40, false))⟩,
 ⟨some 45, .pick (.tmp 40) (.con (.bool true)) (.tmp 44), (some (29, true))⟩,
 ⟨some 46, .pick (.tmp 29) (.tmp 45) (.con (.bool false)), none⟩])
 (.cond (.tmp 46) (.seq (.region [⟨some 4, .mv (.con (.int .i64 2)), none⟩])
 (.seq (.region [⟨some 3, .mv (.con (.int .i32 48)), none⟩])
 (.region [⟨some 47, .mv (.tmp 0), none⟩,
 ⟨some 48, .idxStr (.tmp 47) (.con (.int .i64 1)), none⟩,
 ⟨some 49, .call (.fn 108) [(.tmp 48)], none⟩,
 ⟨some 50, .bin .eql (.tmp 49) (.con (.int .u8 120)), none⟩,
 ⟨some 5, .mv (.tmp 50), none⟩]))) (.skip)))
 (.seq (.block 0 (.loop true H109L10 X109L10 B109L10))
 (.seq (.region [⟨some 92, .mv (.tmp 3), none⟩,
 ⟨some 93, .bin .neq (.tmp 92) (.con (.int .i32 95)), none⟩,
 ⟨some 2, .mv (.tmp 93), none⟩])
 (.ret))))))))
def A109 : AFunc := { ntmps := 94, results := [.tmp 2], body := B109, coe := true, keep := 0 }
theorem tr109 : trFunc Tryz.prog M109 true Tryz.f109 = some A109 := by kernel_rfl

/-- internal/stringslite.Clone -/
def M110 : Marks := { cut := fun _ => true, hd := fun | _ => [], ex := fun | _ => [], imm := fun | 9 => true | _ => false }
def B110 : ACode :=
 .seq (.region [⟨some 2, .mv (.con (.str ⟨#[]⟩)), none⟩])
 (.seq (.seq (.region [⟨some 4, .mv (.tmp 0), none⟩,
 ⟨some 5, .len true (.tmp 4), none⟩,
 ⟨some 6, .bin .eql (.tmp 5) (.con (.int .i64 0)), none⟩])
 (.cond (.tmp 6) (.seq (.region [⟨some 2, .mv (.con (.str ⟨#[]⟩)), none⟩])
 (.ret)) (.skip)))
 (.seq (.region [⟨some 7, .mv (.tmp 0), none⟩,
 ⟨some 8, .len true (.tmp 7), none⟩,
 ⟨some 9, .vmake true 5 1 1 [.int .u8 0] (.tmp 8) (.tmp 8), none⟩,
 ⟨some 3, .mv (.tmp 9), none⟩])
 (.seq (.region [⟨some 10, .mv (.tmp 3), none⟩,
 ⟨some 11, .mv (.tmp 0), none⟩,
 ⟨some 12, .stuck, none⟩])
 (.seq (.region [⟨some 13, .mv (.tmp 3), none⟩,
 ⟨some 14, .idxAddr 1 (.tmp 13) (.con (.int .i64 0)), none⟩,
 ⟨some 15, .mv (.tmp 3), none⟩,
 ⟨some 16, .len false (.tmp 15), none⟩,
 ⟨some 17, .ustr 5 (.tmp 14) (.tmp 16), none⟩,
 ⟨some 2, .mv (.tmp 17), none⟩])
 (.ret)))))
def A110 : AFunc := { ntmps := 18, results := [.tmp 2], body := B110, coe := true, keep := 0 }
theorem tr110 : trFunc Tryz.prog M110 true Tryz.f110 = some A110 := by kernel_rfl

/-- errors.New -/
def M111 : Marks := { cut := fun _ => true, hd := fun | _ => [], ex := fun | _ => [], imm := fun | _ => false }
def B111 : ACode :=
 .seq (.region [⟨some 2, .mv (.con (.nili)), none⟩])
 (.seq (.region [⟨some 3, .mv (.tmp 0), none⟩,
 ⟨some 4, .build [.str ⟨#[]⟩] [(0, 1, (.tmp 3))], none⟩,
 ⟨some 5, .box false (.tmp 4), none⟩,
 ⟨some 6, .mki 169 (.tmp 5), none⟩,
 ⟨some 2, .mv (.tmp 6), none⟩])
 (.ret))
def A111 : AFunc := { ntmps := 7, results := [.tmp 2], body := B111, coe := true, keep := 0 }
theorem tr111 : trFunc Tryz.prog M111 true Tryz.f111 = some A111 := by kernel_rfl

/-- unicode/utf8.AppendRune -/
def M123 : Marks := { cut := fun _ => true, hd := fun | _ => [], ex := fun | _ => [], imm := fun | 4 => true | 11 => true | _ => false }
def B123 : ACode :=
 .seq (.region [⟨some 4, .mv (.con (.slice 1 [])), none⟩])
 (.seq (.seq (.region [⟨some 5, .mv (.tmp 1), none⟩,
 ⟨some 6, .cvt .u32 (.tmp 5), none⟩,
 ⟨some 7, .bin .leq (.tmp 6) (.con (.int .u32 127)), none⟩])
 (.cond (.tmp 7) (.seq (.region [⟨some 8, .mv (.tmp 0), none⟩,
 ⟨some 9, .mv (.tmp 1), none⟩,
 ⟨some 10, .cvt .u8 (.tmp 9), none⟩,
 ⟨some 11, .lit true 5 1 1 [.int .u8 0] [(0, (.tmp 10))], none⟩,
 ⟨some 12, .app false 5 1 1 (.tmp 8) (.tmp 11), none⟩,
 ⟨some 4, .mv (.tmp 12), none⟩])
 (.ret)) (.skip)))
 (.seq (.region [⟨some 13, .mv (.tmp 0), none⟩,
 ⟨some 14, .mv (.tmp 1), none⟩,
 ⟨some 15, .call (.fn 135) [(.tmp 13), (.tmp 14)], none⟩,
 ⟨some 4, .mv (.tmp 15), none⟩])
 (.ret)))
def A123 : AFunc := { ntmps := 16, results := [.tmp 4], body := B123, coe := true, keep := 0 }
theorem tr123 : trFunc Tryz.prog M123 true Tryz.f123 = some A123 := by kernel_rfl

/-- internal/stringslite.IndexByte -/
def M125 : Marks := { cut := fun _ => true, hd := fun | _ => [], ex := fun | _ => [], imm := fun | _ => false }
def B125 : ACode :=
 .seq (.region [⟨some 4, .mv (.con (.int .i64 0)), none⟩])
 (.seq (.region [⟨some 5, .mv (.tmp 0), none⟩,
 ⟨some 6, .mv (.tmp 1), none⟩,
 ⟨some 7, .idxB (.tmp 5) (.tmp 6), none⟩,
 ⟨some 4, .mv (.tmp 7), none⟩])
 (.ret))
def A125 : AFunc := { ntmps := 8, results := [.tmp 4], body := B125, coe := true, keep := 0 }
theorem tr125 : trFunc Tryz.prog M125 true Tryz.f125 = some A125 := by kernel_rfl

/-- unicode/utf8.appendRuneNonASCII -/
def M135 : Marks := { cut := fun _ => true, hd := fun | _ => [], ex := fun | _ => [], imm := fun | 4 => true | 9 => true | 23 => true | 48 => true | 76 => true | _ => false }
def B135 : ACode :=
 .seq (.region [⟨some 4, .mv (.con (.slice 1 [])), none⟩])
 (.seq (.region [⟨some 6, .mv (.tmp 1), none⟩,
 ⟨some 7, .cvt .u32 (.tmp 6), none⟩,
 ⟨some 5, .mv (.tmp 7), none⟩])
 (.block 0 (.seq (.region [⟨some 12, .mv (.tmp 5), none⟩,
 ⟨some 13, .bin .leq (.tmp 12) (.con (.int .u32 2047)), none⟩,
 ⟨some 11, .mv (.tmp 13), none⟩])
 (.cond (.tmp 11) (.seq (.region [⟨some 14, .mv (.tmp 0), none⟩,
 ⟨some 15, .mv (.tmp 1), none⟩,
 ⟨some 16, .bin .shr (.tmp 15) (.con (.int .u64 6)), none⟩,
 ⟨some 17, .cvt .u8 (.tmp 16), none⟩,
 ⟨some 18, .bin .or (.con (.int .u8 192)) (.tmp 17), none⟩,
 ⟨some 19, .mv (.tmp 1), none⟩,
 ⟨some 20, .cvt .u8 (.tmp 19), none⟩,
 ⟨some 21, .bin .and (.tmp 20) (.con (.int .u8 63)), none⟩,
 ⟨some 22, .bin .or (.con (.int .u8 128)) (.tmp 21), none⟩,
 ⟨some 23, .lit true 5 1 2 [.int .u8 0] [(0, (.tmp 18)), (1, (.tmp 22))], none⟩,
 ⟨some 24, .app false 5 1 1 (.tmp 14) (.tmp 23), none⟩,
 ⟨some 4, .mv (.tmp 24), none⟩])
 (.ret)) (.seq (.seq (.region [⟨some 26, .mv (.tmp 5), none⟩,
 ⟨some 27, .bin .lss (.tmp 26) (.con (.int .u32 55296)), none⟩,
 ⟨some 25, .mv (.tmp 27), none⟩])
 (.cond (.tmp 25) (.skip) (.region [⟨some 28, .mv (.tmp 5), none⟩,
 ⟨some 29, .bin .lss (.con (.int .u32 57343)) (.tmp 28), none⟩,
 ⟨some 30, .mv (.tmp 29), none⟩,
 ⟨some 31, .mv (.tmp 5), (some (30, true))⟩,
 ⟨some 32, .bin .leq (.tmp 31) (.con (.int .u32 65535)), (some (30, true))⟩,
 ⟨some 33, .pick (.tmp 30) (.tmp 32) (.con (.bool false)), none⟩,
 ⟨some 25, .mv (.tmp 33), none⟩])))
 (.cond (.tmp 25) (.seq (.region [⟨some 34, .mv (.tmp 0), none⟩,
 ⟨some 35, .mv (.tmp 1), none⟩,
 ⟨some 36, .bin .shr (.tmp 35) (.con (.int .u64 12)), none⟩,
 ⟨some 37, .cvt .u8 (.tmp 36), none⟩,
 ⟨some 38, .bin .or (.con (.int .u8 224)) (.tmp 37), none⟩,
 ⟨some 39, .mv (.tmp 1), none⟩,
 ⟨some 40, .bin .shr (.tmp 39) (.con (.int .u64 6)), none⟩,
 ⟨some 41, .cvt .u8 (.tmp 40), none⟩,
 ⟨some 42, .bin .and (.tmp 41) (.con (.int .u8 63)), none⟩,
 ⟨some 43, .bin .or (.con (.int .u8 128)) (.tmp 42), none⟩,
 ⟨some 44, .mv (.tmp 1), none⟩,
 ⟨some 45, .cvt .u8 (.tmp 44), none⟩,
 ⟨some 46, .bin .and (.tmp 45) (.con (.int .u8 63)), none⟩,
 ⟨some 47, .bin .or (.con (.int .u8 128)) (.tmp 46), none⟩,
 ⟨some 48, .lit true 5 1 3 [.int .u8 0] [(0, (.tmp 38)), (1, (.tmp 43)), (2, (.tmp 47))], none⟩,
 ⟨some 49, .app false 5 1 1 (.tmp 34) (.tmp 48), none⟩,
 ⟨some 4, .mv (.tmp 49), none⟩])
 (.ret)) (.seq (.region [⟨some 51, .mv (.tmp 5), none⟩,
 ⟨some 52, .bin .gtr (.tmp 51) (.con (.int .u32 65535)), none⟩,
 ⟨some 53, .mv (.tmp 52), none⟩,
 ⟨some 54, .mv (.tmp 5), (some (53, true))⟩,
 ⟨some 55, .bin .leq (.tmp 54) (.con (.int .u32 1114111)), (some (53, true))⟩,
 ⟨some 56, .pick (.tmp 53) (.tmp 55) (.con (.bool false)), none⟩,
 ⟨some 50, .mv (.tmp 56), none⟩])
 (.cond (.tmp 50) (.seq (.region [⟨some 57, .mv (.tmp 0), none⟩,
 ⟨some 58, .mv (.tmp 1), none⟩,
 ⟨some 59, .bin .shr (.tmp 58) (.con (.int .u64 18)), none⟩,
 ⟨some 60, .cvt .u8 (.tmp 59), none⟩,
 ⟨some 61, .bin .or (.con (.int .u8 240)) (.tmp 60), none⟩,
 ⟨some 62, .mv (.tmp 1), none⟩,
 ⟨some 63, .bin .shr (.tmp 62) (.con (.int .u64 12)), none⟩,
 ⟨some 64, .cvt .u8 (.tmp 63), none⟩,
 ⟨some 65, .bin .and (.tmp 64) (.con (.int .u8 63)), none⟩,
 ⟨some 66, .bin .or (.con (.int .u8 128)) (.tmp 65), none⟩,
 ⟨some 67, .mv (.tmp 1), none⟩,
 ⟨some 68, .bin .shr (.tmp 67) (.con (.int .u64 6)), none⟩,
 ⟨some 69, .cvt .u8 (.tmp 68), none⟩,
 ⟨some 70, .bin .and (.tmp 69) (.con (.int .u8 63)), none⟩,
 ⟨some 71, .bin .or (.con (.int .u8 128)) (.tmp 70), none⟩,
 ⟨some 72, .mv (.tmp 1), none⟩,
 ⟨some 73, .cvt .u8 (.tmp 72), none⟩,
 ⟨some 74, .bin .and (.tmp 73) (.con (.int .u8 63)), none⟩,
 ⟨some 75, .bin .or (.con (.int .u8 128)) (.tmp 74), none⟩,
 ⟨some 76, .lit true 5 1 4 [.int .u8 0] [(0, (.tmp 61)), (1, (.tmp 66)), (2, (.tmp 71)), (3, (.tmp 75))], none⟩,
 ⟨some 77, .app false 5 1 1 (.tmp 57) (.tmp 76), none⟩,
 ⟨some 4, .mv (.tmp 77), none⟩])
 (.ret)) (.seq (.region [⟨some 8, .mv (.tmp 0), none⟩,
 ⟨some 9, .lit true 5 1 3 [.int .u8 0] [(0, (.con (.int .u8 239))), (1, (.con (.int .u8 191))), (2, (.con (.int .u8 189)))], none⟩,
 ⟨some 10, .app false 5 1 1 (.tmp 8) (.tmp 9), none⟩,
 ⟨some 4, .mv (.tmp 10), none⟩])
 (.ret))))))))))
def A135 : AFunc := { ntmps := 78, results := [.tmp 4], body := B135, coe := true, keep := 0 }
theorem tr135 : trFunc Tryz.prog M135 true Tryz.f135 = some A135 := by kernel_rfl

/-- The functions' deep codes, and contracts of functions without. -/
def ext : FuncId → Option (List DV → List Res → Option DOut) := fun | 21 => some (xItoa) | 22 => some (xFormat) | 24 => some (xJoin) | 33 => some (xSplit) | _ => none
def env : Env := { af := fun | 5 => some A5 | 6 => some A6 | 7 => some A7 | 9 => some A9 | 13 => some A13 | 14 => some A14 | 15 => some A15 | 16 => some A16 | 17 => some A17 | 18 => some A18 | 20 => some A20 | 23 => some A23 | 29 => some A29 | 30 => some A30 | 31 => some A31 | 32 => some A32 | 34 => some A34 | 35 => some A35 | 45 => some A45 | 46 => some A46 | 47 => some A47 | 48 => some A48 | 49 => some A49 | 50 => some A50 | 51 => some A51 | 52 => some A52 | 54 => some A54 | 55 => some A55 | 63 => some A63 | 64 => some A64 | 65 => some A65 | 66 => some A66 | 67 => some A67 | 68 => some A68 | 69 => some A69 | 70 => some A70 | 71 => some A71 | 72 => some A72 | 73 => some A73 | 74 => some A74 | 75 => some A75 | 76 => some A76 | 80 => some A80 | 81 => some A81 | 82 => some A82 | 83 => some A83 | 84 => some A84 | 96 => some A96 | 97 => some A97 | 98 => some A98 | 99 => some A99 | 100 => some A100 | 101 => some A101 | 102 => some A102 | 103 => some A103 | 108 => some A108 | 109 => some A109 | 110 => some A110 | 111 => some A111 | 123 => some A123 | 125 => some A125 | 135 => some A135 | _ => none, ext := ext }
theorem env_ok {G : Glob} (hx : ExtOk Tryz.prog G ext) : EnvOk Tryz.prog G env where
  af := fun g F h => by
    unfold env at h
    simp only at h
    split at h
    · cases h; exact ⟨Tryz.f5, M5, true, by kernel_rfl, by kernel_rfl, tr5⟩
    · cases h; exact ⟨Tryz.f6, M6, true, by kernel_rfl, by kernel_rfl, tr6⟩
    · cases h; exact ⟨Tryz.f7, M7, true, by kernel_rfl, by kernel_rfl, tr7⟩
    · cases h; exact ⟨Tryz.f9, M9, true, by kernel_rfl, by kernel_rfl, tr9⟩
    · cases h; exact ⟨Tryz.f13, M13, true, by kernel_rfl, by kernel_rfl, tr13⟩
    · cases h; exact ⟨Tryz.f14, M14, true, by kernel_rfl, by kernel_rfl, tr14⟩
    · cases h; exact ⟨Tryz.f15, M15, true, by kernel_rfl, by kernel_rfl, tr15⟩
    · cases h; exact ⟨Tryz.f16, M16, true, by kernel_rfl, by kernel_rfl, tr16⟩
    · cases h; exact ⟨Tryz.f17, M17, true, by kernel_rfl, by kernel_rfl, tr17⟩
    · cases h; exact ⟨Tryz.f18, M18, true, by kernel_rfl, by kernel_rfl, tr18⟩
    · cases h; exact ⟨Tryz.f20, M20, true, by kernel_rfl, by kernel_rfl, tr20⟩
    · cases h; exact ⟨Tryz.f23, M23, true, by kernel_rfl, by kernel_rfl, tr23⟩
    · cases h; exact ⟨Tryz.f29, M29, true, by kernel_rfl, by kernel_rfl, tr29⟩
    · cases h; exact ⟨Tryz.f30, M30, true, by kernel_rfl, by kernel_rfl, tr30⟩
    · cases h; exact ⟨Tryz.f31, M31, true, by kernel_rfl, by kernel_rfl, tr31⟩
    · cases h; exact ⟨Tryz.f32, M32, true, by kernel_rfl, by kernel_rfl, tr32⟩
    · cases h; exact ⟨Tryz.f34, M34, true, by kernel_rfl, by kernel_rfl, tr34⟩
    · cases h; exact ⟨Tryz.f35, M35, true, by kernel_rfl, by kernel_rfl, tr35⟩
    · cases h; exact ⟨Tryz.f45, M45, true, by kernel_rfl, by kernel_rfl, tr45⟩
    · cases h; exact ⟨Tryz.f46, M46, true, by kernel_rfl, by kernel_rfl, tr46⟩
    · cases h; exact ⟨Tryz.f47, M47, true, by kernel_rfl, by kernel_rfl, tr47⟩
    · cases h; exact ⟨Tryz.f48, M48, true, by kernel_rfl, by kernel_rfl, tr48⟩
    · cases h; exact ⟨Tryz.f49, M49, true, by kernel_rfl, by kernel_rfl, tr49⟩
    · cases h; exact ⟨Tryz.f50, M50, true, by kernel_rfl, by kernel_rfl, tr50⟩
    · cases h; exact ⟨Tryz.f51, M51, true, by kernel_rfl, by kernel_rfl, tr51⟩
    · cases h; exact ⟨Tryz.f52, M52, true, by kernel_rfl, by kernel_rfl, tr52⟩
    · cases h; exact ⟨Tryz.f54, M54, true, by kernel_rfl, by kernel_rfl, tr54⟩
    · cases h; exact ⟨Tryz.f55, M55, true, by kernel_rfl, by kernel_rfl, tr55⟩
    · cases h; exact ⟨Tryz.f63, M63, true, by kernel_rfl, by kernel_rfl, tr63⟩
    · cases h; exact ⟨Tryz.f64, M64, true, by kernel_rfl, by kernel_rfl, tr64⟩
    · cases h; exact ⟨Tryz.f65, M65, true, by kernel_rfl, by kernel_rfl, tr65⟩
    · cases h; exact ⟨Tryz.f66, M66, true, by kernel_rfl, by kernel_rfl, tr66⟩
    · cases h; exact ⟨Tryz.f67, M67, true, by kernel_rfl, by kernel_rfl, tr67⟩
    · cases h; exact ⟨Tryz.f68, M68, true, by kernel_rfl, by kernel_rfl, tr68⟩
    · cases h; exact ⟨Tryz.f69, M69, true, by kernel_rfl, by kernel_rfl, tr69⟩
    · cases h; exact ⟨Tryz.f70, M70, true, by kernel_rfl, by kernel_rfl, tr70⟩
    · cases h; exact ⟨Tryz.f71, M71, true, by kernel_rfl, by kernel_rfl, tr71⟩
    · cases h; exact ⟨Tryz.f72, M72, true, by kernel_rfl, by kernel_rfl, tr72⟩
    · cases h; exact ⟨Tryz.f73, M73, true, by kernel_rfl, by kernel_rfl, tr73⟩
    · cases h; exact ⟨Tryz.f74, M74, true, by kernel_rfl, by kernel_rfl, tr74⟩
    · cases h; exact ⟨Tryz.f75, M75, true, by kernel_rfl, by kernel_rfl, tr75⟩
    · cases h; exact ⟨Tryz.f76, M76, true, by kernel_rfl, by kernel_rfl, tr76⟩
    · cases h; exact ⟨Tryz.f80, M80, true, by kernel_rfl, by kernel_rfl, tr80⟩
    · cases h; exact ⟨Tryz.f81, M81, true, by kernel_rfl, by kernel_rfl, tr81⟩
    · cases h; exact ⟨Tryz.f82, M82, true, by kernel_rfl, by kernel_rfl, tr82⟩
    · cases h; exact ⟨Tryz.f83, M83, true, by kernel_rfl, by kernel_rfl, tr83⟩
    · cases h; exact ⟨Tryz.f84, M84, true, by kernel_rfl, by kernel_rfl, tr84⟩
    · cases h; exact ⟨Tryz.f96, M96, true, by kernel_rfl, by kernel_rfl, tr96⟩
    · cases h; exact ⟨Tryz.f97, M97, true, by kernel_rfl, by kernel_rfl, tr97⟩
    · cases h; exact ⟨Tryz.f98, M98, true, by kernel_rfl, by kernel_rfl, tr98⟩
    · cases h; exact ⟨Tryz.f99, M99, true, by kernel_rfl, by kernel_rfl, tr99⟩
    · cases h; exact ⟨Tryz.f100, M100, true, by kernel_rfl, by kernel_rfl, tr100⟩
    · cases h; exact ⟨Tryz.f101, M101, true, by kernel_rfl, by kernel_rfl, tr101⟩
    · cases h; exact ⟨Tryz.f102, M102, true, by kernel_rfl, by kernel_rfl, tr102⟩
    · cases h; exact ⟨Tryz.f103, M103, true, by kernel_rfl, by kernel_rfl, tr103⟩
    · cases h; exact ⟨Tryz.f108, M108, true, by kernel_rfl, by kernel_rfl, tr108⟩
    · cases h; exact ⟨Tryz.f109, M109, true, by kernel_rfl, by kernel_rfl, tr109⟩
    · cases h; exact ⟨Tryz.f110, M110, true, by kernel_rfl, by kernel_rfl, tr110⟩
    · cases h; exact ⟨Tryz.f111, M111, true, by kernel_rfl, by kernel_rfl, tr111⟩
    · cases h; exact ⟨Tryz.f123, M123, true, by kernel_rfl, by kernel_rfl, tr123⟩
    · cases h; exact ⟨Tryz.f125, M125, true, by kernel_rfl, by kernel_rfl, tr125⟩
    · cases h; exact ⟨Tryz.f135, M135, true, by kernel_rfl, by kernel_rfl, tr135⟩
    · cases h
  ext := hx

end Go.Proofs.YtpemlmhggiaflaaGreatDoor.Codes
