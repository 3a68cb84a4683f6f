/-
  The deep codes of functions, each with the fact that it is that of the function's code. Written by wip/gen/deep.py.
  Conditions: none.
-/
import Derived.Test.YtoadpaaghjomnaaDoorDV
import Derived.Test.YtoadpaaghjomnaaDoorProg
import Derived.KernelRfl
set_option maxRecDepth 100000
namespace Go.Proofs.YtoadpaaghjomnaaDoor.Codes
open Go.Deepv

/-- handloom/handloomlaw03.LexDoes -/
def M4 : Marks := { cut := fun _ => true, hd := fun | _ => [], ex := fun | _ => [], imm := fun | 4 => true | _ => false, alts := fun | 5 => [[0, 1, 2, 3, 4, 5, 6, 7, 8, 9, 10, 11, 12, 13, 14, 15, 16, 17, 18, 19, 20, 21, 22, 23, 24, 25, 26, 27, 29, 30, 28, 31, 32, 33, 34, 35, 36, 37, 38], [0, 1, 2, 3, 4, 5, 6, 7, 8, 9, 10, 11, 12, 13, 14, 15, 16, 17, 19, 20, 18, 21, 22, 23, 24, 25, 26, 27, 28, 29, 30, 31, 32, 33, 34, 35, 36, 37, 38], [0, 1, 2, 3, 4, 5, 6, 7, 8, 9, 10, 11, 12, 13, 14, 15, 16, 17, 19, 20, 18, 21, 22, 23, 24, 25, 26, 27, 29, 30, 28, 31, 32, 33, 34, 35, 36, 37, 38], [0, 1, 2, 3, 4, 5, 6, 7, 8, 9, 11, 10, 12, 13, 14, 15, 16, 17, 18, 19, 20, 21, 22, 23, 24, 25, 26, 27, 28, 29, 30, 31, 32, 33, 34, 35, 36, 37, 38], [0, 1, 2, 3, 4, 5, 6, 7, 8, 9, 11, 10, 12, 13, 14, 15, 16, 17, 18, 19, 20, 21, 22, 23, 24, 25, 26, 27, 29, 30, 28, 31, 32, 33, 34, 35, 36, 37, 38], [0, 1, 2, 3, 4, 5, 6, 7, 8, 9, 11, 10, 12, 13, 14, 15, 16, 17, 19, 20, 18, 21, 22, 23, 24, 25, 26, 27, 28, 29, 30, 31, 32, 33, 34, 35, 36, 37, 38], [0, 1, 2, 3, 4, 5, 6, 7, 8, 9, 11, 10, 12, 13, 14, 15, 16, 17, 19, 20, 18, 21, 22, 23, 24, 25, 26, 27, 29, 30, 28, 31, 32, 33, 34, 35, 36, 37, 38]] | _ => [] }
def B4 : ACode :=
  .seq (.region [⟨some 4, .box true (.tmp 1), none⟩,
    ⟨some 6, .mv (.con (.bool false)), none⟩])
  (.seq (.seq (.region [⟨some 11, .mv (.tmp 0), none⟩,
    ⟨some 12, .len true (.tmp 11), none⟩,
    ⟨some 13, .bin .gtr (.tmp 12) (.con (.int .i64 3000)), none⟩,
    ⟨some 14, .mv (.tmp 13), none⟩,
    ⟨some 15, .mv (.tmp 0), (some (14, true))⟩,
    ⟨some 16, .len true (.tmp 15), (some (14, true))⟩,
    ⟨some 17, .bin .leq (.tmp 16) (.con (.int .i64 16384)), (some (14, true))⟩,
    ⟨some 18, .pick (.tmp 14) (.tmp 17) (.con (.bool false)), none⟩,
    ⟨some 19, .mv (.tmp 18), none⟩,
    ⟨some 20, .addOff 1 (.tmp 4), (some (19, false))⟩,
    ⟨some 21, .load none (.tmp 20), (some (19, false))⟩,
    ⟨some 22, .len true (.tmp 21), (some (19, false))⟩,
    ⟨some 23, .bin .gtr (.tmp 22) (.con (.int .i64 300)), (some (19, false))⟩,
    ⟨some 24, .pick (.tmp 19) (.con (.bool true)) (.tmp 23), none⟩,
    ⟨some 25, .mv (.tmp 24), none⟩,
    ⟨some 26, .addOff 3 (.tmp 4), (some (25, false))⟩,
    ⟨some 27, .load none (.tmp 26), (some (25, false))⟩,
    ⟨some 28, .len false (.tmp 27), (some (25, false))⟩,
    ⟨some 29, .bin .gtr (.tmp 28) (.con (.int .i64 300)), (some (25, false))⟩,
    ⟨some 30, .pick (.tmp 25) (.con (.bool true)) (.tmp 29), none⟩])
  (.cond (.tmp 30) (.seq (.region [⟨some 31, .call (.fn 12) [], none⟩,
    ⟨some 6, .mv (.tmp 31), none⟩])
  (.ret)) (.skip)))
  (.seq (.region [⟨some 33, .mv (.tmp 0), none⟩,
    ⟨some 34, .call (.fn 13) [(.tmp 33)], none⟩,
    ⟨some 32, .mv (.tmp 34), none⟩,
    ⟨some 35, .ext 0 (.tmp 32), none⟩,
    ⟨some 36, .ext 1 (.tmp 32), none⟩,
    ⟨some 8, .alloc [.ok (.int .i64 0), .ok (.int .i64 0), .ok (.int .i64 0)], none⟩,
    ⟨some 7, .mv (.tmp 35), none⟩,
    ⟨none, .store 3 (.tmp 8) (.tmp 36), none⟩])
  (.seq (.region [⟨some 38, .mv (.tmp 0), none⟩,
    ⟨some 39, .call (.fn 14) [(.tmp 38)], none⟩,
    ⟨some 37, .mv (.tmp 39), none⟩,
    ⟨some 40, .ext 0 (.tmp 37), none⟩,
    ⟨some 41, .ext 1 (.tmp 37), none⟩,
    ⟨some 10, .alloc [.ok (.int .i64 0), .ok (.int .i64 0), .ok (.int .i64 0)], none⟩,
    ⟨some 9, .mv (.tmp 40), none⟩,
    ⟨none, .store 3 (.tmp 10) (.tmp 41), none⟩])
  (.seq (.draw [⟨some 42, .mv (.tmp 7), none⟩,
    ⟨some 43, .mv (.tmp 9), none⟩,
    ⟨some 44, .call (.fn 15) [(.tmp 42), (.tmp 43), (.con (.bool true))], none⟩,
    ⟨some 45, .mv (.tmp 44), none⟩,
    ⟨some 46, .load (some 3) (.tmp 8), (some (45, true))⟩,
    ⟨some 47, .load (some 3) (.tmp 10), (some (45, true))⟩,
    ⟨some 48, .eqs false [0, 0, 0] (.tmp 46) (.tmp 47), (some (45, true))⟩,
    ⟨some 49, .pick (.tmp 45) (.tmp 48) (.con (.bool false)), none⟩,
    ⟨some 50, .mv (.tmp 49), none⟩,
    ⟨some 51, .load (some 6) (.tmp 4), (some (50, true))⟩,
    ⟨some 52, .call (.fn 16) [(.tmp 51)], (some (50, true))⟩,
    ⟨some 53, .load (some 6) (.tmp 4), (some (50, true))⟩,
    ⟨some 54, .call (.fn 17) [(.tmp 53)], (some (50, true))⟩,
    ⟨some 55, .bin .eql (.tmp 52) (.tmp 54), (some (50, true))⟩,
    ⟨some 56, .pick (.tmp 50) (.tmp 55) (.con (.bool false)), none⟩,
    ⟨some 57, .mv (.tmp 56), none⟩,
    ⟨some 58, .addOff 1 (.tmp 4), (some (57, true))⟩,
    ⟨some 59, .load none (.tmp 58), (some (57, true))⟩,
    ⟨some 60, .call (.fn 18) [(.tmp 59)], (some (57, true))⟩,
    ⟨some 61, .addOff 1 (.tmp 4), (some (57, true))⟩,
    ⟨some 62, .load none (.tmp 61), (some (57, true))⟩,
    ⟨some 63, .call (.fn 19) [(.tmp 62)], (some (57, true))⟩,
    ⟨some 64, .eqb false (.tmp 60) (.tmp 63), (some (57, true))⟩,
    ⟨some 65, .pick (.tmp 57) (.tmp 64) (.con (.bool false)), none⟩,
    ⟨some 66, .mv (.tmp 65), none⟩,
    ⟨some 67, .addOff 1 (.tmp 4), (some (66, true))⟩,
    ⟨some 68, .load none (.tmp 67), (some (66, true))⟩,
    ⟨some 69, .mv (.tmp 2), (some (66, true))⟩,
    ⟨some 70, .call (.fn 20) [(.tmp 68), (.tmp 69)], (some (66, true))⟩,
    ⟨some 71, .addOff 1 (.tmp 4), (some (66, true))⟩,
    ⟨some 72, .load none (.tmp 71), (some (66, true))⟩,
    ⟨some 73, .mv (.tmp 2), (some (66, true))⟩,
    ⟨some 74, .call (.fn 21) [(.tmp 72), (.tmp 73)], (some (66, true))⟩,
    ⟨some 75, .eqb false (.tmp 70) (.tmp 74), (some (66, true))⟩,
    ⟨some 76, .pick (.tmp 66) (.tmp 75) (.con (.bool false)), none⟩,
    ⟨some 77, .mv (.tmp 76), none⟩,
    ⟨some 78, .call (.fn 12) [], (some (77, true))⟩,
    ⟨some 79, .pick (.tmp 77) (.tmp 78) (.con (.bool false)), none⟩,
    ⟨some 6, .mv (.tmp 79), none⟩] [[⟨some 42, .mv (.tmp 7), none⟩, ⟨some 43, .mv (.tmp 9), none⟩, ⟨some 44, .call (.fn 15) [(.tmp 42), (.tmp 43), (.con (.bool true))], none⟩, ⟨some 45, .mv (.tmp 44), none⟩, ⟨some 46, .load (some 3) (.tmp 8), (some (45, true))⟩, ⟨some 47, .load (some 3) (.tmp 10), (some (45, true))⟩, ⟨some 48, .eqs false [0, 0, 0] (.tmp 46) (.tmp 47), (some (45, true))⟩, ⟨some 49, .pick (.tmp 45) (.tmp 48) (.con (.bool false)), none⟩, ⟨some 50, .mv (.tmp 49), none⟩, ⟨some 51, .load (some 6) (.tmp 4), (some (50, true))⟩, ⟨some 52, .call (.fn 16) [(.tmp 51)], (some (50, true))⟩, ⟨some 53, .load (some 6) (.tmp 4), (some (50, true))⟩, ⟨some 54, .call (.fn 17) [(.tmp 53)], (some (50, true))⟩, ⟨some 55, .bin .eql (.tmp 52) (.tmp 54), (some (50, true))⟩, ⟨some 56, .pick (.tmp 50) (.tmp 55) (.con (.bool false)), none⟩, ⟨some 57, .mv (.tmp 56), none⟩, ⟨some 58, .addOff 1 (.tmp 4), (some (57, true))⟩, ⟨some 59, .load none (.tmp 58), (some (57, true))⟩, ⟨some 60, .call (.fn 18) [(.tmp 59)], (some (57, true))⟩, ⟨some 61, .addOff 1 (.tmp 4), (some (57, true))⟩, ⟨some 62, .load none (.tmp 61), (some (57, true))⟩, ⟨some 63, .call (.fn 19) [(.tmp 62)], (some (57, true))⟩, ⟨some 64, .eqb false (.tmp 60) (.tmp 63), (some (57, true))⟩, ⟨some 65, .pick (.tmp 57) (.tmp 64) (.con (.bool false)), none⟩, ⟨some 66, .mv (.tmp 65), none⟩, ⟨some 67, .addOff 1 (.tmp 4), (some (66, true))⟩, ⟨some 68, .load none (.tmp 67), (some (66, true))⟩, ⟨some 69, .mv (.tmp 2), (some (66, true))⟩, ⟨some 71, .addOff 1 (.tmp 4), (some (66, true))⟩, ⟨some 72, .load none (.tmp 71), (some (66, true))⟩, ⟨some 70, .call (.fn 20) [(.tmp 68), (.tmp 69)], (some (66, true))⟩, ⟨some 73, .mv (.tmp 2), (some (66, true))⟩, ⟨some 74, .call (.fn 21) [(.tmp 72), (.tmp 73)], (some (66, true))⟩, ⟨some 75, .eqb false (.tmp 70) (.tmp 74), (some (66, true))⟩, ⟨some 76, .pick (.tmp 66) (.tmp 75) (.con (.bool false)), none⟩, ⟨some 77, .mv (.tmp 76), none⟩, ⟨some 78, .call (.fn 12) [], (some (77, true))⟩, ⟨some 79, .pick (.tmp 77) (.tmp 78) (.con (.bool false)), none⟩, ⟨some 6, .mv (.tmp 79), none⟩], [⟨some 42, .mv (.tmp 7), none⟩, ⟨some 43, .mv (.tmp 9), none⟩, ⟨some 44, .call (.fn 15) [(.tmp 42), (.tmp 43), (.con (.bool true))], none⟩, ⟨some 45, .mv (.tmp 44), none⟩, ⟨some 46, .load (some 3) (.tmp 8), (some (45, true))⟩, ⟨some 47, .load (some 3) (.tmp 10), (some (45, true))⟩, ⟨some 48, .eqs false [0, 0, 0] (.tmp 46) (.tmp 47), (some (45, true))⟩, ⟨some 49, .pick (.tmp 45) (.tmp 48) (.con (.bool false)), none⟩, ⟨some 50, .mv (.tmp 49), none⟩, ⟨some 51, .load (some 6) (.tmp 4), (some (50, true))⟩, ⟨some 52, .call (.fn 16) [(.tmp 51)], (some (50, true))⟩, ⟨some 53, .load (some 6) (.tmp 4), (some (50, true))⟩, ⟨some 54, .call (.fn 17) [(.tmp 53)], (some (50, true))⟩, ⟨some 55, .bin .eql (.tmp 52) (.tmp 54), (some (50, true))⟩, ⟨some 56, .pick (.tmp 50) (.tmp 55) (.con (.bool false)), none⟩, ⟨some 57, .mv (.tmp 56), none⟩, ⟨some 58, .addOff 1 (.tmp 4), (some (57, true))⟩, ⟨some 59, .load none (.tmp 58), (some (57, true))⟩, ⟨some 61, .addOff 1 (.tmp 4), (some (57, true))⟩, ⟨some 62, .load none (.tmp 61), (some (57, true))⟩, ⟨some 60, .call (.fn 18) [(.tmp 59)], (some (57, true))⟩, ⟨some 63, .call (.fn 19) [(.tmp 62)], (some (57, true))⟩, ⟨some 64, .eqb false (.tmp 60) (.tmp 63), (some (57, true))⟩, ⟨some 65, .pick (.tmp 57) (.tmp 64) (.con (.bool false)), none⟩, ⟨some 66, .mv (.tmp 65), none⟩, ⟨some 67, .addOff 1 (.tmp 4), (some (66, true))⟩, ⟨some 68, .load none (.tmp 67), (some (66, true))⟩, ⟨some 69, .mv (.tmp 2), (some (66, true))⟩, ⟨some 70, .call (.fn 20) [(.tmp 68), (.tmp 69)], (some (66, true))⟩, ⟨some 71, .addOff 1 (.tmp 4), (some (66, true))⟩, ⟨some 72, .load none (.tmp 71), (some (66, true))⟩, ⟨some 73, .mv (.tmp 2), (some (66, true))⟩, ⟨some 74, .call (.fn 21) [(.tmp 72), (.tmp 73)], (some (66, true))⟩, ⟨some 75, .eqb false (.tmp 70) (.tmp 74), (some (66, true))⟩, ⟨some 76, .pick (.tmp 66) (.tmp 75) (.con (.bool false)), none⟩, ⟨some 77, .mv (.tmp 76), none⟩, ⟨some 78, .call (.fn 12) [], (some (77, true))⟩, ⟨some 79, .pick (.tmp 77) (.tmp 78) (.con (.bool false)), none⟩, ⟨some 6, .mv (.tmp 79), none⟩], [⟨some 42, .mv (.tmp 7), none⟩, ⟨some 43, .mv (.tmp 9), none⟩, ⟨some 44, .call (.fn 15) [(.tmp 42), (.tmp 43), (.con (.bool true))], none⟩, ⟨some 45, .mv (.tmp 44), none⟩, ⟨some 46, .load (some 3) (.tmp 8), (some (45, true))⟩, ⟨some 47, .load (some 3) (.tmp 10), (some (45, true))⟩, ⟨some 48, .eqs false [0, 0, 0] (.tmp 46) (.tmp 47), (some (45, true))⟩, ⟨some 49, .pick (.tmp 45) (.tmp 48) (.con (.bool false)), none⟩, ⟨some 50, .mv (.tmp 49), none⟩, ⟨some 51, .load (some 6) (.tmp 4), (some (50, true))⟩, ⟨some 52, .call (.fn 16) [(.tmp 51)], (some (50, true))⟩, ⟨some 53, .load (some 6) (.tmp 4), (some (50, true))⟩, ⟨some 54, .call (.fn 17) [(.tmp 53)], (some (50, true))⟩, ⟨some 55, .bin .eql (.tmp 52) (.tmp 54), (some (50, true))⟩, ⟨some 56, .pick (.tmp 50) (.tmp 55) (.con (.bool false)), none⟩, ⟨some 57, .mv (.tmp 56), none⟩, ⟨some 58, .addOff 1 (.tmp 4), (some (57, true))⟩, ⟨some 59, .load none (.tmp 58), (some (57, true))⟩, ⟨some 61, .addOff 1 (.tmp 4), (some (57, true))⟩, ⟨some 62, .load none (.tmp 61), (some (57, true))⟩, ⟨some 60, .call (.fn 18) [(.tmp 59)], (some (57, true))⟩, ⟨some 63, .call (.fn 19) [(.tmp 62)], (some (57, true))⟩, ⟨some 64, .eqb false (.tmp 60) (.tmp 63), (some (57, true))⟩, ⟨some 65, .pick (.tmp 57) (.tmp 64) (.con (.bool false)), none⟩, ⟨some 66, .mv (.tmp 65), none⟩, ⟨some 67, .addOff 1 (.tmp 4), (some (66, true))⟩, ⟨some 68, .load none (.tmp 67), (some (66, true))⟩, ⟨some 69, .mv (.tmp 2), (some (66, true))⟩, ⟨some 71, .addOff 1 (.tmp 4), (some (66, true))⟩, ⟨some 72, .load none (.tmp 71), (some (66, true))⟩, ⟨some 70, .call (.fn 20) [(.tmp 68), (.tmp 69)], (some (66, true))⟩, ⟨some 73, .mv (.tmp 2), (some (66, true))⟩, ⟨some 74, .call (.fn 21) [(.tmp 72), (.tmp 73)], (some (66, true))⟩, ⟨some 75, .eqb false (.tmp 70) (.tmp 74), (some (66, true))⟩, ⟨some 76, .pick (.tmp 66) (.tmp 75) (.con (.bool false)), none⟩, ⟨some 77, .mv (.tmp 76), none⟩, ⟨some 78, .call (.fn 12) [], (some (77, true))⟩, ⟨some 79, .pick (.tmp 77) (.tmp 78) (.con (.bool false)), none⟩, ⟨some 6, .mv (.tmp 79), none⟩], [⟨some 42, .mv (.tmp 7), none⟩, ⟨some 43, .mv (.tmp 9), none⟩, ⟨some 44, .call (.fn 15) [(.tmp 42), (.tmp 43), (.con (.bool true))], none⟩, ⟨some 45, .mv (.tmp 44), none⟩, ⟨some 46, .load (some 3) (.tmp 8), (some (45, true))⟩, ⟨some 47, .load (some 3) (.tmp 10), (some (45, true))⟩, ⟨some 48, .eqs false [0, 0, 0] (.tmp 46) (.tmp 47), (some (45, true))⟩, ⟨some 49, .pick (.tmp 45) (.tmp 48) (.con (.bool false)), none⟩, ⟨some 50, .mv (.tmp 49), none⟩, ⟨some 51, .load (some 6) (.tmp 4), (some (50, true))⟩, ⟨some 53, .load (some 6) (.tmp 4), (some (50, true))⟩, ⟨some 52, .call (.fn 16) [(.tmp 51)], (some (50, true))⟩, ⟨some 54, .call (.fn 17) [(.tmp 53)], (some (50, true))⟩, ⟨some 55, .bin .eql (.tmp 52) (.tmp 54), (some (50, true))⟩, ⟨some 56, .pick (.tmp 50) (.tmp 55) (.con (.bool false)), none⟩, ⟨some 57, .mv (.tmp 56), none⟩, ⟨some 58, .addOff 1 (.tmp 4), (some (57, true))⟩, ⟨some 59, .load none (.tmp 58), (some (57, true))⟩, ⟨some 60, .call (.fn 18) [(.tmp 59)], (some (57, true))⟩, ⟨some 61, .addOff 1 (.tmp 4), (some (57, true))⟩, ⟨some 62, .load none (.tmp 61), (some (57, true))⟩, ⟨some 63, .call (.fn 19) [(.tmp 62)], (some (57, true))⟩, ⟨some 64, .eqb false (.tmp 60) (.tmp 63), (some (57, true))⟩, ⟨some 65, .pick (.tmp 57) (.tmp 64) (.con (.bool false)), none⟩, ⟨some 66, .mv (.tmp 65), none⟩, ⟨some 67, .addOff 1 (.tmp 4), (some (66, true))⟩, ⟨some 68, .load none (.tmp 67), (some (66, true))⟩, ⟨some 69, .mv (.tmp 2), (some (66, true))⟩, ⟨some 70, .call (.fn 20) [(.tmp 68), (.tmp 69)], (some (66, true))⟩, ⟨some 71, .addOff 1 (.tmp 4), (some (66, true))⟩, ⟨some 72, .load none (.tmp 71), (some (66, true))⟩, ⟨some 73, .mv (.tmp 2), (some (66, true))⟩, ⟨some 74, .call (.fn 21) [(.tmp 72), (.tmp 73)], (some (66, true))⟩, ⟨some 75, .eqb false (.tmp 70) (.tmp 74), (some (66, true))⟩, ⟨some 76, .pick (.tmp 66) (.tmp 75) (.con (.bool false)), none⟩, ⟨some 77, .mv (.tmp 76), none⟩, ⟨some 78, .call (.fn 12) [], (some (77, true))⟩, ⟨some 79, .pick (.tmp 77) (.tmp 78) (.con (.bool false)), none⟩, ⟨some 6, .mv (.tmp 79), none⟩], [⟨some 42, .mv (.tmp 7), none⟩, ⟨some 43, .mv (.tmp 9), none⟩, ⟨some 44, .call (.fn 15) [(.tmp 42), (.tmp 43), (.con (.bool true))], none⟩, ⟨some 45, .mv (.tmp 44), none⟩, ⟨some 46, .load (some 3) (.tmp 8), (some (45, true))⟩, ⟨some 47, .load (some 3) (.tmp 10), (some (45, true))⟩, ⟨some 48, .eqs false [0, 0, 0] (.tmp 46) (.tmp 47), (some (45, true))⟩, ⟨some 49, .pick (.tmp 45) (.tmp 48) (.con (.bool false)), none⟩, ⟨some 50, .mv (.tmp 49), none⟩, ⟨some 51, .load (some 6) (.tmp 4), (some (50, true))⟩, ⟨some 53, .load (some 6) (.tmp 4), (some (50, true))⟩, ⟨some 52, .call (.fn 16) [(.tmp 51)], (some (50, true))⟩, ⟨some 54, .call (.fn 17) [(.tmp 53)], (some (50, true))⟩, ⟨some 55, .bin .eql (.tmp 52) (.tmp 54), (some (50, true))⟩, ⟨some 56, .pick (.tmp 50) (.tmp 55) (.con (.bool false)), none⟩, ⟨some 57, .mv (.tmp 56), none⟩, ⟨some 58, .addOff 1 (.tmp 4), (some (57, true))⟩, ⟨some 59, .load none (.tmp 58), (some (57, true))⟩, ⟨some 60, .call (.fn 18) [(.tmp 59)], (some (57, true))⟩, ⟨some 61, .addOff 1 (.tmp 4), (some (57, true))⟩, ⟨some 62, .load none (.tmp 61), (some (57, true))⟩, ⟨some 63, .call (.fn 19) [(.tmp 62)], (some (57, true))⟩, ⟨some 64, .eqb false (.tmp 60) (.tmp 63), (some (57, true))⟩, ⟨some 65, .pick (.tmp 57) (.tmp 64) (.con (.bool false)), none⟩, ⟨some 66, .mv (.tmp 65), none⟩, ⟨some 67, .addOff 1 (.tmp 4), (some (66, true))⟩, ⟨some 68, .load none (.tmp 67), (some (66, true))⟩, ⟨some 69, .mv (.tmp 2), (some (66, true))⟩, ⟨some 71, .addOff 1 (.tmp 4), (some (66, true))⟩, ⟨some 72, .load none (.tmp 71), (some (66, true))⟩, ⟨some 70, .call (.fn 20) [(.tmp 68), (.tmp 69)], (some (66, true))⟩, ⟨some 73, .mv (.tmp 2), (some (66, true))⟩, ⟨some 74, .call (.fn 21) [(.tmp 72), (.tmp 73)], (some (66, true))⟩, ⟨some 75, .eqb false (.tmp 70) (.tmp 74), (some (66, true))⟩, ⟨some 76, .pick (.tmp 66) (.tmp 75) (.con (.bool false)), none⟩, ⟨some 77, .mv (.tmp 76), none⟩, ⟨some 78, .call (.fn 12) [], (some (77, true))⟩, ⟨some 79, .pick (.tmp 77) (.tmp 78) (.con (.bool false)), none⟩, ⟨some 6, .mv (.tmp 79), none⟩], [⟨some 42, .mv (.tmp 7), none⟩, ⟨some 43, .mv (.tmp 9), none⟩, ⟨some 44, .call (.fn 15) [(.tmp 42), (.tmp 43), (.con (.bool true))], none⟩, ⟨some 45, .mv (.tmp 44), none⟩, ⟨some 46, .load (some 3) (.tmp 8), (some (45, true))⟩, ⟨some 47, .load (some 3) (.tmp 10), (some (45, true))⟩, ⟨some 48, .eqs false [0, 0, 0] (.tmp 46) (.tmp 47), (some (45, true))⟩, ⟨some 49, .pick (.tmp 45) (.tmp 48) (.con (.bool false)), none⟩, ⟨some 50, .mv (.tmp 49), none⟩, ⟨some 51, .load (some 6) (.tmp 4), (some (50, true))⟩, ⟨some 53, .load (some 6) (.tmp 4), (some (50, true))⟩, ⟨some 52, .call (.fn 16) [(.tmp 51)], (some (50, true))⟩, ⟨some 54, .call (.fn 17) [(.tmp 53)], (some (50, true))⟩, ⟨some 55, .bin .eql (.tmp 52) (.tmp 54), (some (50, true))⟩, ⟨some 56, .pick (.tmp 50) (.tmp 55) (.con (.bool false)), none⟩, ⟨some 57, .mv (.tmp 56), none⟩, ⟨some 58, .addOff 1 (.tmp 4), (some (57, true))⟩, ⟨some 59, .load none (.tmp 58), (some (57, true))⟩, ⟨some 61, .addOff 1 (.tmp 4), (some (57, true))⟩, ⟨some 62, .load none (.tmp 61), (some (57, true))⟩, ⟨some 60, .call (.fn 18) [(.tmp 59)], (some (57, true))⟩, ⟨some 63, .call (.fn 19) [(.tmp 62)], (some (57, true))⟩, ⟨some 64, .eqb false (.tmp 60) (.tmp 63), (some (57, true))⟩, ⟨some 65, .pick (.tmp 57) (.tmp 64) (.con (.bool false)), none⟩, ⟨some 66, .mv (.tmp 65), none⟩, ⟨some 67, .addOff 1 (.tmp 4), (some (66, true))⟩, ⟨some 68, .load none (.tmp 67), (some (66, true))⟩, ⟨some 69, .mv (.tmp 2), (some (66, true))⟩, ⟨some 70, .call (.fn 20) [(.tmp 68), (.tmp 69)], (some (66, true))⟩, ⟨some 71, .addOff 1 (.tmp 4), (some (66, true))⟩, ⟨some 72, .load none (.tmp 71), (some (66, true))⟩, ⟨some 73, .mv (.tmp 2), (some (66, true))⟩, ⟨some 74, .call (.fn 21) [(.tmp 72), (.tmp 73)], (some (66, true))⟩, ⟨some 75, .eqb false (.tmp 70) (.tmp 74), (some (66, true))⟩, ⟨some 76, .pick (.tmp 66) (.tmp 75) (.con (.bool false)), none⟩, ⟨some 77, .mv (.tmp 76), none⟩, ⟨some 78, .call (.fn 12) [], (some (77, true))⟩, ⟨some 79, .pick (.tmp 77) (.tmp 78) (.con (.bool false)), none⟩, ⟨some 6, .mv (.tmp 79), none⟩], [⟨some 42, .mv (.tmp 7), none⟩, ⟨some 43, .mv (.tmp 9), none⟩, ⟨some 44, .call (.fn 15) [(.tmp 42), (.tmp 43), (.con (.bool true))], none⟩, ⟨some 45, .mv (.tmp 44), none⟩, ⟨some 46, .load (some 3) (.tmp 8), (some (45, true))⟩, ⟨some 47, .load (some 3) (.tmp 10), (some (45, true))⟩, ⟨some 48, .eqs false [0, 0, 0] (.tmp 46) (.tmp 47), (some (45, true))⟩, ⟨some 49, .pick (.tmp 45) (.tmp 48) (.con (.bool false)), none⟩, ⟨some 50, .mv (.tmp 49), none⟩, ⟨some 51, .load (some 6) (.tmp 4), (some (50, true))⟩, ⟨some 53, .load (some 6) (.tmp 4), (some (50, true))⟩, ⟨some 52, .call (.fn 16) [(.tmp 51)], (some (50, true))⟩, ⟨some 54, .call (.fn 17) [(.tmp 53)], (some (50, true))⟩, ⟨some 55, .bin .eql (.tmp 52) (.tmp 54), (some (50, true))⟩, ⟨some 56, .pick (.tmp 50) (.tmp 55) (.con (.bool false)), none⟩, ⟨some 57, .mv (.tmp 56), none⟩, ⟨some 58, .addOff 1 (.tmp 4), (some (57, true))⟩, ⟨some 59, .load none (.tmp 58), (some (57, true))⟩, ⟨some 61, .addOff 1 (.tmp 4), (some (57, true))⟩, ⟨some 62, .load none (.tmp 61), (some (57, true))⟩, ⟨some 60, .call (.fn 18) [(.tmp 59)], (some (57, true))⟩, ⟨some 63, .call (.fn 19) [(.tmp 62)], (some (57, true))⟩, ⟨some 64, .eqb false (.tmp 60) (.tmp 63), (some (57, true))⟩, ⟨some 65, .pick (.tmp 57) (.tmp 64) (.con (.bool false)), none⟩, ⟨some 66, .mv (.tmp 65), none⟩, ⟨some 67, .addOff 1 (.tmp 4), (some (66, true))⟩, ⟨some 68, .load none (.tmp 67), (some (66, true))⟩, ⟨some 69, .mv (.tmp 2), (some (66, true))⟩, ⟨some 71, .addOff 1 (.tmp 4), (some (66, true))⟩, ⟨some 72, .load none (.tmp 71), (some (66, true))⟩, ⟨some 70, .call (.fn 20) [(.tmp 68), (.tmp 69)], (some (66, true))⟩, ⟨some 73, .mv (.tmp 2), (some (66, true))⟩, ⟨some 74, .call (.fn 21) [(.tmp 72), (.tmp 73)], (some (66, true))⟩, ⟨some 75, .eqb false (.tmp 70) (.tmp 74), (some (66, true))⟩, ⟨some 76, .pick (.tmp 66) (.tmp 75) (.con (.bool false)), none⟩, ⟨some 77, .mv (.tmp 76), none⟩, ⟨some 78, .call (.fn 12) [], (some (77, true))⟩, ⟨some 79, .pick (.tmp 77) (.tmp 78) (.con (.bool false)), none⟩, ⟨some 6, .mv (.tmp 79), none⟩]])
  (.ret)))))
def A4 : AFunc := { ntmps := 80, results := [.tmp 6], body := B4, coe := true, keep := 0 }
theorem tr4 : trFunc Tryd.prog M4 true Tryd.f4 = some A4 := by kernel_rfl

/-- handloom/handloomlaw03.LexBack -/
def M5 : Marks := { cut := fun _ => true, hd := fun | 8 => [false, false, false, true, false, true, false, false, false, false, false, false, false, false, false, false, false, false, false, false, false, false, false, false, false, false, false, false, true, true, true] | _ => [], ex := fun | 8 => [false, false, true, true, false, true] | _ => [], imm := fun | _ => false }
abbrev H5L8 : List Bool := [false, false, false, true, false, true, false, false, false, false, false, false, false, false, false, false, false, false, false, false, false, false, false, false, false, false, false, false, true, true, true]
abbrev X5L8 : List Bool := [false, false, true, true, false, true]
def B5L8 : ACode :=
  .seq (.region [⟨some 31, .bin .lss (.tmp 30) (.tmp 29), none⟩])
  (.seq (.cond (.tmp 31) (.skip) (.exit 0))
  (.seq (.block 1 (.seq (.region [⟨some 32, .mv (.tmp 30), none⟩,
      ⟨some 33, .idxAddr 6 (.tmp 28) (.tmp 30), none⟩,
      ⟨some 34, .load (some 6) (.tmp 33), none⟩,
      ⟨some 7, .alloc [.ok (.int .i64 0), .ok (.str ⟨#[]⟩), .ok (.int .i64 0), .error 1, .ok (.int .i64 0), .ok (.int .i64 0)], none⟩,
      ⟨some 6, .mv (.tmp 32), none⟩,
      ⟨none, .store 6 (.tmp 7) (.tmp 34), none⟩])
    (.seq (.region [⟨some 35, .mv (.tmp 5), none⟩,
      ⟨some 36, .load (some 6) (.tmp 7), none⟩,
      ⟨some 37, .call (.fn 16) [(.tmp 36)], none⟩,
      ⟨some 38, .bin .add (.tmp 37) (.con (.str ⟨#[32]⟩)), none⟩,
      ⟨some 39, .bin .add (.tmp 35) (.tmp 38), none⟩,
      ⟨some 5, .mv (.tmp 39), none⟩])
    (.seq (.draw [⟨some 40, .addOff 0 (.tmp 7), none⟩,
      ⟨some 41, .load none (.tmp 40), none⟩,
      ⟨some 42, .bin .eql (.tmp 41) (.con (.int .i64 0)), none⟩,
      ⟨some 43, .mv (.tmp 6), none⟩,
      ⟨some 44, .mv (.tmp 3), none⟩,
      ⟨some 45, .len false (.tmp 44), none⟩,
      ⟨some 46, .bin .sub (.tmp 45) (.con (.int .i64 1)), none⟩,
      ⟨some 47, .bin .eql (.tmp 43) (.tmp 46), none⟩,
      ⟨some 48, .eqb true (.tmp 42) (.tmp 47), none⟩,
      ⟨some 49, .mv (.tmp 48), none⟩,
      ⟨some 50, .mv (.tmp 6), (some (49, false))⟩,
      ⟨some 51, .bin .gtr (.tmp 50) (.con (.int .i64 0)), (some (49, false))⟩,
      ⟨some 52, .mv (.tmp 51), (some (49, false))⟩,
      ⟨some 53, .addOff 4 (.tmp 7), (some (52, true))⟩,
      ⟨some 54, .addOff 0 (.tmp 53), (some (52, true))⟩,
      ⟨some 55, .load none (.tmp 54), (some (52, true))⟩,
      ⟨some 56, .mv (.tmp 3), (some (52, true))⟩,
      ⟨some 57, .mv (.tmp 6), (some (52, true))⟩,
      ⟨some 58, .bin .sub (.tmp 57) (.con (.int .i64 1)), (some (52, true))⟩,
      ⟨some 59, .idxAddr 6 (.tmp 56) (.tmp 58), (some (52, true))⟩,
      ⟨some 60, .addOff 4 (.tmp 59), (some (52, true))⟩,
      ⟨some 61, .addOff 0 (.tmp 60), (some (52, true))⟩,
      ⟨some 62, .load none (.tmp 61), (some (52, true))⟩,
      ⟨some 63, .bin .lss (.tmp 55) (.tmp 62), (some (52, true))⟩,
      ⟨some 64, .mv (.tmp 63), (some (52, true))⟩,
      ⟨some 65, .addOff 4 (.tmp 7), (some (64, false))⟩,
      ⟨some 66, .addOff 0 (.tmp 65), (some (64, false))⟩,
      ⟨some 67, .load none (.tmp 66), (some (64, false))⟩,
      ⟨some 68, .mv (.tmp 3), (some (64, false))⟩,
      ⟨some 69, .mv (.tmp 6), (some (64, false))⟩,
      ⟨some 70, .bin .sub (.tmp 69) (.con (.int .i64 1)), (some (64, false))⟩,
      ⟨some 71, .idxAddr 6 (.tmp 68) (.tmp 70), (some (64, false))⟩,
      ⟨some 72, .addOff 4 (.tmp 71), (some (64, false))⟩,
      ⟨some 73, .addOff 0 (.tmp 72), (some (64, false))⟩,
      ⟨some 74, .load none (.tmp 73), (some (64, false))⟩,
      ⟨some 75, .bin .eql (.tmp 67) (.tmp 74), (some (64, false))⟩,
      ⟨some 76, .mv (.tmp 75), (some (64, false))⟩,
      ⟨some 77, .addOff 4 (.tmp 7), (some (76, true))⟩,
      ⟨some 78, .addOff 1 (.tmp 77), (some (76, true))⟩,
      ⟨some 79, .load none (.tmp 78), (some (76, true))⟩,
      ⟨some 80, .mv (.tmp 3), (some (76, true))⟩,
      ⟨some 81, .mv (.tmp 6), (some (76, true))⟩,
      ⟨some 82, .bin .sub (.tmp 81) (.con (.int .i64 1)), (some (76, true))⟩,
      ⟨some 83, .idxAddr 6 (.tmp 80) (.tmp 82), (some (76, true))⟩,
      ⟨some 84, .addOff 4 (.tmp 83), (some (76, true))⟩,
      ⟨some 85, .addOff 1 (.tmp 84), (some (76, true))⟩,
      ⟨some 86, .load none (.tmp 85), (some (76, true))⟩,
      ⟨some 87, .bin .lss (.tmp 79) (.tmp 86), (some (76, true))⟩,
      ⟨some 88, .pick (.tmp 76) (.tmp 87) (.con (.bool false)), (some (64, false))⟩,
      ⟨some 89, .pick (.tmp 64) (.con (.bool true)) (.tmp 88), (some (52, true))⟩,
      ⟨some 90, .pick (.tmp 52) (.tmp 89) (.con (.bool false)), (some (49, false))⟩,
      ⟨some 91, .pick (.tmp 49) (.con (.bool true)) (.tmp 90), none⟩] [])
    (.cond (.tmp 91) (.seq (.region [⟨some 2, .mv (.con (.bool false)), none⟩])
    (.ret)) (.skip))))))
  (.region [⟨some 92, .bin .add (.tmp 30) (.con (.int .i64 1)), none⟩,
    ⟨some 30, .mv (.tmp 92), none⟩])))
def B5 : ACode :=
  .seq (.region [⟨some 2, .mv (.con (.bool false)), none⟩])
  (.seq (.seq (.region [⟨some 10, .mv (.tmp 0), none⟩,
    ⟨some 11, .len true (.tmp 10), none⟩,
    ⟨some 12, .bin .gtr (.tmp 11) (.con (.int .i64 800)), none⟩])
  (.cond (.tmp 12) (.seq (.region [⟨some 13, .call (.fn 12) [], none⟩,
    ⟨some 2, .mv (.tmp 13), none⟩])
  (.ret)) (.skip)))
  (.seq (.region [⟨some 15, .mv (.tmp 0), none⟩,
    ⟨some 16, .call (.fn 13) [(.tmp 15)], none⟩,
    ⟨some 14, .mv (.tmp 16), none⟩,
    ⟨some 17, .ext 0 (.tmp 14), none⟩,
    ⟨some 18, .ext 1 (.tmp 14), none⟩,
    ⟨some 4, .alloc [.ok (.int .i64 0), .ok (.int .i64 0), .ok (.int .i64 0)], none⟩,
    ⟨some 3, .mv (.tmp 17), none⟩,
    ⟨none, .store 3 (.tmp 4) (.tmp 18), none⟩])
  (.seq (.seq (.region [⟨some 19, .addOff 0 (.tmp 4), none⟩,
    ⟨some 20, .load none (.tmp 19), none⟩,
    ⟨some 21, .bin .neq (.tmp 20) (.con (.int .i64 0)), none⟩])
  (.cond (.tmp 21) (.seq (.region [⟨some 22, .mv (.tmp 3), none⟩,
    ⟨some 23, .len false (.tmp 22), none⟩,
    ⟨some 24, .bin .eql (.tmp 23) (.con (.int .i64 0)), none⟩,
    ⟨some 25, .mv (.tmp 24), none⟩,
    ⟨some 26, .call (.fn 12) [], (some (25, true))⟩,
    ⟨some 27, .pick (.tmp 25) (.tmp 26) (.con (.bool false)), none⟩,
    ⟨some 2, .mv (.tmp 27), none⟩])
  (.ret)) (.skip)))
  (.seq (.region [⟨some 5, .mv (.con (.str ⟨#[]⟩)), none⟩])
  (.seq (.seq (.region [⟨some 28, .mv (.tmp 3), none⟩,
    ⟨some 29, .len false (.tmp 28), none⟩,
    ⟨some 30, .mv (.con (.int .i64 0)), none⟩])
  (.block 0 (.loop true [false, false, false, true, false, true, false, false, false, false, false, false, false, false, false, false, false, false, false, false, false, false, false, false, false, false, false, false, true, true, true] [false, false, true, true, false, true] B5L8)))
  (.seq (.region [⟨some 94, .mv (.tmp 5), none⟩,
    ⟨some 95, .call (.fn 13) [(.tmp 94)], none⟩,
    ⟨some 93, .mv (.tmp 95), none⟩,
    ⟨some 96, .ext 0 (.tmp 93), none⟩,
    ⟨some 97, .ext 1 (.tmp 93), none⟩,
    ⟨some 9, .alloc [.ok (.int .i64 0), .ok (.int .i64 0), .ok (.int .i64 0)], none⟩,
    ⟨some 8, .mv (.tmp 96), none⟩,
    ⟨none, .store 3 (.tmp 9) (.tmp 97), none⟩])
  (.seq (.region [⟨some 98, .addOff 0 (.tmp 9), none⟩,
    ⟨some 99, .load none (.tmp 98), none⟩,
    ⟨some 100, .bin .eql (.tmp 99) (.con (.int .i64 0)), none⟩,
    ⟨some 101, .mv (.tmp 100), none⟩,
    ⟨some 102, .mv (.tmp 3), (some (101, true))⟩,
    ⟨some 103, .mv (.tmp 8), (some (101, true))⟩,
    ⟨some 104, .call (.fn 15) [(.tmp 102), (.tmp 103), (.con (.bool false))], (some (101, true))⟩,
    ⟨some 105, .pick (.tmp 101) (.tmp 104) (.con (.bool false)), none⟩,
    ⟨some 106, .mv (.tmp 105), none⟩,
    ⟨some 107, .mv (.tmp 3), (some (106, true))⟩,
    ⟨some 108, .len false (.tmp 107), (some (106, true))⟩,
    ⟨some 109, .bin .gtr (.tmp 108) (.con (.int .i64 0)), (some (106, true))⟩,
    ⟨some 110, .pick (.tmp 106) (.tmp 109) (.con (.bool false)), none⟩,
    ⟨some 111, .mv (.tmp 110), none⟩,
    ⟨some 112, .call (.fn 12) [], (some (111, true))⟩,
    ⟨some 113, .pick (.tmp 111) (.tmp 112) (.con (.bool false)), none⟩,
    ⟨some 2, .mv (.tmp 113), none⟩])
  (.ret))))))))
def A5 : AFunc := { ntmps := 114, results := [.tmp 2], body := B5, coe := true, keep := 0 }
theorem tr5 : trFunc Tryd.prog M5 true Tryd.f5 = some A5 := by kernel_rfl

/-- handloom/handloomlaw03.LexPads -/
def M6 : Marks := { cut := fun _ => true, hd := fun | _ => [], ex := fun | _ => [], imm := fun | 25 => true | _ => false }
def B6 : ACode :=
  .seq (.region [⟨some 6, .mv (.con (.bool false)), none⟩])
  (.seq (.seq (.region [⟨some 16, .mv (.tmp 0), none⟩,
    ⟨some 17, .len true (.tmp 16), none⟩,
    ⟨some 18, .bin .gtr (.tmp 17) (.con (.int .i64 800)), none⟩,
    ⟨some 19, .mv (.tmp 18), none⟩,
    ⟨some 20, .mv (.tmp 1), (some (19, false))⟩,
    ⟨some 21, .len true (.tmp 20), (some (19, false))⟩,
    ⟨some 22, .bin .gtr (.tmp 21) (.con (.int .i64 800)), (some (19, false))⟩,
    ⟨some 23, .pick (.tmp 19) (.con (.bool true)) (.tmp 22), none⟩])
  (.cond (.tmp 23) (.seq (.region [⟨some 24, .call (.fn 12) [], none⟩,
    ⟨some 6, .mv (.tmp 24), none⟩])
  (.ret)) (.skip)))
  (.seq (.region [⟨some 25, .lit true 0 1 4 [.str ⟨#[]⟩] [(0, (.con (.str ⟨#[32]⟩))), (1, (.con (.str ⟨#[9, 10]⟩))), (2, (.con (.str ⟨#[35, 32, 97, 32, 114, 101, 109, 97, 114, 107, 10]⟩))), (3, (.con (.str ⟨#[13, 10, 32, 35, 10]⟩)))], none⟩,
    ⟨some 26, .mv (.tmp 2), none⟩,
    ⟨some 27, .bin .rem (.tmp 26) (.con (.int .u8 4)), none⟩,
    ⟨some 28, .idxAddr 1 (.tmp 25) (.tmp 27), none⟩,
    ⟨some 29, .load none (.tmp 28), none⟩,
    ⟨some 7, .mv (.tmp 29), none⟩])
  (.seq (.region [⟨some 31, .mv (.tmp 0), none⟩,
    ⟨some 32, .call (.fn 13) [(.tmp 31)], none⟩,
    ⟨some 30, .mv (.tmp 32), none⟩,
    ⟨some 33, .ext 0 (.tmp 30), none⟩,
    ⟨some 34, .ext 1 (.tmp 30), none⟩,
    ⟨some 9, .alloc [.ok (.int .i64 0), .ok (.int .i64 0), .ok (.int .i64 0)], none⟩,
    ⟨some 8, .mv (.tmp 33), none⟩,
    ⟨none, .store 3 (.tmp 9) (.tmp 34), none⟩])
  (.seq (.region [⟨some 36, .mv (.tmp 7), none⟩,
    ⟨some 37, .mv (.tmp 0), none⟩,
    ⟨some 38, .bin .add (.tmp 36) (.tmp 37), none⟩,
    ⟨some 39, .bin .add (.tmp 38) (.con (.str ⟨#[10]⟩)), none⟩,
    ⟨some 40, .mv (.tmp 7), none⟩,
    ⟨some 41, .bin .add (.tmp 39) (.tmp 40), none⟩,
    ⟨some 42, .call (.fn 13) [(.tmp 41)], none⟩,
    ⟨some 35, .mv (.tmp 42), none⟩,
    ⟨some 43, .ext 0 (.tmp 35), none⟩,
    ⟨some 44, .ext 1 (.tmp 35), none⟩,
    ⟨some 11, .alloc [.ok (.int .i64 0), .ok (.int .i64 0), .ok (.int .i64 0)], none⟩,
    ⟨some 10, .mv (.tmp 43), none⟩,
    ⟨none, .store 3 (.tmp 11) (.tmp 44), none⟩])
  (.seq (.region [⟨some 46, .mv (.tmp 1), none⟩,
    ⟨some 47, .call (.fn 13) [(.tmp 46)], none⟩,
    ⟨some 45, .mv (.tmp 47), none⟩,
    ⟨some 48, .ext 0 (.tmp 45), none⟩,
    ⟨some 49, .ext 1 (.tmp 45), none⟩,
    ⟨some 13, .alloc [.ok (.int .i64 0), .ok (.int .i64 0), .ok (.int .i64 0)], none⟩,
    ⟨some 12, .mv (.tmp 48), none⟩,
    ⟨none, .store 3 (.tmp 13) (.tmp 49), none⟩])
  (.seq (.region [⟨some 51, .mv (.tmp 0), none⟩,
    ⟨some 52, .bin .add (.tmp 51) (.con (.str ⟨#[10]⟩)), none⟩,
    ⟨some 53, .mv (.tmp 1), none⟩,
    ⟨some 54, .bin .add (.tmp 52) (.tmp 53), none⟩,
    ⟨some 55, .call (.fn 13) [(.tmp 54)], none⟩,
    ⟨some 50, .mv (.tmp 55), none⟩,
    ⟨some 56, .ext 0 (.tmp 50), none⟩,
    ⟨some 57, .ext 1 (.tmp 50), none⟩,
    ⟨some 15, .alloc [.ok (.int .i64 0), .ok (.int .i64 0), .ok (.int .i64 0)], none⟩,
    ⟨some 14, .mv (.tmp 56), none⟩,
    ⟨none, .store 3 (.tmp 15) (.tmp 57), none⟩])
  (.seq (.seq (.region [⟨some 58, .addOff 0 (.tmp 9), none⟩,
    ⟨some 59, .load none (.tmp 58), none⟩,
    ⟨some 60, .addOff 0 (.tmp 11), none⟩,
    ⟨some 61, .load none (.tmp 60), none⟩,
    ⟨some 62, .bin .neq (.tmp 59) (.tmp 61), none⟩,
    ⟨some 63, .mv (.tmp 62), none⟩,
    ⟨some 64, .mv (.tmp 8), (some (63, false))⟩,
    ⟨some 65, .mv (.tmp 10), (some (63, false))⟩,
    ⟨some 66, .call (.fn 15) [(.tmp 64), (.tmp 65), (.con (.bool false))], (some (63, false))⟩,
    ⟨some 67, .un .not (.tmp 66), (some (63, false))⟩,
    ⟨some 68, .pick (.tmp 63) (.con (.bool true)) (.tmp 67), none⟩])
  (.cond (.tmp 68) (.seq (.region [⟨some 6, .mv (.con (.bool false)), none⟩])
  (.ret)) (.skip)))
  (.seq (.seq (.region [⟨some 69, .addOff 0 (.tmp 9), none⟩,
    ⟨some 70, .load none (.tmp 69), none⟩,
    ⟨some 71, .bin .neq (.tmp 70) (.con (.int .i64 0)), none⟩,
    ⟨some 72, .mv (.tmp 71), none⟩,
    ⟨some 73, .addOff 0 (.tmp 13), (some (72, false))⟩,
    ⟨some 74, .load none (.tmp 73), (some (72, false))⟩,
    ⟨some 75, .bin .neq (.tmp 74) (.con (.int .i64 0)), (some (72, false))⟩,
    ⟨some 76, .pick (.tmp 72) (.con (.bool true)) (.tmp 75), none⟩])
  (.cond (.tmp 76) (.seq (.region [⟨some 77, .addOff 0 (.tmp 15), none⟩,
    ⟨some 78, .load none (.tmp 77), none⟩,
    ⟨some 79, .addOff 0 (.tmp 9), none⟩,
    ⟨some 80, .load none (.tmp 79), none⟩,
    ⟨some 81, .bin .eql (.tmp 78) (.tmp 80), none⟩,
    ⟨some 82, .mv (.tmp 81), none⟩,
    ⟨some 83, .addOff 0 (.tmp 9), (some (82, false))⟩,
    ⟨some 84, .load none (.tmp 83), (some (82, false))⟩,
    ⟨some 85, .bin .eql (.tmp 84) (.con (.int .i64 0)), (some (82, false))⟩,
    ⟨some 86, .mv (.tmp 85), (some (82, false))⟩,
    ⟨some 87, .addOff 0 (.tmp 15), (some (86, true))⟩,
    ⟨some 88, .load none (.tmp 87), (some (86, true))⟩,
    ⟨some 89, .addOff 0 (.tmp 13), (some (86, true))⟩,
    ⟨some 90, .load none (.tmp 89), (some (86, true))⟩,
    ⟨some 91, .bin .eql (.tmp 88) (.tmp 90), (some (86, true))⟩,
    ⟨some 92, .pick (.tmp 86) (.tmp 91) (.con (.bool false)), (some (82, false))⟩,
    ⟨some 93, .pick (.tmp 82) (.con (.bool true)) (.tmp 92), none⟩,
    ⟨some 94, .mv (.tmp 93), none⟩,
    ⟨some 95, .load (some 3) (.tmp 9), (some (94, false))⟩,
    ⟨some 96, .load (some 3) (.tmp 13), (some (94, false))⟩,
    ⟨some 97, .call (.fn 22) [(.tmp 95), (.tmp 96)], (some (94, false))⟩,
    ⟨some 98, .mv (.tmp 97), (some (94, false))⟩,
    ⟨some 99, .call (.fn 12) [], (some (98, true))⟩,
    ⟨some 100, .pick (.tmp 98) (.tmp 99) (.con (.bool false)), (some (94, false))⟩,
    ⟨some 101, .pick (.tmp 94) (.con (.bool true)) (.tmp 100), none⟩,
    ⟨some 6, .mv (.tmp 101), none⟩])
  (.ret)) (.skip)))
  (.seq (.draw [⟨some 102, .mv (.tmp 8), none⟩,
    ⟨some 103, .len false (.tmp 102), none⟩,
    ⟨some 104, .bin .gtr (.tmp 103) (.con (.int .i64 0)), none⟩,
    ⟨some 105, .mv (.tmp 104), none⟩,
    ⟨some 106, .mv (.tmp 14), (some (105, true))⟩,
    ⟨some 107, .len false (.tmp 106), (some (105, true))⟩,
    ⟨some 108, .mv (.tmp 8), (some (105, true))⟩,
    ⟨some 109, .len false (.tmp 108), (some (105, true))⟩,
    ⟨some 110, .bin .sub (.tmp 109) (.con (.int .i64 1)), (some (105, true))⟩,
    ⟨some 111, .mv (.tmp 12), (some (105, true))⟩,
    ⟨some 112, .len false (.tmp 111), (some (105, true))⟩,
    ⟨some 113, .bin .add (.tmp 110) (.tmp 112), (some (105, true))⟩,
    ⟨some 114, .bin .eql (.tmp 107) (.tmp 113), (some (105, true))⟩,
    ⟨some 115, .pick (.tmp 105) (.tmp 114) (.con (.bool false)), none⟩,
    ⟨some 116, .mv (.tmp 115), none⟩,
    ⟨some 117, .mv (.tmp 8), (some (116, true))⟩,
    ⟨some 118, .mv (.tmp 8), (some (116, true))⟩,
    ⟨some 119, .len false (.tmp 118), (some (116, true))⟩,
    ⟨some 120, .bin .sub (.tmp 119) (.con (.int .i64 1)), (some (116, true))⟩,
    ⟨some 121, .slc 6 (.tmp 117) none (some (.tmp 120)), (some (116, true))⟩,
    ⟨some 122, .mv (.tmp 14), (some (116, true))⟩,
    ⟨some 123, .mv (.tmp 8), (some (116, true))⟩,
    ⟨some 124, .len false (.tmp 123), (some (116, true))⟩,
    ⟨some 125, .bin .sub (.tmp 124) (.con (.int .i64 1)), (some (116, true))⟩,
    ⟨some 126, .slc 6 (.tmp 122) none (some (.tmp 125)), (some (116, true))⟩,
    ⟨some 127, .call (.fn 15) [(.tmp 121), (.tmp 126), (.con (.bool false))], (some (116, true))⟩,
    ⟨some 128, .pick (.tmp 116) (.tmp 127) (.con (.bool false)), none⟩,
    ⟨some 129, .mv (.tmp 128), none⟩,
    ⟨some 130, .mv (.tmp 12), (some (129, true))⟩,
    ⟨some 131, .mv (.tmp 14), (some (129, true))⟩,
    ⟨some 132, .mv (.tmp 8), (some (129, true))⟩,
    ⟨some 133, .len false (.tmp 132), (some (129, true))⟩,
    ⟨some 134, .bin .sub (.tmp 133) (.con (.int .i64 1)), (some (129, true))⟩,
    ⟨some 135, .slc 6 (.tmp 131) (some (.tmp 134)) none, (some (129, true))⟩,
    ⟨some 136, .call (.fn 15) [(.tmp 130), (.tmp 135), (.con (.bool false))], (some (129, true))⟩,
    ⟨some 137, .pick (.tmp 129) (.tmp 136) (.con (.bool false)), none⟩,
    ⟨some 138, .mv (.tmp 137), none⟩,
    ⟨some 139, .call (.fn 12) [], (some (138, true))⟩,
    ⟨some 140, .pick (.tmp 138) (.tmp 139) (.con (.bool false)), none⟩,
    ⟨some 6, .mv (.tmp 140), none⟩] [])
  (.ret))))))))))
def A6 : AFunc := { ntmps := 141, results := [.tmp 6], body := B6, coe := true, keep := 0 }
theorem tr6 : trFunc Tryd.prog M6 true Tryd.f6 = some A6 := by kernel_rfl

/-- handloom/handloomlaw03.LexNames -/
def M7 : Marks := { cut := fun _ => true, hd := fun | _ => [], ex := fun | _ => [], imm := fun | _ => false }
def B7 : ACode :=
  .seq (.region [⟨some 4, .mv (.con (.bool false)), none⟩])
  (.seq (.seq (.region [⟨some 9, .mv (.tmp 0), none⟩,
    ⟨some 10, .len true (.tmp 9), none⟩,
    ⟨some 11, .bin .gtr (.tmp 10) (.con (.int .i64 300)), none⟩])
  (.cond (.tmp 11) (.seq (.region [⟨some 12, .call (.fn 12) [], none⟩,
    ⟨some 4, .mv (.tmp 12), none⟩])
  (.ret)) (.skip)))
  (.seq (.region [⟨some 14, .mv (.tmp 0), none⟩,
    ⟨some 15, .call (.fn 13) [(.tmp 14)], none⟩,
    ⟨some 13, .mv (.tmp 15), none⟩,
    ⟨some 16, .ext 0 (.tmp 13), none⟩,
    ⟨some 17, .ext 1 (.tmp 13), none⟩,
    ⟨some 6, .alloc [.ok (.int .i64 0), .ok (.int .i64 0), .ok (.int .i64 0)], none⟩,
    ⟨some 5, .mv (.tmp 16), none⟩,
    ⟨none, .store 3 (.tmp 6) (.tmp 17), none⟩])
  (.seq (.region [⟨some 18, .addOff 0 (.tmp 6), none⟩,
    ⟨some 19, .load none (.tmp 18), none⟩,
    ⟨some 20, .bin .eql (.tmp 19) (.con (.int .i64 0)), none⟩,
    ⟨some 21, .mv (.tmp 20), none⟩,
    ⟨some 22, .mv (.tmp 5), (some (21, true))⟩,
    ⟨some 23, .len false (.tmp 22), (some (21, true))⟩,
    ⟨some 24, .bin .eql (.tmp 23) (.con (.int .i64 2)), (some (21, true))⟩,
    ⟨some 25, .pick (.tmp 21) (.tmp 24) (.con (.bool false)), none⟩,
    ⟨some 26, .mv (.tmp 25), none⟩,
    ⟨some 27, .mv (.tmp 5), (some (26, true))⟩,
    ⟨some 28, .idxAddr 6 (.tmp 27) (.con (.int .i64 0)), (some (26, true))⟩,
    ⟨some 29, .addOff 1 (.tmp 28), (some (26, true))⟩,
    ⟨some 30, .load none (.tmp 29), (some (26, true))⟩,
    ⟨some 31, .mv (.tmp 0), (some (26, true))⟩,
    ⟨some 32, .bin .eql (.tmp 30) (.tmp 31), (some (26, true))⟩,
    ⟨some 33, .pick (.tmp 26) (.tmp 32) (.con (.bool false)), none⟩,
    ⟨some 7, .mv (.tmp 33), none⟩])
  (.seq (.region [⟨some 8, .mv (.con (.int .i64 1)), none⟩])
  (.seq (.seq (.region [⟨some 34, .mv (.tmp 1), none⟩])
  (.cond (.tmp 34) (.region [⟨some 8, .mv (.con (.int .i64 2)), none⟩]) (.skip)))
  (.seq (.seq (.region [⟨some 35, .mv (.tmp 0), none⟩,
    ⟨some 36, .mv (.tmp 1), none⟩,
    ⟨some 37, .call (.fn 20) [(.tmp 35), (.tmp 36)], none⟩,
    ⟨some 38, .mv (.tmp 7), none⟩,
    ⟨some 39, .mv (.tmp 38), none⟩,
    ⟨some 40, .mv (.tmp 5), (some (39, true))⟩,
    ⟨some 41, .idxAddr 6 (.tmp 40) (.con (.int .i64 0)), (some (39, true))⟩,
    ⟨some 42, .addOff 0 (.tmp 41), (some (39, true))⟩,
    ⟨some 43, .load none (.tmp 42), (some (39, true))⟩,
    ⟨some 44, .mv (.tmp 8), (some (39, true))⟩,
    ⟨some 45, .bin .eql (.tmp 43) (.tmp 44), (some (39, true))⟩,
    ⟨some 46, .pick (.tmp 39) (.tmp 45) (.con (.bool false)), none⟩,
    ⟨some 47, .eqb true (.tmp 37) (.tmp 46), none⟩,
    ⟨some 48, .mv (.tmp 47), none⟩,
    ⟨some 49, .mv (.tmp 0), (some (48, false))⟩,
    ⟨some 50, .call (.fn 18) [(.tmp 49)], (some (48, false))⟩,
    ⟨some 51, .mv (.tmp 7), (some (48, false))⟩,
    ⟨some 52, .mv (.tmp 51), (some (48, false))⟩,
    ⟨some 53, .mv (.tmp 5), (some (52, true))⟩,
    ⟨some 54, .idxAddr 6 (.tmp 53) (.con (.int .i64 0)), (some (52, true))⟩,
    ⟨some 55, .addOff 0 (.tmp 54), (some (52, true))⟩,
    ⟨some 56, .load none (.tmp 55), (some (52, true))⟩,
    ⟨some 57, .bin .eql (.tmp 56) (.con (.int .i64 5)), (some (52, true))⟩,
    ⟨some 58, .pick (.tmp 52) (.tmp 57) (.con (.bool false)), (some (48, false))⟩,
    ⟨some 59, .eqb true (.tmp 50) (.tmp 58), (some (48, false))⟩,
    ⟨some 60, .pick (.tmp 48) (.con (.bool true)) (.tmp 59), none⟩])
  (.cond (.tmp 60) (.seq (.region [⟨some 4, .mv (.con (.bool false)), none⟩])
  (.ret)) (.skip)))
  (.seq (.region [⟨some 61, .mv (.tmp 0), none⟩,
    ⟨some 62, .mv (.tmp 1), none⟩,
    ⟨some 63, .call (.fn 20) [(.tmp 61), (.tmp 62)], none⟩,
    ⟨some 64, .un .not (.tmp 63), none⟩,
    ⟨some 65, .mv (.tmp 64), none⟩,
    ⟨some 66, .mv (.tmp 5), (some (65, false))⟩,
    ⟨some 67, .idxAddr 6 (.tmp 66) (.con (.int .i64 0)), (some (65, false))⟩,
    ⟨some 68, .load (some 6) (.tmp 67), (some (65, false))⟩,
    ⟨some 69, .call (.fn 16) [(.tmp 68)], (some (65, false))⟩,
    ⟨some 70, .mv (.tmp 0), (some (65, false))⟩,
    ⟨some 71, .bin .eql (.tmp 69) (.tmp 70), (some (65, false))⟩,
    ⟨some 72, .mv (.tmp 71), (some (65, false))⟩,
    ⟨some 73, .mv (.tmp 0), (some (72, true))⟩,
    ⟨some 74, .call (.fn 18) [(.tmp 73)], (some (72, true))⟩,
    ⟨some 75, .un .not (.tmp 74), (some (72, true))⟩,
    ⟨some 76, .pick (.tmp 72) (.tmp 75) (.con (.bool false)), (some (65, false))⟩,
    ⟨some 77, .mv (.tmp 76), (some (65, false))⟩,
    ⟨some 78, .mv (.tmp 0), (some (77, true))⟩,
    ⟨some 79, .mv (.tmp 1), (some (77, true))⟩,
    ⟨some 80, .un .not (.tmp 79), (some (77, true))⟩,
    ⟨some 81, .call (.fn 20) [(.tmp 78), (.tmp 80)], (some (77, true))⟩,
    ⟨some 82, .un .not (.tmp 81), (some (77, true))⟩,
    ⟨some 83, .pick (.tmp 77) (.tmp 82) (.con (.bool false)), (some (65, false))⟩,
    ⟨some 84, .pick (.tmp 65) (.con (.bool true)) (.tmp 83), none⟩,
    ⟨some 85, .mv (.tmp 84), none⟩,
    ⟨some 86, .call (.fn 12) [], (some (85, true))⟩,
    ⟨some 87, .pick (.tmp 85) (.tmp 86) (.con (.bool false)), none⟩,
    ⟨some 4, .mv (.tmp 87), none⟩])
  (.ret))))))))
def A7 : AFunc := { ntmps := 88, results := [.tmp 4], body := B7, coe := true, keep := 0 }
theorem tr7 : trFunc Tryd.prog M7 true Tryd.f7 = some A7 := by kernel_rfl

/-- handloom/handloomlaw03.awake -/
def M12 : Marks := { cut := fun _ => true, hd := fun | _ => [], ex := fun | _ => [], imm := fun | _ => false }
def B12 : ACode :=
  .seq (.region [⟨some 0, .mv (.con (.bool false)), none⟩])
  (.seq (.region [⟨some 6, .call (.fn 13) [(.con (.str ⟨#[108, 101, 116, 32, 120, 32, 61, 32, 49, 50]⟩))], none⟩,
    ⟨some 5, .mv (.tmp 6), none⟩,
    ⟨some 7, .ext 0 (.tmp 5), none⟩,
    ⟨some 8, .ext 1 (.tmp 5), none⟩,
    ⟨some 2, .alloc [.ok (.int .i64 0), .ok (.int .i64 0), .ok (.int .i64 0)], none⟩,
    ⟨some 1, .mv (.tmp 7), none⟩,
    ⟨none, .store 3 (.tmp 2) (.tmp 8), none⟩])
  (.seq (.region [⟨some 10, .call (.fn 13) [(.con (.str ⟨#[97, 64]⟩))], none⟩,
    ⟨some 9, .mv (.tmp 10), none⟩,
    ⟨some 11, .ext 0 (.tmp 9), none⟩,
    ⟨some 12, .ext 1 (.tmp 9), none⟩,
    ⟨some 4, .alloc [.ok (.int .i64 0), .ok (.int .i64 0), .ok (.int .i64 0)], none⟩,
    ⟨some 3, .mv (.tmp 11), none⟩,
    ⟨none, .store 3 (.tmp 4) (.tmp 12), none⟩])
  (.seq (.region [⟨some 13, .addOff 0 (.tmp 2), none⟩,
    ⟨some 14, .load none (.tmp 13), none⟩,
    ⟨some 15, .bin .eql (.tmp 14) (.con (.int .i64 0)), none⟩,
    ⟨some 16, .mv (.tmp 15), none⟩,
    ⟨some 17, .mv (.tmp 1), (some (16, true))⟩,
    ⟨some 18, .len false (.tmp 17), (some (16, true))⟩,
    ⟨some 19, .bin .eql (.tmp 18) (.con (.int .i64 5)), (some (16, true))⟩,
    ⟨some 20, .pick (.tmp 16) (.tmp 19) (.con (.bool false)), none⟩,
    ⟨some 21, .mv (.tmp 20), none⟩,
    ⟨some 22, .mv (.tmp 1), (some (21, true))⟩,
    ⟨some 23, .idxAddr 6 (.tmp 22) (.con (.int .i64 4)), (some (21, true))⟩,
    ⟨some 24, .addOff 4 (.tmp 23), (some (21, true))⟩,
    ⟨some 25, .load (some 2) (.tmp 24), (some (21, true))⟩,
    ⟨some 26, .build [.int .i64 0, .int .i64 0] [(0, 1, (.con (.int .i64 1))), (1, 1, (.con (.int .i64 11)))], (some (21, true))⟩,
    ⟨some 27, .eqs false [0, 0] (.tmp 25) (.tmp 26), (some (21, true))⟩,
    ⟨some 28, .pick (.tmp 21) (.tmp 27) (.con (.bool false)), none⟩,
    ⟨some 29, .mv (.tmp 28), none⟩,
    ⟨some 30, .mv (.tmp 1), (some (29, true))⟩,
    ⟨some 31, .idxAddr 6 (.tmp 30) (.con (.int .i64 3)), (some (29, true))⟩,
    ⟨some 32, .addOff 2 (.tmp 31), (some (29, true))⟩,
    ⟨some 33, .load none (.tmp 32), (some (29, true))⟩,
    ⟨some 34, .bin .eql (.tmp 33) (.con (.int .i64 12)), (some (29, true))⟩,
    ⟨some 35, .pick (.tmp 29) (.tmp 34) (.con (.bool false)), none⟩,
    ⟨some 36, .mv (.tmp 35), none⟩,
    ⟨some 37, .load (some 3) (.tmp 4), (some (36, true))⟩,
    ⟨some 38, .build [.int .i64 0, .int .i64 0] [(0, 1, (.con (.int .i64 1))), (1, 1, (.con (.int .i64 2)))], (some (36, true))⟩,
    ⟨some 39, .build [.int .i64 0, .int .i64 0, .int .i64 0] [(0, 1, (.con (.int .i64 2))), (1, 2, (.tmp 38))], (some (36, true))⟩,
    ⟨some 40, .eqs false [0, 0, 0] (.tmp 37) (.tmp 39), (some (36, true))⟩,
    ⟨some 41, .pick (.tmp 36) (.tmp 40) (.con (.bool false)), none⟩,
    ⟨some 42, .mv (.tmp 41), none⟩,
    ⟨some 43, .lit false 5 1 2 [.int .u8 0] [(0, (.con (.int .u8 97))), (1, (.con (.int .u8 10)))], (some (42, true))⟩,
    ⟨some 44, .mark (.tmp 43), (some (42, true))⟩,
    ⟨some 45, .build [.int .i64 0, .str ⟨#[]⟩, .int .i64 0, .slice 1 [], .int .i64 0, .int .i64 0] [(0, 1, (.con (.int .i64 4))), (3, 1, (.tmp 44))], (some (42, true))⟩,
    ⟨some 46, .call (.fn 16) [(.tmp 45)], (some (42, true))⟩,
    ⟨some 47, .bin .eql (.tmp 46) (.con (.str ⟨#[34, 97, 92, 120, 48, 97, 34]⟩)), (some (42, true))⟩,
    ⟨some 48, .pick (.tmp 42) (.tmp 47) (.con (.bool false)), none⟩,
    ⟨some 49, .mv (.tmp 48), none⟩,
    ⟨some 50, .call (.fn 18) [(.con (.str ⟨#[108, 101, 116]⟩))], (some (49, true))⟩,
    ⟨some 51, .pick (.tmp 49) (.tmp 50) (.con (.bool false)), none⟩,
    ⟨some 52, .mv (.tmp 51), none⟩,
    ⟨some 53, .call (.fn 20) [(.con (.str ⟨#[120]⟩)), (.con (.bool false))], (some (52, true))⟩,
    ⟨some 54, .pick (.tmp 52) (.tmp 53) (.con (.bool false)), none⟩,
    ⟨some 0, .mv (.tmp 54), none⟩])
  (.ret))))
def A12 : AFunc := { ntmps := 55, results := [.tmp 0], body := B12, coe := true, keep := 0 }
theorem tr12 : trFunc Tryd.prog M12 true Tryd.f12 = some A12 := by kernel_rfl

/-- handloom/lex.Lex -/
def M13 : Marks := { cut := fun _ => true, hd := fun | 7 => [true, false, false, true, false, false, true, true] | _ => [], ex := fun | 7 => [true, false, true, true, false, false, false, true] | _ => [], imm := fun | 2 => true | 50 => true | 65 => true | _ => false }
abbrev H13L7 : List Bool := [true, false, false, true, false, false, true, true]
abbrev X13L7 : List Bool := [true, false, true, true, false, false, false, true]
def B13L7 : ACode :=
  .seq (.seq (.region [⟨some 24, .mv (.tmp 6), none⟩,
    ⟨some 25, .call (.fn 33) [(.tmp 24)], none⟩,
    ⟨some 26, .un .not (.tmp 25), none⟩])
  (.cond (.tmp 26) (.skip) (.exit 0)))
  (.seq (.block 1 (.seq (.region [⟨some 29, .mv (.tmp 6), none⟩,
      ⟨some 30, .call (.fn 34) [(.tmp 29)], none⟩,
      ⟨some 8, .alloc [.ok (.int .i64 0), .ok (.str ⟨#[]⟩), .ok (.int .i64 0), .error 1, .ok (.int .i64 0), .ok (.int .i64 0)], none⟩,
      ⟨none, .store 6 (.tmp 8) (.tmp 30), none⟩])
    (.seq (.seq (.region [⟨some 31, .mv (.tmp 7), none⟩,
      ⟨some 32, .len false (.tmp 31), none⟩,
      ⟨some 33, .bin .eql (.tmp 32) (.con (.int .i64 4096)), none⟩])
    (.cond (.tmp 33) (.region [⟨some 34, .mv (.tmp 6), none⟩,
      ⟨some 35, .addOff 4 (.tmp 8), none⟩,
      ⟨some 36, .load (some 2) (.tmp 35), none⟩,
      ⟨some 37, .call (.fn 35) [(.tmp 34), (.con (.int .i64 27)), (.tmp 36)], none⟩]) (.skip)))
    (.seq (.seq (.region [⟨some 38, .mv (.tmp 6), none⟩,
      ⟨some 39, .nilchk (.tmp 38), none⟩,
      ⟨some 40, .addOff 2 (.tmp 39), none⟩,
      ⟨some 41, .addOff 0 (.tmp 40), none⟩,
      ⟨some 42, .load none (.tmp 41), none⟩,
      ⟨some 43, .bin .neq (.tmp 42) (.con (.int .i64 0)), none⟩])
    (.cond (.tmp 43) (.seq (.draw [⟨some 44, .mv (.tmp 6), none⟩,
      ⟨some 45, .nilchk (.tmp 44), none⟩,
      ⟨some 46, .addOff 2 (.tmp 45), none⟩,
      ⟨some 47, .load (some 3) (.tmp 46), none⟩,
      ⟨some 2, .mv (.con (.slice 6 [])), none⟩,
      ⟨none, .store 3 (.tmp 3) (.tmp 47), none⟩] [])
    (.ret)) (.skip)))
    (.region [⟨some 48, .mv (.tmp 7), none⟩,
      ⟨some 49, .load (some 6) (.tmp 8), none⟩,
      ⟨some 50, .lit true 0 6 1 [.int .i64 0, .str ⟨#[]⟩, .int .i64 0, .slice 1 [], .int .i64 0, .int .i64 0] [(0, (.tmp 49))], none⟩,
      ⟨some 51, .app false 0 6 72 (.tmp 48) (.tmp 50), none⟩,
      ⟨some 7, .mv (.tmp 51), none⟩])))))
  (.region [⟨some 27, .mv (.tmp 6), none⟩,
    ⟨some 28, .call (.fn 32) [(.tmp 27)], none⟩]))
def B13 : ACode :=
  .seq (.region [⟨some 2, .mv (.con (.slice 6 [])), none⟩,
    ⟨some 3, .alloc [.ok (.int .i64 0), .ok (.int .i64 0), .ok (.int .i64 0)], none⟩])
  (.seq (.region [⟨some 11, .mv (.tmp 0), none⟩,
    ⟨some 12, .call (.fn 31) [(.tmp 11)], none⟩,
    ⟨some 10, .mv (.tmp 12), none⟩,
    ⟨some 13, .ext 0 (.tmp 10), none⟩,
    ⟨some 14, .ext 1 (.tmp 10), none⟩,
    ⟨some 5, .alloc [.ok (.int .i64 0), .ok (.int .i64 0), .ok (.int .i64 0)], none⟩,
    ⟨some 4, .mv (.tmp 13), none⟩,
    ⟨none, .store 3 (.tmp 5) (.tmp 14), none⟩])
  (.seq (.seq (.region [⟨some 15, .addOff 0 (.tmp 5), none⟩,
    ⟨some 16, .load none (.tmp 15), none⟩,
    ⟨some 17, .bin .neq (.tmp 16) (.con (.int .i64 0)), none⟩])
  (.cond (.tmp 17) (.seq (.draw [⟨some 18, .load (some 3) (.tmp 5), none⟩,
    ⟨some 2, .mv (.con (.slice 6 [])), none⟩,
    ⟨none, .store 3 (.tmp 3) (.tmp 18), none⟩] [])
  (.ret)) (.skip)))
  (.seq (.region [⟨some 19, .mv (.tmp 4), none⟩,
    ⟨some 20, .build [.slice 4 [], .int .i64 0, .int .i64 0, .int .i64 0, .int .i64 0] [(0, 1, (.tmp 19))], none⟩,
    ⟨some 21, .box false (.tmp 20), none⟩,
    ⟨some 6, .mv (.tmp 21), none⟩])
  (.seq (.region [⟨some 7, .nilrow 6, none⟩])
  (.seq (.seq (.region [⟨some 22, .mv (.tmp 6), none⟩,
    ⟨some 23, .call (.fn 32) [(.tmp 22)], none⟩])
  (.block 0 (.loop true [true, false, false, true, false, false, true, true] [true, false, true, true, false, false, false, true] B13L7)))
  (.seq (.region [⟨some 52, .mv (.tmp 0), none⟩,
    ⟨some 53, .mv (.tmp 0), none⟩,
    ⟨some 54, .len true (.tmp 53), none⟩,
    ⟨some 55, .call (.fn 36) [(.tmp 52), (.tmp 54)], none⟩,
    ⟨some 56, .build [.int .i64 0, .str ⟨#[]⟩, .int .i64 0, .slice 1 [], .int .i64 0, .int .i64 0] [(4, 2, (.tmp 55))], none⟩,
    ⟨some 9, .alloc [.ok (.int .i64 0), .ok (.str ⟨#[]⟩), .ok (.int .i64 0), .error 1, .ok (.int .i64 0), .ok (.int .i64 0)], none⟩,
    ⟨none, .store 6 (.tmp 9) (.tmp 56), none⟩])
  (.seq (.seq (.region [⟨some 57, .mv (.tmp 7), none⟩,
    ⟨some 58, .len false (.tmp 57), none⟩,
    ⟨some 59, .bin .eql (.tmp 58) (.con (.int .i64 4096)), none⟩])
  (.cond (.tmp 59) (.seq (.draw [⟨some 60, .addOff 4 (.tmp 9), none⟩,
    ⟨some 61, .load (some 2) (.tmp 60), none⟩,
    ⟨some 62, .build [.int .i64 0, .int .i64 0, .int .i64 0] [(0, 1, (.con (.int .i64 27))), (1, 2, (.tmp 61))], none⟩,
    ⟨some 2, .mv (.con (.slice 6 [])), none⟩,
    ⟨none, .store 3 (.tmp 3) (.tmp 62), none⟩] [])
  (.ret)) (.skip)))
  (.seq (.region [⟨some 63, .mv (.tmp 7), none⟩,
    ⟨some 64, .load (some 6) (.tmp 9), none⟩,
    ⟨some 65, .lit true 0 6 1 [.int .i64 0, .str ⟨#[]⟩, .int .i64 0, .slice 1 [], .int .i64 0, .int .i64 0] [(0, (.tmp 64))], none⟩,
    ⟨some 66, .app false 0 6 72 (.tmp 63) (.tmp 65), none⟩,
    ⟨some 67, .build [.int .i64 0, .int .i64 0, .int .i64 0] [], none⟩,
    ⟨some 2, .mv (.tmp 66), none⟩,
    ⟨none, .store 3 (.tmp 3) (.tmp 67), none⟩])
  (.ret)))))))))
def A13 : AFunc := { ntmps := 68, results := [.tmp 2, .cell (some 3) 3], body := B13, coe := true, keep := 0 }
theorem tr13 : trFunc Tryd.prog M13 true Tryd.f13 = some A13 := by kernel_rfl

/-- handloom/handloomref03.Lex -/
def M14 : Marks := { cut := fun _ => true, hd := fun | 7 => [true, false, false, true, true, false, true, true, true] | 11 => [true, false, false, true, true, false, true, true, true] | _ => [], ex := fun | 7 => [true, false, true, true, false, false, true, true] | 11 => [true, false, false, true, true, false, true, true, true] | _ => [], imm := fun | 2 => true | 79 => true | 99 => true | _ => false }
abbrev H14L11 : List Bool := [true, false, false, true, true, false, true, true, true]
abbrev X14L11 : List Bool := [true, false, false, true, true, false, true, true, true]
def B14L11 : ACode :=
  .seq (.seq (.region [⟨some 40, .mv (.tmp 8), none⟩,
    ⟨some 41, .mv (.tmp 4), none⟩,
    ⟨some 42, .len false (.tmp 41), none⟩,
    ⟨some 43, .bin .lss (.tmp 40) (.tmp 42), none⟩,
    ⟨some 44, .mv (.tmp 43), none⟩,
    ⟨some 45, .mv (.tmp 4), (some (44, true))⟩,
    ⟨some 46, .mv (.tmp 8), (some (44, true))⟩,
    ⟨some 47, .idxAddr 4 (.tmp 45) (.tmp 46), (some (44, true))⟩,
    ⟨some 48, .addOff 0 (.tmp 47), (some (44, true))⟩,
    ⟨some 49, .load none (.tmp 48), (some (44, true))⟩,
    ⟨some 50, .bin .neq (.tmp 49) (.con (.int .i32 10)), (some (44, true))⟩,
    ⟨some 51, .pick (.tmp 44) (.tmp 50) (.con (.bool false)), none⟩])
  (.cond (.tmp 51) (.skip) (.exit 2)))
  (.block 3 (.region [⟨some 52, .mv (.tmp 8), none⟩,
      ⟨some 53, .bin .add (.tmp 52) (.con (.int .i64 1)), none⟩,
      ⟨some 8, .mv (.tmp 53), none⟩]))
abbrev H14L7 : List Bool := [true, false, false, true, true, false, true, true, true]
abbrev X14L7 : List Bool := [true, false, true, true, false, false, true, true]
def B14L7 : ACode :=
  .seq (.seq (.region [⟨some 22, .mv (.tmp 8), none⟩,
    ⟨some 23, .mv (.tmp 4), none⟩,
    ⟨some 24, .len false (.tmp 23), none⟩,
    ⟨some 25, .bin .lss (.tmp 22) (.tmp 24), none⟩])
  (.cond (.tmp 25) (.skip) (.exit 0)))
  (.block 1 (.seq (.seq (.region [⟨some 26, .mv (.tmp 4), none⟩,
      ⟨some 27, .mv (.tmp 8), none⟩,
      ⟨some 28, .idxAddr 4 (.tmp 26) (.tmp 27), none⟩,
      ⟨some 29, .addOff 0 (.tmp 28), none⟩,
      ⟨some 30, .load none (.tmp 29), none⟩,
      ⟨some 31, .call (.fn 38) [(.tmp 30)], none⟩])
    (.cond (.tmp 31) (.seq (.region [⟨some 32, .mv (.tmp 8), none⟩,
      ⟨some 33, .bin .add (.tmp 32) (.con (.int .i64 1)), none⟩,
      ⟨some 8, .mv (.tmp 33), none⟩])
    (.exit 1)) (.skip)))
    (.seq (.seq (.region [⟨some 34, .mv (.tmp 4), none⟩,
      ⟨some 35, .mv (.tmp 8), none⟩,
      ⟨some 36, .idxAddr 4 (.tmp 34) (.tmp 35), none⟩,
      ⟨some 37, .addOff 0 (.tmp 36), none⟩,
      ⟨some 38, .load none (.tmp 37), none⟩,
      ⟨some 39, .bin .eql (.tmp 38) (.con (.int .i32 35)), none⟩])
    (.cond (.tmp 39) (.seq (.block 2 (.loop true [true, false, false, true, true, false, true, true, true] [true, false, false, true, true, false, true, true, true] B14L11))
    (.exit 1)) (.skip)))
    (.seq (.region [⟨some 55, .mv (.tmp 4), none⟩,
      ⟨some 56, .mv (.tmp 8), none⟩,
      ⟨some 57, .call (.fn 39) [(.tmp 55), (.tmp 56)], none⟩,
      ⟨some 54, .mv (.tmp 57), none⟩,
      ⟨some 58, .ext 0 (.tmp 54), none⟩,
      ⟨some 59, .ext 1 (.tmp 54), none⟩,
      ⟨some 60, .ext 2 (.tmp 54), none⟩,
      ⟨some 9, .alloc [.ok (.int .i64 0), .ok (.str ⟨#[]⟩), .ok (.int .i64 0), .error 1, .ok (.int .i64 0), .ok (.int .i64 0)], none⟩,
      ⟨none, .store 6 (.tmp 9) (.tmp 58), none⟩,
      ⟨some 10, .mv (.tmp 59), none⟩,
      ⟨some 11, .mv (.tmp 60), none⟩])
    (.seq (.seq (.region [⟨some 61, .mv (.tmp 11), none⟩,
      ⟨some 62, .bin .eql (.tmp 61) (.con (.int .i64 0)), none⟩,
      ⟨some 63, .mv (.tmp 62), none⟩,
      ⟨some 64, .mv (.tmp 6), (some (63, true))⟩,
      ⟨some 65, .len false (.tmp 64), (some (63, true))⟩,
      ⟨some 66, .bin .geq (.tmp 65) (.con (.int .i64 4096)), (some (63, true))⟩,
      ⟨some 67, .pick (.tmp 63) (.tmp 66) (.con (.bool false)), none⟩])
    (.cond (.tmp 67) (.region [⟨some 11, .mv (.con (.int .i64 27)), none⟩]) (.skip)))
    (.seq (.seq (.region [⟨some 68, .mv (.tmp 11), none⟩,
      ⟨some 69, .bin .neq (.tmp 68) (.con (.int .i64 0)), none⟩])
    (.cond (.tmp 69) (.seq (.draw [⟨some 70, .mv (.tmp 11), none⟩,
      ⟨some 71, .mv (.tmp 4), none⟩,
      ⟨some 72, .mv (.tmp 8), none⟩,
      ⟨some 73, .idxAddr 4 (.tmp 71) (.tmp 72), none⟩,
      ⟨some 74, .addOff 2 (.tmp 73), none⟩,
      ⟨some 75, .load (some 2) (.tmp 74), none⟩,
      ⟨some 76, .build [.int .i64 0, .int .i64 0, .int .i64 0] [(0, 1, (.tmp 70)), (1, 2, (.tmp 75))], none⟩,
      ⟨some 2, .mv (.con (.slice 6 [])), none⟩,
      ⟨none, .store 3 (.tmp 3) (.tmp 76), none⟩] [])
    (.ret)) (.skip)))
    (.seq (.region [⟨some 77, .mv (.tmp 6), none⟩,
      ⟨some 78, .load (some 6) (.tmp 9), none⟩,
      ⟨some 79, .lit true 0 6 1 [.int .i64 0, .str ⟨#[]⟩, .int .i64 0, .slice 1 [], .int .i64 0, .int .i64 0] [(0, (.tmp 78))], none⟩,
      ⟨some 80, .app false 0 6 72 (.tmp 77) (.tmp 79), none⟩,
      ⟨some 6, .mv (.tmp 80), none⟩])
    (.region [⟨some 81, .mv (.tmp 8), none⟩,
      ⟨some 82, .mv (.tmp 10), none⟩,
      ⟨some 83, .bin .add (.tmp 81) (.tmp 82), none⟩,
      ⟨some 8, .mv (.tmp 83), none⟩]))))))))
def B14 : ACode :=
  .seq (.region [⟨some 2, .mv (.con (.slice 6 [])), none⟩,
    ⟨some 3, .alloc [.ok (.int .i64 0), .ok (.int .i64 0), .ok (.int .i64 0)], none⟩])
  (.seq (.region [⟨some 13, .mv (.tmp 0), none⟩,
    ⟨some 14, .call (.fn 37) [(.tmp 13)], none⟩,
    ⟨some 12, .mv (.tmp 14), none⟩,
    ⟨some 15, .ext 0 (.tmp 12), none⟩,
    ⟨some 16, .ext 1 (.tmp 12), none⟩,
    ⟨some 5, .alloc [.ok (.int .i64 0), .ok (.int .i64 0), .ok (.int .i64 0)], none⟩,
    ⟨some 4, .mv (.tmp 15), none⟩,
    ⟨none, .store 3 (.tmp 5) (.tmp 16), none⟩])
  (.seq (.seq (.region [⟨some 17, .addOff 0 (.tmp 5), none⟩,
    ⟨some 18, .load none (.tmp 17), none⟩,
    ⟨some 19, .bin .neq (.tmp 18) (.con (.int .i64 0)), none⟩])
  (.cond (.tmp 19) (.seq (.draw [⟨some 20, .load (some 3) (.tmp 5), none⟩,
    ⟨some 2, .mv (.con (.slice 6 [])), none⟩,
    ⟨none, .store 3 (.tmp 3) (.tmp 20), none⟩] [])
  (.ret)) (.skip)))
  (.seq (.region [⟨some 6, .nilrow 6, none⟩])
  (.seq (.region [⟨some 21, .build [.int .i64 0, .int .i64 0] [(0, 1, (.con (.int .i64 1))), (1, 1, (.con (.int .i64 1)))], none⟩,
    ⟨some 7, .alloc [.ok (.int .i64 0), .ok (.int .i64 0)], none⟩,
    ⟨none, .store 2 (.tmp 7) (.tmp 21), none⟩])
  (.seq (.seq (.region [⟨some 8, .mv (.con (.int .i64 0)), none⟩])
  (.block 0 (.loop true [true, false, false, true, true, false, true, true, true] [true, false, true, true, false, false, true, true] B14L7)))
  (.seq (.seq (.region [⟨some 84, .mv (.tmp 0), none⟩,
    ⟨some 85, .len true (.tmp 84), none⟩,
    ⟨some 86, .bin .gtr (.tmp 85) (.con (.int .i64 0)), none⟩])
  (.cond (.tmp 86) (.region [⟨some 87, .mv (.tmp 0), none⟩,
    ⟨some 88, .mv (.tmp 0), none⟩,
    ⟨some 89, .len true (.tmp 88), none⟩,
    ⟨some 90, .call (.fn 40) [(.tmp 87), (.tmp 89)], none⟩,
    ⟨none, .store 2 (.tmp 7) (.tmp 90), none⟩]) (.skip)))
  (.seq (.seq (.region [⟨some 91, .mv (.tmp 6), none⟩,
    ⟨some 92, .len false (.tmp 91), none⟩,
    ⟨some 93, .bin .geq (.tmp 92) (.con (.int .i64 4096)), none⟩])
  (.cond (.tmp 93) (.seq (.draw [⟨some 94, .load (some 2) (.tmp 7), none⟩,
    ⟨some 95, .build [.int .i64 0, .int .i64 0, .int .i64 0] [(0, 1, (.con (.int .i64 27))), (1, 2, (.tmp 94))], none⟩,
    ⟨some 2, .mv (.con (.slice 6 [])), none⟩,
    ⟨none, .store 3 (.tmp 3) (.tmp 95), none⟩] [])
  (.ret)) (.skip)))
  (.seq (.region [⟨some 96, .mv (.tmp 6), none⟩,
    ⟨some 97, .load (some 2) (.tmp 7), none⟩,
    ⟨some 98, .build [.int .i64 0, .str ⟨#[]⟩, .int .i64 0, .slice 1 [], .int .i64 0, .int .i64 0] [(4, 2, (.tmp 97))], none⟩,
    ⟨some 99, .lit true 0 6 1 [.int .i64 0, .str ⟨#[]⟩, .int .i64 0, .slice 1 [], .int .i64 0, .int .i64 0] [(0, (.tmp 98))], none⟩,
    ⟨some 100, .app false 0 6 72 (.tmp 96) (.tmp 99), none⟩,
    ⟨some 101, .build [.int .i64 0, .int .i64 0, .int .i64 0] [], none⟩,
    ⟨some 2, .mv (.tmp 100), none⟩,
    ⟨none, .store 3 (.tmp 3) (.tmp 101), none⟩])
  (.ret)))))))))
def A14 : AFunc := { ntmps := 102, results := [.tmp 2, .cell (some 3) 3], body := B14, coe := true, keep := 0 }
theorem tr14 : trFunc Tryd.prog M14 true Tryd.f14 = some A14 := by kernel_rfl

/-- handloom/handloomref03.Same -/
def M15 : Marks := { cut := fun _ => true, hd := fun | 4 => [true, true, true, false, false, false, false, true] | _ => [], ex := fun | 4 => [false, false, false, false, false, false, true] | _ => [], imm := fun | _ => false }
abbrev H15L4 : List Bool := [true, true, true, false, false, false, false, true]
abbrev X15L4 : List Bool := [false, false, false, false, false, false, true]
def B15L4 : ACode :=
  .seq (.seq (.region [⟨some 15, .mv (.tmp 7), none⟩,
    ⟨some 16, .mv (.tmp 0), none⟩,
    ⟨some 17, .len false (.tmp 16), none⟩,
    ⟨some 18, .bin .lss (.tmp 15) (.tmp 17), none⟩])
  (.cond (.tmp 18) (.skip) (.exit 0)))
  (.seq (.block 1 (.seq (.region [⟨some 21, .mv (.tmp 0), none⟩,
      ⟨some 22, .mv (.tmp 7), none⟩,
      ⟨some 23, .idxAddr 6 (.tmp 21) (.tmp 22), none⟩,
      ⟨some 24, .load (some 6) (.tmp 23), none⟩,
      ⟨some 8, .alloc [.ok (.int .i64 0), .ok (.str ⟨#[]⟩), .ok (.int .i64 0), .error 1, .ok (.int .i64 0), .ok (.int .i64 0)], none⟩,
      ⟨none, .store 6 (.tmp 8) (.tmp 24), none⟩])
    (.seq (.region [⟨some 25, .mv (.tmp 1), none⟩,
      ⟨some 26, .mv (.tmp 7), none⟩,
      ⟨some 27, .idxAddr 6 (.tmp 25) (.tmp 26), none⟩,
      ⟨some 28, .load (some 6) (.tmp 27), none⟩,
      ⟨some 9, .alloc [.ok (.int .i64 0), .ok (.str ⟨#[]⟩), .ok (.int .i64 0), .error 1, .ok (.int .i64 0), .ok (.int .i64 0)], none⟩,
      ⟨none, .store 6 (.tmp 9) (.tmp 28), none⟩])
    (.seq (.region [⟨some 29, .addOff 0 (.tmp 8), none⟩,
      ⟨some 30, .load none (.tmp 29), none⟩,
      ⟨some 31, .addOff 0 (.tmp 9), none⟩,
      ⟨some 32, .load none (.tmp 31), none⟩,
      ⟨some 33, .bin .neq (.tmp 30) (.tmp 32), none⟩,
      ⟨some 34, .mv (.tmp 33), none⟩,
      ⟨some 35, .addOff 1 (.tmp 8), (some (34, false))⟩,
      ⟨some 36, .load none (.tmp 35), (some (34, false))⟩,
      ⟨some 37, .addOff 1 (.tmp 9), (some (34, false))⟩,
      ⟨some 38, .load none (.tmp 37), (some (34, false))⟩,
      ⟨some 39, .bin .neq (.tmp 36) (.tmp 38), (some (34, false))⟩,
      ⟨some 40, .pick (.tmp 34) (.con (.bool true)) (.tmp 39), none⟩,
      ⟨some 41, .mv (.tmp 40), none⟩,
      ⟨some 42, .addOff 2 (.tmp 8), (some (41, false))⟩,
      ⟨some 43, .load none (.tmp 42), (some (41, false))⟩,
      ⟨some 44, .addOff 2 (.tmp 9), (some (41, false))⟩,
      ⟨some 45, .load none (.tmp 44), (some (41, false))⟩,
      ⟨some 46, .bin .neq (.tmp 43) (.tmp 45), (some (41, false))⟩,
      ⟨some 47, .pick (.tmp 41) (.con (.bool true)) (.tmp 46), none⟩,
      ⟨some 48, .mv (.tmp 47), none⟩,
      ⟨some 49, .addOff 3 (.tmp 8), (some (48, false))⟩,
      ⟨some 50, .load none (.tmp 49), (some (48, false))⟩,
      ⟨some 51, .bstr (.tmp 50), (some (48, false))⟩,
      ⟨some 52, .addOff 3 (.tmp 9), (some (48, false))⟩,
      ⟨some 53, .load none (.tmp 52), (some (48, false))⟩,
      ⟨some 54, .bstr (.tmp 53), (some (48, false))⟩,
      ⟨some 55, .bin .neq (.tmp 51) (.tmp 54), (some (48, false))⟩,
      ⟨some 56, .pick (.tmp 48) (.con (.bool true)) (.tmp 55), none⟩,
      ⟨some 57, .mv (.tmp 56), none⟩,
      ⟨some 58, .mv (.tmp 2), (some (57, false))⟩,
      ⟨some 59, .mv (.tmp 58), (some (57, false))⟩,
      ⟨some 60, .addOff 4 (.tmp 8), (some (59, true))⟩,
      ⟨some 61, .load (some 2) (.tmp 60), (some (59, true))⟩,
      ⟨some 62, .addOff 4 (.tmp 9), (some (59, true))⟩,
      ⟨some 63, .load (some 2) (.tmp 62), (some (59, true))⟩,
      ⟨some 64, .eqs true [0, 0] (.tmp 61) (.tmp 63), (some (59, true))⟩,
      ⟨some 65, .pick (.tmp 59) (.tmp 64) (.con (.bool false)), (some (57, false))⟩,
      ⟨some 66, .pick (.tmp 57) (.con (.bool true)) (.tmp 65), none⟩])
    (.cond (.tmp 66) (.seq (.region [⟨some 6, .mv (.con (.bool false)), none⟩])
    (.ret)) (.skip))))))
  (.region [⟨some 19, .mv (.tmp 7), none⟩,
    ⟨some 20, .bin .add (.tmp 19) (.con (.int .i64 1)), none⟩,
    ⟨some 7, .mv (.tmp 20), none⟩]))
def B15 : ACode :=
  .seq (.region [⟨some 6, .mv (.con (.bool false)), none⟩])
  (.seq (.seq (.region [⟨some 10, .mv (.tmp 0), none⟩,
    ⟨some 11, .len false (.tmp 10), none⟩,
    ⟨some 12, .mv (.tmp 1), none⟩,
    ⟨some 13, .len false (.tmp 12), none⟩,
    ⟨some 14, .bin .neq (.tmp 11) (.tmp 13), none⟩])
  (.cond (.tmp 14) (.seq (.region [⟨some 6, .mv (.con (.bool false)), none⟩])
  (.ret)) (.skip)))
  (.seq (.seq (.region [⟨some 7, .mv (.con (.int .i64 0)), none⟩])
  (.block 0 (.loop true [true, true, true, false, false, false, false, true] [false, false, false, false, false, false, true] B15L4)))
  (.seq (.region [⟨some 6, .mv (.con (.bool true)), none⟩])
  (.ret))))
def A15 : AFunc := { ntmps := 67, results := [.tmp 6], body := B15, coe := true, keep := 0 }
theorem tr15 : trFunc Tryd.prog M15 true Tryd.f15 = some A15 := by kernel_rfl

/-- handloom/lex.Show -/
def M16 : Marks := { cut := fun _ => true, hd := fun | 12 => [false, false, false, true, false, false, false, false, false, false, false, false, false, false, false, false, false, false, false, false, false, false, false, false, false, true, true, true] | _ => [], ex := fun | 12 => [false, false, false, true] | _ => [], imm := fun | 1 => true | 38 => true | 49 => true | 60 => true | 64 => true | _ => false }
abbrev H16L12 : List Bool := [false, false, false, true, false, false, false, false, false, false, false, false, false, false, false, false, false, false, false, false, false, false, false, false, false, true, true, true]
abbrev X16L12 : List Bool := [false, false, false, true]
def B16L12 : ACode :=
  .seq (.region [⟨some 28, .bin .lss (.tmp 27) (.tmp 26), none⟩])
  (.seq (.cond (.tmp 28) (.skip) (.exit 1))
  (.seq (.block 2 (.seq (.region [⟨some 29, .idxAddr 1 (.tmp 25) (.tmp 27), none⟩,
      ⟨some 30, .load none (.tmp 29), none⟩,
      ⟨some 5, .mv (.tmp 30), none⟩])
    (.block 3 (.seq (.region [⟨some 41, .mv (.tmp 5), none⟩,
        ⟨some 42, .bin .eql (.tmp 41) (.con (.int .u8 34)), none⟩,
        ⟨some 43, .mv (.tmp 42), none⟩,
        ⟨some 44, .mv (.tmp 5), (some (43, false))⟩,
        ⟨some 45, .bin .eql (.tmp 44) (.con (.int .u8 92)), (some (43, false))⟩,
        ⟨some 46, .pick (.tmp 43) (.con (.bool true)) (.tmp 45), none⟩,
        ⟨some 40, .mv (.tmp 46), none⟩])
      (.cond (.tmp 40) (.region [⟨some 47, .mv (.tmp 3), none⟩,
        ⟨some 48, .mv (.tmp 5), none⟩,
        ⟨some 49, .lit true 5 1 2 [.int .u8 0] [(0, (.con (.int .u8 92))), (1, (.tmp 48))], none⟩,
        ⟨some 50, .app false 5 1 1 (.tmp 47) (.tmp 49), none⟩,
        ⟨some 3, .mv (.tmp 50), none⟩]) (.seq (.region [⟨some 52, .mv (.tmp 5), none⟩,
        ⟨some 53, .bin .geq (.tmp 52) (.con (.int .u8 32)), none⟩,
        ⟨some 54, .mv (.tmp 53), none⟩,
        ⟨some 55, .mv (.tmp 5), (some (54, true))⟩,
        ⟨some 56, .bin .leq (.tmp 55) (.con (.int .u8 126)), (some (54, true))⟩,
        ⟨some 57, .pick (.tmp 54) (.tmp 56) (.con (.bool false)), none⟩,
        ⟨some 51, .mv (.tmp 57), none⟩])
      (.cond (.tmp 51) (.region [⟨some 58, .mv (.tmp 3), none⟩,
        ⟨some 59, .mv (.tmp 5), none⟩,
        ⟨some 60, .lit true 5 1 1 [.int .u8 0] [(0, (.tmp 59))], none⟩,
        ⟨some 61, .app false 5 1 1 (.tmp 58) (.tmp 60), none⟩,
        ⟨some 3, .mv (.tmp 61), none⟩]) (.draw [⟨some 31, .mv (.tmp 3), none⟩,
        ⟨some 32, .mv (.tmp 5), none⟩,
        ⟨some 33, .bin .shr (.tmp 32) (.con (.int .u64 4)), none⟩,
        ⟨some 34, .idxStr (.con (.str ⟨#[48, 49, 50, 51, 52, 53, 54, 55, 56, 57, 97, 98, 99, 100, 101, 102]⟩)) (.tmp 33), none⟩,
        ⟨some 35, .mv (.tmp 5), none⟩,
        ⟨some 36, .bin .and (.tmp 35) (.con (.int .u8 15)), none⟩,
        ⟨some 37, .idxStr (.con (.str ⟨#[48, 49, 50, 51, 52, 53, 54, 55, 56, 57, 97, 98, 99, 100, 101, 102]⟩)) (.tmp 36), none⟩,
        ⟨some 38, .lit true 5 1 4 [.int .u8 0] [(0, (.con (.int .u8 92))), (1, (.con (.int .u8 120))), (2, (.tmp 34)), (3, (.tmp 37))], none⟩,
        ⟨some 39, .app false 5 1 1 (.tmp 31) (.tmp 38), none⟩,
        ⟨some 3, .mv (.tmp 39), none⟩] []))))))))
  (.region [⟨some 62, .bin .add (.tmp 27) (.con (.int .i64 1)), none⟩,
    ⟨some 27, .mv (.tmp 62), none⟩])))
def B16 : ACode :=
  .seq (.region [⟨some 1, .box true (.tmp 0), none⟩,
    ⟨some 2, .mv (.con (.str ⟨#[]⟩)), none⟩])
  (.seq (.seq (.region [⟨some 6, .addOff 0 (.tmp 1), none⟩,
    ⟨some 7, .load none (.tmp 6), none⟩])
  (.block 0 (.seq (.seq (.region [⟨some 9, .bin .eql (.tmp 7) (.con (.int .i64 1)), none⟩,
      ⟨some 8, .mv (.tmp 9), none⟩])
    (.cond (.tmp 8) (.skip) (.seq (.region [⟨some 10, .bin .eql (.tmp 7) (.con (.int .i64 2)), none⟩,
      ⟨some 8, .mv (.tmp 10), none⟩])
    (.cond (.tmp 8) (.skip) (.seq (.region [⟨some 11, .bin .eql (.tmp 7) (.con (.int .i64 5)), none⟩,
      ⟨some 8, .mv (.tmp 11), none⟩])
    (.cond (.tmp 8) (.skip) (.region [⟨some 12, .bin .eql (.tmp 7) (.con (.int .i64 6)), none⟩,
      ⟨some 8, .mv (.tmp 12), none⟩])))))))
    (.cond (.tmp 8) (.seq (.region [⟨some 13, .addOff 1 (.tmp 1), none⟩,
      ⟨some 14, .load none (.tmp 13), none⟩,
      ⟨some 2, .mv (.tmp 14), none⟩])
    (.ret)) (.seq (.region [⟨some 16, .bin .eql (.tmp 7) (.con (.int .i64 3)), none⟩,
      ⟨some 15, .mv (.tmp 16), none⟩])
    (.cond (.tmp 15) (.seq (.region [⟨some 17, .addOff 2 (.tmp 1), none⟩,
      ⟨some 18, .load none (.tmp 17), none⟩,
      ⟨some 19, .mnmx true [(.tmp 18), (.con (.int .i64 0))], none⟩,
      ⟨some 20, .call (.fn 41) [(.tmp 19), (.con (.int .i64 10))], none⟩,
      ⟨some 2, .mv (.tmp 20), none⟩])
    (.ret)) (.seq (.region [⟨some 22, .bin .eql (.tmp 7) (.con (.int .i64 4)), none⟩,
      ⟨some 21, .mv (.tmp 22), none⟩])
    (.cond (.tmp 21) (.seq (.region [⟨some 23, .lit false 5 1 1 [.int .u8 0] [(0, (.con (.int .u8 34)))], none⟩,
      ⟨some 3, .mv (.tmp 23), none⟩])
    (.seq (.seq (.region [⟨some 24, .addOff 3 (.tmp 1), none⟩,
      ⟨some 25, .load none (.tmp 24), none⟩,
      ⟨some 26, .len false (.tmp 25), none⟩,
      ⟨some 27, .mv (.con (.int .i64 0)), none⟩])
    (.block 1 (.loop true [false, false, false, true, false, false, false, false, false, false, false, false, false, false, false, false, false, false, false, false, false, false, false, false, false, true, true, true] [false, false, false, true] B16L12)))
    (.seq (.region [⟨some 63, .mv (.tmp 3), none⟩,
      ⟨some 64, .lit true 5 1 1 [.int .u8 0] [(0, (.con (.int .u8 34)))], none⟩,
      ⟨some 65, .app false 5 1 1 (.tmp 63) (.tmp 64), none⟩,
      ⟨some 66, .bstr (.tmp 65), none⟩,
      ⟨some 2, .mv (.tmp 66), none⟩])
    (.ret)))) (.skip)))))))))
  (.seq (.region [⟨some 2, .mv (.con (.str ⟨#[]⟩)), none⟩])
  (.ret)))
def A16 : AFunc := { ntmps := 67, results := [.tmp 2], body := B16, coe := true, keep := 0 }
theorem tr16 : trFunc Tryd.prog M16 true Tryd.f16 = some A16 := by kernel_rfl

/-- handloom/handloomref03.Show -/
def M17 : Marks := { cut := fun _ => true, hd := fun | 13 => [false, true, false, true, true, true] | _ => [], ex := fun | 13 => [false, false, false, false, true] | _ => [], imm := fun | 1 => true | _ => false }
abbrev H17L13 : List Bool := [false, true, false, true, true, true]
abbrev X17L13 : List Bool := [false, false, false, false, true]
def B17L13 : ACode :=
  .seq (.seq (.region [⟨some 23, .mv (.tmp 5), none⟩,
    ⟨some 24, .addOff 3 (.tmp 1), none⟩,
    ⟨some 25, .load none (.tmp 24), none⟩,
    ⟨some 26, .len false (.tmp 25), none⟩,
    ⟨some 27, .bin .lss (.tmp 23) (.tmp 26), none⟩])
  (.cond (.tmp 27) (.skip) (.exit 1)))
  (.seq (.block 2 (.seq (.region [⟨some 30, .addOff 3 (.tmp 1), none⟩,
      ⟨some 31, .load none (.tmp 30), none⟩,
      ⟨some 32, .mv (.tmp 5), none⟩,
      ⟨some 33, .idxAddr 1 (.tmp 31) (.tmp 32), none⟩,
      ⟨some 34, .load none (.tmp 33), none⟩,
      ⟨some 6, .mv (.tmp 34), none⟩])
    (.block 3 (.seq (.region [⟨some 48, .mv (.tmp 6), none⟩,
        ⟨some 49, .bin .eql (.tmp 48) (.con (.int .u8 34)), none⟩,
        ⟨some 50, .mv (.tmp 49), none⟩,
        ⟨some 51, .mv (.tmp 6), (some (50, false))⟩,
        ⟨some 52, .bin .eql (.tmp 51) (.con (.int .u8 92)), (some (50, false))⟩,
        ⟨some 53, .pick (.tmp 50) (.con (.bool true)) (.tmp 52), none⟩,
        ⟨some 47, .mv (.tmp 53), none⟩])
      (.cond (.tmp 47) (.region [⟨some 54, .mv (.tmp 4), none⟩,
        ⟨some 55, .mv (.tmp 6), none⟩,
        ⟨some 56, .lit false 5 1 2 [.int .u8 0] [(0, (.con (.int .u8 92))), (1, (.tmp 55))], none⟩,
        ⟨some 57, .bstr (.tmp 56), none⟩,
        ⟨some 58, .bin .add (.tmp 54) (.tmp 57), none⟩,
        ⟨some 4, .mv (.tmp 58), none⟩]) (.seq (.region [⟨some 60, .mv (.tmp 6), none⟩,
        ⟨some 61, .bin .geq (.tmp 60) (.con (.int .u8 32)), none⟩,
        ⟨some 62, .mv (.tmp 61), none⟩,
        ⟨some 63, .mv (.tmp 6), (some (62, true))⟩,
        ⟨some 64, .bin .leq (.tmp 63) (.con (.int .u8 126)), (some (62, true))⟩,
        ⟨some 65, .pick (.tmp 62) (.tmp 64) (.con (.bool false)), none⟩,
        ⟨some 59, .mv (.tmp 65), none⟩])
      (.cond (.tmp 59) (.region [⟨some 66, .mv (.tmp 4), none⟩,
        ⟨some 67, .mv (.tmp 6), none⟩,
        ⟨some 68, .lit false 5 1 1 [.int .u8 0] [(0, (.tmp 67))], none⟩,
        ⟨some 69, .bstr (.tmp 68), none⟩,
        ⟨some 70, .bin .add (.tmp 66) (.tmp 69), none⟩,
        ⟨some 4, .mv (.tmp 70), none⟩]) (.draw [⟨some 35, .mv (.tmp 4), none⟩,
        ⟨some 36, .mv (.tmp 3), none⟩,
        ⟨some 37, .mv (.tmp 6), none⟩,
        ⟨some 38, .bin .quo (.tmp 37) (.con (.int .u8 16)), none⟩,
        ⟨some 39, .idxStr (.tmp 36) (.tmp 38), none⟩,
        ⟨some 40, .mv (.tmp 3), none⟩,
        ⟨some 41, .mv (.tmp 6), none⟩,
        ⟨some 42, .bin .rem (.tmp 41) (.con (.int .u8 16)), none⟩,
        ⟨some 43, .idxStr (.tmp 40) (.tmp 42), none⟩,
        ⟨some 44, .lit false 5 1 4 [.int .u8 0] [(0, (.con (.int .u8 92))), (1, (.con (.int .u8 120))), (2, (.tmp 39)), (3, (.tmp 43))], none⟩,
        ⟨some 45, .bstr (.tmp 44), none⟩,
        ⟨some 46, .bin .add (.tmp 35) (.tmp 45), none⟩,
        ⟨some 4, .mv (.tmp 46), none⟩] []))))))))
  (.region [⟨some 28, .mv (.tmp 5), none⟩,
    ⟨some 29, .bin .add (.tmp 28) (.con (.int .i64 1)), none⟩,
    ⟨some 5, .mv (.tmp 29), none⟩]))
def B17 : ACode :=
  .seq (.region [⟨some 1, .box true (.tmp 0), none⟩,
    ⟨some 2, .mv (.con (.str ⟨#[]⟩)), none⟩])
  (.seq (.seq (.region [⟨some 7, .addOff 0 (.tmp 1), none⟩,
    ⟨some 8, .load none (.tmp 7), none⟩])
  (.block 0 (.seq (.seq (.region [⟨some 10, .bin .eql (.tmp 8) (.con (.int .i64 1)), none⟩,
      ⟨some 9, .mv (.tmp 10), none⟩])
    (.cond (.tmp 9) (.skip) (.seq (.region [⟨some 11, .bin .eql (.tmp 8) (.con (.int .i64 2)), none⟩,
      ⟨some 9, .mv (.tmp 11), none⟩])
    (.cond (.tmp 9) (.skip) (.seq (.region [⟨some 12, .bin .eql (.tmp 8) (.con (.int .i64 5)), none⟩,
      ⟨some 9, .mv (.tmp 12), none⟩])
    (.cond (.tmp 9) (.skip) (.region [⟨some 13, .bin .eql (.tmp 8) (.con (.int .i64 6)), none⟩,
      ⟨some 9, .mv (.tmp 13), none⟩])))))))
    (.cond (.tmp 9) (.seq (.region [⟨some 14, .addOff 1 (.tmp 1), none⟩,
      ⟨some 15, .load none (.tmp 14), none⟩,
      ⟨some 2, .mv (.tmp 15), none⟩])
    (.ret)) (.seq (.region [⟨some 17, .bin .eql (.tmp 8) (.con (.int .i64 3)), none⟩,
      ⟨some 16, .mv (.tmp 17), none⟩])
    (.cond (.tmp 16) (.seq (.region [⟨some 18, .addOff 2 (.tmp 1), none⟩,
      ⟨some 19, .load none (.tmp 18), none⟩,
      ⟨some 20, .call (.fn 42) [(.tmp 19)], none⟩,
      ⟨some 2, .mv (.tmp 20), none⟩])
    (.ret)) (.seq (.region [⟨some 22, .bin .eql (.tmp 8) (.con (.int .i64 4)), none⟩,
      ⟨some 21, .mv (.tmp 22), none⟩])
    (.cond (.tmp 21) (.seq (.region [⟨some 3, .mv (.con (.str ⟨#[48, 49, 50, 51, 52, 53, 54, 55, 56, 57, 97, 98, 99, 100, 101, 102]⟩)), none⟩])
    (.seq (.region [⟨some 4, .mv (.con (.str ⟨#[34]⟩)), none⟩])
    (.seq (.seq (.region [⟨some 5, .mv (.con (.int .i64 0)), none⟩])
    (.block 1 (.loop true [false, true, false, true, true, true] [false, false, false, false, true] B17L13)))
    (.seq (.region [⟨some 71, .mv (.tmp 4), none⟩,
      ⟨some 72, .bin .add (.tmp 71) (.con (.str ⟨#[34]⟩)), none⟩,
      ⟨some 2, .mv (.tmp 72), none⟩])
    (.ret))))) (.skip)))))))))
  (.seq (.region [⟨some 2, .mv (.con (.str ⟨#[]⟩)), none⟩])
  (.ret)))
def A17 : AFunc := { ntmps := 73, results := [.tmp 2], body := B17, coe := true, keep := 0 }
theorem tr17 : trFunc Tryd.prog M17 true Tryd.f17 = some A17 := by kernel_rfl

/-- handloom/lex.Word -/
def M18 : Marks := { cut := fun _ => true, hd := fun | _ => [], ex := fun | _ => [], imm := fun | _ => false }
def B18 : ACode :=
  .seq (.region [⟨some 2, .mv (.con (.bool false)), none⟩])
  (.seq (.seq (.region [⟨some 3, .mv (.tmp 0), none⟩])
  (.block 0 (.seq (.seq (.region [⟨some 5, .bin .eql (.tmp 3) (.con (.str ⟨#[99, 97, 112]⟩)), none⟩,
      ⟨some 4, .mv (.tmp 5), none⟩])
    (.cond (.tmp 4) (.skip) (.seq (.region [⟨some 6, .bin .eql (.tmp 3) (.con (.str ⟨#[100, 111]⟩)), none⟩,
      ⟨some 4, .mv (.tmp 6), none⟩])
    (.cond (.tmp 4) (.skip) (.seq (.region [⟨some 7, .bin .eql (.tmp 3) (.con (.str ⟨#[101, 108, 115, 101]⟩)), none⟩,
      ⟨some 4, .mv (.tmp 7), none⟩])
    (.cond (.tmp 4) (.skip) (.seq (.region [⟨some 8, .bin .eql (.tmp 3) (.con (.str ⟨#[101, 110, 100]⟩)), none⟩,
      ⟨some 4, .mv (.tmp 8), none⟩])
    (.cond (.tmp 4) (.skip) (.seq (.region [⟨some 9, .bin .eql (.tmp 3) (.con (.str ⟨#[102, 111, 114]⟩)), none⟩,
      ⟨some 4, .mv (.tmp 9), none⟩])
    (.cond (.tmp 4) (.skip) (.seq (.region [⟨some 10, .bin .eql (.tmp 3) (.con (.str ⟨#[102, 117, 110]⟩)), none⟩,
      ⟨some 4, .mv (.tmp 10), none⟩])
    (.cond (.tmp 4) (.skip) (.seq (.region [⟨some 11, .bin .eql (.tmp 3) (.con (.str ⟨#[105, 102]⟩)), none⟩,
      ⟨some 4, .mv (.tmp 11), none⟩])
    (.cond (.tmp 4) (.skip) (.seq (.region [⟨some 12, .bin .eql (.tmp 3) (.con (.str ⟨#[105, 110]⟩)), none⟩,
      ⟨some 4, .mv (.tmp 12), none⟩])
    (.cond (.tmp 4) (.skip) (.seq (.region [⟨some 13, .bin .eql (.tmp 3) (.con (.str ⟨#[108, 101, 116]⟩)), none⟩,
      ⟨some 4, .mv (.tmp 13), none⟩])
    (.cond (.tmp 4) (.skip) (.seq (.region [⟨some 14, .bin .eql (.tmp 3) (.con (.str ⟨#[109, 97, 116, 99, 104]⟩)), none⟩,
      ⟨some 4, .mv (.tmp 14), none⟩])
    (.cond (.tmp 4) (.skip) (.seq (.region [⟨some 15, .bin .eql (.tmp 3) (.con (.str ⟨#[111, 102]⟩)), none⟩,
      ⟨some 4, .mv (.tmp 15), none⟩])
    (.cond (.tmp 4) (.skip) (.seq (.region [⟨some 16, .bin .eql (.tmp 3) (.con (.str ⟨#[111, 110]⟩)), none⟩,
      ⟨some 4, .mv (.tmp 16), none⟩])
    (.cond (.tmp 4) (.skip) (.seq (.region [⟨some 17, .bin .eql (.tmp 3) (.con (.str ⟨#[113, 117, 101, 117, 101]⟩)), none⟩,
      ⟨some 4, .mv (.tmp 17), none⟩])
    (.cond (.tmp 4) (.skip) (.seq (.region [⟨some 18, .bin .eql (.tmp 3) (.con (.str ⟨#[115, 116, 97, 116, 101]⟩)), none⟩,
      ⟨some 4, .mv (.tmp 18), none⟩])
    (.cond (.tmp 4) (.skip) (.seq (.region [⟨some 19, .bin .eql (.tmp 3) (.con (.str ⟨#[116, 104, 101, 110]⟩)), none⟩,
      ⟨some 4, .mv (.tmp 19), none⟩])
    (.cond (.tmp 4) (.skip) (.seq (.region [⟨some 20, .bin .eql (.tmp 3) (.con (.str ⟨#[116, 105, 109, 101, 114, 115]⟩)), none⟩,
      ⟨some 4, .mv (.tmp 20), none⟩])
    (.cond (.tmp 4) (.skip) (.seq (.region [⟨some 21, .bin .eql (.tmp 3) (.con (.str ⟨#[116, 121, 112, 101]⟩)), none⟩,
      ⟨some 4, .mv (.tmp 21), none⟩])
    (.cond (.tmp 4) (.skip) (.region [⟨some 22, .bin .eql (.tmp 3) (.con (.str ⟨#[119, 105, 116, 104]⟩)), none⟩,
      ⟨some 4, .mv (.tmp 22), none⟩])))))))))))))))))))))))))))))))))))
    (.cond (.tmp 4) (.seq (.region [⟨some 2, .mv (.con (.bool true)), none⟩])
    (.ret)) (.skip)))))
  (.seq (.region [⟨some 2, .mv (.con (.bool false)), none⟩])
  (.ret)))
def A18 : AFunc := { ntmps := 23, results := [.tmp 2], body := B18, coe := true, keep := 0 }
theorem tr18 : trFunc Tryd.prog M18 true Tryd.f18 = some A18 := by kernel_rfl

/-- handloom/handloomref03.Word -/
def M19 : Marks := { cut := fun _ => true, hd := fun | _ => [], ex := fun | _ => [], imm := fun | _ => false }
def B19 : ACode :=
  .seq (.region [⟨some 2, .mv (.con (.bool false)), none⟩])
  (.seq (.seq (.region [⟨some 3, .mv (.tmp 0), none⟩])
  (.block 0 (.seq (.seq (.region [⟨some 5, .bin .eql (.tmp 3) (.con (.str ⟨#[99, 97, 112]⟩)), none⟩,
      ⟨some 4, .mv (.tmp 5), none⟩])
    (.cond (.tmp 4) (.skip) (.seq (.region [⟨some 6, .bin .eql (.tmp 3) (.con (.str ⟨#[100, 111]⟩)), none⟩,
      ⟨some 4, .mv (.tmp 6), none⟩])
    (.cond (.tmp 4) (.skip) (.seq (.region [⟨some 7, .bin .eql (.tmp 3) (.con (.str ⟨#[101, 108, 115, 101]⟩)), none⟩,
      ⟨some 4, .mv (.tmp 7), none⟩])
    (.cond (.tmp 4) (.skip) (.seq (.region [⟨some 8, .bin .eql (.tmp 3) (.con (.str ⟨#[101, 110, 100]⟩)), none⟩,
      ⟨some 4, .mv (.tmp 8), none⟩])
    (.cond (.tmp 4) (.skip) (.seq (.region [⟨some 9, .bin .eql (.tmp 3) (.con (.str ⟨#[102, 111, 114]⟩)), none⟩,
      ⟨some 4, .mv (.tmp 9), none⟩])
    (.cond (.tmp 4) (.skip) (.seq (.region [⟨some 10, .bin .eql (.tmp 3) (.con (.str ⟨#[102, 117, 110]⟩)), none⟩,
      ⟨some 4, .mv (.tmp 10), none⟩])
    (.cond (.tmp 4) (.skip) (.seq (.region [⟨some 11, .bin .eql (.tmp 3) (.con (.str ⟨#[105, 102]⟩)), none⟩,
      ⟨some 4, .mv (.tmp 11), none⟩])
    (.cond (.tmp 4) (.skip) (.seq (.region [⟨some 12, .bin .eql (.tmp 3) (.con (.str ⟨#[105, 110]⟩)), none⟩,
      ⟨some 4, .mv (.tmp 12), none⟩])
    (.cond (.tmp 4) (.skip) (.seq (.region [⟨some 13, .bin .eql (.tmp 3) (.con (.str ⟨#[108, 101, 116]⟩)), none⟩,
      ⟨some 4, .mv (.tmp 13), none⟩])
    (.cond (.tmp 4) (.skip) (.seq (.region [⟨some 14, .bin .eql (.tmp 3) (.con (.str ⟨#[109, 97, 116, 99, 104]⟩)), none⟩,
      ⟨some 4, .mv (.tmp 14), none⟩])
    (.cond (.tmp 4) (.skip) (.seq (.region [⟨some 15, .bin .eql (.tmp 3) (.con (.str ⟨#[111, 102]⟩)), none⟩,
      ⟨some 4, .mv (.tmp 15), none⟩])
    (.cond (.tmp 4) (.skip) (.seq (.region [⟨some 16, .bin .eql (.tmp 3) (.con (.str ⟨#[111, 110]⟩)), none⟩,
      ⟨some 4, .mv (.tmp 16), none⟩])
    (.cond (.tmp 4) (.skip) (.seq (.region [⟨some 17, .bin .eql (.tmp 3) (.con (.str ⟨#[113, 117, 101, 117, 101]⟩)), none⟩,
      ⟨some 4, .mv (.tmp 17), none⟩])
    (.cond (.tmp 4) (.skip) (.seq (.region [⟨some 18, .bin .eql (.tmp 3) (.con (.str ⟨#[115, 116, 97, 116, 101]⟩)), none⟩,
      ⟨some 4, .mv (.tmp 18), none⟩])
    (.cond (.tmp 4) (.skip) (.seq (.region [⟨some 19, .bin .eql (.tmp 3) (.con (.str ⟨#[116, 104, 101, 110]⟩)), none⟩,
      ⟨some 4, .mv (.tmp 19), none⟩])
    (.cond (.tmp 4) (.skip) (.seq (.region [⟨some 20, .bin .eql (.tmp 3) (.con (.str ⟨#[116, 105, 109, 101, 114, 115]⟩)), none⟩,
      ⟨some 4, .mv (.tmp 20), none⟩])
    (.cond (.tmp 4) (.skip) (.seq (.region [⟨some 21, .bin .eql (.tmp 3) (.con (.str ⟨#[116, 121, 112, 101]⟩)), none⟩,
      ⟨some 4, .mv (.tmp 21), none⟩])
    (.cond (.tmp 4) (.skip) (.region [⟨some 22, .bin .eql (.tmp 3) (.con (.str ⟨#[119, 105, 116, 104]⟩)), none⟩,
      ⟨some 4, .mv (.tmp 22), none⟩])))))))))))))))))))))))))))))))))))
    (.cond (.tmp 4) (.seq (.region [⟨some 2, .mv (.con (.bool true)), none⟩])
    (.ret)) (.skip)))))
  (.seq (.region [⟨some 2, .mv (.con (.bool false)), none⟩])
  (.ret)))
def A19 : AFunc := { ntmps := 23, results := [.tmp 2], body := B19, coe := true, keep := 0 }
theorem tr19 : trFunc Tryd.prog M19 true Tryd.f19 = some A19 := by kernel_rfl

/-- handloom/lex.Named -/
def M20 : Marks := { cut := fun _ => true, hd := fun | 4 => [false, true, false, false, false, false, false, false, false, false, false, false, false, false, false, false, false, false, false, false, false, false, false, false, true] | _ => [], ex := fun | 4 => [false, false, false, false, true] | _ => [], imm := fun | _ => false }
abbrev H20L4 : List Bool := [false, true, false, false, false, false, false, false, false, false, false, false, false, false, false, false, false, false, false, false, false, false, false, false, true]
abbrev X20L4 : List Bool := [false, false, false, false, true]
def B20L4 : ACode :=
  .seq (.region [⟨some 25, .next (.tmp 24), none⟩,
    ⟨some 26, .ext 0 (.tmp 25), none⟩])
  (.seq (.cond (.tmp 26) (.skip) (.exit 0))
  (.block 1 (.seq (.region [⟨some 27, .ext 1 (.tmp 25), none⟩,
      ⟨some 28, .ext 2 (.tmp 25), none⟩,
      ⟨some 5, .mv (.tmp 27), none⟩,
      ⟨some 6, .mv (.tmp 28), none⟩])
    (.seq (.region [⟨some 29, .mv (.tmp 6), none⟩,
      ⟨some 30, .call (.fn 45) [(.tmp 29)], none⟩,
      ⟨some 31, .un .not (.tmp 30), none⟩,
      ⟨some 32, .mv (.tmp 31), none⟩,
      ⟨some 33, .mv (.tmp 5), (some (32, false))⟩,
      ⟨some 34, .bin .eql (.tmp 33) (.con (.int .i64 0)), (some (32, false))⟩,
      ⟨some 35, .mv (.tmp 34), (some (32, false))⟩,
      ⟨some 36, .mv (.tmp 1), (some (35, true))⟩,
      ⟨some 37, .mv (.tmp 36), (some (35, true))⟩,
      ⟨some 38, .mv (.tmp 6), (some (37, true))⟩,
      ⟨some 39, .call (.fn 46) [(.tmp 38)], (some (37, true))⟩,
      ⟨some 40, .un .not (.tmp 39), (some (37, true))⟩,
      ⟨some 41, .pick (.tmp 37) (.tmp 40) (.con (.bool false)), (some (35, true))⟩,
      ⟨some 42, .mv (.tmp 41), (some (35, true))⟩,
      ⟨some 43, .mv (.tmp 1), (some (42, false))⟩,
      ⟨some 44, .un .not (.tmp 43), (some (42, false))⟩,
      ⟨some 45, .mv (.tmp 44), (some (42, false))⟩,
      ⟨some 46, .mv (.tmp 6), (some (45, true))⟩,
      ⟨some 47, .call (.fn 47) [(.tmp 46)], (some (45, true))⟩,
      ⟨some 48, .un .not (.tmp 47), (some (45, true))⟩,
      ⟨some 49, .pick (.tmp 45) (.tmp 48) (.con (.bool false)), (some (42, false))⟩,
      ⟨some 50, .pick (.tmp 42) (.con (.bool true)) (.tmp 49), (some (35, true))⟩,
      ⟨some 51, .pick (.tmp 35) (.tmp 50) (.con (.bool false)), (some (32, false))⟩,
      ⟨some 52, .pick (.tmp 32) (.con (.bool true)) (.tmp 51), none⟩])
    (.cond (.tmp 52) (.seq (.region [⟨some 4, .mv (.con (.bool false)), none⟩])
    (.ret)) (.skip))))))
def B20 : ACode :=
  .seq (.region [⟨some 4, .mv (.con (.bool false)), none⟩])
  (.seq (.seq (.region [⟨some 7, .mv (.tmp 0), none⟩,
    ⟨some 8, .bin .eql (.tmp 7) (.con (.str ⟨#[]⟩)), none⟩,
    ⟨some 9, .mv (.tmp 8), none⟩,
    ⟨some 10, .mv (.tmp 0), (some (9, false))⟩,
    ⟨some 11, .call (.fn 18) [(.tmp 10)], (some (9, false))⟩,
    ⟨some 12, .pick (.tmp 9) (.con (.bool true)) (.tmp 11), none⟩,
    ⟨some 13, .mv (.tmp 12), none⟩,
    ⟨some 14, .mv (.tmp 0), (some (13, false))⟩,
    ⟨some 15, .call (.fn 43) [(.tmp 14)], (some (13, false))⟩,
    ⟨some 16, .un .not (.tmp 15), (some (13, false))⟩,
    ⟨some 17, .pick (.tmp 13) (.con (.bool true)) (.tmp 16), none⟩,
    ⟨some 18, .mv (.tmp 17), none⟩,
    ⟨some 19, .mv (.tmp 0), (some (18, false))⟩,
    ⟨some 20, .call (.fn 44) [(.tmp 19)], (some (18, false))⟩,
    ⟨some 21, .bin .gtr (.tmp 20) (.con (.int .i64 24)), (some (18, false))⟩,
    ⟨some 22, .pick (.tmp 18) (.con (.bool true)) (.tmp 21), none⟩])
  (.cond (.tmp 22) (.seq (.region [⟨some 4, .mv (.con (.bool false)), none⟩])
  (.ret)) (.skip)))
  (.seq (.seq (.region [⟨some 23, .mv (.tmp 0), none⟩,
    ⟨some 24, .rng (.tmp 23), none⟩])
  (.block 0 (.loop true [false, true, false, false, false, false, false, false, false, false, false, false, false, false, false, false, false, false, false, false, false, false, false, false, true] [false, false, false, false, true] B20L4)))
  (.seq (.region [⟨some 4, .mv (.con (.bool true)), none⟩])
  (.ret))))
def A20 : AFunc := { ntmps := 53, results := [.tmp 4], body := B20, coe := true, keep := 0 }
theorem tr20 : trFunc Tryd.prog M20 true Tryd.f20 = some A20 := by kernel_rfl

/-- handloom/handloomref03.Named -/
def M21 : Marks := { cut := fun _ => true, hd := fun | 3 => [true, true, false, false, false, true, true] | _ => [], ex := fun | 3 => [true, false, false, false, true, true] | _ => [], imm := fun | _ => false }
abbrev H21L3 : List Bool := [true, true, false, false, false, true, true]
abbrev X21L3 : List Bool := [true, false, false, false, true, true]
def B21L3 : ACode :=
  .seq (.seq (.region [⟨some 9, .mv (.tmp 6), none⟩,
    ⟨some 10, .mv (.tmp 0), none⟩,
    ⟨some 11, .len true (.tmp 10), none⟩,
    ⟨some 12, .bin .lss (.tmp 9) (.tmp 11), none⟩])
  (.cond (.tmp 12) (.skip) (.exit 0)))
  (.block 1 (.seq (.region [⟨some 14, .mv (.tmp 0), none⟩,
      ⟨some 15, .mv (.tmp 6), none⟩,
      ⟨some 16, .call (.fn 48) [(.tmp 14), (.tmp 15)], none⟩,
      ⟨some 13, .mv (.tmp 16), none⟩,
      ⟨some 17, .ext 0 (.tmp 13), none⟩,
      ⟨some 18, .ext 1 (.tmp 13), none⟩,
      ⟨some 7, .mv (.tmp 17), none⟩,
      ⟨some 8, .mv (.tmp 18), none⟩])
    (.seq (.seq (.region [⟨some 19, .mv (.tmp 8), none⟩,
      ⟨some 20, .bin .eql (.tmp 19) (.con (.int .i64 0)), none⟩,
      ⟨some 21, .mv (.tmp 20), none⟩,
      ⟨some 22, .mv (.tmp 7), (some (21, false))⟩,
      ⟨some 23, .call (.fn 49) [(.tmp 22)], (some (21, false))⟩,
      ⟨some 24, .un .not (.tmp 23), (some (21, false))⟩,
      ⟨some 25, .pick (.tmp 21) (.con (.bool true)) (.tmp 24), none⟩,
      ⟨some 26, .mv (.tmp 25), none⟩,
      ⟨some 27, .mv (.tmp 5), (some (26, false))⟩,
      ⟨some 28, .bin .eql (.tmp 27) (.con (.int .i64 0)), (some (26, false))⟩,
      ⟨some 29, .mv (.tmp 28), (some (26, false))⟩,
      ⟨some 30, .mv (.tmp 1), (some (29, true))⟩,
      ⟨some 31, .mv (.tmp 30), (some (29, true))⟩,
      ⟨some 32, .mv (.tmp 7), (some (31, true))⟩,
      ⟨some 33, .call (.fn 50) [(.tmp 32)], (some (31, true))⟩,
      ⟨some 34, .un .not (.tmp 33), (some (31, true))⟩,
      ⟨some 35, .pick (.tmp 31) (.tmp 34) (.con (.bool false)), (some (29, true))⟩,
      ⟨some 36, .mv (.tmp 35), (some (29, true))⟩,
      ⟨some 37, .mv (.tmp 1), (some (36, false))⟩,
      ⟨some 38, .un .not (.tmp 37), (some (36, false))⟩,
      ⟨some 39, .mv (.tmp 38), (some (36, false))⟩,
      ⟨some 40, .mv (.tmp 7), (some (39, true))⟩,
      ⟨some 41, .call (.fn 51) [(.tmp 40)], (some (39, true))⟩,
      ⟨some 42, .un .not (.tmp 41), (some (39, true))⟩,
      ⟨some 43, .pick (.tmp 39) (.tmp 42) (.con (.bool false)), (some (36, false))⟩,
      ⟨some 44, .pick (.tmp 36) (.con (.bool true)) (.tmp 43), (some (29, true))⟩,
      ⟨some 45, .pick (.tmp 29) (.tmp 44) (.con (.bool false)), (some (26, false))⟩,
      ⟨some 46, .pick (.tmp 26) (.con (.bool true)) (.tmp 45), none⟩,
      ⟨some 47, .mv (.tmp 46), none⟩,
      ⟨some 48, .mv (.tmp 5), (some (47, false))⟩,
      ⟨some 49, .bin .geq (.tmp 48) (.con (.int .i64 24)), (some (47, false))⟩,
      ⟨some 50, .pick (.tmp 47) (.con (.bool true)) (.tmp 49), none⟩])
    (.cond (.tmp 50) (.seq (.region [⟨some 4, .mv (.con (.bool false)), none⟩])
    (.ret)) (.skip)))
    (.seq (.region [⟨some 51, .mv (.tmp 5), none⟩,
      ⟨some 52, .bin .add (.tmp 51) (.con (.int .i64 1)), none⟩,
      ⟨some 5, .mv (.tmp 52), none⟩])
    (.region [⟨some 53, .mv (.tmp 6), none⟩,
      ⟨some 54, .mv (.tmp 8), none⟩,
      ⟨some 55, .bin .add (.tmp 53) (.tmp 54), none⟩,
      ⟨some 6, .mv (.tmp 55), none⟩])))))
def B21 : ACode :=
  .seq (.region [⟨some 4, .mv (.con (.bool false)), none⟩])
  (.seq (.region [⟨some 5, .mv (.con (.int .i64 0)), none⟩])
  (.seq (.seq (.region [⟨some 6, .mv (.con (.int .i64 0)), none⟩])
  (.block 0 (.loop true [true, true, false, false, false, true, true] [true, false, false, false, true, true] B21L3)))
  (.seq (.region [⟨some 56, .mv (.tmp 5), none⟩,
    ⟨some 57, .bin .gtr (.tmp 56) (.con (.int .i64 0)), none⟩,
    ⟨some 58, .mv (.tmp 57), none⟩,
    ⟨some 59, .mv (.tmp 0), (some (58, true))⟩,
    ⟨some 60, .call (.fn 19) [(.tmp 59)], (some (58, true))⟩,
    ⟨some 61, .un .not (.tmp 60), (some (58, true))⟩,
    ⟨some 62, .pick (.tmp 58) (.tmp 61) (.con (.bool false)), none⟩,
    ⟨some 4, .mv (.tmp 62), none⟩])
  (.ret))))
def A21 : AFunc := { ntmps := 63, results := [.tmp 4], body := B21, coe := true, keep := 0 }
theorem tr21 : trFunc Tryd.prog M21 true Tryd.f21 = some A21 := by kernel_rfl

/-- handloom/handloomlaw03.utf8 -/
def M22 : Marks := { cut := fun _ => true, hd := fun | _ => [], ex := fun | _ => [], imm := fun | 2 => true | 3 => true | _ => false }
def B22 : ACode :=
  .seq (.region [⟨some 2, .box true (.tmp 0), none⟩,
    ⟨some 3, .box true (.tmp 1), none⟩,
    ⟨some 4, .mv (.con (.bool false)), none⟩])
  (.seq (.region [⟨some 5, .addOff 0 (.tmp 2), none⟩,
    ⟨some 6, .load none (.tmp 5), none⟩,
    ⟨some 7, .bin .eql (.tmp 6) (.con (.int .i64 1)), none⟩,
    ⟨some 8, .mv (.tmp 7), none⟩,
    ⟨some 9, .addOff 0 (.tmp 3), (some (8, false))⟩,
    ⟨some 10, .load none (.tmp 9), (some (8, false))⟩,
    ⟨some 11, .bin .eql (.tmp 10) (.con (.int .i64 1)), (some (8, false))⟩,
    ⟨some 12, .pick (.tmp 8) (.con (.bool true)) (.tmp 11), none⟩,
    ⟨some 4, .mv (.tmp 12), none⟩])
  (.ret))
def A22 : AFunc := { ntmps := 13, results := [.tmp 4], body := B22, coe := true, keep := 0 }
theorem tr22 : trFunc Tryd.prog M22 true Tryd.f22 = some A22 := by kernel_rfl

/-- (*strings.Builder).WriteString -/
def M26 : Marks := { cut := fun _ => true, hd := fun | _ => [], ex := fun | _ => [], imm := fun | _ => false }
def B26 : ACode :=
  .seq (.region [⟨some 4, .mv (.con (.int .i64 0)), none⟩,
    ⟨some 5, .mv (.con (.nili)), none⟩])
  (.seq (.region [⟨some 6, .mv (.tmp 0), none⟩,
    ⟨some 7, .call (.fn 53) [(.tmp 6)], none⟩])
  (.seq (.region [⟨some 8, .mv (.tmp 0), none⟩,
    ⟨some 9, .mv (.tmp 0), none⟩,
    ⟨some 10, .nilchk (.tmp 9), none⟩,
    ⟨some 11, .addOff 1 (.tmp 10), none⟩,
    ⟨some 12, .load none (.tmp 11), none⟩,
    ⟨some 13, .mv (.tmp 1), none⟩,
    ⟨some 14, .app true 5 1 1 (.tmp 12) (.tmp 13), none⟩,
    ⟨some 15, .nilchk (.tmp 8), none⟩,
    ⟨some 16, .addOff 1 (.tmp 15), none⟩,
    ⟨none, .store 1 (.tmp 16) (.tmp 14), none⟩])
  (.seq (.region [⟨some 17, .mv (.tmp 1), none⟩,
    ⟨some 18, .len true (.tmp 17), none⟩,
    ⟨some 4, .mv (.tmp 18), none⟩,
    ⟨some 5, .mv (.con (.nili)), none⟩])
  (.ret))))
def A26 : AFunc := { ntmps := 19, results := [.tmp 4, .tmp 5], body := B26, coe := true, keep := 0 }
theorem tr26 : trFunc Tryd.prog M26 true Tryd.f26 = some A26 := by kernel_rfl

/-- (*strings.Builder).String -/
def M28 : Marks := { cut := fun _ => true, hd := fun | _ => [], ex := fun | _ => [], imm := fun | _ => false, alts := fun | 1 => [[0, 1, 2, 3, 5, 6, 7, 8, 4, 9, 10, 11]] | _ => [] }
def B28 : ACode :=
  .seq (.region [⟨some 2, .mv (.con (.str ⟨#[]⟩)), none⟩])
  (.seq (.draw [⟨some 3, .mv (.tmp 0), none⟩,
    ⟨some 4, .nilchk (.tmp 3), none⟩,
    ⟨some 5, .addOff 1 (.tmp 4), none⟩,
    ⟨some 6, .load none (.tmp 5), none⟩,
    ⟨some 7, .usd (.tmp 6), none⟩,
    ⟨some 8, .mv (.tmp 0), none⟩,
    ⟨some 9, .nilchk (.tmp 8), none⟩,
    ⟨some 10, .addOff 1 (.tmp 9), none⟩,
    ⟨some 11, .load none (.tmp 10), none⟩,
    ⟨some 12, .len false (.tmp 11), none⟩,
    ⟨some 13, .ustr 5 (.tmp 7) (.tmp 12), none⟩,
    ⟨some 2, .mv (.tmp 13), none⟩] [[⟨some 3, .mv (.tmp 0), none⟩, ⟨some 4, .nilchk (.tmp 3), none⟩, ⟨some 5, .addOff 1 (.tmp 4), none⟩, ⟨some 6, .load none (.tmp 5), none⟩, ⟨some 8, .mv (.tmp 0), none⟩, ⟨some 9, .nilchk (.tmp 8), none⟩, ⟨some 10, .addOff 1 (.tmp 9), none⟩, ⟨some 11, .load none (.tmp 10), none⟩, ⟨some 7, .usd (.tmp 6), none⟩, ⟨some 12, .len false (.tmp 11), none⟩, ⟨some 13, .ustr 5 (.tmp 7) (.tmp 12), none⟩, ⟨some 2, .mv (.tmp 13), none⟩]])
  (.ret))
def A28 : AFunc := { ntmps := 14, results := [.tmp 2], body := B28, coe := true, keep := 0 }
theorem tr28 : trFunc Tryd.prog M28 true Tryd.f28 = some A28 := by kernel_rfl

/-- handloom/runes.Split -/
def M31 : Marks := { cut := fun _ => true, hd := fun | 6 => [true, false, false, true, true, true, false, false, false, false, false, false, false, false, false, false, false, false, true] | _ => [], ex := fun | 6 => [false, false, true, true, false, true] | _ => [], imm := fun | 2 => true | 45 => true | _ => false }
abbrev H31L6 : List Bool := [true, false, false, true, true, true, false, false, false, false, false, false, false, false, false, false, false, false, true]
abbrev X31L6 : List Bool := [false, false, true, true, false, true]
def B31L6 : ACode :=
  .seq (.region [⟨some 19, .next (.tmp 18), none⟩,
    ⟨some 20, .ext 0 (.tmp 19), none⟩])
  (.seq (.cond (.tmp 20) (.skip) (.exit 0))
  (.block 1 (.seq (.region [⟨some 21, .ext 1 (.tmp 19), none⟩,
      ⟨some 22, .ext 2 (.tmp 19), none⟩,
      ⟨some 6, .mv (.tmp 21), none⟩,
      ⟨some 7, .mv (.tmp 22), none⟩])
    (.seq (.seq (.region [⟨some 23, .mv (.tmp 7), none⟩,
      ⟨some 24, .bin .eql (.tmp 23) (.con (.int .i32 65533)), none⟩,
      ⟨some 25, .mv (.tmp 24), none⟩,
      ⟨some 26, .mv (.tmp 0), (some (25, true))⟩,
      ⟨some 27, .mv (.tmp 6), (some (25, true))⟩,
      ⟨some 28, .slcStr (.tmp 26) (some (.tmp 27)) none, (some (25, true))⟩,
      ⟨some 29, .call (.fn 57) [(.tmp 28), (.con (.str ⟨#[239, 191, 189]⟩))], (some (25, true))⟩,
      ⟨some 30, .un .not (.tmp 29), (some (25, true))⟩,
      ⟨some 31, .pick (.tmp 25) (.tmp 30) (.con (.bool false)), none⟩])
    (.cond (.tmp 31) (.seq (.draw [⟨some 32, .mv (.tmp 4), none⟩,
      ⟨some 33, .nilchk (.tmp 32), none⟩,
      ⟨some 34, .addOff 0 (.tmp 33), none⟩,
      ⟨some 35, .load (some 2) (.tmp 34), none⟩,
      ⟨some 36, .build [.int .i64 0, .int .i64 0, .int .i64 0] [(0, 1, (.con (.int .i64 1))), (1, 2, (.tmp 35))], none⟩,
      ⟨some 2, .mv (.con (.slice 4 [])), none⟩,
      ⟨none, .store 3 (.tmp 3) (.tmp 36), none⟩] [])
    (.ret)) (.skip)))
    (.seq (.region [⟨some 37, .mv (.tmp 5), none⟩,
      ⟨some 38, .mv (.tmp 7), none⟩,
      ⟨some 39, .mv (.tmp 6), none⟩,
      ⟨some 40, .mv (.tmp 4), none⟩,
      ⟨some 41, .nilchk (.tmp 40), none⟩,
      ⟨some 42, .addOff 0 (.tmp 41), none⟩,
      ⟨some 43, .load (some 2) (.tmp 42), none⟩,
      ⟨some 44, .build [.int .i32 0, .int .i64 0, .int .i64 0, .int .i64 0] [(0, 1, (.tmp 38)), (1, 1, (.tmp 39)), (2, 2, (.tmp 43))], none⟩,
      ⟨some 45, .lit true 0 4 1 [.int .i32 0, .int .i64 0, .int .i64 0, .int .i64 0] [(0, (.tmp 44))], none⟩,
      ⟨some 46, .app false 0 4 32 (.tmp 37) (.tmp 45), none⟩,
      ⟨some 5, .mv (.tmp 46), none⟩])
    (.region [⟨some 47, .mv (.tmp 4), none⟩,
      ⟨some 48, .mv (.tmp 7), none⟩,
      ⟨some 49, .call (.fn 58) [(.tmp 47), (.tmp 48)], none⟩]))))))
def B31 : ACode :=
  .seq (.region [⟨some 2, .mv (.con (.slice 4 [])), none⟩,
    ⟨some 3, .alloc [.ok (.int .i64 0), .ok (.int .i64 0), .ok (.int .i64 0)], none⟩])
  (.seq (.region [⟨some 8, .call (.fn 56) [], none⟩,
    ⟨some 4, .mv (.tmp 8), none⟩])
  (.seq (.seq (.region [⟨some 9, .mv (.tmp 0), none⟩,
    ⟨some 10, .len true (.tmp 9), none⟩,
    ⟨some 11, .bin .gtr (.tmp 10) (.con (.int .i64 16384)), none⟩])
  (.cond (.tmp 11) (.seq (.draw [⟨some 12, .mv (.tmp 4), none⟩,
    ⟨some 13, .nilchk (.tmp 12), none⟩,
    ⟨some 14, .addOff 0 (.tmp 13), none⟩,
    ⟨some 15, .load (some 2) (.tmp 14), none⟩,
    ⟨some 16, .build [.int .i64 0, .int .i64 0, .int .i64 0] [(0, 1, (.con (.int .i64 5))), (1, 2, (.tmp 15))], none⟩,
    ⟨some 2, .mv (.con (.slice 4 [])), none⟩,
    ⟨none, .store 3 (.tmp 3) (.tmp 16), none⟩] [])
  (.ret)) (.skip)))
  (.seq (.region [⟨some 5, .nilrow 4, none⟩])
  (.seq (.seq (.region [⟨some 17, .mv (.tmp 0), none⟩,
    ⟨some 18, .rng (.tmp 17), none⟩])
  (.block 0 (.loop true [true, false, false, true, true, true, false, false, false, false, false, false, false, false, false, false, false, false, true] [false, false, true, true, false, true] B31L6)))
  (.seq (.region [⟨some 50, .mv (.tmp 5), none⟩,
    ⟨some 51, .build [.int .i64 0, .int .i64 0, .int .i64 0] [], none⟩,
    ⟨some 2, .mv (.tmp 50), none⟩,
    ⟨none, .store 3 (.tmp 3) (.tmp 51), none⟩])
  (.ret))))))
def A31 : AFunc := { ntmps := 52, results := [.tmp 2, .cell (some 3) 3], body := B31, coe := true, keep := 0 }
theorem tr31 : trFunc Tryd.prog M31 true Tryd.f31 = some A31 := by kernel_rfl

/-- (*handloom/lex.reader).skip -/
def M32 : Marks := { cut := fun _ => true, hd := fun | 0 => [true] | _ => [], ex := fun | 0 => [] | _ => [], imm := fun | _ => false, sn := fun | 0 => [] | _ => [] }
abbrev S32R0 : List Bool := []
def N32R0 : ACode :=
  .skip
def B32R0 : ACode :=
  .block 3 (.skip)
abbrev S32R1 : List Bool := []
def N32R1 : ACode :=
  .skip
def B32R1 : ACode :=
  .block 5 (.skip)
abbrev H32L0 : List Bool := [true]
abbrev X32L0 : List Bool := []
def B32L0 : ACode :=
  .block 1 (.seq (.seq (.region [⟨some 2, .mv (.tmp 0), none⟩,
      ⟨some 3, .call (.fn 59) [(.tmp 2), (.fn 60)], none⟩])
    (.block 2 (.rangeFn (.tmp 3) [4] [] N32R0 B32R0)))
    (.seq (.seq (.region [⟨some 5, .mv (.tmp 0), none⟩,
      ⟨some 6, .call (.fn 61) [(.tmp 5), (.con (.int .i64 0))], none⟩,
      ⟨some 7, .bin .neq (.tmp 6) (.con (.int .i32 35)), none⟩])
    (.cond (.tmp 7) (.ret) (.skip)))
    (.seq (.region [⟨some 8, .mv (.tmp 0), none⟩,
      ⟨some 9, .call (.fn 59) [(.tmp 8), (.fn 62)], none⟩])
    (.block 4 (.rangeFn (.tmp 9) [10] [] N32R1 B32R1)))))
def B32 : ACode :=
  .block 0 (.loop true [true] [] B32L0)
def A32 : AFunc := { ntmps := 11, results := [], body := B32, coe := true, keep := 0 }
theorem tr32 : trFunc Tryd.prog M32 true Tryd.f32 = some A32 := by kernel_rfl

/-- (*handloom/lex.reader).over -/
def M33 : Marks := { cut := fun _ => true, hd := fun | _ => [], ex := fun | _ => [], imm := fun | _ => false }
def B33 : ACode :=
  .seq (.region [⟨some 2, .mv (.con (.bool false)), none⟩])
  (.seq (.draw [⟨some 3, .mv (.tmp 0), none⟩,
    ⟨some 4, .nilchk (.tmp 3), none⟩,
    ⟨some 5, .addOff 1 (.tmp 4), none⟩,
    ⟨some 6, .load none (.tmp 5), none⟩,
    ⟨some 7, .mv (.tmp 0), none⟩,
    ⟨some 8, .nilchk (.tmp 7), none⟩,
    ⟨some 9, .addOff 0 (.tmp 8), none⟩,
    ⟨some 10, .load none (.tmp 9), none⟩,
    ⟨some 11, .len false (.tmp 10), none⟩,
    ⟨some 12, .bin .geq (.tmp 6) (.tmp 11), none⟩,
    ⟨some 2, .mv (.tmp 12), none⟩] [])
  (.ret))
def A33 : AFunc := { ntmps := 13, results := [.tmp 2], body := B33, coe := true, keep := 0 }
theorem tr33 : trFunc Tryd.prog M33 true Tryd.f33 = some A33 := by kernel_rfl

/-- (*handloom/lex.reader).token -/
def M34 : Marks := { cut := fun _ => true, hd := fun | _ => [], ex := fun | _ => [], imm := fun | 16 => true | _ => false, alts := fun | 1 => [[0, 1, 2, 3, 4, 5, 6, 7, 8, 9, 12, 10, 11, 13], [0, 1, 2, 3, 4, 5, 6, 12, 7, 8, 9, 10, 11, 13], [0, 1, 2, 4, 5, 6, 7, 12, 3, 8, 9, 10, 11, 13], [0, 1, 2, 4, 5, 6, 12, 3, 7, 8, 9, 10, 11, 13]] | _ => [] }
def B34 : ACode :=
  .seq (.region [⟨some 2, .alloc [.ok (.int .i64 0), .ok (.str ⟨#[]⟩), .ok (.int .i64 0), .error 1, .ok (.int .i64 0), .ok (.int .i64 0)], none⟩])
  (.seq (.draw [⟨some 5, .mv (.tmp 0), none⟩,
    ⟨some 6, .nilchk (.tmp 5), none⟩,
    ⟨some 7, .addOff 0 (.tmp 6), none⟩,
    ⟨some 8, .load none (.tmp 7), none⟩,
    ⟨some 9, .mv (.tmp 0), none⟩,
    ⟨some 10, .nilchk (.tmp 9), none⟩,
    ⟨some 11, .addOff 1 (.tmp 10), none⟩,
    ⟨some 12, .load none (.tmp 11), none⟩,
    ⟨some 13, .idxAddr 4 (.tmp 8) (.tmp 12), none⟩,
    ⟨some 14, .addOff 2 (.tmp 13), none⟩,
    ⟨some 15, .load (some 2) (.tmp 14), none⟩,
    ⟨some 16, .build [.int .i64 0, .str ⟨#[]⟩, .int .i64 0, .nils 1, .int .i64 0, .int .i64 0] [(4, 2, (.tmp 15))], none⟩,
    ⟨some 3, .alloc [.ok (.int .i64 0), .ok (.str ⟨#[]⟩), .ok (.int .i64 0), .error 1, .ok (.int .i64 0), .ok (.int .i64 0)], none⟩,
    ⟨none, .storen 6 (.tmp 3) (.tmp 16), none⟩] [[⟨some 5, .mv (.tmp 0), none⟩, ⟨some 6, .nilchk (.tmp 5), none⟩, ⟨some 7, .addOff 0 (.tmp 6), none⟩, ⟨some 8, .load none (.tmp 7), none⟩, ⟨some 9, .mv (.tmp 0), none⟩, ⟨some 10, .nilchk (.tmp 9), none⟩, ⟨some 11, .addOff 1 (.tmp 10), none⟩, ⟨some 12, .load none (.tmp 11), none⟩, ⟨some 13, .idxAddr 4 (.tmp 8) (.tmp 12), none⟩, ⟨some 14, .addOff 2 (.tmp 13), none⟩, ⟨some 3, .alloc [.ok (.int .i64 0), .ok (.str ⟨#[]⟩), .ok (.int .i64 0), .error 1, .ok (.int .i64 0), .ok (.int .i64 0)], none⟩, ⟨some 15, .load (some 2) (.tmp 14), none⟩, ⟨some 16, .build [.int .i64 0, .str ⟨#[]⟩, .int .i64 0, .nils 1, .int .i64 0, .int .i64 0] [(4, 2, (.tmp 15))], none⟩, ⟨none, .storen 6 (.tmp 3) (.tmp 16), none⟩], [⟨some 5, .mv (.tmp 0), none⟩, ⟨some 6, .nilchk (.tmp 5), none⟩, ⟨some 7, .addOff 0 (.tmp 6), none⟩, ⟨some 8, .load none (.tmp 7), none⟩, ⟨some 9, .mv (.tmp 0), none⟩, ⟨some 10, .nilchk (.tmp 9), none⟩, ⟨some 11, .addOff 1 (.tmp 10), none⟩, ⟨some 3, .alloc [.ok (.int .i64 0), .ok (.str ⟨#[]⟩), .ok (.int .i64 0), .error 1, .ok (.int .i64 0), .ok (.int .i64 0)], none⟩, ⟨some 12, .load none (.tmp 11), none⟩, ⟨some 13, .idxAddr 4 (.tmp 8) (.tmp 12), none⟩, ⟨some 14, .addOff 2 (.tmp 13), none⟩, ⟨some 15, .load (some 2) (.tmp 14), none⟩, ⟨some 16, .build [.int .i64 0, .str ⟨#[]⟩, .int .i64 0, .nils 1, .int .i64 0, .int .i64 0] [(4, 2, (.tmp 15))], none⟩, ⟨none, .storen 6 (.tmp 3) (.tmp 16), none⟩], [⟨some 5, .mv (.tmp 0), none⟩, ⟨some 6, .nilchk (.tmp 5), none⟩, ⟨some 7, .addOff 0 (.tmp 6), none⟩, ⟨some 9, .mv (.tmp 0), none⟩, ⟨some 10, .nilchk (.tmp 9), none⟩, ⟨some 11, .addOff 1 (.tmp 10), none⟩, ⟨some 12, .load none (.tmp 11), none⟩, ⟨some 3, .alloc [.ok (.int .i64 0), .ok (.str ⟨#[]⟩), .ok (.int .i64 0), .error 1, .ok (.int .i64 0), .ok (.int .i64 0)], none⟩, ⟨some 8, .load none (.tmp 7), none⟩, ⟨some 13, .idxAddr 4 (.tmp 8) (.tmp 12), none⟩, ⟨some 14, .addOff 2 (.tmp 13), none⟩, ⟨some 15, .load (some 2) (.tmp 14), none⟩, ⟨some 16, .build [.int .i64 0, .str ⟨#[]⟩, .int .i64 0, .nils 1, .int .i64 0, .int .i64 0] [(4, 2, (.tmp 15))], none⟩, ⟨none, .storen 6 (.tmp 3) (.tmp 16), none⟩], [⟨some 5, .mv (.tmp 0), none⟩, ⟨some 6, .nilchk (.tmp 5), none⟩, ⟨some 7, .addOff 0 (.tmp 6), none⟩, ⟨some 9, .mv (.tmp 0), none⟩, ⟨some 10, .nilchk (.tmp 9), none⟩, ⟨some 11, .addOff 1 (.tmp 10), none⟩, ⟨some 3, .alloc [.ok (.int .i64 0), .ok (.str ⟨#[]⟩), .ok (.int .i64 0), .error 1, .ok (.int .i64 0), .ok (.int .i64 0)], none⟩, ⟨some 8, .load none (.tmp 7), none⟩, ⟨some 12, .load none (.tmp 11), none⟩, ⟨some 13, .idxAddr 4 (.tmp 8) (.tmp 12), none⟩, ⟨some 14, .addOff 2 (.tmp 13), none⟩, ⟨some 15, .load (some 2) (.tmp 14), none⟩, ⟨some 16, .build [.int .i64 0, .str ⟨#[]⟩, .int .i64 0, .nils 1, .int .i64 0, .int .i64 0] [(4, 2, (.tmp 15))], none⟩, ⟨none, .storen 6 (.tmp 3) (.tmp 16), none⟩]])
  (.seq (.seq (.region [⟨some 17, .mv (.tmp 0), none⟩,
    ⟨some 18, .call (.fn 61) [(.tmp 17), (.con (.int .i64 0))], none⟩,
    ⟨some 4, .mv (.tmp 18), none⟩])
  (.block 0 (.seq (.region [⟨some 22, .mv (.tmp 4), none⟩,
      ⟨some 23, .call (.fn 47) [(.tmp 22)], none⟩,
      ⟨some 24, .mv (.tmp 23), none⟩,
      ⟨some 25, .mv (.tmp 4), (some (24, false))⟩,
      ⟨some 26, .call (.fn 46) [(.tmp 25)], (some (24, false))⟩,
      ⟨some 27, .pick (.tmp 24) (.con (.bool true)) (.tmp 26), none⟩,
      ⟨some 21, .mv (.tmp 27), none⟩])
    (.cond (.tmp 21) (.region [⟨some 28, .mv (.tmp 0), none⟩,
      ⟨some 29, .call (.fn 63) [(.tmp 28), (.tmp 3)], none⟩]) (.seq (.region [⟨some 31, .mv (.tmp 4), none⟩,
      ⟨some 32, .call (.fn 64) [(.tmp 31)], none⟩,
      ⟨some 30, .mv (.tmp 32), none⟩])
    (.cond (.tmp 30) (.region [⟨some 33, .mv (.tmp 0), none⟩,
      ⟨some 34, .call (.fn 65) [(.tmp 33), (.tmp 3)], none⟩]) (.seq (.region [⟨some 36, .mv (.tmp 4), none⟩,
      ⟨some 37, .bin .eql (.tmp 36) (.con (.int .i32 34)), none⟩,
      ⟨some 35, .mv (.tmp 37), none⟩])
    (.cond (.tmp 35) (.region [⟨some 38, .mv (.tmp 0), none⟩,
      ⟨some 39, .call (.fn 66) [(.tmp 38), (.tmp 3)], none⟩]) (.region [⟨some 19, .mv (.tmp 0), none⟩,
      ⟨some 20, .call (.fn 67) [(.tmp 19), (.tmp 3)], none⟩])))))))))
  (.seq (.region [⟨some 40, .load (some 6) (.tmp 3), none⟩,
    ⟨none, .store 6 (.tmp 2) (.tmp 40), none⟩])
  (.ret))))
def A34 : AFunc := { ntmps := 41, results := [.cell (some 6) 2], body := B34, coe := true, keep := 0 }
theorem tr34 : trFunc Tryd.prog M34 true Tryd.f34 = some A34 := by kernel_rfl

/-- (*handloom/lex.reader).fail -/
def M35 : Marks := { cut := fun _ => true, hd := fun | _ => [], ex := fun | _ => [], imm := fun | 5 => true | _ => false }
def B35 : ACode :=
  .seq (.region [⟨some 5, .box true (.tmp 2), none⟩])
  (.seq (.region [⟨some 6, .mv (.tmp 0), none⟩,
    ⟨some 7, .nilchk (.tmp 6), none⟩,
    ⟨some 8, .addOff 2 (.tmp 7), none⟩,
    ⟨some 9, .addOff 0 (.tmp 8), none⟩,
    ⟨some 10, .load none (.tmp 9), none⟩,
    ⟨some 11, .bin .eql (.tmp 10) (.con (.int .i64 0)), none⟩])
  (.cond (.tmp 11) (.region [⟨some 12, .mv (.tmp 0), none⟩,
    ⟨some 13, .mv (.tmp 1), none⟩,
    ⟨some 14, .load (some 2) (.tmp 5), none⟩,
    ⟨some 15, .build [.int .i64 0, .int .i64 0, .int .i64 0] [(0, 1, (.tmp 13)), (1, 2, (.tmp 14))], none⟩,
    ⟨some 16, .nilchk (.tmp 12), none⟩,
    ⟨some 17, .addOff 2 (.tmp 16), none⟩,
    ⟨none, .store 3 (.tmp 17) (.tmp 15), none⟩]) (.skip)))
def A35 : AFunc := { ntmps := 18, results := [], body := B35, coe := true, keep := 0 }
theorem tr35 : trFunc Tryd.prog M35 true Tryd.f35 = some A35 := by kernel_rfl

/-- handloom/runes.Place -/
def M36 : Marks := { cut := fun _ => true, hd := fun | 6 => [true, true, false, false, true, true, true, false, false, false, false, false, false, false, false, true] | _ => [], ex := fun | 6 => [true, true, false, false, true, true, true] | _ => [], imm := fun | _ => false }
abbrev H36L6 : List Bool := [true, true, false, false, true, true, true, false, false, false, false, false, false, false, false, true]
abbrev X36L6 : List Bool := [true, true, false, false, true, true, true]
def B36L6 : ACode :=
  .seq (.region [⟨some 16, .next (.tmp 15), none⟩,
    ⟨some 17, .ext 0 (.tmp 16), none⟩])
  (.seq (.cond (.tmp 17) (.skip) (.exit 0))
  (.block 1 (.seq (.region [⟨some 18, .ext 1 (.tmp 16), none⟩,
      ⟨some 19, .ext 2 (.tmp 16), none⟩,
      ⟨some 7, .mv (.tmp 18), none⟩,
      ⟨some 8, .mv (.tmp 19), none⟩])
    (.seq (.seq (.region [⟨some 20, .mv (.tmp 7), none⟩,
      ⟨some 21, .bin .gtr (.tmp 20) (.con (.int .i64 0)), none⟩])
    (.cond (.tmp 21) (.seq (.seq (.region [⟨some 22, .mv (.tmp 1), none⟩,
      ⟨some 23, .mv (.tmp 7), none⟩,
      ⟨some 24, .bin .lss (.tmp 22) (.tmp 23), none⟩])
    (.cond (.tmp 24) (.seq (.region [⟨some 25, .mv (.tmp 5), none⟩,
      ⟨some 26, .nilchk (.tmp 25), none⟩,
      ⟨some 27, .addOff 0 (.tmp 26), none⟩,
      ⟨some 28, .load (some 2) (.tmp 27), none⟩,
      ⟨none, .store 2 (.tmp 4) (.tmp 28), none⟩])
    (.ret)) (.skip)))
    (.region [⟨some 29, .mv (.tmp 5), none⟩,
      ⟨some 30, .mv (.tmp 6), none⟩,
      ⟨some 31, .call (.fn 58) [(.tmp 29), (.tmp 30)], none⟩])) (.skip)))
    (.region [⟨some 32, .mv (.tmp 8), none⟩,
      ⟨some 6, .mv (.tmp 32), none⟩])))))
def B36 : ACode :=
  .seq (.region [⟨some 4, .alloc [.ok (.int .i64 0), .ok (.int .i64 0)], none⟩])
  (.seq (.seq (.region [⟨some 9, .mv (.tmp 0), none⟩,
    ⟨some 10, .len true (.tmp 9), none⟩,
    ⟨some 11, .bin .gtr (.tmp 10) (.con (.int .i64 16384)), none⟩])
  (.cond (.tmp 11) (.seq (.region [⟨some 12, .build [.int .i64 0, .int .i64 0] [], none⟩,
    ⟨none, .store 2 (.tmp 4) (.tmp 12), none⟩])
  (.ret)) (.skip)))
  (.seq (.region [⟨some 13, .call (.fn 56) [], none⟩,
    ⟨some 5, .mv (.tmp 13), none⟩])
  (.seq (.region [⟨some 6, .mv (.con (.int .i32 0)), none⟩])
  (.seq (.seq (.region [⟨some 14, .mv (.tmp 0), none⟩,
    ⟨some 15, .rng (.tmp 14), none⟩])
  (.block 0 (.loop true [true, true, false, false, true, true, true, false, false, false, false, false, false, false, false, true] [true, true, false, false, true, true, true] B36L6)))
  (.seq (.seq (.region [⟨some 33, .mv (.tmp 0), none⟩,
    ⟨some 34, .bin .neq (.tmp 33) (.con (.str ⟨#[]⟩)), none⟩,
    ⟨some 35, .mv (.tmp 34), none⟩,
    ⟨some 36, .mv (.tmp 1), (some (35, true))⟩,
    ⟨some 37, .mv (.tmp 0), (some (35, true))⟩,
    ⟨some 38, .len true (.tmp 37), (some (35, true))⟩,
    ⟨some 39, .bin .geq (.tmp 36) (.tmp 38), (some (35, true))⟩,
    ⟨some 40, .pick (.tmp 35) (.tmp 39) (.con (.bool false)), none⟩])
  (.cond (.tmp 40) (.region [⟨some 41, .mv (.tmp 5), none⟩,
    ⟨some 42, .mv (.tmp 6), none⟩,
    ⟨some 43, .call (.fn 58) [(.tmp 41), (.tmp 42)], none⟩]) (.skip)))
  (.seq (.region [⟨some 44, .mv (.tmp 5), none⟩,
    ⟨some 45, .nilchk (.tmp 44), none⟩,
    ⟨some 46, .addOff 0 (.tmp 45), none⟩,
    ⟨some 47, .load (some 2) (.tmp 46), none⟩,
    ⟨none, .store 2 (.tmp 4) (.tmp 47), none⟩])
  (.ret)))))))
def A36 : AFunc := { ntmps := 48, results := [.cell (some 2) 4], body := B36, coe := true, keep := 0 }
theorem tr36 : trFunc Tryd.prog M36 true Tryd.f36 = some A36 := by kernel_rfl

/-- handloom/handloomref02.Split -/
def M37 : Marks := { cut := fun _ => true, hd := fun | 6 => [true, false, false, true, true, true, true] | _ => [], ex := fun | 6 => [false, false, true, true, false, true] | _ => [], imm := fun | 2 => true | 34 => true | _ => false }
abbrev H37L6 : List Bool := [true, false, false, true, true, true, true]
abbrev X37L6 : List Bool := [false, false, true, true, false, true]
def B37L6 : ACode :=
  .seq (.seq (.region [⟨some 15, .mv (.tmp 6), none⟩,
    ⟨some 16, .mv (.tmp 0), none⟩,
    ⟨some 17, .len true (.tmp 16), none⟩,
    ⟨some 18, .bin .lss (.tmp 15) (.tmp 17), none⟩])
  (.cond (.tmp 18) (.skip) (.exit 0)))
  (.block 1 (.seq (.region [⟨some 20, .mv (.tmp 0), none⟩,
      ⟨some 21, .mv (.tmp 6), none⟩,
      ⟨some 22, .call (.fn 48) [(.tmp 20), (.tmp 21)], none⟩,
      ⟨some 19, .mv (.tmp 22), none⟩,
      ⟨some 23, .ext 0 (.tmp 19), none⟩,
      ⟨some 24, .ext 1 (.tmp 19), none⟩,
      ⟨some 7, .mv (.tmp 23), none⟩,
      ⟨some 8, .mv (.tmp 24), none⟩])
    (.seq (.seq (.region [⟨some 25, .mv (.tmp 8), none⟩,
      ⟨some 26, .bin .eql (.tmp 25) (.con (.int .i64 0)), none⟩])
    (.cond (.tmp 26) (.seq (.draw [⟨some 27, .load (some 2) (.tmp 4), none⟩,
      ⟨some 28, .build [.int .i64 0, .int .i64 0, .int .i64 0] [(0, 1, (.con (.int .i64 1))), (1, 2, (.tmp 27))], none⟩,
      ⟨some 2, .mv (.con (.slice 4 [])), none⟩,
      ⟨none, .store 3 (.tmp 3) (.tmp 28), none⟩] [])
    (.ret)) (.skip)))
    (.seq (.region [⟨some 29, .mv (.tmp 5), none⟩,
      ⟨some 30, .mv (.tmp 7), none⟩,
      ⟨some 31, .mv (.tmp 6), none⟩,
      ⟨some 32, .load (some 2) (.tmp 4), none⟩,
      ⟨some 33, .build [.int .i32 0, .int .i64 0, .int .i64 0, .int .i64 0] [(0, 1, (.tmp 30)), (1, 1, (.tmp 31)), (2, 2, (.tmp 32))], none⟩,
      ⟨some 34, .lit true 0 4 1 [.int .i32 0, .int .i64 0, .int .i64 0, .int .i64 0] [(0, (.tmp 33))], none⟩,
      ⟨some 35, .app false 0 4 32 (.tmp 29) (.tmp 34), none⟩,
      ⟨some 5, .mv (.tmp 35), none⟩])
    (.seq (.region [⟨some 36, .load (some 2) (.tmp 4), none⟩,
      ⟨some 37, .mv (.tmp 7), none⟩,
      ⟨some 38, .call (.fn 68) [(.tmp 36), (.tmp 37)], none⟩,
      ⟨none, .store 2 (.tmp 4) (.tmp 38), none⟩])
    (.region [⟨some 39, .mv (.tmp 6), none⟩,
      ⟨some 40, .mv (.tmp 8), none⟩,
      ⟨some 41, .bin .add (.tmp 39) (.tmp 40), none⟩,
      ⟨some 6, .mv (.tmp 41), none⟩]))))))
def B37 : ACode :=
  .seq (.region [⟨some 2, .mv (.con (.slice 4 [])), none⟩,
    ⟨some 3, .alloc [.ok (.int .i64 0), .ok (.int .i64 0), .ok (.int .i64 0)], none⟩])
  (.seq (.region [⟨some 9, .build [.int .i64 0, .int .i64 0] [(0, 1, (.con (.int .i64 1))), (1, 1, (.con (.int .i64 1)))], none⟩,
    ⟨some 4, .alloc [.ok (.int .i64 0), .ok (.int .i64 0)], none⟩,
    ⟨none, .store 2 (.tmp 4) (.tmp 9), none⟩])
  (.seq (.seq (.region [⟨some 10, .mv (.tmp 0), none⟩,
    ⟨some 11, .len true (.tmp 10), none⟩,
    ⟨some 12, .bin .gtr (.tmp 11) (.con (.int .i64 16384)), none⟩])
  (.cond (.tmp 12) (.seq (.draw [⟨some 13, .load (some 2) (.tmp 4), none⟩,
    ⟨some 14, .build [.int .i64 0, .int .i64 0, .int .i64 0] [(0, 1, (.con (.int .i64 5))), (1, 2, (.tmp 13))], none⟩,
    ⟨some 2, .mv (.con (.slice 4 [])), none⟩,
    ⟨none, .store 3 (.tmp 3) (.tmp 14), none⟩] [])
  (.ret)) (.skip)))
  (.seq (.region [⟨some 5, .nilrow 4, none⟩])
  (.seq (.seq (.region [⟨some 6, .mv (.con (.int .i64 0)), none⟩])
  (.block 0 (.loop true [true, false, false, true, true, true, true] [false, false, true, true, false, true] B37L6)))
  (.seq (.region [⟨some 42, .mv (.tmp 5), none⟩,
    ⟨some 43, .build [.int .i64 0, .int .i64 0, .int .i64 0] [], none⟩,
    ⟨some 2, .mv (.tmp 42), none⟩,
    ⟨none, .store 3 (.tmp 3) (.tmp 43), none⟩])
  (.ret))))))
def A37 : AFunc := { ntmps := 44, results := [.tmp 2, .cell (some 3) 3], body := B37, coe := true, keep := 0 }
theorem tr37 : trFunc Tryd.prog M37 true Tryd.f37 = some A37 := by kernel_rfl

/-- handloom/handloomref02.Blank -/
def M38 : Marks := { cut := fun _ => true, hd := fun | _ => [], ex := fun | _ => [], imm := fun | _ => false }
def B38 : ACode :=
  .seq (.region [⟨some 2, .mv (.con (.bool false)), none⟩])
  (.seq (.region [⟨some 3, .mv (.tmp 0), none⟩,
    ⟨some 4, .bin .eql (.tmp 3) (.con (.int .i32 9)), none⟩,
    ⟨some 5, .mv (.tmp 4), none⟩,
    ⟨some 6, .mv (.tmp 0), (some (5, false))⟩,
    ⟨some 7, .bin .eql (.tmp 6) (.con (.int .i32 10)), (some (5, false))⟩,
    ⟨some 8, .pick (.tmp 5) (.con (.bool true)) (.tmp 7), none⟩,
    ⟨some 9, .mv (.tmp 8), none⟩,
    ⟨some 10, .mv (.tmp 0), (some (9, false))⟩,
    ⟨some 11, .bin .eql (.tmp 10) (.con (.int .i32 13)), (some (9, false))⟩,
    ⟨some 12, .pick (.tmp 9) (.con (.bool true)) (.tmp 11), none⟩,
    ⟨some 13, .mv (.tmp 12), none⟩,
    ⟨some 14, .mv (.tmp 0), (some (13, false))⟩,
    ⟨some 15, .bin .eql (.tmp 14) (.con (.int .i32 32)), (some (13, false))⟩,
    ⟨some 16, .pick (.tmp 13) (.con (.bool true)) (.tmp 15), none⟩,
    ⟨some 2, .mv (.tmp 16), none⟩])
  (.ret))
def A38 : AFunc := { ntmps := 17, results := [.tmp 2], body := B38, coe := true, keep := 0 }
theorem tr38 : trFunc Tryd.prog M38 true Tryd.f38 = some A38 := by kernel_rfl

/-- handloom/handloomref03.one -/
def M39 : Marks := { cut := fun _ => true, hd := fun | 17 => [true, true, false, false, true, false, false, false, true, false, false, true] | _ => [], ex := fun | 17 => [false, false, false, false, true, true, true, false, true, false, false, true] | _ => [], imm := fun | _ => false, alts := fun | 34 => [[0, 1, 4, 2, 3, 5, 6]] | _ => [] }
abbrev H39L17 : List Bool := [true, true, false, false, true, false, false, false, true, false, false, true]
abbrev X39L17 : List Bool := [false, false, false, false, true, true, true, false, true, false, false, true]
def B39L17 : ACode :=
  .seq (.seq (.region [⟨some 55, .mv (.tmp 1), none⟩,
    ⟨some 56, .mv (.tmp 11), none⟩,
    ⟨some 57, .bin .add (.tmp 55) (.tmp 56), none⟩,
    ⟨some 58, .mv (.tmp 0), none⟩,
    ⟨some 59, .len false (.tmp 58), none⟩,
    ⟨some 60, .bin .lss (.tmp 57) (.tmp 59), none⟩,
    ⟨some 61, .mv (.tmp 60), none⟩,
    ⟨some 62, .mv (.tmp 0), (some (61, true))⟩,
    ⟨some 63, .mv (.tmp 1), (some (61, true))⟩,
    ⟨some 64, .mv (.tmp 11), (some (61, true))⟩,
    ⟨some 65, .bin .add (.tmp 63) (.tmp 64), (some (61, true))⟩,
    ⟨some 66, .idxAddr 4 (.tmp 62) (.tmp 65), (some (61, true))⟩,
    ⟨some 67, .addOff 0 (.tmp 66), (some (61, true))⟩,
    ⟨some 68, .load none (.tmp 67), (some (61, true))⟩,
    ⟨some 69, .call (.fn 70) [(.tmp 68)], (some (61, true))⟩,
    ⟨some 70, .pick (.tmp 61) (.tmp 69) (.con (.bool false)), none⟩])
  (.cond (.tmp 70) (.skip) (.exit 0)))
  (.block 1 (.seq (.seq (.region [⟨some 71, .addOff 2 (.tmp 8), none⟩,
      ⟨some 72, .load none (.tmp 71), none⟩,
      ⟨some 73, .bin .gtr (.tmp 72) (.con (.int .i64 461168601842738790)), none⟩])
    (.cond (.tmp 73) (.seq (.region [⟨some 74, .load (some 6) (.tmp 8), none⟩,
      ⟨none, .store 6 (.tmp 4) (.tmp 74), none⟩,
      ⟨some 5, .mv (.con (.int .i64 0)), none⟩,
      ⟨some 6, .mv (.con (.int .i64 3)), none⟩])
    (.ret)) (.skip)))
    (.seq (.draw [⟨some 75, .addOff 2 (.tmp 8), none⟩,
      ⟨some 76, .load none (.tmp 75), none⟩,
      ⟨some 77, .bin .mul (.tmp 76) (.con (.int .i64 10)), none⟩,
      ⟨some 78, .mv (.tmp 0), none⟩,
      ⟨some 79, .mv (.tmp 1), none⟩,
      ⟨some 80, .mv (.tmp 11), none⟩,
      ⟨some 81, .bin .add (.tmp 79) (.tmp 80), none⟩,
      ⟨some 82, .idxAddr 4 (.tmp 78) (.tmp 81), none⟩,
      ⟨some 83, .addOff 0 (.tmp 82), none⟩,
      ⟨some 84, .load none (.tmp 83), none⟩,
      ⟨some 85, .bin .sub (.tmp 84) (.con (.int .i32 48)), none⟩,
      ⟨some 86, .cvt .i64 (.tmp 85), none⟩,
      ⟨some 87, .bin .add (.tmp 77) (.tmp 86), none⟩,
      ⟨some 88, .addOff 2 (.tmp 8), none⟩,
      ⟨none, .store 1 (.tmp 88) (.tmp 87), none⟩] [])
    (.seq (.seq (.region [⟨some 89, .addOff 2 (.tmp 8), none⟩,
      ⟨some 90, .load none (.tmp 89), none⟩,
      ⟨some 91, .bin .gtr (.tmp 90) (.con (.int .i64 4611686018427387903)), none⟩])
    (.cond (.tmp 91) (.seq (.region [⟨some 92, .load (some 6) (.tmp 8), none⟩,
      ⟨none, .store 6 (.tmp 4) (.tmp 92), none⟩,
      ⟨some 5, .mv (.con (.int .i64 0)), none⟩,
      ⟨some 6, .mv (.con (.int .i64 3)), none⟩])
    (.ret)) (.skip)))
    (.region [⟨some 93, .mv (.tmp 11), none⟩,
      ⟨some 94, .bin .add (.tmp 93) (.con (.int .i64 1)), none⟩,
      ⟨some 11, .mv (.tmp 94), none⟩])))))
def B39 : ACode :=
  .seq (.region [⟨some 4, .alloc [.ok (.int .i64 0), .ok (.str ⟨#[]⟩), .ok (.int .i64 0), .error 1, .ok (.int .i64 0), .ok (.int .i64 0)], none⟩,
    ⟨some 5, .mv (.con (.int .i64 0)), none⟩,
    ⟨some 6, .mv (.con (.int .i64 0)), none⟩])
  (.seq (.region [⟨some 15, .mv (.tmp 0), none⟩,
    ⟨some 16, .mv (.tmp 1), none⟩,
    ⟨some 17, .idxAddr 4 (.tmp 15) (.tmp 16), none⟩,
    ⟨some 18, .addOff 0 (.tmp 17), none⟩,
    ⟨some 19, .load none (.tmp 18), none⟩,
    ⟨some 7, .mv (.tmp 19), none⟩])
  (.seq (.region [⟨some 20, .mv (.tmp 0), none⟩,
    ⟨some 21, .mv (.tmp 1), none⟩,
    ⟨some 22, .idxAddr 4 (.tmp 20) (.tmp 21), none⟩,
    ⟨some 23, .addOff 2 (.tmp 22), none⟩,
    ⟨some 24, .load (some 2) (.tmp 23), none⟩,
    ⟨some 25, .build [.int .i64 0, .str ⟨#[]⟩, .int .i64 0, .slice 1 [], .int .i64 0, .int .i64 0] [(4, 2, (.tmp 24))], none⟩,
    ⟨some 8, .alloc [.ok (.int .i64 0), .ok (.str ⟨#[]⟩), .ok (.int .i64 0), .error 1, .ok (.int .i64 0), .ok (.int .i64 0)], none⟩,
    ⟨none, .store 6 (.tmp 8) (.tmp 25), none⟩])
  (.seq (.seq (.region [⟨some 26, .mv (.tmp 7), none⟩,
    ⟨some 27, .call (.fn 51) [(.tmp 26)], none⟩,
    ⟨some 28, .mv (.tmp 27), none⟩,
    ⟨some 29, .mv (.tmp 7), (some (28, false))⟩,
    ⟨some 30, .call (.fn 50) [(.tmp 29)], (some (28, false))⟩,
    ⟨some 31, .pick (.tmp 28) (.con (.bool true)) (.tmp 30), none⟩])
  (.cond (.tmp 31) (.seq (.region [⟨some 33, .mv (.tmp 0), none⟩,
    ⟨some 34, .mv (.tmp 1), none⟩,
    ⟨some 35, .call (.fn 69) [(.tmp 33), (.tmp 34)], none⟩,
    ⟨some 32, .mv (.tmp 35), none⟩,
    ⟨some 36, .ext 0 (.tmp 32), none⟩,
    ⟨some 37, .ext 1 (.tmp 32), none⟩,
    ⟨some 9, .mv (.tmp 36), none⟩,
    ⟨some 10, .mv (.tmp 37), none⟩])
  (.seq (.region [⟨some 38, .mv (.tmp 9), none⟩,
    ⟨some 39, .addOff 1 (.tmp 8), none⟩,
    ⟨none, .store 1 (.tmp 39) (.tmp 38), none⟩])
  (.seq (.region [⟨some 40, .addOff 0 (.tmp 8), none⟩,
    ⟨none, .store 1 (.tmp 40) (.con (.int .i64 1)), none⟩])
  (.seq (.seq (.region [⟨some 41, .mv (.tmp 7), none⟩,
    ⟨some 42, .call (.fn 50) [(.tmp 41)], none⟩])
  (.cond (.tmp 42) (.region [⟨some 43, .addOff 0 (.tmp 8), none⟩,
    ⟨none, .store 1 (.tmp 43) (.con (.int .i64 2)), none⟩]) (.skip)))
  (.seq (.seq (.region [⟨some 44, .mv (.tmp 9), none⟩,
    ⟨some 45, .call (.fn 19) [(.tmp 44)], none⟩])
  (.cond (.tmp 45) (.region [⟨some 46, .addOff 0 (.tmp 8), none⟩,
    ⟨none, .store 1 (.tmp 46) (.con (.int .i64 5)), none⟩]) (.skip)))
  (.seq (.seq (.region [⟨some 47, .mv (.tmp 10), none⟩,
    ⟨some 48, .bin .gtr (.tmp 47) (.con (.int .i64 24)), none⟩])
  (.cond (.tmp 48) (.seq (.region [⟨some 49, .load (some 6) (.tmp 8), none⟩,
    ⟨none, .store 6 (.tmp 4) (.tmp 49), none⟩,
    ⟨some 5, .mv (.con (.int .i64 0)), none⟩,
    ⟨some 6, .mv (.con (.int .i64 5)), none⟩])
  (.ret)) (.skip)))
  (.seq (.region [⟨some 50, .load (some 6) (.tmp 8), none⟩,
    ⟨some 51, .mv (.tmp 10), none⟩,
    ⟨none, .store 6 (.tmp 4) (.tmp 50), none⟩,
    ⟨some 5, .mv (.tmp 51), none⟩,
    ⟨some 6, .mv (.con (.int .i64 0)), none⟩])
  (.ret)))))))) (.skip)))
  (.seq (.seq (.region [⟨some 52, .mv (.tmp 7), none⟩,
    ⟨some 53, .call (.fn 70) [(.tmp 52)], none⟩])
  (.cond (.tmp 53) (.seq (.region [⟨some 54, .addOff 0 (.tmp 8), none⟩,
    ⟨none, .store 1 (.tmp 54) (.con (.int .i64 3)), none⟩])
  (.seq (.region [⟨some 11, .mv (.con (.int .i64 0)), none⟩])
  (.seq (.block 0 (.loop true [true, true, false, false, true, false, false, false, true, false, false, true] [false, false, false, false, true, true, true, false, true, false, false, true] B39L17))
  (.seq (.region [⟨some 95, .load (some 6) (.tmp 8), none⟩,
    ⟨some 96, .mv (.tmp 11), none⟩,
    ⟨none, .store 6 (.tmp 4) (.tmp 95), none⟩,
    ⟨some 5, .mv (.tmp 96), none⟩,
    ⟨some 6, .mv (.con (.int .i64 0)), none⟩])
  (.ret))))) (.skip)))
  (.seq (.seq (.region [⟨some 97, .mv (.tmp 7), none⟩,
    ⟨some 98, .bin .eql (.tmp 97) (.con (.int .i32 34)), none⟩])
  (.cond (.tmp 98) (.seq (.region [⟨some 100, .mv (.tmp 0), none⟩,
    ⟨some 101, .mv (.tmp 1), none⟩,
    ⟨some 102, .call (.fn 71) [(.tmp 100), (.tmp 101)], none⟩,
    ⟨some 99, .mv (.tmp 102), none⟩,
    ⟨some 103, .ext 0 (.tmp 99), none⟩,
    ⟨some 104, .ext 1 (.tmp 99), none⟩,
    ⟨some 105, .ext 2 (.tmp 99), none⟩,
    ⟨some 12, .mv (.tmp 103), none⟩,
    ⟨some 13, .mv (.tmp 104), none⟩,
    ⟨some 14, .mv (.tmp 105), none⟩])
  (.seq (.region [⟨some 106, .addOff 0 (.tmp 8), none⟩,
    ⟨none, .store 1 (.tmp 106) (.con (.int .i64 4)), none⟩])
  (.seq (.region [⟨some 107, .mv (.tmp 12), none⟩,
    ⟨some 108, .addOff 3 (.tmp 8), none⟩,
    ⟨none, .store 1 (.tmp 108) (.tmp 107), none⟩])
  (.seq (.region [⟨some 109, .load (some 6) (.tmp 8), none⟩,
    ⟨some 110, .mv (.tmp 13), none⟩,
    ⟨some 111, .mv (.tmp 14), none⟩,
    ⟨none, .store 6 (.tmp 4) (.tmp 109), none⟩,
    ⟨some 5, .mv (.tmp 110), none⟩,
    ⟨some 6, .mv (.tmp 111), none⟩])
  (.ret))))) (.skip)))
  (.seq (.region [⟨some 112, .addOff 0 (.tmp 8), none⟩,
    ⟨none, .store 1 (.tmp 112) (.con (.int .i64 6)), none⟩])
  (.seq (.region [⟨some 113, .mv (.tmp 0), none⟩,
    ⟨some 114, .mv (.tmp 1), none⟩,
    ⟨some 115, .call (.fn 72) [(.tmp 113), (.tmp 114)], none⟩,
    ⟨some 116, .addOff 1 (.tmp 8), none⟩,
    ⟨none, .store 1 (.tmp 116) (.tmp 115), none⟩])
  (.seq (.seq (.region [⟨some 117, .addOff 1 (.tmp 8), none⟩,
    ⟨some 118, .load none (.tmp 117), none⟩,
    ⟨some 119, .bin .eql (.tmp 118) (.con (.str ⟨#[]⟩)), none⟩])
  (.cond (.tmp 119) (.seq (.region [⟨some 120, .load (some 6) (.tmp 8), none⟩,
    ⟨none, .store 6 (.tmp 4) (.tmp 120), none⟩,
    ⟨some 5, .mv (.con (.int .i64 0)), none⟩,
    ⟨some 6, .mv (.con (.int .i64 2)), none⟩])
  (.ret)) (.skip)))
  (.seq (.draw [⟨some 121, .load (some 6) (.tmp 8), none⟩,
    ⟨some 122, .addOff 1 (.tmp 8), none⟩,
    ⟨some 123, .load none (.tmp 122), none⟩,
    ⟨some 124, .len true (.tmp 123), none⟩,
    ⟨none, .store 6 (.tmp 4) (.tmp 121), none⟩,
    ⟨some 5, .mv (.tmp 124), none⟩,
    ⟨some 6, .mv (.con (.int .i64 0)), none⟩] [[⟨some 121, .load (some 6) (.tmp 8), none⟩, ⟨some 122, .addOff 1 (.tmp 8), none⟩, ⟨none, .store 6 (.tmp 4) (.tmp 121), none⟩, ⟨some 123, .load none (.tmp 122), none⟩, ⟨some 124, .len true (.tmp 123), none⟩, ⟨some 5, .mv (.tmp 124), none⟩, ⟨some 6, .mv (.con (.int .i64 0)), none⟩]])
  (.ret))))))))))
def A39 : AFunc := { ntmps := 125, results := [.cell (some 6) 4, .tmp 5, .tmp 6], body := B39, coe := true, keep := 0 }
theorem tr39 : trFunc Tryd.prog M39 true Tryd.f39 = some A39 := by kernel_rfl

/-- handloom/handloomref02.Place -/
def M40 : Marks := { cut := fun _ => true, hd := fun | 5 => [true, true, false, false, true, true, true] | _ => [], ex := fun | 5 => [false, false, false, false, true, true] | _ => [], imm := fun | _ => false }
abbrev H40L5 : List Bool := [true, true, false, false, true, true, true]
abbrev X40L5 : List Bool := [false, false, false, false, true, true]
def B40L5 : ACode :=
  .seq (.seq (.region [⟨some 14, .mv (.tmp 6), none⟩,
    ⟨some 15, .mv (.tmp 0), none⟩,
    ⟨some 16, .len true (.tmp 15), none⟩,
    ⟨some 17, .bin .lss (.tmp 14) (.tmp 16), none⟩])
  (.cond (.tmp 17) (.skip) (.exit 0)))
  (.block 1 (.seq (.region [⟨some 19, .mv (.tmp 0), none⟩,
      ⟨some 20, .mv (.tmp 6), none⟩,
      ⟨some 21, .call (.fn 48) [(.tmp 19), (.tmp 20)], none⟩,
      ⟨some 18, .mv (.tmp 21), none⟩,
      ⟨some 22, .ext 0 (.tmp 18), none⟩,
      ⟨some 23, .ext 1 (.tmp 18), none⟩,
      ⟨some 7, .mv (.tmp 22), none⟩,
      ⟨some 8, .mv (.tmp 23), none⟩])
    (.seq (.seq (.region [⟨some 24, .mv (.tmp 8), none⟩,
      ⟨some 25, .bin .eql (.tmp 24) (.con (.int .i64 0)), none⟩])
    (.cond (.tmp 25) (.seq (.region [⟨some 7, .mv (.con (.int .i32 0)), none⟩])
    (.region [⟨some 8, .mv (.con (.int .i64 1)), none⟩])) (.skip)))
    (.seq (.seq (.region [⟨some 26, .mv (.tmp 1), none⟩,
      ⟨some 27, .mv (.tmp 6), none⟩,
      ⟨some 28, .mv (.tmp 8), none⟩,
      ⟨some 29, .bin .add (.tmp 27) (.tmp 28), none⟩,
      ⟨some 30, .bin .lss (.tmp 26) (.tmp 29), none⟩])
    (.cond (.tmp 30) (.seq (.region [⟨some 31, .load (some 2) (.tmp 5), none⟩,
      ⟨none, .store 2 (.tmp 4) (.tmp 31), none⟩])
    (.ret)) (.skip)))
    (.seq (.region [⟨some 32, .load (some 2) (.tmp 5), none⟩,
      ⟨some 33, .mv (.tmp 7), none⟩,
      ⟨some 34, .call (.fn 68) [(.tmp 32), (.tmp 33)], none⟩,
      ⟨none, .store 2 (.tmp 5) (.tmp 34), none⟩])
    (.region [⟨some 35, .mv (.tmp 6), none⟩,
      ⟨some 36, .mv (.tmp 8), none⟩,
      ⟨some 37, .bin .add (.tmp 35) (.tmp 36), none⟩,
      ⟨some 6, .mv (.tmp 37), none⟩]))))))
def B40 : ACode :=
  .seq (.region [⟨some 4, .alloc [.ok (.int .i64 0), .ok (.int .i64 0)], none⟩])
  (.seq (.seq (.region [⟨some 9, .mv (.tmp 0), none⟩,
    ⟨some 10, .len true (.tmp 9), none⟩,
    ⟨some 11, .bin .gtr (.tmp 10) (.con (.int .i64 16384)), none⟩])
  (.cond (.tmp 11) (.seq (.region [⟨some 12, .build [.int .i64 0, .int .i64 0] [], none⟩,
    ⟨none, .store 2 (.tmp 4) (.tmp 12), none⟩])
  (.ret)) (.skip)))
  (.seq (.region [⟨some 13, .build [.int .i64 0, .int .i64 0] [(0, 1, (.con (.int .i64 1))), (1, 1, (.con (.int .i64 1)))], none⟩,
    ⟨some 5, .alloc [.ok (.int .i64 0), .ok (.int .i64 0)], none⟩,
    ⟨none, .store 2 (.tmp 5) (.tmp 13), none⟩])
  (.seq (.seq (.region [⟨some 6, .mv (.con (.int .i64 0)), none⟩])
  (.block 0 (.loop true [true, true, false, false, true, true, true] [false, false, false, false, true, true] B40L5)))
  (.seq (.region [⟨some 38, .load (some 2) (.tmp 5), none⟩,
    ⟨none, .store 2 (.tmp 4) (.tmp 38), none⟩])
  (.ret)))))
def A40 : AFunc := { ntmps := 39, results := [.cell (some 2) 4], body := B40, coe := true, keep := 0 }
theorem tr40 : trFunc Tryd.prog M40 true Tryd.f40 = some A40 := by kernel_rfl

/-- handloom/handloomref03.Digits -/
def M42 : Marks := { cut := fun _ => true, hd := fun | 2 => [true, false, false, true] | _ => [], ex := fun | 2 => [true, false, false, true] | _ => [], imm := fun | _ => false }
abbrev H42L2 : List Bool := [true, false, false, true]
abbrev X42L2 : List Bool := [true, false, false, true]
def B42L2 : ACode :=
  .seq (.seq (.region [⟨some 4, .mv (.tmp 0), none⟩,
    ⟨some 5, .bin .gtr (.tmp 4) (.con (.int .i64 9)), none⟩])
  (.cond (.tmp 5) (.skip) (.exit 0)))
  (.block 1 (.seq (.region [⟨some 6, .mv (.tmp 0), none⟩,
      ⟨some 7, .bin .rem (.tmp 6) (.con (.int .i64 10)), none⟩,
      ⟨some 8, .bin .add (.con (.int .i64 48)) (.tmp 7), none⟩,
      ⟨some 9, .cvt .u8 (.tmp 8), none⟩,
      ⟨some 10, .lit false 5 1 1 [.int .u8 0] [(0, (.tmp 9))], none⟩,
      ⟨some 11, .bstr (.tmp 10), none⟩,
      ⟨some 12, .mv (.tmp 3), none⟩,
      ⟨some 13, .bin .add (.tmp 11) (.tmp 12), none⟩,
      ⟨some 3, .mv (.tmp 13), none⟩])
    (.region [⟨some 14, .mv (.tmp 0), none⟩,
      ⟨some 15, .bin .quo (.tmp 14) (.con (.int .i64 10)), none⟩,
      ⟨some 0, .mv (.tmp 15), none⟩])))
def B42 : ACode :=
  .seq (.region [⟨some 2, .mv (.con (.str ⟨#[]⟩)), none⟩])
  (.seq (.region [⟨some 3, .mv (.con (.str ⟨#[]⟩)), none⟩])
  (.seq (.block 0 (.loop true [true, false, false, true] [true, false, false, true] B42L2))
  (.seq (.region [⟨some 16, .mv (.tmp 0), none⟩,
    ⟨some 17, .mnmx true [(.tmp 16), (.con (.int .i64 0))], none⟩,
    ⟨some 18, .bin .add (.con (.int .i64 48)) (.tmp 17), none⟩,
    ⟨some 19, .cvt .u8 (.tmp 18), none⟩,
    ⟨some 20, .lit false 5 1 1 [.int .u8 0] [(0, (.tmp 19))], none⟩,
    ⟨some 21, .bstr (.tmp 20), none⟩,
    ⟨some 22, .mv (.tmp 3), none⟩,
    ⟨some 23, .bin .add (.tmp 21) (.tmp 22), none⟩,
    ⟨some 2, .mv (.tmp 23), none⟩])
  (.ret))))
def A42 : AFunc := { ntmps := 24, results := [.tmp 2], body := B42, coe := true, keep := 0 }
theorem tr42 : trFunc Tryd.prog M42 true Tryd.f42 = some A42 := by kernel_rfl

/-- unicode/utf8.RuneCountInString -/
def M44 : Marks := { cut := fun _ => true, hd := fun | 2 => [false, false, true, false, true] | _ => [], ex := fun | 2 => [false, false, true] | _ => [], imm := fun | _ => false }
abbrev H44L2 : List Bool := [false, false, true, false, true]
abbrev X44L2 : List Bool := [false, false, true]
def B44L2 : ACode :=
  .seq (.region [⟨some 5, .next (.tmp 4), none⟩,
    ⟨some 6, .ext 0 (.tmp 5), none⟩])
  (.seq (.cond (.tmp 6) (.skip) (.exit 0))
  (.block 1 (.region [⟨some 7, .mv (.tmp 2), none⟩,
      ⟨some 8, .bin .add (.tmp 7) (.con (.int .i64 1)), none⟩,
      ⟨some 2, .mv (.tmp 8), none⟩])))
def B44 : ACode :=
  .seq (.region [⟨some 2, .mv (.con (.int .i64 0)), none⟩])
  (.seq (.seq (.region [⟨some 3, .mv (.tmp 0), none⟩,
    ⟨some 4, .rng (.tmp 3), none⟩])
  (.block 0 (.loop true [false, false, true, false, true] [false, false, true] B44L2)))
  (.seq (.region [⟨some 9, .mv (.tmp 2), none⟩,
    ⟨some 2, .mv (.tmp 9), none⟩])
  (.ret)))
def A44 : AFunc := { ntmps := 10, results := [.tmp 2], body := B44, coe := true, keep := 0 }
theorem tr44 : trFunc Tryd.prog M44 true Tryd.f44 = some A44 := by kernel_rfl

/-- handloom/lex.part -/
def M45 : Marks := { cut := fun _ => true, hd := fun | _ => [], ex := fun | _ => [], imm := fun | _ => false }
def B45 : ACode :=
  .seq (.region [⟨some 2, .mv (.con (.bool false)), none⟩])
  (.seq (.region [⟨some 3, .mv (.tmp 0), none⟩,
    ⟨some 4, .call (.fn 47) [(.tmp 3)], none⟩,
    ⟨some 5, .mv (.tmp 4), none⟩,
    ⟨some 6, .mv (.tmp 0), (some (5, false))⟩,
    ⟨some 7, .call (.fn 46) [(.tmp 6)], (some (5, false))⟩,
    ⟨some 8, .pick (.tmp 5) (.con (.bool true)) (.tmp 7), none⟩,
    ⟨some 9, .mv (.tmp 8), none⟩,
    ⟨some 10, .mv (.tmp 0), (some (9, false))⟩,
    ⟨some 11, .call (.fn 64) [(.tmp 10)], (some (9, false))⟩,
    ⟨some 12, .pick (.tmp 9) (.con (.bool true)) (.tmp 11), none⟩,
    ⟨some 13, .mv (.tmp 12), none⟩,
    ⟨some 14, .mv (.tmp 0), (some (13, false))⟩,
    ⟨some 15, .bin .eql (.tmp 14) (.con (.int .i32 95)), (some (13, false))⟩,
    ⟨some 16, .pick (.tmp 13) (.con (.bool true)) (.tmp 15), none⟩,
    ⟨some 2, .mv (.tmp 16), none⟩])
  (.ret))
def A45 : AFunc := { ntmps := 17, results := [.tmp 2], body := B45, coe := true, keep := 0 }
theorem tr45 : trFunc Tryd.prog M45 true Tryd.f45 = some A45 := by kernel_rfl

/-- handloom/runes.Up -/
def M46 : Marks := { cut := fun _ => true, hd := fun | _ => [], ex := fun | _ => [], imm := fun | _ => false }
def B46 : ACode :=
  .seq (.region [⟨some 2, .mv (.con (.bool false)), none⟩])
  (.seq (.region [⟨some 3, .mv (.tmp 0), none⟩,
    ⟨some 4, .bin .geq (.tmp 3) (.con (.int .i32 65)), none⟩,
    ⟨some 5, .mv (.tmp 4), none⟩,
    ⟨some 6, .mv (.tmp 0), (some (5, true))⟩,
    ⟨some 7, .bin .leq (.tmp 6) (.con (.int .i32 90)), (some (5, true))⟩,
    ⟨some 8, .pick (.tmp 5) (.tmp 7) (.con (.bool false)), none⟩,
    ⟨some 2, .mv (.tmp 8), none⟩])
  (.ret))
def A46 : AFunc := { ntmps := 9, results := [.tmp 2], body := B46, coe := true, keep := 0 }
theorem tr46 : trFunc Tryd.prog M46 true Tryd.f46 = some A46 := by kernel_rfl

/-- handloom/runes.Low -/
def M47 : Marks := { cut := fun _ => true, hd := fun | _ => [], ex := fun | _ => [], imm := fun | _ => false }
def B47 : ACode :=
  .seq (.region [⟨some 2, .mv (.con (.bool false)), none⟩])
  (.seq (.region [⟨some 3, .mv (.tmp 0), none⟩,
    ⟨some 4, .bin .geq (.tmp 3) (.con (.int .i32 97)), none⟩,
    ⟨some 5, .mv (.tmp 4), none⟩,
    ⟨some 6, .mv (.tmp 0), (some (5, true))⟩,
    ⟨some 7, .bin .leq (.tmp 6) (.con (.int .i32 122)), (some (5, true))⟩,
    ⟨some 8, .pick (.tmp 5) (.tmp 7) (.con (.bool false)), none⟩,
    ⟨some 9, .mv (.tmp 8), none⟩,
    ⟨some 10, .mv (.tmp 0), (some (9, false))⟩,
    ⟨some 11, .bin .geq (.tmp 10) (.con (.int .i32 128)), (some (9, false))⟩,
    ⟨some 12, .mv (.tmp 11), (some (9, false))⟩,
    ⟨some 13, .mv (.tmp 0), (some (12, true))⟩,
    ⟨some 14, .call (.fn 75) [(.tmp 13)], (some (12, true))⟩,
    ⟨some 15, .pick (.tmp 12) (.tmp 14) (.con (.bool false)), (some (9, false))⟩,
    ⟨some 16, .pick (.tmp 9) (.con (.bool true)) (.tmp 15), none⟩,
    ⟨some 2, .mv (.tmp 16), none⟩])
  (.ret))
def A47 : AFunc := { ntmps := 17, results := [.tmp 2], body := B47, coe := true, keep := 0 }
theorem tr47 : trFunc Tryd.prog M47 true Tryd.f47 = some A47 := by kernel_rfl

/-- handloom/handloomref02.One -/
def M48 : Marks := { cut := fun _ => true, hd := fun | _ => [], ex := fun | _ => [], imm := fun | _ => false }
def B48 : ACode :=
  .seq (.region [⟨some 4, .mv (.con (.int .i32 0)), none⟩,
    ⟨some 5, .mv (.con (.int .i64 0)), none⟩])
  (.seq (.region [⟨some 12, .mv (.tmp 0), none⟩,
    ⟨some 13, .mv (.tmp 1), none⟩,
    ⟨some 14, .idxStr (.tmp 12) (.tmp 13), none⟩,
    ⟨some 6, .mv (.tmp 14), none⟩])
  (.seq (.region [⟨some 7, .mv (.con (.int .i64 0)), none⟩])
  (.seq (.region [⟨some 15, .mv (.tmp 6), none⟩,
    ⟨some 16, .cvt .i32 (.tmp 15), none⟩,
    ⟨some 8, .mv (.tmp 16), none⟩])
  (.seq (.region [⟨some 9, .mv (.con (.int .i32 0)), none⟩])
  (.seq (.block 0 (.seq (.region [⟨some 18, .mv (.tmp 6), none⟩,
      ⟨some 19, .bin .lss (.tmp 18) (.con (.int .u8 128)), none⟩,
      ⟨some 17, .mv (.tmp 19), none⟩])
    (.cond (.tmp 17) (.seq (.region [⟨some 20, .mv (.tmp 8), none⟩,
      ⟨some 4, .mv (.tmp 20), none⟩,
      ⟨some 5, .mv (.con (.int .i64 1)), none⟩])
    (.ret)) (.seq (.region [⟨some 22, .mv (.tmp 6), none⟩,
      ⟨some 23, .bin .geq (.tmp 22) (.con (.int .u8 192)), none⟩,
      ⟨some 24, .mv (.tmp 23), none⟩,
      ⟨some 25, .mv (.tmp 6), (some (24, true))⟩,
      ⟨some 26, .bin .lss (.tmp 25) (.con (.int .u8 224)), (some (24, true))⟩,
      ⟨some 27, .pick (.tmp 24) (.tmp 26) (.con (.bool false)), none⟩,
      ⟨some 21, .mv (.tmp 27), none⟩])
    (.cond (.tmp 21) (.seq (.region [⟨some 7, .mv (.con (.int .i64 1)), none⟩])
    (.seq (.region [⟨some 28, .mv (.tmp 8), none⟩,
      ⟨some 29, .bin .sub (.tmp 28) (.con (.int .i32 192)), none⟩,
      ⟨some 8, .mv (.tmp 29), none⟩])
    (.region [⟨some 9, .mv (.con (.int .i32 128)), none⟩]))) (.seq (.region [⟨some 31, .mv (.tmp 6), none⟩,
      ⟨some 32, .bin .geq (.tmp 31) (.con (.int .u8 224)), none⟩,
      ⟨some 33, .mv (.tmp 32), none⟩,
      ⟨some 34, .mv (.tmp 6), (some (33, true))⟩,
      ⟨some 35, .bin .lss (.tmp 34) (.con (.int .u8 240)), (some (33, true))⟩,
      ⟨some 36, .pick (.tmp 33) (.tmp 35) (.con (.bool false)), none⟩,
      ⟨some 30, .mv (.tmp 36), none⟩])
    (.cond (.tmp 30) (.seq (.region [⟨some 7, .mv (.con (.int .i64 2)), none⟩])
    (.seq (.region [⟨some 37, .mv (.tmp 8), none⟩,
      ⟨some 38, .bin .sub (.tmp 37) (.con (.int .i32 224)), none⟩,
      ⟨some 8, .mv (.tmp 38), none⟩])
    (.region [⟨some 9, .mv (.con (.int .i32 2048)), none⟩]))) (.seq (.region [⟨some 40, .mv (.tmp 6), none⟩,
      ⟨some 41, .bin .geq (.tmp 40) (.con (.int .u8 240)), none⟩,
      ⟨some 42, .mv (.tmp 41), none⟩,
      ⟨some 43, .mv (.tmp 6), (some (42, true))⟩,
      ⟨some 44, .bin .lss (.tmp 43) (.con (.int .u8 248)), (some (42, true))⟩,
      ⟨some 45, .pick (.tmp 42) (.tmp 44) (.con (.bool false)), none⟩,
      ⟨some 39, .mv (.tmp 45), none⟩])
    (.cond (.tmp 39) (.seq (.region [⟨some 7, .mv (.con (.int .i64 3)), none⟩])
    (.seq (.region [⟨some 46, .mv (.tmp 8), none⟩,
      ⟨some 47, .bin .sub (.tmp 46) (.con (.int .i32 240)), none⟩,
      ⟨some 8, .mv (.tmp 47), none⟩])
    (.region [⟨some 9, .mv (.con (.int .i32 65536)), none⟩]))) (.seq (.region [⟨some 4, .mv (.con (.int .i32 0)), none⟩,
      ⟨some 5, .mv (.con (.int .i64 0)), none⟩])
    (.ret)))))))))))
  (.seq (.region [⟨some 49, .mv (.tmp 0), none⟩,
    ⟨some 50, .mv (.tmp 1), none⟩,
    ⟨some 51, .bin .add (.tmp 50) (.con (.int .i64 1)), none⟩,
    ⟨some 52, .mv (.tmp 7), none⟩,
    ⟨some 53, .call (.fn 76) [(.tmp 49), (.tmp 51), (.tmp 52)], none⟩,
    ⟨some 48, .mv (.tmp 53), none⟩,
    ⟨some 54, .ext 0 (.tmp 48), none⟩,
    ⟨some 55, .ext 1 (.tmp 48), none⟩,
    ⟨some 10, .mv (.tmp 54), none⟩,
    ⟨some 11, .mv (.tmp 55), none⟩])
  (.seq (.region [⟨some 56, .mv (.tmp 8), none⟩,
    ⟨some 57, .mv (.tmp 7), none⟩,
    ⟨some 58, .bin .mul (.con (.int .i64 6)) (.tmp 57), none⟩,
    ⟨some 59, .cvt .u64 (.tmp 58), none⟩,
    ⟨some 60, .bin .shl (.tmp 56) (.tmp 59), none⟩,
    ⟨some 61, .mv (.tmp 10), none⟩,
    ⟨some 62, .bin .add (.tmp 60) (.tmp 61), none⟩,
    ⟨some 8, .mv (.tmp 62), none⟩])
  (.seq (.seq (.region [⟨some 63, .mv (.tmp 11), none⟩,
    ⟨some 64, .un .not (.tmp 63), none⟩,
    ⟨some 65, .mv (.tmp 64), none⟩,
    ⟨some 66, .mv (.tmp 8), (some (65, false))⟩,
    ⟨some 67, .mv (.tmp 9), (some (65, false))⟩,
    ⟨some 68, .bin .lss (.tmp 66) (.tmp 67), (some (65, false))⟩,
    ⟨some 69, .pick (.tmp 65) (.con (.bool true)) (.tmp 68), none⟩,
    ⟨some 70, .mv (.tmp 69), none⟩,
    ⟨some 71, .mv (.tmp 8), (some (70, false))⟩,
    ⟨some 72, .call (.fn 77) [(.tmp 71)], (some (70, false))⟩,
    ⟨some 73, .un .not (.tmp 72), (some (70, false))⟩,
    ⟨some 74, .pick (.tmp 70) (.con (.bool true)) (.tmp 73), none⟩])
  (.cond (.tmp 74) (.seq (.region [⟨some 4, .mv (.con (.int .i32 0)), none⟩,
    ⟨some 5, .mv (.con (.int .i64 0)), none⟩])
  (.ret)) (.skip)))
  (.seq (.region [⟨some 75, .mv (.tmp 8), none⟩,
    ⟨some 76, .mv (.tmp 7), none⟩,
    ⟨some 77, .bin .add (.tmp 76) (.con (.int .i64 1)), none⟩,
    ⟨some 4, .mv (.tmp 75), none⟩,
    ⟨some 5, .mv (.tmp 77), none⟩])
  (.ret))))))))))
def A48 : AFunc := { ntmps := 78, results := [.tmp 4, .tmp 5], body := B48, coe := true, keep := 0 }
theorem tr48 : trFunc Tryd.prog M48 true Tryd.f48 = some A48 := by kernel_rfl

/-- handloom/handloomref03.part -/
def M49 : Marks := { cut := fun _ => true, hd := fun | _ => [], ex := fun | _ => [], imm := fun | _ => false }
def B49 : ACode :=
  .seq (.region [⟨some 2, .mv (.con (.bool false)), none⟩])
  (.seq (.region [⟨some 3, .mv (.tmp 0), none⟩,
    ⟨some 4, .call (.fn 51) [(.tmp 3)], none⟩,
    ⟨some 5, .mv (.tmp 4), none⟩,
    ⟨some 6, .mv (.tmp 0), (some (5, false))⟩,
    ⟨some 7, .call (.fn 50) [(.tmp 6)], (some (5, false))⟩,
    ⟨some 8, .pick (.tmp 5) (.con (.bool true)) (.tmp 7), none⟩,
    ⟨some 9, .mv (.tmp 8), none⟩,
    ⟨some 10, .mv (.tmp 0), (some (9, false))⟩,
    ⟨some 11, .call (.fn 70) [(.tmp 10)], (some (9, false))⟩,
    ⟨some 12, .pick (.tmp 9) (.con (.bool true)) (.tmp 11), none⟩,
    ⟨some 13, .mv (.tmp 12), none⟩,
    ⟨some 14, .mv (.tmp 0), (some (13, false))⟩,
    ⟨some 15, .bin .eql (.tmp 14) (.con (.int .i32 95)), (some (13, false))⟩,
    ⟨some 16, .pick (.tmp 13) (.con (.bool true)) (.tmp 15), none⟩,
    ⟨some 2, .mv (.tmp 16), none⟩])
  (.ret))
def A49 : AFunc := { ntmps := 17, results := [.tmp 2], body := B49, coe := true, keep := 0 }
theorem tr49 : trFunc Tryd.prog M49 true Tryd.f49 = some A49 := by kernel_rfl

/-- handloom/handloomref02.Up -/
def M50 : Marks := { cut := fun _ => true, hd := fun | _ => [], ex := fun | _ => [], imm := fun | _ => false }
def B50 : ACode :=
  .seq (.region [⟨some 2, .mv (.con (.bool false)), none⟩])
  (.seq (.region [⟨some 3, .mv (.tmp 0), none⟩,
    ⟨some 4, .bin .geq (.tmp 3) (.con (.int .i32 65)), none⟩,
    ⟨some 5, .mv (.tmp 4), none⟩,
    ⟨some 6, .mv (.tmp 0), (some (5, true))⟩,
    ⟨some 7, .bin .leq (.tmp 6) (.con (.int .i32 90)), (some (5, true))⟩,
    ⟨some 8, .pick (.tmp 5) (.tmp 7) (.con (.bool false)), none⟩,
    ⟨some 2, .mv (.tmp 8), none⟩])
  (.ret))
def A50 : AFunc := { ntmps := 9, results := [.tmp 2], body := B50, coe := true, keep := 0 }
theorem tr50 : trFunc Tryd.prog M50 true Tryd.f50 = some A50 := by kernel_rfl

/-- handloom/handloomref02.Low -/
def M51 : Marks := { cut := fun _ => true, hd := fun | _ => [], ex := fun | _ => [], imm := fun | _ => false }
def B51 : ACode :=
  .seq (.region [⟨some 2, .mv (.con (.bool false)), none⟩])
  (.seq (.region [⟨some 3, .mv (.tmp 0), none⟩,
    ⟨some 4, .bin .geq (.tmp 3) (.con (.int .i32 97)), none⟩,
    ⟨some 5, .mv (.tmp 4), none⟩,
    ⟨some 6, .mv (.tmp 0), (some (5, true))⟩,
    ⟨some 7, .bin .leq (.tmp 6) (.con (.int .i32 122)), (some (5, true))⟩,
    ⟨some 8, .pick (.tmp 5) (.tmp 7) (.con (.bool false)), none⟩,
    ⟨some 9, .mv (.tmp 8), none⟩,
    ⟨some 10, .mv (.tmp 0), (some (9, false))⟩,
    ⟨some 11, .bin .geq (.tmp 10) (.con (.int .i32 128)), (some (9, false))⟩,
    ⟨some 12, .mv (.tmp 11), (some (9, false))⟩,
    ⟨some 13, .mv (.tmp 0), (some (12, true))⟩,
    ⟨some 14, .call (.fn 77) [(.tmp 13)], (some (12, true))⟩,
    ⟨some 15, .pick (.tmp 12) (.tmp 14) (.con (.bool false)), (some (9, false))⟩,
    ⟨some 16, .pick (.tmp 9) (.con (.bool true)) (.tmp 15), none⟩,
    ⟨some 2, .mv (.tmp 16), none⟩])
  (.ret))
def A51 : AFunc := { ntmps := 17, results := [.tmp 2], body := B51, coe := true, keep := 0 }
theorem tr51 : trFunc Tryd.prog M51 true Tryd.f51 = some A51 := by kernel_rfl

/-- handloom/runes.begun -/
def M56 : Marks := { cut := fun _ => true, hd := fun | _ => [], ex := fun | _ => [], imm := fun | _ => false, keep := 1 }
def B56 : ACode :=
  .seq (.region [⟨some 0, .mv (.con (.nilp)), none⟩])
  (.seq (.region [⟨some 1, .build [.int .i64 0, .int .i64 0] [(0, 1, (.con (.int .i64 1))), (1, 1, (.con (.int .i64 1)))], none⟩,
    ⟨some 2, .build [.int .i64 0, .int .i64 0] [(0, 2, (.tmp 1))], none⟩,
    ⟨some 3, .box false (.tmp 2), none⟩,
    ⟨some 0, .mv (.tmp 3), none⟩])
  (.ret))
def A56 : AFunc := { ntmps := 4, results := [.tmp 0], body := B56, coe := true, keep := 1 }
theorem tr56 : trFunc Tryd.prog M56 true Tryd.f56 = some A56 := by kernel_rfl

/-- strings.HasPrefix -/
def M57 : Marks := { cut := fun _ => true, hd := fun | _ => [], ex := fun | _ => [], imm := fun | _ => false }
def B57 : ACode :=
  .seq (.region [⟨some 4, .mv (.con (.bool false)), none⟩])
  (.seq (.region [⟨some 5, .mv (.tmp 0), none⟩,
    ⟨some 6, .mv (.tmp 1), none⟩,
    ⟨some 7, .call (.fn 82) [(.tmp 5), (.tmp 6)], none⟩,
    ⟨some 4, .mv (.tmp 7), none⟩])
  (.ret))
def A57 : AFunc := { ntmps := 8, results := [.tmp 4], body := B57, coe := true, keep := 0 }
theorem tr57 : trFunc Tryd.prog M57 true Tryd.f57 = some A57 := by kernel_rfl

/-- (*handloom/runes.walker).past -/
def M58 : Marks := { cut := fun _ => true, hd := fun | _ => [], ex := fun | _ => [], imm := fun | _ => false }
def B58 : ACode :=
  .seq (.region [⟨some 4, .mv (.tmp 0), none⟩,
    ⟨some 5, .nilchk (.tmp 4), none⟩,
    ⟨some 6, .addOff 0 (.tmp 5), none⟩,
    ⟨some 7, .addOff 1 (.tmp 6), none⟩,
    ⟨some 8, .load none (.tmp 7), none⟩,
    ⟨some 9, .bin .add (.tmp 8) (.con (.int .i64 1)), none⟩,
    ⟨some 10, .nilchk (.tmp 4), none⟩,
    ⟨some 11, .addOff 0 (.tmp 10), none⟩,
    ⟨some 12, .addOff 1 (.tmp 11), none⟩,
    ⟨none, .store 1 (.tmp 12) (.tmp 9), none⟩])
  (.seq (.region [⟨some 13, .mv (.tmp 1), none⟩,
    ⟨some 14, .bin .eql (.tmp 13) (.con (.int .i32 10)), none⟩])
  (.cond (.tmp 14) (.region [⟨some 15, .mv (.tmp 0), none⟩,
    ⟨some 16, .mv (.tmp 0), none⟩,
    ⟨some 17, .mv (.tmp 0), none⟩,
    ⟨some 18, .nilchk (.tmp 17), none⟩,
    ⟨some 19, .addOff 0 (.tmp 18), none⟩,
    ⟨some 20, .addOff 0 (.tmp 19), none⟩,
    ⟨some 21, .load none (.tmp 20), none⟩,
    ⟨some 22, .bin .add (.tmp 21) (.con (.int .i64 1)), none⟩,
    ⟨some 23, .nilchk (.tmp 15), none⟩,
    ⟨some 24, .addOff 0 (.tmp 23), none⟩,
    ⟨some 25, .addOff 0 (.tmp 24), none⟩,
    ⟨none, .store 1 (.tmp 25) (.tmp 22), none⟩,
    ⟨some 26, .nilchk (.tmp 16), none⟩,
    ⟨some 27, .addOff 0 (.tmp 26), none⟩,
    ⟨some 28, .addOff 1 (.tmp 27), none⟩,
    ⟨none, .store 1 (.tmp 28) (.con (.int .i64 1)), none⟩]) (.skip)))
def A58 : AFunc := { ntmps := 29, results := [], body := B58, coe := true, keep := 0 }
theorem tr58 : trFunc Tryd.prog M58 true Tryd.f58 = some A58 := by kernel_rfl

/-- (*handloom/lex.reader).take -/
def M59 : Marks := { cut := fun _ => true, hd := fun | _ => [], ex := fun | _ => [], imm := fun | _ => false, keep := 2 }
def B59 : ACode :=
  .seq (.region [⟨some 2, .box false (.tmp 0), none⟩,
    ⟨some 3, .box false (.tmp 1), none⟩,
    ⟨some 4, .mv (.con (.nilf)), none⟩])
  (.seq (.region [⟨some 5, .mkf (.func 83) [] [(.tmp 2), (.tmp 3)], none⟩,
    ⟨some 4, .mv (.tmp 5), none⟩])
  (.ret))
def A59 : AFunc := { ntmps := 6, results := [.tmp 4], body := B59, coe := true, keep := 2 }
theorem tr59 : trFunc Tryd.prog M59 true Tryd.f59 = some A59 := by kernel_rfl

/-- handloom/runes.Blank -/
def M60 : Marks := { cut := fun _ => true, hd := fun | _ => [], ex := fun | _ => [], imm := fun | _ => false }
def B60 : ACode :=
  .seq (.region [⟨some 2, .mv (.con (.bool false)), none⟩])
  (.seq (.seq (.region [⟨some 3, .mv (.tmp 0), none⟩])
  (.block 0 (.seq (.seq (.region [⟨some 5, .bin .eql (.tmp 3) (.con (.int .i32 9)), none⟩,
      ⟨some 4, .mv (.tmp 5), none⟩])
    (.cond (.tmp 4) (.skip) (.seq (.region [⟨some 6, .bin .eql (.tmp 3) (.con (.int .i32 10)), none⟩,
      ⟨some 4, .mv (.tmp 6), none⟩])
    (.cond (.tmp 4) (.skip) (.seq (.region [⟨some 7, .bin .eql (.tmp 3) (.con (.int .i32 13)), none⟩,
      ⟨some 4, .mv (.tmp 7), none⟩])
    (.cond (.tmp 4) (.skip) (.region [⟨some 8, .bin .eql (.tmp 3) (.con (.int .i32 32)), none⟩,
      ⟨some 4, .mv (.tmp 8), none⟩])))))))
    (.cond (.tmp 4) (.seq (.region [⟨some 2, .mv (.con (.bool true)), none⟩])
    (.ret)) (.skip)))))
  (.seq (.region [⟨some 2, .mv (.con (.bool false)), none⟩])
  (.ret)))
def A60 : AFunc := { ntmps := 9, results := [.tmp 2], body := B60, coe := true, keep := 0 }
theorem tr60 : trFunc Tryd.prog M60 true Tryd.f60 = some A60 := by kernel_rfl

/-- (*handloom/lex.reader).peek -/
def M61 : Marks := { cut := fun _ => true, hd := fun | _ => [], ex := fun | _ => [], imm := fun | _ => false }
def B61 : ACode :=
  .seq (.region [⟨some 4, .mv (.con (.int .i32 0)), none⟩])
  (.seq (.seq (.draw [⟨some 5, .mv (.tmp 0), none⟩,
    ⟨some 6, .nilchk (.tmp 5), none⟩,
    ⟨some 7, .addOff 1 (.tmp 6), none⟩,
    ⟨some 8, .load none (.tmp 7), none⟩,
    ⟨some 9, .mv (.tmp 1), none⟩,
    ⟨some 10, .bin .add (.tmp 8) (.tmp 9), none⟩,
    ⟨some 11, .mv (.tmp 0), none⟩,
    ⟨some 12, .nilchk (.tmp 11), none⟩,
    ⟨some 13, .addOff 0 (.tmp 12), none⟩,
    ⟨some 14, .load none (.tmp 13), none⟩,
    ⟨some 15, .len false (.tmp 14), none⟩,
    ⟨some 16, .bin .geq (.tmp 10) (.tmp 15), none⟩] [])
  (.cond (.tmp 16) (.seq (.region [⟨some 4, .mv (.con (.int .i32 (-1))), none⟩])
  (.ret)) (.skip)))
  (.seq (.draw [⟨some 17, .mv (.tmp 0), none⟩,
    ⟨some 18, .nilchk (.tmp 17), none⟩,
    ⟨some 19, .addOff 0 (.tmp 18), none⟩,
    ⟨some 20, .load none (.tmp 19), none⟩,
    ⟨some 21, .mv (.tmp 0), none⟩,
    ⟨some 22, .nilchk (.tmp 21), none⟩,
    ⟨some 23, .addOff 1 (.tmp 22), none⟩,
    ⟨some 24, .load none (.tmp 23), none⟩,
    ⟨some 25, .mv (.tmp 1), none⟩,
    ⟨some 26, .bin .add (.tmp 24) (.tmp 25), none⟩,
    ⟨some 27, .idxAddr 4 (.tmp 20) (.tmp 26), none⟩,
    ⟨some 28, .addOff 0 (.tmp 27), none⟩,
    ⟨some 29, .load none (.tmp 28), none⟩,
    ⟨some 4, .mv (.tmp 29), none⟩] [])
  (.ret)))
def A61 : AFunc := { ntmps := 30, results := [.tmp 4], body := B61, coe := true, keep := 0 }
theorem tr61 : trFunc Tryd.prog M61 true Tryd.f61 = some A61 := by kernel_rfl

/-- (*handloom/lex.reader).skip$1 -/
def M62 : Marks := { cut := fun _ => true, hd := fun | _ => [], ex := fun | _ => [], imm := fun | _ => false }
def B62 : ACode :=
  .seq (.region [⟨some 2, .mv (.con (.bool false)), none⟩])
  (.seq (.region [⟨some 3, .mv (.tmp 0), none⟩,
    ⟨some 4, .bin .neq (.tmp 3) (.con (.int .i32 10)), none⟩,
    ⟨some 2, .mv (.tmp 4), none⟩])
  (.ret))
def A62 : AFunc := { ntmps := 5, results := [.tmp 2], body := B62, coe := true, keep := 0 }
theorem tr62 : trFunc Tryd.prog M62 true Tryd.f62 = some A62 := by kernel_rfl

/-- (*handloom/lex.reader).name -/
def M63 : Marks := { cut := fun _ => true, hd := fun | _ => [], ex := fun | _ => [], imm := fun | _ => false, sn := fun | 7 => [false, false, false, false, true, true] | _ => [] }
abbrev S63R0 : List Bool := [false, false, false, false, true, true]
def N63R0 : ACode :=
  .region [⟨some 6, .mv (.tmp 18), none⟩]
def B63R0 : ACode :=
  .block 1 (.seq (.region [⟨some 19, .mv (.tmp 6), none⟩,
      ⟨some 20, .call (.fn 84) [(.tmp 4), (.tmp 19)], none⟩])
    (.region [⟨some 21, .load none (.tmp 5), none⟩,
      ⟨some 22, .bin .add (.tmp 21) (.con (.int .i64 1)), none⟩,
      ⟨none, .store 1 (.tmp 5) (.tmp 22), none⟩]))
def B63 : ACode :=
  .seq (.region [⟨some 7, .mv (.tmp 1), none⟩,
    ⟨some 8, .nilchk (.tmp 7), none⟩,
    ⟨some 9, .addOff 0 (.tmp 8), none⟩,
    ⟨none, .store 1 (.tmp 9) (.con (.int .i64 1)), none⟩])
  (.seq (.seq (.region [⟨some 10, .mv (.tmp 0), none⟩,
    ⟨some 11, .call (.fn 61) [(.tmp 10), (.con (.int .i64 0))], none⟩,
    ⟨some 12, .call (.fn 46) [(.tmp 11)], none⟩])
  (.cond (.tmp 12) (.region [⟨some 13, .mv (.tmp 1), none⟩,
    ⟨some 14, .nilchk (.tmp 13), none⟩,
    ⟨some 15, .addOff 0 (.tmp 14), none⟩,
    ⟨none, .store 1 (.tmp 15) (.con (.int .i64 2)), none⟩]) (.skip)))
  (.seq (.region [⟨some 4, .alloc [.ok (.nilp), .error 1] 76, none⟩])
  (.seq (.region [⟨some 5, .alloc [.ok (.int .i64 0)], none⟩,
    ⟨none, .store 1 (.tmp 5) (.con (.int .i64 0)), none⟩])
  (.seq (.seq (.region [⟨some 16, .mv (.tmp 0), none⟩,
    ⟨some 17, .call (.fn 59) [(.tmp 16), (.fn 45)], none⟩])
  (.block 0 (.rangeFn (.tmp 17) [18] [false, false, false, false, true, true] N63R0 B63R0)))
  (.seq (.seq (.region [⟨some 23, .mv (.tmp 1), none⟩,
    ⟨some 24, .call (.fn 28) [(.tmp 4)], none⟩,
    ⟨some 25, .nilchk (.tmp 23), none⟩,
    ⟨some 26, .addOff 1 (.tmp 25), none⟩,
    ⟨none, .store 1 (.tmp 26) (.tmp 24), none⟩])
  (.seq (.region [⟨some 27, .load none (.tmp 5), none⟩,
    ⟨some 28, .bin .gtr (.tmp 27) (.con (.int .i64 24)), none⟩])
  (.cond (.tmp 28) (.region [⟨some 29, .mv (.tmp 0), none⟩,
    ⟨some 30, .mv (.tmp 1), none⟩,
    ⟨some 31, .nilchk (.tmp 30), none⟩,
    ⟨some 32, .addOff 4 (.tmp 31), none⟩,
    ⟨some 33, .load (some 2) (.tmp 32), none⟩,
    ⟨some 34, .call (.fn 35) [(.tmp 29), (.con (.int .i64 5)), (.tmp 33)], none⟩]) (.skip))))
  (.seq (.region [⟨some 35, .mv (.tmp 1), none⟩,
    ⟨some 36, .nilchk (.tmp 35), none⟩,
    ⟨some 37, .addOff 1 (.tmp 36), none⟩,
    ⟨some 38, .load none (.tmp 37), none⟩,
    ⟨some 39, .call (.fn 18) [(.tmp 38)], none⟩])
  (.cond (.tmp 39) (.region [⟨some 40, .mv (.tmp 1), none⟩,
    ⟨some 41, .nilchk (.tmp 40), none⟩,
    ⟨some 42, .addOff 0 (.tmp 41), none⟩,
    ⟨none, .store 1 (.tmp 42) (.con (.int .i64 5)), none⟩]) (.skip))))))))
def A63 : AFunc := { ntmps := 43, results := [], body := B63, coe := true, keep := 0 }
theorem tr63 : trFunc Tryd.prog M63 true Tryd.f63 = some A63 := by kernel_rfl

/-- handloom/runes.Digit -/
def M64 : Marks := { cut := fun _ => true, hd := fun | _ => [], ex := fun | _ => [], imm := fun | _ => false }
def B64 : ACode :=
  .seq (.region [⟨some 2, .mv (.con (.bool false)), none⟩])
  (.seq (.region [⟨some 3, .mv (.tmp 0), none⟩,
    ⟨some 4, .bin .geq (.tmp 3) (.con (.int .i32 48)), none⟩,
    ⟨some 5, .mv (.tmp 4), none⟩,
    ⟨some 6, .mv (.tmp 0), (some (5, true))⟩,
    ⟨some 7, .bin .leq (.tmp 6) (.con (.int .i32 57)), (some (5, true))⟩,
    ⟨some 8, .pick (.tmp 5) (.tmp 7) (.con (.bool false)), none⟩,
    ⟨some 2, .mv (.tmp 8), none⟩])
  (.ret))
def A64 : AFunc := { ntmps := 9, results := [.tmp 2], body := B64, coe := true, keep := 0 }
theorem tr64 : trFunc Tryd.prog M64 true Tryd.f64 = some A64 := by kernel_rfl

/-- (*handloom/lex.reader).number -/
def M65 : Marks := { cut := fun _ => true, hd := fun | _ => [], ex := fun | _ => [], imm := fun | _ => false, sn := fun | 5 => [false, false, false, true, true] | _ => [] }
abbrev S65R0 : List Bool := [false, false, false, true, true]
def N65R0 : ACode :=
  .region [⟨some 5, .mv (.tmp 12), none⟩]
def B65R0 : ACode :=
  .block 1 (.seq (.region [⟨some 13, .mv (.tmp 5), none⟩,
      ⟨some 14, .bin .sub (.tmp 13) (.con (.int .i32 48)), none⟩,
      ⟨some 15, .cvt .i64 (.tmp 14), none⟩,
      ⟨some 6, .mv (.tmp 15), none⟩])
    (.seq (.region [⟨some 16, .load none (.tmp 4), none⟩,
      ⟨some 17, .mv (.tmp 16), none⟩,
      ⟨some 18, .load none (.tmp 3), (some (17, false))⟩,
      ⟨some 19, .nilchk (.tmp 18), (some (17, false))⟩,
      ⟨some 20, .addOff 2 (.tmp 19), (some (17, false))⟩,
      ⟨some 21, .load none (.tmp 20), (some (17, false))⟩,
      ⟨some 22, .mv (.tmp 6), (some (17, false))⟩,
      ⟨some 23, .bin .sub (.con (.int .i64 4611686018427387903)) (.tmp 22), (some (17, false))⟩,
      ⟨some 24, .bin .quo (.tmp 23) (.con (.int .i64 10)), (some (17, false))⟩,
      ⟨some 25, .bin .gtr (.tmp 21) (.tmp 24), (some (17, false))⟩,
      ⟨some 26, .pick (.tmp 17) (.con (.bool true)) (.tmp 25), none⟩,
      ⟨none, .store 1 (.tmp 4) (.tmp 26), none⟩])
    (.seq (.region [⟨some 27, .load none (.tmp 4), none⟩,
      ⟨some 28, .un .not (.tmp 27), none⟩])
    (.cond (.tmp 28) (.draw [⟨some 29, .load none (.tmp 3), none⟩,
      ⟨some 30, .load none (.tmp 3), none⟩,
      ⟨some 31, .nilchk (.tmp 30), none⟩,
      ⟨some 32, .addOff 2 (.tmp 31), none⟩,
      ⟨some 33, .load none (.tmp 32), none⟩,
      ⟨some 34, .bin .mul (.tmp 33) (.con (.int .i64 10)), none⟩,
      ⟨some 35, .mv (.tmp 6), none⟩,
      ⟨some 36, .bin .add (.tmp 34) (.tmp 35), none⟩,
      ⟨some 37, .nilchk (.tmp 29), none⟩,
      ⟨some 38, .addOff 2 (.tmp 37), none⟩,
      ⟨none, .store 1 (.tmp 38) (.tmp 36), none⟩] []) (.skip)))))
def B65 : ACode :=
  .seq (.region [⟨some 3, .box false (.tmp 1), none⟩])
  (.seq (.region [⟨some 7, .load none (.tmp 3), none⟩,
    ⟨some 8, .nilchk (.tmp 7), none⟩,
    ⟨some 9, .addOff 0 (.tmp 8), none⟩,
    ⟨none, .store 1 (.tmp 9) (.con (.int .i64 3)), none⟩])
  (.seq (.region [⟨some 4, .alloc [.ok (.bool false)], none⟩,
    ⟨none, .store 1 (.tmp 4) (.con (.bool false)), none⟩])
  (.seq (.seq (.region [⟨some 10, .mv (.tmp 0), none⟩,
    ⟨some 11, .call (.fn 59) [(.tmp 10), (.fn 64)], none⟩])
  (.block 0 (.rangeFn (.tmp 11) [12] [false, false, false, true, true] N65R0 B65R0)))
  (.seq (.region [⟨some 39, .load none (.tmp 4), none⟩])
  (.cond (.tmp 39) (.region [⟨some 40, .mv (.tmp 0), none⟩,
    ⟨some 41, .load none (.tmp 3), none⟩,
    ⟨some 42, .nilchk (.tmp 41), none⟩,
    ⟨some 43, .addOff 4 (.tmp 42), none⟩,
    ⟨some 44, .load (some 2) (.tmp 43), none⟩,
    ⟨some 45, .call (.fn 35) [(.tmp 40), (.con (.int .i64 3)), (.tmp 44)], none⟩]) (.skip))))))
def A65 : AFunc := { ntmps := 46, results := [], body := B65, coe := true, keep := 0 }
theorem tr65 : trFunc Tryd.prog M65 true Tryd.f65 = some A65 := by kernel_rfl

/-- (*handloom/lex.reader).text -/
def M66 : Marks := { cut := fun _ => true, hd := fun | 2 => [true, true] | _ => [], ex := fun | 2 => [] | _ => [], imm := fun | 84 => true | _ => false, alts := fun | 7 => [[0, 1, 2, 3, 5, 6, 4, 7, 8, 9, 10]] | _ => [] }
abbrev H66L2 : List Bool := [true, true]
abbrev X66L2 : List Bool := []
def B66L2 : ACode :=
  .block 1 (.seq (.region [⟨some 17, .mv (.tmp 0), none⟩,
      ⟨some 18, .call (.fn 61) [(.tmp 17), (.con (.int .i64 0))], none⟩,
      ⟨some 4, .mv (.tmp 18), none⟩])
    (.seq (.seq (.region [⟨some 19, .mv (.tmp 4), none⟩,
      ⟨some 20, .bin .lss (.tmp 19) (.con (.int .i32 0)), none⟩,
      ⟨some 21, .mv (.tmp 20), none⟩,
      ⟨some 22, .mv (.tmp 4), (some (21, false))⟩,
      ⟨some 23, .bin .eql (.tmp 22) (.con (.int .i32 10)), (some (21, false))⟩,
      ⟨some 24, .pick (.tmp 21) (.con (.bool true)) (.tmp 23), none⟩])
    (.cond (.tmp 24) (.seq (.region [⟨some 25, .mv (.tmp 0), none⟩,
      ⟨some 26, .mv (.tmp 1), none⟩,
      ⟨some 27, .nilchk (.tmp 26), none⟩,
      ⟨some 28, .addOff 4 (.tmp 27), none⟩,
      ⟨some 29, .load (some 2) (.tmp 28), none⟩,
      ⟨some 30, .call (.fn 35) [(.tmp 25), (.con (.int .i64 4)), (.tmp 29)], none⟩])
    (.ret)) (.skip)))
    (.seq (.region [⟨some 31, .mv (.tmp 0), none⟩,
      ⟨some 32, .nilchk (.tmp 31), none⟩,
      ⟨some 33, .addOff 1 (.tmp 32), none⟩,
      ⟨some 34, .load none (.tmp 33), none⟩,
      ⟨some 35, .bin .add (.tmp 34) (.con (.int .i64 1)), none⟩,
      ⟨some 36, .nilchk (.tmp 31), none⟩,
      ⟨some 37, .addOff 1 (.tmp 36), none⟩,
      ⟨none, .store 1 (.tmp 37) (.tmp 35), none⟩])
    (.seq (.region [⟨some 38, .mv (.tmp 4), none⟩])
    (.block 2 (.seq (.region [⟨some 50, .bin .eql (.tmp 38) (.con (.int .i32 34)), none⟩,
        ⟨some 49, .mv (.tmp 50), none⟩])
      (.cond (.tmp 49) (.seq (.seq (.region [⟨some 51, .mv (.tmp 1), none⟩,
        ⟨some 52, .nilchk (.tmp 51), none⟩,
        ⟨some 53, .addOff 3 (.tmp 52), none⟩,
        ⟨some 54, .load none (.tmp 53), none⟩,
        ⟨some 55, .len false (.tmp 54), none⟩,
        ⟨some 56, .bin .gtr (.tmp 55) (.con (.int .i64 64)), none⟩])
      (.cond (.tmp 56) (.region [⟨some 57, .mv (.tmp 0), none⟩,
        ⟨some 58, .mv (.tmp 1), none⟩,
        ⟨some 59, .nilchk (.tmp 58), none⟩,
        ⟨some 60, .addOff 4 (.tmp 59), none⟩,
        ⟨some 61, .load (some 2) (.tmp 60), none⟩,
        ⟨some 62, .call (.fn 35) [(.tmp 57), (.con (.int .i64 5)), (.tmp 61)], none⟩]) (.skip)))
      (.ret)) (.seq (.region [⟨some 64, .bin .eql (.tmp 38) (.con (.int .i32 92)), none⟩,
        ⟨some 63, .mv (.tmp 64), none⟩])
      (.cond (.tmp 63) (.seq (.region [⟨some 66, .mv (.tmp 0), none⟩,
        ⟨some 67, .call (.fn 85) [(.tmp 66)], none⟩,
        ⟨some 65, .mv (.tmp 67), none⟩,
        ⟨some 68, .ext 0 (.tmp 65), none⟩,
        ⟨some 69, .ext 1 (.tmp 65), none⟩,
        ⟨some 5, .mv (.tmp 68), none⟩,
        ⟨some 6, .mv (.tmp 69), none⟩])
      (.seq (.seq (.region [⟨some 70, .mv (.tmp 6), none⟩,
        ⟨some 71, .un .not (.tmp 70), none⟩])
      (.cond (.tmp 71) (.seq (.region [⟨some 72, .mv (.tmp 0), none⟩,
        ⟨some 73, .mv (.tmp 1), none⟩,
        ⟨some 74, .nilchk (.tmp 73), none⟩,
        ⟨some 75, .addOff 4 (.tmp 74), none⟩,
        ⟨some 76, .load (some 2) (.tmp 75), none⟩,
        ⟨some 77, .call (.fn 35) [(.tmp 72), (.con (.int .i64 4)), (.tmp 76)], none⟩])
      (.ret)) (.skip)))
      (.region [⟨some 78, .mv (.tmp 1), none⟩,
        ⟨some 79, .mv (.tmp 1), none⟩,
        ⟨some 80, .nilchk (.tmp 79), none⟩,
        ⟨some 81, .addOff 3 (.tmp 80), none⟩,
        ⟨some 82, .load none (.tmp 81), none⟩,
        ⟨some 83, .mv (.tmp 5), none⟩,
        ⟨some 84, .lit true 5 1 1 [.int .u8 0] [(0, (.tmp 83))], none⟩,
        ⟨some 85, .app false 5 1 1 (.tmp 82) (.tmp 84), none⟩,
        ⟨some 86, .nilchk (.tmp 78), none⟩,
        ⟨some 87, .addOff 3 (.tmp 86), none⟩,
        ⟨none, .store 1 (.tmp 87) (.tmp 85), none⟩]))) (.draw [⟨some 39, .mv (.tmp 1), none⟩,
        ⟨some 40, .mv (.tmp 1), none⟩,
        ⟨some 41, .nilchk (.tmp 40), none⟩,
        ⟨some 42, .addOff 3 (.tmp 41), none⟩,
        ⟨some 43, .load none (.tmp 42), none⟩,
        ⟨some 44, .mv (.tmp 4), none⟩,
        ⟨some 45, .call (.fn 86) [(.tmp 44)], none⟩,
        ⟨some 46, .app false 5 1 1 (.tmp 43) (.tmp 45), none⟩,
        ⟨some 47, .nilchk (.tmp 39), none⟩,
        ⟨some 48, .addOff 3 (.tmp 47), none⟩,
        ⟨none, .store 1 (.tmp 48) (.tmp 46), none⟩] [[⟨some 39, .mv (.tmp 1), none⟩, ⟨some 40, .mv (.tmp 1), none⟩, ⟨some 41, .nilchk (.tmp 40), none⟩, ⟨some 42, .addOff 3 (.tmp 41), none⟩, ⟨some 44, .mv (.tmp 4), none⟩, ⟨some 45, .call (.fn 86) [(.tmp 44)], none⟩, ⟨some 43, .load none (.tmp 42), none⟩, ⟨some 46, .app false 5 1 1 (.tmp 43) (.tmp 45), none⟩, ⟨some 47, .nilchk (.tmp 39), none⟩, ⟨some 48, .addOff 3 (.tmp 47), none⟩, ⟨none, .store 1 (.tmp 48) (.tmp 46), none⟩]]))))))))))
def B66 : ACode :=
  .seq (.region [⟨some 7, .mv (.tmp 1), none⟩,
    ⟨some 8, .nilchk (.tmp 7), none⟩,
    ⟨some 9, .addOff 0 (.tmp 8), none⟩,
    ⟨none, .store 1 (.tmp 9) (.con (.int .i64 4)), none⟩])
  (.seq (.region [⟨some 10, .mv (.tmp 0), none⟩,
    ⟨some 11, .nilchk (.tmp 10), none⟩,
    ⟨some 12, .addOff 1 (.tmp 11), none⟩,
    ⟨some 13, .load none (.tmp 12), none⟩,
    ⟨some 14, .bin .add (.tmp 13) (.con (.int .i64 1)), none⟩,
    ⟨some 15, .nilchk (.tmp 10), none⟩,
    ⟨some 16, .addOff 1 (.tmp 15), none⟩,
    ⟨none, .store 1 (.tmp 16) (.tmp 14), none⟩])
  (.block 0 (.loop true [true, true] [] B66L2)))
def A66 : AFunc := { ntmps := 88, results := [], body := B66, coe := true, keep := 0 }
theorem tr66 : trFunc Tryd.prog M66 true Tryd.f66 = some A66 := by kernel_rfl

/-- (*handloom/lex.reader).sign -/
def M67 : Marks := { cut := fun _ => true, hd := fun | 10 => [true, true, false, false, false, false, false, false, false, false, false, false, false, false, false, false, false, false, false, false, false, false, false, false, false, false, false, false, false, false, false, false, false, false, false, false, false, false, false, false, false, false, false, false, false, false, false, false, true, true] | _ => [], ex := fun | 10 => [] | _ => [], imm := fun | _ => false, alts := fun | 11 => [[0, 1, 2, 4, 5, 3, 6, 7, 8, 9, 10]] | _ => [] }
abbrev H67L10 : List Bool := [true, true, false, false, false, false, false, false, false, false, false, false, false, false, false, false, false, false, false, false, false, false, false, false, false, false, false, false, false, false, false, false, false, false, false, false, false, false, false, false, false, false, false, false, false, false, false, false, true, true]
abbrev X67L10 : List Bool := []
def B67L10 : ACode :=
  .seq (.region [⟨some 50, .bin .lss (.tmp 49) (.tmp 48), none⟩])
  (.seq (.cond (.tmp 50) (.skip) (.exit 1))
  (.seq (.block 2 (.seq (.draw [⟨some 51, .mv (.tmp 1), none⟩,
      ⟨some 52, .nilchk (.tmp 51), none⟩,
      ⟨some 53, .addOff 1 (.tmp 52), none⟩,
      ⟨some 54, .load none (.tmp 53), none⟩,
      ⟨some 55, .mv (.tmp 0), none⟩,
      ⟨some 56, .call (.fn 61) [(.tmp 55), (.con (.int .i64 0))], none⟩,
      ⟨some 57, .rstr (.tmp 56), none⟩,
      ⟨some 58, .bin .add (.tmp 54) (.tmp 57), none⟩,
      ⟨some 59, .nilchk (.tmp 51), none⟩,
      ⟨some 60, .addOff 1 (.tmp 59), none⟩,
      ⟨none, .store 1 (.tmp 60) (.tmp 58), none⟩] [[⟨some 51, .mv (.tmp 1), none⟩, ⟨some 52, .nilchk (.tmp 51), none⟩, ⟨some 53, .addOff 1 (.tmp 52), none⟩, ⟨some 55, .mv (.tmp 0), none⟩, ⟨some 56, .call (.fn 61) [(.tmp 55), (.con (.int .i64 0))], none⟩, ⟨some 54, .load none (.tmp 53), none⟩, ⟨some 57, .rstr (.tmp 56), none⟩, ⟨some 58, .bin .add (.tmp 54) (.tmp 57), none⟩, ⟨some 59, .nilchk (.tmp 51), none⟩, ⟨some 60, .addOff 1 (.tmp 59), none⟩, ⟨none, .store 1 (.tmp 60) (.tmp 58), none⟩]])
    (.region [⟨some 61, .mv (.tmp 0), none⟩,
      ⟨some 62, .nilchk (.tmp 61), none⟩,
      ⟨some 63, .addOff 1 (.tmp 62), none⟩,
      ⟨some 64, .load none (.tmp 63), none⟩,
      ⟨some 65, .bin .add (.tmp 64) (.con (.int .i64 1)), none⟩,
      ⟨some 66, .nilchk (.tmp 61), none⟩,
      ⟨some 67, .addOff 1 (.tmp 66), none⟩,
      ⟨none, .store 1 (.tmp 67) (.tmp 65), none⟩])))
  (.region [⟨some 68, .bin .add (.tmp 49) (.con (.int .i64 1)), none⟩,
    ⟨some 49, .mv (.tmp 68), none⟩])))
def B67 : ACode :=
  .seq (.region [⟨some 7, .mv (.tmp 1), none⟩,
    ⟨some 8, .nilchk (.tmp 7), none⟩,
    ⟨some 9, .addOff 0 (.tmp 8), none⟩,
    ⟨none, .store 1 (.tmp 9) (.con (.int .i64 6)), none⟩])
  (.seq (.region [⟨some 10, .mv (.tmp 0), none⟩,
    ⟨some 11, .call (.fn 61) [(.tmp 10), (.con (.int .i64 0))], none⟩,
    ⟨some 12, .mv (.tmp 0), none⟩,
    ⟨some 13, .call (.fn 61) [(.tmp 12), (.con (.int .i64 1))], none⟩,
    ⟨some 4, .mv (.tmp 11), none⟩,
    ⟨some 5, .mv (.tmp 13), none⟩])
  (.seq (.region [⟨some 6, .mv (.con (.int .i64 1)), none⟩])
  (.seq (.block 0 (.seq (.seq (.region [⟨some 15, .mv (.tmp 4), none⟩,
      ⟨some 16, .bin .eql (.tmp 15) (.con (.int .i32 45)), none⟩,
      ⟨some 17, .mv (.tmp 16), none⟩,
      ⟨some 18, .mv (.tmp 5), (some (17, true))⟩,
      ⟨some 19, .bin .eql (.tmp 18) (.con (.int .i32 62)), (some (17, true))⟩,
      ⟨some 20, .pick (.tmp 17) (.tmp 19) (.con (.bool false)), none⟩,
      ⟨some 14, .mv (.tmp 20), none⟩])
    (.cond (.tmp 14) (.skip) (.seq (.region [⟨some 21, .mv (.tmp 4), none⟩,
      ⟨some 22, .bin .eql (.tmp 21) (.con (.int .i32 60)), none⟩,
      ⟨some 23, .mv (.tmp 22), none⟩,
      ⟨some 24, .mv (.tmp 5), (some (23, true))⟩,
      ⟨some 25, .bin .eql (.tmp 24) (.con (.int .i32 61)), (some (23, true))⟩,
      ⟨some 26, .pick (.tmp 23) (.tmp 25) (.con (.bool false)), none⟩,
      ⟨some 14, .mv (.tmp 26), none⟩])
    (.cond (.tmp 14) (.skip) (.region [⟨some 27, .mv (.tmp 4), none⟩,
      ⟨some 28, .bin .eql (.tmp 27) (.con (.int .i32 61)), none⟩,
      ⟨some 29, .mv (.tmp 28), none⟩,
      ⟨some 30, .mv (.tmp 5), (some (29, true))⟩,
      ⟨some 31, .bin .eql (.tmp 30) (.con (.int .i32 61)), (some (29, true))⟩,
      ⟨some 32, .pick (.tmp 29) (.tmp 31) (.con (.bool false)), none⟩,
      ⟨some 14, .mv (.tmp 32), none⟩])))))
    (.cond (.tmp 14) (.region [⟨some 6, .mv (.con (.int .i64 2)), none⟩]) (.seq (.region [⟨some 34, .mv (.tmp 4), none⟩,
      ⟨some 35, .bin .gtr (.tmp 34) (.con (.int .i32 126)), none⟩,
      ⟨some 36, .mv (.tmp 35), none⟩,
      ⟨some 37, .mv (.tmp 4), (some (36, false))⟩,
      ⟨some 38, .cvt .u8 (.tmp 37), (some (36, false))⟩,
      ⟨some 39, .call (.fn 87) [(.con (.str ⟨#[40, 41, 44, 124, 61, 58, 43, 45, 42, 47, 37, 60, 95, 126]⟩)), (.tmp 38)], (some (36, false))⟩,
      ⟨some 40, .bin .lss (.tmp 39) (.con (.int .i64 0)), (some (36, false))⟩,
      ⟨some 41, .pick (.tmp 36) (.con (.bool true)) (.tmp 40), none⟩,
      ⟨some 33, .mv (.tmp 41), none⟩])
    (.cond (.tmp 33) (.seq (.region [⟨some 42, .mv (.tmp 0), none⟩,
      ⟨some 43, .mv (.tmp 1), none⟩,
      ⟨some 44, .nilchk (.tmp 43), none⟩,
      ⟨some 45, .addOff 4 (.tmp 44), none⟩,
      ⟨some 46, .load (some 2) (.tmp 45), none⟩,
      ⟨some 47, .call (.fn 35) [(.tmp 42), (.con (.int .i64 2)), (.tmp 46)], none⟩])
    (.ret)) (.skip))))))
  (.seq (.region [⟨some 48, .mv (.tmp 6), none⟩,
    ⟨some 49, .mv (.con (.int .i64 0)), none⟩])
  (.block 1 (.loop true [true, true, false, false, false, false, false, false, false, false, false, false, false, false, false, false, false, false, false, false, false, false, false, false, false, false, false, false, false, false, false, false, false, false, false, false, false, false, false, false, false, false, false, false, false, false, false, false, true, true] [] B67L10))))))
def A67 : AFunc := { ntmps := 69, results := [], body := B67, coe := true, keep := 0 }
theorem tr67 : trFunc Tryd.prog M67 true Tryd.f67 = some A67 := by kernel_rfl

/-- handloom/handloomref02.next -/
def M68 : Marks := { cut := fun _ => true, hd := fun | _ => [], ex := fun | _ => [], imm := fun | 2 => true | _ => false }
def B68 : ACode :=
  .seq (.region [⟨some 2, .box true (.tmp 0), none⟩,
    ⟨some 4, .alloc [.ok (.int .i64 0), .ok (.int .i64 0)], none⟩])
  (.seq (.seq (.region [⟨some 5, .mv (.tmp 1), none⟩,
    ⟨some 6, .bin .eql (.tmp 5) (.con (.int .i32 10)), none⟩])
  (.cond (.tmp 6) (.seq (.region [⟨some 7, .addOff 0 (.tmp 2), none⟩,
    ⟨some 8, .load none (.tmp 7), none⟩,
    ⟨some 9, .bin .add (.tmp 8) (.con (.int .i64 1)), none⟩,
    ⟨some 10, .build [.int .i64 0, .int .i64 0] [(0, 1, (.tmp 9)), (1, 1, (.con (.int .i64 1)))], none⟩,
    ⟨none, .store 2 (.tmp 4) (.tmp 10), none⟩])
  (.ret)) (.skip)))
  (.seq (.region [⟨some 11, .addOff 0 (.tmp 2), none⟩,
    ⟨some 12, .load none (.tmp 11), none⟩,
    ⟨some 13, .addOff 1 (.tmp 2), none⟩,
    ⟨some 14, .load none (.tmp 13), none⟩,
    ⟨some 15, .bin .add (.tmp 14) (.con (.int .i64 1)), none⟩,
    ⟨some 16, .build [.int .i64 0, .int .i64 0] [(0, 1, (.tmp 12)), (1, 1, (.tmp 15))], none⟩,
    ⟨none, .store 2 (.tmp 4) (.tmp 16), none⟩])
  (.ret)))
def A68 : AFunc := { ntmps := 17, results := [.cell (some 2) 4], body := B68, coe := true, keep := 0 }
theorem tr68 : trFunc Tryd.prog M68 true Tryd.f68 = some A68 := by kernel_rfl

/-- handloom/handloomref03.name -/
def M69 : Marks := { cut := fun _ => true, hd := fun | 4 => [true, false, false, false, false, false, true, true, true] | _ => [], ex := fun | 4 => [false, false, false, false, false, false, true, true] | _ => [], imm := fun | _ => false }
abbrev H69L4 : List Bool := [true, false, false, false, false, false, true, true, true]
abbrev X69L4 : List Bool := [false, false, false, false, false, false, true, true]
def B69L4 : ACode :=
  .seq (.seq (.region [⟨some 10, .mv (.tmp 8), none⟩,
    ⟨some 11, .mv (.tmp 0), none⟩,
    ⟨some 12, .len false (.tmp 11), none⟩,
    ⟨some 13, .bin .lss (.tmp 10) (.tmp 12), none⟩,
    ⟨some 14, .mv (.tmp 13), none⟩,
    ⟨some 15, .mv (.tmp 0), (some (14, true))⟩,
    ⟨some 16, .mv (.tmp 8), (some (14, true))⟩,
    ⟨some 17, .idxAddr 4 (.tmp 15) (.tmp 16), (some (14, true))⟩,
    ⟨some 18, .addOff 0 (.tmp 17), (some (14, true))⟩,
    ⟨some 19, .load none (.tmp 18), (some (14, true))⟩,
    ⟨some 20, .call (.fn 49) [(.tmp 19)], (some (14, true))⟩,
    ⟨some 21, .pick (.tmp 14) (.tmp 20) (.con (.bool false)), none⟩])
  (.cond (.tmp 21) (.skip) (.exit 0)))
  (.seq (.block 1 (.seq (.region [⟨some 24, .mv (.tmp 6), none⟩,
      ⟨some 25, .mv (.tmp 0), none⟩,
      ⟨some 26, .mv (.tmp 8), none⟩,
      ⟨some 27, .idxAddr 4 (.tmp 25) (.tmp 26), none⟩,
      ⟨some 28, .addOff 0 (.tmp 27), none⟩,
      ⟨some 29, .load none (.tmp 28), none⟩,
      ⟨some 30, .call (.fn 88) [(.tmp 29)], none⟩,
      ⟨some 31, .bstr (.tmp 30), none⟩,
      ⟨some 32, .bin .add (.tmp 24) (.tmp 31), none⟩,
      ⟨some 6, .mv (.tmp 32), none⟩])
    (.region [⟨some 33, .mv (.tmp 7), none⟩,
      ⟨some 34, .bin .add (.tmp 33) (.con (.int .i64 1)), none⟩,
      ⟨some 7, .mv (.tmp 34), none⟩])))
  (.region [⟨some 22, .mv (.tmp 8), none⟩,
    ⟨some 23, .bin .add (.tmp 22) (.con (.int .i64 1)), none⟩,
    ⟨some 8, .mv (.tmp 23), none⟩]))
def B69 : ACode :=
  .seq (.region [⟨some 4, .mv (.con (.str ⟨#[]⟩)), none⟩,
    ⟨some 5, .mv (.con (.int .i64 0)), none⟩])
  (.seq (.region [⟨some 6, .mv (.con (.str ⟨#[]⟩)), none⟩])
  (.seq (.region [⟨some 7, .mv (.con (.int .i64 0)), none⟩])
  (.seq (.seq (.region [⟨some 9, .mv (.tmp 1), none⟩,
    ⟨some 8, .mv (.tmp 9), none⟩])
  (.block 0 (.loop true [true, false, false, false, false, false, true, true, true] [false, false, false, false, false, false, true, true] B69L4)))
  (.seq (.region [⟨some 35, .mv (.tmp 6), none⟩,
    ⟨some 36, .mv (.tmp 7), none⟩,
    ⟨some 4, .mv (.tmp 35), none⟩,
    ⟨some 5, .mv (.tmp 36), none⟩])
  (.ret)))))
def A69 : AFunc := { ntmps := 37, results := [.tmp 4, .tmp 5], body := B69, coe := true, keep := 0 }
theorem tr69 : trFunc Tryd.prog M69 true Tryd.f69 = some A69 := by kernel_rfl

/-- handloom/handloomref02.Digit -/
def M70 : Marks := { cut := fun _ => true, hd := fun | _ => [], ex := fun | _ => [], imm := fun | _ => false }
def B70 : ACode :=
  .seq (.region [⟨some 2, .mv (.con (.bool false)), none⟩])
  (.seq (.region [⟨some 3, .mv (.tmp 0), none⟩,
    ⟨some 4, .bin .geq (.tmp 3) (.con (.int .i32 48)), none⟩,
    ⟨some 5, .mv (.tmp 4), none⟩,
    ⟨some 6, .mv (.tmp 0), (some (5, true))⟩,
    ⟨some 7, .bin .leq (.tmp 6) (.con (.int .i32 57)), (some (5, true))⟩,
    ⟨some 8, .pick (.tmp 5) (.tmp 7) (.con (.bool false)), none⟩,
    ⟨some 2, .mv (.tmp 8), none⟩])
  (.ret))
def A70 : AFunc := { ntmps := 9, results := [.tmp 2], body := B70, coe := true, keep := 0 }
theorem tr70 : trFunc Tryd.prog M70 true Tryd.f70 = some A70 := by kernel_rfl

/-- handloom/handloomref03.quoted -/
def M71 : Marks := { cut := fun _ => true, hd := fun | 3 => [true, true, false, false, false, false, false, true, true] | _ => [], ex := fun | 3 => [true, true, false, false, true, true, true, true, true] | _ => [], imm := fun | 4 => true | 61 => true | 66 => true | 79 => true | 126 => true | _ => false, alts := fun | 21 => [[0, 1, 2, 3, 4, 5, 6, 9, 10, 11, 12, 13, 14, 7, 8, 15, 16, 17, 18, 19, 20]] | _ => [] }
abbrev H71L3 : List Bool := [true, true, false, false, false, false, false, true, true]
abbrev X71L3 : List Bool := [true, true, false, false, true, true, true, true, true]
def B71L3 : ACode :=
  .seq (.seq (.region [⟨some 11, .mv (.tmp 8), none⟩,
    ⟨some 12, .mv (.tmp 0), none⟩,
    ⟨some 13, .len false (.tmp 12), none⟩,
    ⟨some 14, .bin .lss (.tmp 11) (.tmp 13), none⟩,
    ⟨some 15, .mv (.tmp 14), none⟩,
    ⟨some 16, .mv (.tmp 0), (some (15, true))⟩,
    ⟨some 17, .mv (.tmp 8), (some (15, true))⟩,
    ⟨some 18, .idxAddr 4 (.tmp 16) (.tmp 17), (some (15, true))⟩,
    ⟨some 19, .addOff 0 (.tmp 18), (some (15, true))⟩,
    ⟨some 20, .load none (.tmp 19), (some (15, true))⟩,
    ⟨some 21, .bin .neq (.tmp 20) (.con (.int .i32 34)), (some (15, true))⟩,
    ⟨some 22, .pick (.tmp 15) (.tmp 21) (.con (.bool false)), none⟩,
    ⟨some 23, .mv (.tmp 22), none⟩,
    ⟨some 24, .mv (.tmp 0), (some (23, true))⟩,
    ⟨some 25, .mv (.tmp 8), (some (23, true))⟩,
    ⟨some 26, .idxAddr 4 (.tmp 24) (.tmp 25), (some (23, true))⟩,
    ⟨some 27, .addOff 0 (.tmp 26), (some (23, true))⟩,
    ⟨some 28, .load none (.tmp 27), (some (23, true))⟩,
    ⟨some 29, .bin .neq (.tmp 28) (.con (.int .i32 10)), (some (23, true))⟩,
    ⟨some 30, .pick (.tmp 23) (.tmp 29) (.con (.bool false)), none⟩])
  (.cond (.tmp 30) (.skip) (.exit 0)))
  (.block 1 (.seq (.seq (.region [⟨some 31, .mv (.tmp 0), none⟩,
      ⟨some 32, .mv (.tmp 8), none⟩,
      ⟨some 33, .idxAddr 4 (.tmp 31) (.tmp 32), none⟩,
      ⟨some 34, .addOff 0 (.tmp 33), none⟩,
      ⟨some 35, .load none (.tmp 34), none⟩,
      ⟨some 36, .bin .neq (.tmp 35) (.con (.int .i32 92)), none⟩])
    (.cond (.tmp 36) (.seq (.region [⟨some 37, .mv (.tmp 7), none⟩,
      ⟨some 38, .mv (.tmp 0), none⟩,
      ⟨some 39, .mv (.tmp 8), none⟩,
      ⟨some 40, .idxAddr 4 (.tmp 38) (.tmp 39), none⟩,
      ⟨some 41, .addOff 0 (.tmp 40), none⟩,
      ⟨some 42, .load none (.tmp 41), none⟩,
      ⟨some 43, .call (.fn 88) [(.tmp 42)], none⟩,
      ⟨some 44, .app false 5 1 1 (.tmp 37) (.tmp 43), none⟩,
      ⟨some 7, .mv (.tmp 44), none⟩])
    (.seq (.region [⟨some 45, .mv (.tmp 8), none⟩,
      ⟨some 46, .bin .add (.tmp 45) (.con (.int .i64 1)), none⟩,
      ⟨some 8, .mv (.tmp 46), none⟩])
    (.exit 1))) (.skip)))
    (.seq (.seq (.region [⟨some 47, .mv (.tmp 8), none⟩,
      ⟨some 48, .bin .add (.tmp 47) (.con (.int .i64 1)), none⟩,
      ⟨some 49, .mv (.tmp 0), none⟩,
      ⟨some 50, .len false (.tmp 49), none⟩,
      ⟨some 51, .bin .geq (.tmp 48) (.tmp 50), none⟩])
    (.cond (.tmp 51) (.seq (.region [⟨some 4, .mv (.con (.slice 1 [])), none⟩,
      ⟨some 5, .mv (.con (.int .i64 0)), none⟩,
      ⟨some 6, .mv (.con (.int .i64 4)), none⟩])
    (.ret)) (.skip)))
    (.seq (.seq (.region [⟨some 52, .mv (.tmp 0), none⟩,
      ⟨some 53, .mv (.tmp 8), none⟩,
      ⟨some 54, .bin .add (.tmp 53) (.con (.int .i64 1)), none⟩,
      ⟨some 55, .idxAddr 4 (.tmp 52) (.tmp 54), none⟩,
      ⟨some 56, .addOff 0 (.tmp 55), none⟩,
      ⟨some 57, .load none (.tmp 56), none⟩])
    (.block 2 (.seq (.region [⟨some 59, .bin .eql (.tmp 57) (.con (.int .i32 110)), none⟩,
        ⟨some 58, .mv (.tmp 59), none⟩])
      (.cond (.tmp 58) (.region [⟨some 60, .mv (.tmp 7), none⟩,
        ⟨some 61, .lit true 5 1 1 [.int .u8 0] [(0, (.con (.int .u8 10)))], none⟩,
        ⟨some 62, .app false 5 1 1 (.tmp 60) (.tmp 61), none⟩,
        ⟨some 7, .mv (.tmp 62), none⟩]) (.seq (.region [⟨some 64, .bin .eql (.tmp 57) (.con (.int .i32 116)), none⟩,
        ⟨some 63, .mv (.tmp 64), none⟩])
      (.cond (.tmp 63) (.region [⟨some 65, .mv (.tmp 7), none⟩,
        ⟨some 66, .lit true 5 1 1 [.int .u8 0] [(0, (.con (.int .u8 9)))], none⟩,
        ⟨some 67, .app false 5 1 1 (.tmp 65) (.tmp 66), none⟩,
        ⟨some 7, .mv (.tmp 67), none⟩]) (.seq (.seq (.region [⟨some 69, .bin .eql (.tmp 57) (.con (.int .i32 34)), none⟩,
        ⟨some 68, .mv (.tmp 69), none⟩])
      (.cond (.tmp 68) (.skip) (.region [⟨some 70, .bin .eql (.tmp 57) (.con (.int .i32 92)), none⟩,
        ⟨some 68, .mv (.tmp 70), none⟩])))
      (.cond (.tmp 68) (.region [⟨some 71, .mv (.tmp 7), none⟩,
        ⟨some 72, .mv (.tmp 0), none⟩,
        ⟨some 73, .mv (.tmp 8), none⟩,
        ⟨some 74, .bin .add (.tmp 73) (.con (.int .i64 1)), none⟩,
        ⟨some 75, .idxAddr 4 (.tmp 72) (.tmp 74), none⟩,
        ⟨some 76, .addOff 0 (.tmp 75), none⟩,
        ⟨some 77, .load none (.tmp 76), none⟩,
        ⟨some 78, .cvt .u8 (.tmp 77), none⟩,
        ⟨some 79, .lit true 5 1 1 [.int .u8 0] [(0, (.tmp 78))], none⟩,
        ⟨some 80, .app false 5 1 1 (.tmp 71) (.tmp 79), none⟩,
        ⟨some 7, .mv (.tmp 80), none⟩]) (.seq (.region [⟨some 82, .bin .eql (.tmp 57) (.con (.int .i32 120)), none⟩,
        ⟨some 81, .mv (.tmp 82), none⟩])
      (.cond (.tmp 81) (.seq (.seq (.region [⟨some 83, .mv (.tmp 8), none⟩,
        ⟨some 84, .bin .add (.tmp 83) (.con (.int .i64 3)), none⟩,
        ⟨some 85, .mv (.tmp 0), none⟩,
        ⟨some 86, .len false (.tmp 85), none⟩,
        ⟨some 87, .bin .geq (.tmp 84) (.tmp 86), none⟩,
        ⟨some 88, .mv (.tmp 87), none⟩,
        ⟨some 89, .mv (.tmp 0), (some (88, false))⟩,
        ⟨some 90, .mv (.tmp 8), (some (88, false))⟩,
        ⟨some 91, .bin .add (.tmp 90) (.con (.int .i64 2)), (some (88, false))⟩,
        ⟨some 92, .idxAddr 4 (.tmp 89) (.tmp 91), (some (88, false))⟩,
        ⟨some 93, .addOff 0 (.tmp 92), (some (88, false))⟩,
        ⟨some 94, .load none (.tmp 93), (some (88, false))⟩,
        ⟨some 95, .call (.fn 89) [(.tmp 94)], (some (88, false))⟩,
        ⟨some 96, .bin .lss (.tmp 95) (.con (.int .i64 0)), (some (88, false))⟩,
        ⟨some 97, .pick (.tmp 88) (.con (.bool true)) (.tmp 96), none⟩,
        ⟨some 98, .mv (.tmp 97), none⟩,
        ⟨some 99, .mv (.tmp 0), (some (98, false))⟩,
        ⟨some 100, .mv (.tmp 8), (some (98, false))⟩,
        ⟨some 101, .bin .add (.tmp 100) (.con (.int .i64 3)), (some (98, false))⟩,
        ⟨some 102, .idxAddr 4 (.tmp 99) (.tmp 101), (some (98, false))⟩,
        ⟨some 103, .addOff 0 (.tmp 102), (some (98, false))⟩,
        ⟨some 104, .load none (.tmp 103), (some (98, false))⟩,
        ⟨some 105, .call (.fn 89) [(.tmp 104)], (some (98, false))⟩,
        ⟨some 106, .bin .lss (.tmp 105) (.con (.int .i64 0)), (some (98, false))⟩,
        ⟨some 107, .pick (.tmp 98) (.con (.bool true)) (.tmp 106), none⟩])
      (.cond (.tmp 107) (.seq (.region [⟨some 4, .mv (.con (.slice 1 [])), none⟩,
        ⟨some 5, .mv (.con (.int .i64 0)), none⟩,
        ⟨some 6, .mv (.con (.int .i64 4)), none⟩])
      (.ret)) (.skip)))
      (.seq (.draw [⟨some 108, .mv (.tmp 7), none⟩,
        ⟨some 109, .mv (.tmp 0), none⟩,
        ⟨some 110, .mv (.tmp 8), none⟩,
        ⟨some 111, .bin .add (.tmp 110) (.con (.int .i64 2)), none⟩,
        ⟨some 112, .idxAddr 4 (.tmp 109) (.tmp 111), none⟩,
        ⟨some 113, .addOff 0 (.tmp 112), none⟩,
        ⟨some 114, .load none (.tmp 113), none⟩,
        ⟨some 115, .call (.fn 89) [(.tmp 114)], none⟩,
        ⟨some 116, .bin .mul (.con (.int .i64 16)) (.tmp 115), none⟩,
        ⟨some 117, .mv (.tmp 0), none⟩,
        ⟨some 118, .mv (.tmp 8), none⟩,
        ⟨some 119, .bin .add (.tmp 118) (.con (.int .i64 3)), none⟩,
        ⟨some 120, .idxAddr 4 (.tmp 117) (.tmp 119), none⟩,
        ⟨some 121, .addOff 0 (.tmp 120), none⟩,
        ⟨some 122, .load none (.tmp 121), none⟩,
        ⟨some 123, .call (.fn 89) [(.tmp 122)], none⟩,
        ⟨some 124, .bin .add (.tmp 116) (.tmp 123), none⟩,
        ⟨some 125, .cvt .u8 (.tmp 124), none⟩,
        ⟨some 126, .lit true 5 1 1 [.int .u8 0] [(0, (.tmp 125))], none⟩,
        ⟨some 127, .app false 5 1 1 (.tmp 108) (.tmp 126), none⟩,
        ⟨some 7, .mv (.tmp 127), none⟩] [[⟨some 108, .mv (.tmp 7), none⟩, ⟨some 109, .mv (.tmp 0), none⟩, ⟨some 110, .mv (.tmp 8), none⟩, ⟨some 111, .bin .add (.tmp 110) (.con (.int .i64 2)), none⟩, ⟨some 112, .idxAddr 4 (.tmp 109) (.tmp 111), none⟩, ⟨some 113, .addOff 0 (.tmp 112), none⟩, ⟨some 114, .load none (.tmp 113), none⟩, ⟨some 117, .mv (.tmp 0), none⟩, ⟨some 118, .mv (.tmp 8), none⟩, ⟨some 119, .bin .add (.tmp 118) (.con (.int .i64 3)), none⟩, ⟨some 120, .idxAddr 4 (.tmp 117) (.tmp 119), none⟩, ⟨some 121, .addOff 0 (.tmp 120), none⟩, ⟨some 122, .load none (.tmp 121), none⟩, ⟨some 115, .call (.fn 89) [(.tmp 114)], none⟩, ⟨some 116, .bin .mul (.con (.int .i64 16)) (.tmp 115), none⟩, ⟨some 123, .call (.fn 89) [(.tmp 122)], none⟩, ⟨some 124, .bin .add (.tmp 116) (.tmp 123), none⟩, ⟨some 125, .cvt .u8 (.tmp 124), none⟩, ⟨some 126, .lit true 5 1 1 [.int .u8 0] [(0, (.tmp 125))], none⟩, ⟨some 127, .app false 5 1 1 (.tmp 108) (.tmp 126), none⟩, ⟨some 7, .mv (.tmp 127), none⟩]])
      (.region [⟨some 128, .mv (.tmp 8), none⟩,
        ⟨some 129, .bin .add (.tmp 128) (.con (.int .i64 2)), none⟩,
        ⟨some 8, .mv (.tmp 129), none⟩]))) (.seq (.region [⟨some 4, .mv (.con (.slice 1 [])), none⟩,
        ⟨some 5, .mv (.con (.int .i64 0)), none⟩,
        ⟨some 6, .mv (.con (.int .i64 4)), none⟩])
      (.ret))))))))))))
    (.region [⟨some 130, .mv (.tmp 8), none⟩,
      ⟨some 131, .bin .add (.tmp 130) (.con (.int .i64 2)), none⟩,
      ⟨some 8, .mv (.tmp 131), none⟩])))))
def B71 : ACode :=
  .seq (.region [⟨some 4, .mv (.con (.slice 1 [])), none⟩,
    ⟨some 5, .mv (.con (.int .i64 0)), none⟩,
    ⟨some 6, .mv (.con (.int .i64 0)), none⟩])
  (.seq (.region [⟨some 7, .nilrow 1, none⟩])
  (.seq (.region [⟨some 9, .mv (.tmp 1), none⟩,
    ⟨some 10, .bin .add (.tmp 9) (.con (.int .i64 1)), none⟩,
    ⟨some 8, .mv (.tmp 10), none⟩])
  (.seq (.block 0 (.loop true [true, true, false, false, false, false, false, true, true] [true, true, false, false, true, true, true, true, true] B71L3))
  (.seq (.seq (.region [⟨some 132, .mv (.tmp 8), none⟩,
    ⟨some 133, .mv (.tmp 0), none⟩,
    ⟨some 134, .len false (.tmp 133), none⟩,
    ⟨some 135, .bin .geq (.tmp 132) (.tmp 134), none⟩,
    ⟨some 136, .mv (.tmp 135), none⟩,
    ⟨some 137, .mv (.tmp 0), (some (136, false))⟩,
    ⟨some 138, .mv (.tmp 8), (some (136, false))⟩,
    ⟨some 139, .idxAddr 4 (.tmp 137) (.tmp 138), (some (136, false))⟩,
    ⟨some 140, .addOff 0 (.tmp 139), (some (136, false))⟩,
    ⟨some 141, .load none (.tmp 140), (some (136, false))⟩,
    ⟨some 142, .bin .neq (.tmp 141) (.con (.int .i32 34)), (some (136, false))⟩,
    ⟨some 143, .pick (.tmp 136) (.con (.bool true)) (.tmp 142), none⟩])
  (.cond (.tmp 143) (.seq (.region [⟨some 4, .mv (.con (.slice 1 [])), none⟩,
    ⟨some 5, .mv (.con (.int .i64 0)), none⟩,
    ⟨some 6, .mv (.con (.int .i64 4)), none⟩])
  (.ret)) (.skip)))
  (.seq (.seq (.region [⟨some 144, .mv (.tmp 7), none⟩,
    ⟨some 145, .len false (.tmp 144), none⟩,
    ⟨some 146, .bin .gtr (.tmp 145) (.con (.int .i64 64)), none⟩])
  (.cond (.tmp 146) (.seq (.region [⟨some 4, .mv (.con (.slice 1 [])), none⟩,
    ⟨some 5, .mv (.con (.int .i64 0)), none⟩,
    ⟨some 6, .mv (.con (.int .i64 5)), none⟩])
  (.ret)) (.skip)))
  (.seq (.region [⟨some 147, .mv (.tmp 7), none⟩,
    ⟨some 148, .mv (.tmp 8), none⟩,
    ⟨some 149, .bin .add (.tmp 148) (.con (.int .i64 1)), none⟩,
    ⟨some 150, .mv (.tmp 1), none⟩,
    ⟨some 151, .bin .sub (.tmp 149) (.tmp 150), none⟩,
    ⟨some 4, .mv (.tmp 147), none⟩,
    ⟨some 5, .mv (.tmp 151), none⟩,
    ⟨some 6, .mv (.con (.int .i64 0)), none⟩])
  (.ret)))))))
def A71 : AFunc := { ntmps := 152, results := [.tmp 4, .tmp 5, .tmp 6], body := B71, coe := true, keep := 0 }
theorem tr71 : trFunc Tryd.prog M71 true Tryd.f71 = some A71 := by kernel_rfl

/-- handloom/handloomref03.sign -/
def M72 : Marks := { cut := fun _ => true, hd := fun | 13 => [false, false, false, false, false, true, false, true, true] | _ => [], ex := fun | 13 => [false, false, false, false, true] | _ => [], imm := fun | _ => false }
abbrev H72L13 : List Bool := [false, false, false, false, false, true, false, true, true]
abbrev X72L13 : List Bool := [false, false, false, false, true]
def B72L13 : ACode :=
  .seq (.seq (.region [⟨some 46, .mv (.tmp 8), none⟩,
    ⟨some 47, .mv (.tmp 7), none⟩,
    ⟨some 48, .len true (.tmp 47), none⟩,
    ⟨some 49, .bin .lss (.tmp 46) (.tmp 48), none⟩])
  (.cond (.tmp 49) (.skip) (.exit 1)))
  (.seq (.block 2 (.seq (.region [⟨some 52, .mv (.tmp 7), none⟩,
      ⟨some 53, .mv (.tmp 8), none⟩,
      ⟨some 54, .idxStr (.tmp 52) (.tmp 53), none⟩,
      ⟨some 55, .cvt .i32 (.tmp 54), none⟩,
      ⟨some 56, .mv (.tmp 5), none⟩,
      ⟨some 57, .bin .eql (.tmp 55) (.tmp 56), none⟩])
    (.cond (.tmp 57) (.seq (.region [⟨some 58, .mv (.tmp 7), none⟩,
      ⟨some 59, .mv (.tmp 8), none⟩,
      ⟨some 60, .mv (.tmp 8), none⟩,
      ⟨some 61, .bin .add (.tmp 60) (.con (.int .i64 1)), none⟩,
      ⟨some 62, .slcStr (.tmp 58) (some (.tmp 59)) (some (.tmp 61)), none⟩,
      ⟨some 4, .mv (.tmp 62), none⟩])
    (.ret)) (.skip))))
  (.region [⟨some 50, .mv (.tmp 8), none⟩,
    ⟨some 51, .bin .add (.tmp 50) (.con (.int .i64 1)), none⟩,
    ⟨some 8, .mv (.tmp 51), none⟩]))
def B72 : ACode :=
  .seq (.region [⟨some 4, .mv (.con (.str ⟨#[]⟩)), none⟩])
  (.seq (.region [⟨some 9, .mv (.tmp 0), none⟩,
    ⟨some 10, .mv (.tmp 1), none⟩,
    ⟨some 11, .idxAddr 4 (.tmp 9) (.tmp 10), none⟩,
    ⟨some 12, .addOff 0 (.tmp 11), none⟩,
    ⟨some 13, .load none (.tmp 12), none⟩,
    ⟨some 5, .mv (.tmp 13), none⟩])
  (.seq (.region [⟨some 6, .mv (.con (.int .i32 0)), none⟩])
  (.seq (.seq (.region [⟨some 14, .mv (.tmp 1), none⟩,
    ⟨some 15, .bin .add (.tmp 14) (.con (.int .i64 1)), none⟩,
    ⟨some 16, .mv (.tmp 0), none⟩,
    ⟨some 17, .len false (.tmp 16), none⟩,
    ⟨some 18, .bin .lss (.tmp 15) (.tmp 17), none⟩])
  (.cond (.tmp 18) (.region [⟨some 19, .mv (.tmp 0), none⟩,
    ⟨some 20, .mv (.tmp 1), none⟩,
    ⟨some 21, .bin .add (.tmp 20) (.con (.int .i64 1)), none⟩,
    ⟨some 22, .idxAddr 4 (.tmp 19) (.tmp 21), none⟩,
    ⟨some 23, .addOff 0 (.tmp 22), none⟩,
    ⟨some 24, .load none (.tmp 23), none⟩,
    ⟨some 6, .mv (.tmp 24), none⟩]) (.skip)))
  (.seq (.block 0 (.seq (.region [⟨some 26, .mv (.tmp 5), none⟩,
      ⟨some 27, .bin .eql (.tmp 26) (.con (.int .i32 45)), none⟩,
      ⟨some 28, .mv (.tmp 27), none⟩,
      ⟨some 29, .mv (.tmp 6), (some (28, true))⟩,
      ⟨some 30, .bin .eql (.tmp 29) (.con (.int .i32 62)), (some (28, true))⟩,
      ⟨some 31, .pick (.tmp 28) (.tmp 30) (.con (.bool false)), none⟩,
      ⟨some 25, .mv (.tmp 31), none⟩])
    (.cond (.tmp 25) (.seq (.region [⟨some 4, .mv (.con (.str ⟨#[45, 62]⟩)), none⟩])
    (.ret)) (.seq (.region [⟨some 33, .mv (.tmp 5), none⟩,
      ⟨some 34, .bin .eql (.tmp 33) (.con (.int .i32 60)), none⟩,
      ⟨some 35, .mv (.tmp 34), none⟩,
      ⟨some 36, .mv (.tmp 6), (some (35, true))⟩,
      ⟨some 37, .bin .eql (.tmp 36) (.con (.int .i32 61)), (some (35, true))⟩,
      ⟨some 38, .pick (.tmp 35) (.tmp 37) (.con (.bool false)), none⟩,
      ⟨some 32, .mv (.tmp 38), none⟩])
    (.cond (.tmp 32) (.seq (.region [⟨some 4, .mv (.con (.str ⟨#[60, 61]⟩)), none⟩])
    (.ret)) (.seq (.region [⟨some 40, .mv (.tmp 5), none⟩,
      ⟨some 41, .bin .eql (.tmp 40) (.con (.int .i32 61)), none⟩,
      ⟨some 42, .mv (.tmp 41), none⟩,
      ⟨some 43, .mv (.tmp 6), (some (42, true))⟩,
      ⟨some 44, .bin .eql (.tmp 43) (.con (.int .i32 61)), (some (42, true))⟩,
      ⟨some 45, .pick (.tmp 42) (.tmp 44) (.con (.bool false)), none⟩,
      ⟨some 39, .mv (.tmp 45), none⟩])
    (.cond (.tmp 39) (.seq (.region [⟨some 4, .mv (.con (.str ⟨#[61, 61]⟩)), none⟩])
    (.ret)) (.skip))))))))
  (.seq (.region [⟨some 7, .mv (.con (.str ⟨#[40, 41, 44, 124, 61, 58, 43, 45, 42, 47, 37, 60, 95, 126]⟩)), none⟩])
  (.seq (.seq (.region [⟨some 8, .mv (.con (.int .i64 0)), none⟩])
  (.block 1 (.loop true [false, false, false, false, false, true, false, true, true] [false, false, false, false, true] B72L13)))
  (.seq (.region [⟨some 4, .mv (.con (.str ⟨#[]⟩)), none⟩])
  (.ret))))))))
def A72 : AFunc := { ntmps := 63, results := [.tmp 4], body := B72, coe := true, keep := 0 }
theorem tr72 : trFunc Tryd.prog M72 true Tryd.f72 = some A72 := by kernel_rfl

/-- unicode/utf8.ValidRune -/
def M75 : Marks := { cut := fun _ => true, hd := fun | _ => [], ex := fun | _ => [], imm := fun | _ => false }
def B75 : ACode :=
  .seq (.region [⟨some 2, .mv (.con (.bool false)), none⟩])
  (.seq (.block 0 (.seq (.region [⟨some 4, .mv (.tmp 0), none⟩,
      ⟨some 5, .bin .leq (.con (.int .i32 0)) (.tmp 4), none⟩,
      ⟨some 6, .mv (.tmp 5), none⟩,
      ⟨some 7, .mv (.tmp 0), (some (6, true))⟩,
      ⟨some 8, .bin .lss (.tmp 7) (.con (.int .i32 55296)), (some (6, true))⟩,
      ⟨some 9, .pick (.tmp 6) (.tmp 8) (.con (.bool false)), none⟩,
      ⟨some 3, .mv (.tmp 9), none⟩])
    (.cond (.tmp 3) (.seq (.region [⟨some 2, .mv (.con (.bool true)), none⟩])
    (.ret)) (.seq (.region [⟨some 11, .mv (.tmp 0), none⟩,
      ⟨some 12, .bin .lss (.con (.int .i32 57343)) (.tmp 11), none⟩,
      ⟨some 13, .mv (.tmp 12), none⟩,
      ⟨some 14, .mv (.tmp 0), (some (13, true))⟩,
      ⟨some 15, .bin .leq (.tmp 14) (.con (.int .i32 1114111)), (some (13, true))⟩,
      ⟨some 16, .pick (.tmp 13) (.tmp 15) (.con (.bool false)), none⟩,
      ⟨some 10, .mv (.tmp 16), none⟩])
    (.cond (.tmp 10) (.seq (.region [⟨some 2, .mv (.con (.bool true)), none⟩])
    (.ret)) (.skip))))))
  (.seq (.region [⟨some 2, .mv (.con (.bool false)), none⟩])
  (.ret)))
def A75 : AFunc := { ntmps := 17, results := [.tmp 2], body := B75, coe := true, keep := 0 }
theorem tr75 : trFunc Tryd.prog M75 true Tryd.f75 = some A75 := by kernel_rfl

/-- handloom/handloomref02.tail -/
def M76 : Marks := { cut := fun _ => true, hd := fun | 3 => [true, true, true, false, false, false, false, false, true, true] | _ => [], ex := fun | 3 => [false, false, false, false, false, false, true, true, true] | _ => [], imm := fun | _ => false }
abbrev H76L3 : List Bool := [true, true, true, false, false, false, false, false, true, true]
abbrev X76L3 : List Bool := [false, false, false, false, false, false, true, true, true]
def B76L3 : ACode :=
  .seq (.seq (.region [⟨some 11, .mv (.tmp 9), none⟩,
    ⟨some 12, .mv (.tmp 1), none⟩,
    ⟨some 13, .mv (.tmp 2), none⟩,
    ⟨some 14, .bin .add (.tmp 12) (.tmp 13), none⟩,
    ⟨some 15, .bin .lss (.tmp 11) (.tmp 14), none⟩])
  (.cond (.tmp 15) (.skip) (.exit 0)))
  (.seq (.block 1 (.seq (.seq (.region [⟨some 18, .mv (.tmp 9), none⟩,
      ⟨some 19, .mv (.tmp 0), none⟩,
      ⟨some 20, .len true (.tmp 19), none⟩,
      ⟨some 21, .bin .geq (.tmp 18) (.tmp 20), none⟩,
      ⟨some 22, .mv (.tmp 21), none⟩,
      ⟨some 23, .mv (.tmp 0), (some (22, false))⟩,
      ⟨some 24, .mv (.tmp 9), (some (22, false))⟩,
      ⟨some 25, .idxStr (.tmp 23) (.tmp 24), (some (22, false))⟩,
      ⟨some 26, .bin .lss (.tmp 25) (.con (.int .u8 128)), (some (22, false))⟩,
      ⟨some 27, .pick (.tmp 22) (.con (.bool true)) (.tmp 26), none⟩,
      ⟨some 28, .mv (.tmp 27), none⟩,
      ⟨some 29, .mv (.tmp 0), (some (28, false))⟩,
      ⟨some 30, .mv (.tmp 9), (some (28, false))⟩,
      ⟨some 31, .idxStr (.tmp 29) (.tmp 30), (some (28, false))⟩,
      ⟨some 32, .bin .gtr (.tmp 31) (.con (.int .u8 191)), (some (28, false))⟩,
      ⟨some 33, .pick (.tmp 28) (.con (.bool true)) (.tmp 32), none⟩])
    (.cond (.tmp 33) (.seq (.region [⟨some 6, .mv (.con (.int .i32 0)), none⟩,
      ⟨some 7, .mv (.con (.bool false)), none⟩])
    (.ret)) (.skip)))
    (.region [⟨some 34, .mv (.tmp 8), none⟩,
      ⟨some 35, .bin .mul (.tmp 34) (.con (.int .i32 64)), none⟩,
      ⟨some 36, .mv (.tmp 0), none⟩,
      ⟨some 37, .mv (.tmp 9), none⟩,
      ⟨some 38, .idxStr (.tmp 36) (.tmp 37), none⟩,
      ⟨some 39, .bin .sub (.tmp 38) (.con (.int .u8 128)), none⟩,
      ⟨some 40, .cvt .i32 (.tmp 39), none⟩,
      ⟨some 41, .bin .add (.tmp 35) (.tmp 40), none⟩,
      ⟨some 8, .mv (.tmp 41), none⟩])))
  (.region [⟨some 16, .mv (.tmp 9), none⟩,
    ⟨some 17, .bin .add (.tmp 16) (.con (.int .i64 1)), none⟩,
    ⟨some 9, .mv (.tmp 17), none⟩]))
def B76 : ACode :=
  .seq (.region [⟨some 6, .mv (.con (.int .i32 0)), none⟩,
    ⟨some 7, .mv (.con (.bool false)), none⟩])
  (.seq (.region [⟨some 8, .mv (.con (.int .i32 0)), none⟩])
  (.seq (.seq (.region [⟨some 10, .mv (.tmp 1), none⟩,
    ⟨some 9, .mv (.tmp 10), none⟩])
  (.block 0 (.loop true [true, true, true, false, false, false, false, false, true, true] [false, false, false, false, false, false, true, true, true] B76L3)))
  (.seq (.region [⟨some 42, .mv (.tmp 8), none⟩,
    ⟨some 6, .mv (.tmp 42), none⟩,
    ⟨some 7, .mv (.con (.bool true)), none⟩])
  (.ret))))
def A76 : AFunc := { ntmps := 43, results := [.tmp 6, .tmp 7], body := B76, coe := true, keep := 0 }
theorem tr76 : trFunc Tryd.prog M76 true Tryd.f76 = some A76 := by kernel_rfl

/-- handloom/handloomref02.scalar -/
def M77 : Marks := { cut := fun _ => true, hd := fun | _ => [], ex := fun | _ => [], imm := fun | _ => false }
def B77 : ACode :=
  .seq (.region [⟨some 2, .mv (.con (.bool false)), none⟩])
  (.seq (.region [⟨some 3, .mv (.tmp 0), none⟩,
    ⟨some 4, .bin .geq (.tmp 3) (.con (.int .i32 0)), none⟩,
    ⟨some 5, .mv (.tmp 4), none⟩,
    ⟨some 6, .mv (.tmp 0), (some (5, true))⟩,
    ⟨some 7, .bin .leq (.tmp 6) (.con (.int .i32 1114111)), (some (5, true))⟩,
    ⟨some 8, .pick (.tmp 5) (.tmp 7) (.con (.bool false)), none⟩,
    ⟨some 9, .mv (.tmp 8), none⟩,
    ⟨some 10, .mv (.tmp 0), (some (9, true))⟩,
    ⟨some 11, .bin .lss (.tmp 10) (.con (.int .i32 55296)), (some (9, true))⟩,
    ⟨some 12, .mv (.tmp 11), (some (9, true))⟩,
    ⟨some 13, .mv (.tmp 0), (some (12, false))⟩,
    ⟨some 14, .bin .gtr (.tmp 13) (.con (.int .i32 57343)), (some (12, false))⟩,
    ⟨some 15, .pick (.tmp 12) (.con (.bool true)) (.tmp 14), (some (9, true))⟩,
    ⟨some 16, .pick (.tmp 9) (.tmp 15) (.con (.bool false)), none⟩,
    ⟨some 2, .mv (.tmp 16), none⟩])
  (.ret))
def A77 : AFunc := { ntmps := 17, results := [.tmp 2], body := B77, coe := true, keep := 0 }
theorem tr77 : trFunc Tryd.prog M77 true Tryd.f77 = some A77 := by kernel_rfl

/-- internal/stringslite.HasPrefix -/
def M82 : Marks := { cut := fun _ => true, hd := fun | _ => [], ex := fun | _ => [], imm := fun | _ => false }
def B82 : ACode :=
  .seq (.region [⟨some 4, .mv (.con (.bool false)), none⟩])
  (.seq (.region [⟨some 5, .mv (.tmp 0), none⟩,
    ⟨some 6, .len true (.tmp 5), none⟩,
    ⟨some 7, .mv (.tmp 1), none⟩,
    ⟨some 8, .len true (.tmp 7), none⟩,
    ⟨some 9, .bin .geq (.tmp 6) (.tmp 8), none⟩,
    ⟨some 10, .mv (.tmp 9), none⟩,
    ⟨some 11, .mv (.tmp 0), (some (10, true))⟩,
    ⟨some 12, .mv (.tmp 1), (some (10, true))⟩,
    ⟨some 13, .len true (.tmp 12), (some (10, true))⟩,
    ⟨some 14, .slcStr (.tmp 11) none (some (.tmp 13)), (some (10, true))⟩,
    ⟨some 15, .mv (.tmp 1), (some (10, true))⟩,
    ⟨some 16, .bin .eql (.tmp 14) (.tmp 15), (some (10, true))⟩,
    ⟨some 17, .pick (.tmp 10) (.tmp 16) (.con (.bool false)), none⟩,
    ⟨some 4, .mv (.tmp 17), none⟩])
  (.ret))
def A82 : AFunc := { ntmps := 18, results := [.tmp 4], body := B82, coe := true, keep := 0 }
theorem tr82 : trFunc Tryd.prog M82 true Tryd.f82 = some A82 := by kernel_rfl

/-- (*handloom/lex.reader).take$1 -/
def M83 : Marks := { cut := fun _ => true, hd := fun | 0 => [true, true, true] | _ => [], ex := fun | 0 => [] | _ => [], imm := fun | _ => false, alts := fun | 0 => [[0, 1, 2, 3, 5, 6, 4, 7, 8]] | _ => [] }
abbrev H83L0 : List Bool := [true, true, true]
abbrev X83L0 : List Bool := []
def B83L0 : ACode :=
  .seq (.seq (.draw [⟨some 5, .load none (.tmp 1), none⟩,
    ⟨some 6, .call (.fn 33) [(.tmp 5)], none⟩,
    ⟨some 7, .un .not (.tmp 6), none⟩,
    ⟨some 8, .mv (.tmp 7), none⟩,
    ⟨some 9, .load none (.tmp 2), (some (8, true))⟩,
    ⟨some 10, .load none (.tmp 1), (some (8, true))⟩,
    ⟨some 11, .call (.fn 61) [(.tmp 10), (.con (.int .i64 0))], (some (8, true))⟩,
    ⟨some 12, .call (.tmp 9) [(.tmp 11)], (some (8, true))⟩,
    ⟨some 13, .pick (.tmp 8) (.tmp 12) (.con (.bool false)), none⟩] [[⟨some 5, .load none (.tmp 1), none⟩, ⟨some 6, .call (.fn 33) [(.tmp 5)], none⟩, ⟨some 7, .un .not (.tmp 6), none⟩, ⟨some 8, .mv (.tmp 7), none⟩, ⟨some 10, .load none (.tmp 1), (some (8, true))⟩, ⟨some 11, .call (.fn 61) [(.tmp 10), (.con (.int .i64 0))], (some (8, true))⟩, ⟨some 9, .load none (.tmp 2), (some (8, true))⟩, ⟨some 12, .call (.tmp 9) [(.tmp 11)], (some (8, true))⟩, ⟨some 13, .pick (.tmp 8) (.tmp 12) (.con (.bool false)), none⟩]])
  (.cond (.tmp 13) (.skip) (.exit 0)))
  (.block 1 (.seq (.region [⟨some 14, .load none (.tmp 1), none⟩,
      ⟨some 15, .call (.fn 61) [(.tmp 14), (.con (.int .i64 0))], none⟩,
      ⟨some 4, .mv (.tmp 15), none⟩])
    (.seq (.region [⟨some 16, .load none (.tmp 1), none⟩,
      ⟨some 17, .nilchk (.tmp 16), none⟩,
      ⟨some 18, .addOff 1 (.tmp 17), none⟩,
      ⟨some 19, .load none (.tmp 18), none⟩,
      ⟨some 20, .bin .add (.tmp 19) (.con (.int .i64 1)), none⟩,
      ⟨some 21, .nilchk (.tmp 16), none⟩,
      ⟨some 22, .addOff 1 (.tmp 21), none⟩,
      ⟨none, .store 1 (.tmp 22) (.tmp 20), none⟩])
    (.seq (.region [⟨some 23, .mv (.tmp 0), none⟩,
      ⟨some 24, .mv (.tmp 4), none⟩,
      ⟨some 25, .call (.tmp 23) [(.tmp 24)], none⟩,
      ⟨some 26, .un .not (.tmp 25), none⟩])
    (.cond (.tmp 26) (.ret) (.skip))))))
def B83 : ACode :=
  .block 0 (.loop true [true, true, true] [] B83L0)
def A83 : AFunc := { ntmps := 27, results := [], body := B83, coe := true, keep := 0 }
theorem tr83 : trFunc Tryd.prog M83 true Tryd.f83 = some A83 := by kernel_rfl

/-- (*strings.Builder).WriteRune -/
def M84 : Marks := { cut := fun _ => true, hd := fun | _ => [], ex := fun | _ => [], imm := fun | _ => false }
def B84 : ACode :=
  .seq (.region [⟨some 4, .mv (.con (.int .i64 0)), none⟩,
    ⟨some 5, .mv (.con (.nili)), none⟩])
  (.seq (.region [⟨some 7, .mv (.tmp 0), none⟩,
    ⟨some 8, .call (.fn 53) [(.tmp 7)], none⟩])
  (.seq (.region [⟨some 9, .mv (.tmp 0), none⟩,
    ⟨some 10, .nilchk (.tmp 9), none⟩,
    ⟨some 11, .addOff 1 (.tmp 10), none⟩,
    ⟨some 12, .load none (.tmp 11), none⟩,
    ⟨some 13, .len false (.tmp 12), none⟩,
    ⟨some 6, .mv (.tmp 13), none⟩])
  (.seq (.region [⟨some 14, .mv (.tmp 0), none⟩,
    ⟨some 15, .mv (.tmp 0), none⟩,
    ⟨some 16, .nilchk (.tmp 15), none⟩,
    ⟨some 17, .addOff 1 (.tmp 16), none⟩,
    ⟨some 18, .load none (.tmp 17), none⟩,
    ⟨some 19, .mv (.tmp 1), none⟩,
    ⟨some 20, .call (.fn 95) [(.tmp 18), (.tmp 19)], none⟩,
    ⟨some 21, .nilchk (.tmp 14), none⟩,
    ⟨some 22, .addOff 1 (.tmp 21), none⟩,
    ⟨none, .store 1 (.tmp 22) (.tmp 20), none⟩])
  (.seq (.region [⟨some 23, .mv (.tmp 0), none⟩,
    ⟨some 24, .nilchk (.tmp 23), none⟩,
    ⟨some 25, .addOff 1 (.tmp 24), none⟩,
    ⟨some 26, .load none (.tmp 25), none⟩,
    ⟨some 27, .len false (.tmp 26), none⟩,
    ⟨some 28, .mv (.tmp 6), none⟩,
    ⟨some 29, .bin .sub (.tmp 27) (.tmp 28), none⟩,
    ⟨some 4, .mv (.tmp 29), none⟩,
    ⟨some 5, .mv (.con (.nili)), none⟩])
  (.ret)))))
def A84 : AFunc := { ntmps := 30, results := [.tmp 4, .tmp 5], body := B84, coe := true, keep := 0 }
theorem tr84 : trFunc Tryd.prog M84 true Tryd.f84 = some A84 := by kernel_rfl

/-- (*handloom/lex.reader).escape -/
def M85 : Marks := { cut := fun _ => true, hd := fun | _ => [], ex := fun | _ => [], imm := fun | _ => false }
def B85 : ACode :=
  .seq (.region [⟨some 2, .mv (.con (.int .u8 0)), none⟩,
    ⟨some 3, .mv (.con (.bool false)), none⟩])
  (.seq (.region [⟨some 7, .mv (.tmp 0), none⟩,
    ⟨some 8, .call (.fn 61) [(.tmp 7), (.con (.int .i64 0))], none⟩,
    ⟨some 4, .mv (.tmp 8), none⟩])
  (.seq (.region [⟨some 9, .mv (.tmp 0), none⟩,
    ⟨some 10, .nilchk (.tmp 9), none⟩,
    ⟨some 11, .addOff 1 (.tmp 10), none⟩,
    ⟨some 12, .load none (.tmp 11), none⟩,
    ⟨some 13, .bin .add (.tmp 12) (.con (.int .i64 1)), none⟩,
    ⟨some 14, .nilchk (.tmp 9), none⟩,
    ⟨some 15, .addOff 1 (.tmp 14), none⟩,
    ⟨none, .store 1 (.tmp 15) (.tmp 13), none⟩])
  (.seq (.seq (.region [⟨some 16, .mv (.tmp 4), none⟩])
  (.block 0 (.seq (.block 5 (.seq (.block 4 (.block 3 (.seq (.block 2 (.seq (.block 1 (.seq (.seq (.seq (.region [⟨some 18, .bin .eql (.tmp 16) (.con (.int .i32 110)), none⟩,
                ⟨some 17, .mv (.tmp 18), none⟩])
              (.cond (.tmp 17) (.exit 1) (.skip)))
              (.seq (.seq (.region [⟨some 20, .bin .eql (.tmp 16) (.con (.int .i32 116)), none⟩,
                ⟨some 19, .mv (.tmp 20), none⟩])
              (.cond (.tmp 19) (.exit 2) (.skip)))
              (.seq (.seq (.region [⟨some 22, .bin .eql (.tmp 16) (.con (.int .i32 34)), none⟩,
                ⟨some 21, .mv (.tmp 22), none⟩])
              (.cond (.tmp 21) (.exit 3) (.skip)))
              (.seq (.seq (.region [⟨some 24, .bin .eql (.tmp 16) (.con (.int .i32 92)), none⟩,
                ⟨some 23, .mv (.tmp 24), none⟩])
              (.cond (.tmp 23) (.exit 4) (.skip)))
              (.seq (.region [⟨some 26, .bin .eql (.tmp 16) (.con (.int .i32 120)), none⟩,
                ⟨some 25, .mv (.tmp 26), none⟩])
              (.cond (.tmp 25) (.exit 5) (.skip)))))))
              (.exit 0)))
            (.seq (.seq (.region [⟨some 2, .mv (.con (.int .u8 10)), none⟩,
              ⟨some 3, .mv (.con (.bool true)), none⟩])
            (.ret))
            (.exit 0))))
          (.seq (.seq (.region [⟨some 2, .mv (.con (.int .u8 9)), none⟩,
            ⟨some 3, .mv (.con (.bool true)), none⟩])
          (.ret))
          (.exit 0)))))
      (.seq (.seq (.region [⟨some 27, .mv (.tmp 4), none⟩,
        ⟨some 28, .cvt .u8 (.tmp 27), none⟩,
        ⟨some 2, .mv (.tmp 28), none⟩,
        ⟨some 3, .mv (.con (.bool true)), none⟩])
      (.ret))
      (.exit 0))))
    (.seq (.seq (.region [⟨some 29, .mv (.tmp 0), none⟩,
      ⟨some 30, .call (.fn 61) [(.tmp 29), (.con (.int .i64 0))], none⟩,
      ⟨some 31, .call (.fn 96) [(.con (.str ⟨#[48, 49, 50, 51, 52, 53, 54, 55, 56, 57, 97, 98, 99, 100, 101, 102]⟩)), (.tmp 30)], none⟩,
      ⟨some 32, .mv (.tmp 0), none⟩,
      ⟨some 33, .call (.fn 61) [(.tmp 32), (.con (.int .i64 1))], none⟩,
      ⟨some 34, .call (.fn 96) [(.con (.str ⟨#[48, 49, 50, 51, 52, 53, 54, 55, 56, 57, 97, 98, 99, 100, 101, 102]⟩)), (.tmp 33)], none⟩,
      ⟨some 5, .mv (.tmp 31), none⟩,
      ⟨some 6, .mv (.tmp 34), none⟩])
    (.seq (.region [⟨some 35, .mv (.tmp 0), none⟩,
      ⟨some 36, .nilchk (.tmp 35), none⟩,
      ⟨some 37, .addOff 1 (.tmp 36), none⟩,
      ⟨some 38, .load none (.tmp 37), none⟩,
      ⟨some 39, .bin .add (.tmp 38) (.con (.int .i64 2)), none⟩,
      ⟨some 40, .nilchk (.tmp 35), none⟩,
      ⟨some 41, .addOff 1 (.tmp 40), none⟩,
      ⟨none, .store 1 (.tmp 41) (.tmp 39), none⟩])
    (.seq (.region [⟨some 42, .mv (.tmp 5), none⟩,
      ⟨some 43, .bin .shl (.tmp 42) (.con (.int .u64 4)), none⟩,
      ⟨some 44, .mv (.tmp 6), none⟩,
      ⟨some 45, .bin .and (.tmp 44) (.con (.int .i64 15)), none⟩,
      ⟨some 46, .bin .or (.tmp 43) (.tmp 45), none⟩,
      ⟨some 47, .cvt .u8 (.tmp 46), none⟩,
      ⟨some 48, .mv (.tmp 5), none⟩,
      ⟨some 49, .bin .geq (.tmp 48) (.con (.int .i64 0)), none⟩,
      ⟨some 50, .mv (.tmp 49), none⟩,
      ⟨some 51, .mv (.tmp 6), (some (50, true))⟩,
      ⟨some 52, .bin .geq (.tmp 51) (.con (.int .i64 0)), (some (50, true))⟩,
      ⟨some 53, .pick (.tmp 50) (.tmp 52) (.con (.bool false)), none⟩,
      ⟨some 2, .mv (.tmp 47), none⟩,
      ⟨some 3, .mv (.tmp 53), none⟩])
    (.ret))))
    (.exit 0)))))
  (.seq (.region [⟨some 2, .mv (.con (.int .u8 0)), none⟩,
    ⟨some 3, .mv (.con (.bool false)), none⟩])
  (.ret)))))
def A85 : AFunc := { ntmps := 54, results := [.tmp 2, .tmp 3], body := B85, coe := true, keep := 0 }
theorem tr85 : trFunc Tryd.prog M85 true Tryd.f85 = some A85 := by kernel_rfl

/-- handloom/runes.Put -/
def M86 : Marks := { cut := fun _ => true, hd := fun | _ => [], ex := fun | _ => [], imm := fun | 2 => true | _ => false }
def B86 : ACode :=
  .seq (.region [⟨some 2, .mv (.con (.slice 1 [])), none⟩])
  (.seq (.seq (.region [⟨some 3, .mv (.tmp 0), none⟩,
    ⟨some 4, .call (.fn 75) [(.tmp 3)], none⟩,
    ⟨some 5, .un .not (.tmp 4), none⟩])
  (.cond (.tmp 5) (.seq (.region [⟨some 2, .mv (.con (.slice 1 [])), none⟩])
  (.ret)) (.skip)))
  (.seq (.region [⟨some 6, .mv (.tmp 0), none⟩,
    ⟨some 7, .calln 1 (.fn 95) [(.tmp 6)], none⟩,
    ⟨some 2, .mv (.tmp 7), none⟩])
  (.ret)))
def A86 : AFunc := { ntmps := 8, results := [.tmp 2], body := B86, coe := true, keep := 0 }
theorem tr86 : trFunc Tryd.prog M86 true Tryd.f86 = some A86 := by kernel_rfl

/-- strings.IndexByte -/
def M87 : Marks := { cut := fun _ => true, hd := fun | _ => [], ex := fun | _ => [], imm := fun | _ => false }
def B87 : ACode :=
  .seq (.region [⟨some 4, .mv (.con (.int .i64 0)), none⟩])
  (.seq (.region [⟨some 5, .mv (.tmp 0), none⟩,
    ⟨some 6, .mv (.tmp 1), none⟩,
    ⟨some 7, .call (.fn 97) [(.tmp 5), (.tmp 6)], none⟩,
    ⟨some 4, .mv (.tmp 7), none⟩])
  (.ret))
def A87 : AFunc := { ntmps := 8, results := [.tmp 4], body := B87, coe := true, keep := 0 }
theorem tr87 : trFunc Tryd.prog M87 true Tryd.f87 = some A87 := by kernel_rfl

/-- handloom/handloomref02.Put -/
def M88 : Marks := { cut := fun _ => true, hd := fun | _ => [], ex := fun | _ => [], imm := fun | 2 => true | _ => false }
def B88 : ACode :=
  .seq (.region [⟨some 2, .mv (.con (.slice 1 [])), none⟩])
  (.seq (.block 0 (.seq (.region [⟨some 4, .mv (.tmp 0), none⟩,
      ⟨some 5, .call (.fn 77) [(.tmp 4)], none⟩,
      ⟨some 6, .un .not (.tmp 5), none⟩,
      ⟨some 3, .mv (.tmp 6), none⟩])
    (.cond (.tmp 3) (.seq (.region [⟨some 2, .mv (.con (.slice 1 [])), none⟩])
    (.ret)) (.seq (.region [⟨some 8, .mv (.tmp 0), none⟩,
      ⟨some 9, .bin .lss (.tmp 8) (.con (.int .i32 128)), none⟩,
      ⟨some 7, .mv (.tmp 9), none⟩])
    (.cond (.tmp 7) (.seq (.region [⟨some 10, .mv (.tmp 0), none⟩,
      ⟨some 11, .cvt .u8 (.tmp 10), none⟩,
      ⟨some 12, .lit false 5 1 1 [.int .u8 0] [(0, (.tmp 11))], none⟩,
      ⟨some 2, .mv (.tmp 12), none⟩])
    (.ret)) (.seq (.region [⟨some 14, .mv (.tmp 0), none⟩,
      ⟨some 15, .bin .lss (.tmp 14) (.con (.int .i32 2048)), none⟩,
      ⟨some 13, .mv (.tmp 15), none⟩])
    (.cond (.tmp 13) (.seq (.region [⟨some 16, .mv (.tmp 0), none⟩,
      ⟨some 17, .bin .quo (.tmp 16) (.con (.int .i32 64)), none⟩,
      ⟨some 18, .bin .add (.con (.int .i32 192)) (.tmp 17), none⟩,
      ⟨some 19, .cvt .u8 (.tmp 18), none⟩,
      ⟨some 20, .mv (.tmp 0), none⟩,
      ⟨some 21, .bin .rem (.tmp 20) (.con (.int .i32 64)), none⟩,
      ⟨some 22, .bin .add (.con (.int .i32 128)) (.tmp 21), none⟩,
      ⟨some 23, .cvt .u8 (.tmp 22), none⟩,
      ⟨some 24, .lit false 5 1 2 [.int .u8 0] [(0, (.tmp 19)), (1, (.tmp 23))], none⟩,
      ⟨some 2, .mv (.tmp 24), none⟩])
    (.ret)) (.seq (.region [⟨some 26, .mv (.tmp 0), none⟩,
      ⟨some 27, .bin .lss (.tmp 26) (.con (.int .i32 65536)), none⟩,
      ⟨some 25, .mv (.tmp 27), none⟩])
    (.cond (.tmp 25) (.seq (.region [⟨some 28, .mv (.tmp 0), none⟩,
      ⟨some 29, .bin .quo (.tmp 28) (.con (.int .i32 4096)), none⟩,
      ⟨some 30, .bin .add (.con (.int .i32 224)) (.tmp 29), none⟩,
      ⟨some 31, .cvt .u8 (.tmp 30), none⟩,
      ⟨some 32, .mv (.tmp 0), none⟩,
      ⟨some 33, .bin .quo (.tmp 32) (.con (.int .i32 64)), none⟩,
      ⟨some 34, .bin .rem (.tmp 33) (.con (.int .i32 64)), none⟩,
      ⟨some 35, .bin .add (.con (.int .i32 128)) (.tmp 34), none⟩,
      ⟨some 36, .cvt .u8 (.tmp 35), none⟩,
      ⟨some 37, .mv (.tmp 0), none⟩,
      ⟨some 38, .bin .rem (.tmp 37) (.con (.int .i32 64)), none⟩,
      ⟨some 39, .bin .add (.con (.int .i32 128)) (.tmp 38), none⟩,
      ⟨some 40, .cvt .u8 (.tmp 39), none⟩,
      ⟨some 41, .lit false 5 1 3 [.int .u8 0] [(0, (.tmp 31)), (1, (.tmp 36)), (2, (.tmp 40))], none⟩,
      ⟨some 2, .mv (.tmp 41), none⟩])
    (.ret)) (.skip))))))))))
  (.seq (.region [⟨some 42, .mv (.tmp 0), none⟩,
    ⟨some 43, .bin .quo (.tmp 42) (.con (.int .i32 262144)), none⟩,
    ⟨some 44, .bin .add (.con (.int .i32 240)) (.tmp 43), none⟩,
    ⟨some 45, .cvt .u8 (.tmp 44), none⟩,
    ⟨some 46, .mv (.tmp 0), none⟩,
    ⟨some 47, .bin .quo (.tmp 46) (.con (.int .i32 4096)), none⟩,
    ⟨some 48, .bin .rem (.tmp 47) (.con (.int .i32 64)), none⟩,
    ⟨some 49, .bin .add (.con (.int .i32 128)) (.tmp 48), none⟩,
    ⟨some 50, .cvt .u8 (.tmp 49), none⟩,
    ⟨some 51, .mv (.tmp 0), none⟩,
    ⟨some 52, .bin .quo (.tmp 51) (.con (.int .i32 64)), none⟩,
    ⟨some 53, .bin .rem (.tmp 52) (.con (.int .i32 64)), none⟩,
    ⟨some 54, .bin .add (.con (.int .i32 128)) (.tmp 53), none⟩,
    ⟨some 55, .cvt .u8 (.tmp 54), none⟩,
    ⟨some 56, .mv (.tmp 0), none⟩,
    ⟨some 57, .bin .rem (.tmp 56) (.con (.int .i32 64)), none⟩,
    ⟨some 58, .bin .add (.con (.int .i32 128)) (.tmp 57), none⟩,
    ⟨some 59, .cvt .u8 (.tmp 58), none⟩,
    ⟨some 60, .lit false 5 1 4 [.int .u8 0] [(0, (.tmp 45)), (1, (.tmp 50)), (2, (.tmp 55)), (3, (.tmp 59))], none⟩,
    ⟨some 2, .mv (.tmp 60), none⟩])
  (.ret)))
def A88 : AFunc := { ntmps := 61, results := [.tmp 2], body := B88, coe := true, keep := 0 }
theorem tr88 : trFunc Tryd.prog M88 true Tryd.f88 = some A88 := by kernel_rfl

/-- handloom/handloomref03.hex -/
def M89 : Marks := { cut := fun _ => true, hd := fun | _ => [], ex := fun | _ => [], imm := fun | _ => false }
def B89 : ACode :=
  .seq (.region [⟨some 2, .mv (.con (.int .i64 0)), none⟩])
  (.seq (.seq (.region [⟨some 3, .mv (.tmp 0), none⟩,
    ⟨some 4, .bin .geq (.tmp 3) (.con (.int .i32 48)), none⟩,
    ⟨some 5, .mv (.tmp 4), none⟩,
    ⟨some 6, .mv (.tmp 0), (some (5, true))⟩,
    ⟨some 7, .bin .leq (.tmp 6) (.con (.int .i32 57)), (some (5, true))⟩,
    ⟨some 8, .pick (.tmp 5) (.tmp 7) (.con (.bool false)), none⟩])
  (.cond (.tmp 8) (.seq (.region [⟨some 9, .mv (.tmp 0), none⟩,
    ⟨some 10, .bin .sub (.tmp 9) (.con (.int .i32 48)), none⟩,
    ⟨some 11, .cvt .i64 (.tmp 10), none⟩,
    ⟨some 2, .mv (.tmp 11), none⟩])
  (.ret)) (.skip)))
  (.seq (.seq (.region [⟨some 12, .mv (.tmp 0), none⟩,
    ⟨some 13, .bin .geq (.tmp 12) (.con (.int .i32 97)), none⟩,
    ⟨some 14, .mv (.tmp 13), none⟩,
    ⟨some 15, .mv (.tmp 0), (some (14, true))⟩,
    ⟨some 16, .bin .leq (.tmp 15) (.con (.int .i32 102)), (some (14, true))⟩,
    ⟨some 17, .pick (.tmp 14) (.tmp 16) (.con (.bool false)), none⟩])
  (.cond (.tmp 17) (.seq (.region [⟨some 18, .mv (.tmp 0), none⟩,
    ⟨some 19, .bin .sub (.tmp 18) (.con (.int .i32 97)), none⟩,
    ⟨some 20, .cvt .i64 (.tmp 19), none⟩,
    ⟨some 21, .bin .add (.tmp 20) (.con (.int .i64 10)), none⟩,
    ⟨some 2, .mv (.tmp 21), none⟩])
  (.ret)) (.skip)))
  (.seq (.region [⟨some 2, .mv (.con (.int .i64 (-1))), none⟩])
  (.ret))))
def A89 : AFunc := { ntmps := 22, results := [.tmp 2], body := B89, coe := true, keep := 0 }
theorem tr89 : trFunc Tryd.prog M89 true Tryd.f89 = some A89 := by kernel_rfl

/-- unicode/utf8.AppendRune -/
def M95 : Marks := { cut := fun _ => true, hd := fun | _ => [], ex := fun | _ => [], imm := fun | 4 => true | 11 => true | _ => false }
def B95 : ACode :=
  .seq (.region [⟨some 4, .mv (.con (.slice 1 [])), none⟩])
  (.seq (.seq (.region [⟨some 5, .mv (.tmp 1), none⟩,
    ⟨some 6, .cvt .u32 (.tmp 5), none⟩,
    ⟨some 7, .bin .leq (.tmp 6) (.con (.int .u32 127)), none⟩])
  (.cond (.tmp 7) (.seq (.region [⟨some 8, .mv (.tmp 0), none⟩,
    ⟨some 9, .mv (.tmp 1), none⟩,
    ⟨some 10, .cvt .u8 (.tmp 9), none⟩,
    ⟨some 11, .lit true 5 1 1 [.int .u8 0] [(0, (.tmp 10))], none⟩,
    ⟨some 12, .app false 5 1 1 (.tmp 8) (.tmp 11), none⟩,
    ⟨some 4, .mv (.tmp 12), none⟩])
  (.ret)) (.skip)))
  (.seq (.region [⟨some 13, .mv (.tmp 0), none⟩,
    ⟨some 14, .mv (.tmp 1), none⟩,
    ⟨some 15, .call (.fn 104) [(.tmp 13), (.tmp 14)], none⟩,
    ⟨some 4, .mv (.tmp 15), none⟩])
  (.ret)))
def A95 : AFunc := { ntmps := 16, results := [.tmp 4], body := B95, coe := false, keep := 0 }
theorem tr95 : trFunc Tryd.prog M95 false Tryd.f95 = some A95 := by kernel_rfl

/-- strings.IndexRune -/
def M96 : Marks := { cut := fun _ => true, hd := fun | 5 => [true, false, false, false, false, false, false, true, true, true] | 12 => [true, false, false, false, false, false, false, true, true, true, false, false, true] | 25 => [true, false, false, false, false, false, false, true, true, true, false, false, false, false, true, true] | 29 => [true, false, false, false, false, false, false, true, true, true, false, false, false, false, true, true, true] | 38 => [false, false, false, false, false, false, false, false, false, false, false, false, false, false, false, false, false, false, false, false, false, false, false, false, false, false, false, false, false, false, false, false, false, false, false, false, false, false, false, false, false, false, false, false, false, false, false, false, false, false, false, false, false, false, false, false, false, false, false, false, false, false, false, false, false, false, false, false, false, false, false, false, false, false, false, false, false, false, false, false, false, false, false, false, false, false, false, false, false, false, false, false, false, false, false, false, false, false, false, false, false, false, false, false, false, false, false, false, false, false, false, false, false, false, false, false, false, false, false, false, false, false, false, false, false, false, false, false, false, false, false, false, false, false, false, false, false, false, false, false, false, false, false, false, false, false, false, false, false, false, false, false, false, false, false, false, false, false, false, false, false, false, false, false, false, false, false, false, false, false, false, false, false, false, false, true] | _ => [], ex := fun | 5 => [false, false, false, false, true] | 12 => [false, false, false, false, false, false, false, false, true, true] | 25 => [false, false, false, false, true] | 29 => [true, false, false, false, false, false, false, true, true, true, false, false, false, false, true, true] | 38 => [false, false, false, false, true] | _ => [], imm := fun | _ => false }
abbrev H96L38 : List Bool := [false, false, false, false, false, false, false, false, false, false, false, false, false, false, false, false, false, false, false, false, false, false, false, false, false, false, false, false, false, false, false, false, false, false, false, false, false, false, false, false, false, false, false, false, false, false, false, false, false, false, false, false, false, false, false, false, false, false, false, false, false, false, false, false, false, false, false, false, false, false, false, false, false, false, false, false, false, false, false, false, false, false, false, false, false, false, false, false, false, false, false, false, false, false, false, false, false, false, false, false, false, false, false, false, false, false, false, false, false, false, false, false, false, false, false, false, false, false, false, false, false, false, false, false, false, false, false, false, false, false, false, false, false, false, false, false, false, false, false, false, false, false, false, false, false, false, false, false, false, false, false, false, false, false, false, false, false, false, false, false, false, false, false, false, false, false, false, false, false, false, false, false, false, false, false, true]
abbrev X96L38 : List Bool := [false, false, false, false, true]
def B96L38 : ACode :=
  .seq (.region [⟨some 176, .next (.tmp 175), none⟩,
    ⟨some 177, .ext 0 (.tmp 176), none⟩])
  (.seq (.cond (.tmp 177) (.skip) (.exit 9))
  (.block 10 (.seq (.region [⟨some 178, .ext 1 (.tmp 176), none⟩,
      ⟨some 179, .ext 2 (.tmp 176), none⟩,
      ⟨some 5, .mv (.tmp 178), none⟩,
      ⟨some 6, .mv (.tmp 179), none⟩])
    (.seq (.region [⟨some 180, .mv (.tmp 6), none⟩,
      ⟨some 181, .bin .eql (.tmp 180) (.con (.int .i32 65533)), none⟩])
    (.cond (.tmp 181) (.seq (.region [⟨some 182, .mv (.tmp 5), none⟩,
      ⟨some 4, .mv (.tmp 182), none⟩])
    (.ret)) (.skip))))))
abbrev H96L12 : List Bool := [true, false, false, false, false, false, false, true, true, true, false, false, true]
abbrev X96L12 : List Bool := [false, false, false, false, false, false, false, false, true, true]
def B96L12 : ACode :=
  .seq (.seq (.region [⟨some 48, .mv (.tmp 12), none⟩,
    ⟨some 49, .mv (.tmp 7), none⟩,
    ⟨some 50, .len true (.tmp 49), none⟩,
    ⟨some 51, .bin .lss (.tmp 48) (.tmp 50), none⟩])
  (.cond (.tmp 51) (.skip) (.exit 3)))
  (.seq (.block 4 (.seq (.draw [⟨some 54, .mv (.tmp 0), none⟩,
      ⟨some 55, .mv (.tmp 9), none⟩,
      ⟨some 56, .mv (.tmp 12), none⟩,
      ⟨some 57, .bin .sub (.tmp 55) (.tmp 56), none⟩,
      ⟨some 58, .idxStr (.tmp 54) (.tmp 57), none⟩,
      ⟨some 59, .mv (.tmp 7), none⟩,
      ⟨some 60, .mv (.tmp 8), none⟩,
      ⟨some 61, .mv (.tmp 12), none⟩,
      ⟨some 62, .bin .sub (.tmp 60) (.tmp 61), none⟩,
      ⟨some 63, .idxStr (.tmp 59) (.tmp 62), none⟩,
      ⟨some 64, .bin .neq (.tmp 58) (.tmp 63), none⟩] [])
    (.cond (.tmp 64) (.stuck) (.skip))))
  (.region [⟨some 52, .mv (.tmp 12), none⟩,
    ⟨some 53, .bin .add (.tmp 52) (.con (.int .i64 1)), none⟩,
    ⟨some 12, .mv (.tmp 53), none⟩]))
abbrev H96L5 : List Bool := [true, false, false, false, false, false, false, true, true, true]
abbrev X96L5 : List Bool := [false, false, false, false, true]
def B96L5 : ACode :=
  .seq (.seq (.region [⟨some 23, .mv (.tmp 9), none⟩,
    ⟨some 24, .mv (.tmp 0), none⟩,
    ⟨some 25, .len true (.tmp 24), none⟩,
    ⟨some 26, .bin .lss (.tmp 23) (.tmp 25), none⟩])
  (.cond (.tmp 26) (.skip) (.exit 1)))
  (.block 2 (.seq (.seq (.draw [⟨some 27, .mv (.tmp 0), none⟩,
      ⟨some 28, .mv (.tmp 9), none⟩,
      ⟨some 29, .idxStr (.tmp 27) (.tmp 28), none⟩,
      ⟨some 30, .mv (.tmp 7), none⟩,
      ⟨some 31, .mv (.tmp 8), none⟩,
      ⟨some 32, .idxStr (.tmp 30) (.tmp 31), none⟩,
      ⟨some 33, .bin .neq (.tmp 29) (.tmp 32), none⟩] [])
    (.cond (.tmp 33) (.seq (.draw [⟨some 34, .mv (.tmp 0), none⟩,
      ⟨some 35, .mv (.tmp 9), none⟩,
      ⟨some 36, .bin .add (.tmp 35) (.con (.int .i64 1)), none⟩,
      ⟨some 37, .slcStr (.tmp 34) (some (.tmp 36)) none, none⟩,
      ⟨some 38, .mv (.tmp 7), none⟩,
      ⟨some 39, .mv (.tmp 8), none⟩,
      ⟨some 40, .idxStr (.tmp 38) (.tmp 39), none⟩,
      ⟨some 41, .call (.fn 87) [(.tmp 37), (.tmp 40)], none⟩,
      ⟨some 11, .mv (.tmp 41), none⟩] [])
    (.seq (.seq (.region [⟨some 42, .mv (.tmp 11), none⟩,
      ⟨some 43, .bin .lss (.tmp 42) (.con (.int .i64 0)), none⟩])
    (.cond (.tmp 43) (.seq (.region [⟨some 4, .mv (.con (.int .i64 (-1))), none⟩])
    (.ret)) (.skip)))
    (.region [⟨some 44, .mv (.tmp 9), none⟩,
      ⟨some 45, .mv (.tmp 11), none⟩,
      ⟨some 46, .bin .add (.tmp 45) (.con (.int .i64 1)), none⟩,
      ⟨some 47, .bin .add (.tmp 44) (.tmp 46), none⟩,
      ⟨some 9, .mv (.tmp 47), none⟩]))) (.skip)))
    (.seq (.seq (.region [⟨some 12, .mv (.con (.int .i64 1)), none⟩])
    (.block 3 (.loop true [true, false, false, false, false, false, false, true, true, true, false, false, true] [false, false, false, false, false, false, false, false, true, true] B96L12)))
    (.seq (.seq (.region [⟨some 65, .mv (.tmp 9), none⟩,
      ⟨some 66, .mv (.tmp 8), none⟩,
      ⟨some 67, .bin .sub (.tmp 65) (.tmp 66), none⟩,
      ⟨some 4, .mv (.tmp 67), none⟩])
    (.ret))
    (.seq (.skip)
    (.seq (.region [⟨some 68, .mv (.tmp 10), none⟩,
      ⟨some 69, .bin .add (.tmp 68) (.con (.int .i64 1)), none⟩,
      ⟨some 10, .mv (.tmp 69), none⟩])
    (.seq (.region [⟨some 70, .mv (.tmp 9), none⟩,
      ⟨some 71, .bin .add (.tmp 70) (.con (.int .i64 1)), none⟩,
      ⟨some 9, .mv (.tmp 71), none⟩])
    (.seq (.region [⟨some 72, .mv (.con (.bool true)), none⟩,
      ⟨some 73, .mv (.tmp 10), (some (72, true))⟩,
      ⟨some 74, .mv (.tmp 9), (some (72, true))⟩,
      ⟨some 75, .call (.fn 105) [(.tmp 74)], (some (72, true))⟩,
      ⟨some 76, .bin .gtr (.tmp 73) (.tmp 75), (some (72, true))⟩,
      ⟨some 77, .pick (.tmp 72) (.tmp 76) (.con (.bool false)), none⟩,
      ⟨some 78, .mv (.tmp 77), none⟩,
      ⟨some 79, .mv (.tmp 9), (some (78, true))⟩,
      ⟨some 80, .mv (.tmp 0), (some (78, true))⟩,
      ⟨some 81, .len true (.tmp 80), (some (78, true))⟩,
      ⟨some 82, .bin .lss (.tmp 79) (.tmp 81), (some (78, true))⟩,
      ⟨some 83, .pick (.tmp 78) (.tmp 82) (.con (.bool false)), none⟩,
      ⟨some 84, .mv (.tmp 83), none⟩,
      ⟨some 85, .mv (.con (.bool false)), (some (84, false))⟩,
      ⟨some 86, .mv (.tmp 10), (some (85, true))⟩,
      ⟨some 87, .mv (.tmp 9), (some (85, true))⟩,
      ⟨some 88, .bin .shr (.tmp 87) (.con (.int .u64 4)), (some (85, true))⟩,
      ⟨some 89, .bin .add (.con (.int .i64 4)) (.tmp 88), (some (85, true))⟩,
      ⟨some 90, .bin .geq (.tmp 86) (.tmp 89), (some (85, true))⟩,
      ⟨some 91, .pick (.tmp 85) (.tmp 90) (.con (.bool false)), (some (84, false))⟩,
      ⟨some 92, .mv (.tmp 91), (some (84, false))⟩,
      ⟨some 93, .mv (.tmp 9), (some (92, true))⟩,
      ⟨some 94, .mv (.tmp 0), (some (92, true))⟩,
      ⟨some 95, .len true (.tmp 94), (some (92, true))⟩,
      ⟨some 96, .bin .lss (.tmp 93) (.tmp 95), (some (92, true))⟩,
      ⟨some 97, .pick (.tmp 92) (.tmp 96) (.con (.bool false)), (some (84, false))⟩,
      ⟨some 98, .pick (.tmp 84) (.con (.bool true)) (.tmp 97), none⟩])
    (.cond (.tmp 98) (.stuck) (.skip))))))))))
abbrev H96L29 : List Bool := [true, false, false, false, false, false, false, true, true, true, false, false, false, false, true, true, true]
abbrev X96L29 : List Bool := [true, false, false, false, false, false, false, true, true, true, false, false, false, false, true, true]
def B96L29 : ACode :=
  .seq (.seq (.region [⟨some 140, .mv (.tmp 16), none⟩,
    ⟨some 141, .mv (.tmp 7), none⟩,
    ⟨some 142, .len true (.tmp 141), none⟩,
    ⟨some 143, .bin .lss (.tmp 140) (.tmp 142), none⟩])
  (.cond (.tmp 143) (.skip) (.exit 7)))
  (.seq (.block 8 (.seq (.draw [⟨some 146, .mv (.tmp 0), none⟩,
      ⟨some 147, .mv (.tmp 9), none⟩,
      ⟨some 148, .mv (.tmp 16), none⟩,
      ⟨some 149, .bin .sub (.tmp 147) (.tmp 148), none⟩,
      ⟨some 150, .idxStr (.tmp 146) (.tmp 149), none⟩,
      ⟨some 151, .mv (.tmp 7), none⟩,
      ⟨some 152, .mv (.tmp 8), none⟩,
      ⟨some 153, .mv (.tmp 16), none⟩,
      ⟨some 154, .bin .sub (.tmp 152) (.tmp 153), none⟩,
      ⟨some 155, .idxStr (.tmp 151) (.tmp 154), none⟩,
      ⟨some 156, .bin .neq (.tmp 150) (.tmp 155), none⟩] [])
    (.cond (.tmp 156) (.exit 6) (.skip))))
  (.region [⟨some 144, .mv (.tmp 16), none⟩,
    ⟨some 145, .bin .add (.tmp 144) (.con (.int .i64 1)), none⟩,
    ⟨some 16, .mv (.tmp 145), none⟩]))
abbrev H96L25 : List Bool := [true, false, false, false, false, false, false, true, true, true, false, false, false, false, true, true]
abbrev X96L25 : List Bool := [false, false, false, false, true]
def B96L25 : ACode :=
  .seq (.seq (.region [⟨some 121, .mv (.tmp 9), none⟩,
    ⟨some 122, .mv (.tmp 0), none⟩,
    ⟨some 123, .len true (.tmp 122), none⟩,
    ⟨some 124, .bin .lss (.tmp 121) (.tmp 123), none⟩])
  (.cond (.tmp 124) (.skip) (.exit 5)))
  (.seq (.block 6 (.seq (.region [⟨some 127, .mv (.tmp 0), none⟩,
      ⟨some 128, .mv (.tmp 9), none⟩,
      ⟨some 129, .idxStr (.tmp 127) (.tmp 128), none⟩,
      ⟨some 130, .mv (.tmp 14), none⟩,
      ⟨some 131, .bin .eql (.tmp 129) (.tmp 130), none⟩,
      ⟨some 132, .mv (.tmp 131), none⟩,
      ⟨some 133, .mv (.tmp 0), (some (132, true))⟩,
      ⟨some 134, .mv (.tmp 9), (some (132, true))⟩,
      ⟨some 135, .bin .sub (.tmp 134) (.con (.int .i64 1)), (some (132, true))⟩,
      ⟨some 136, .idxStr (.tmp 133) (.tmp 135), (some (132, true))⟩,
      ⟨some 137, .mv (.tmp 15), (some (132, true))⟩,
      ⟨some 138, .bin .eql (.tmp 136) (.tmp 137), (some (132, true))⟩,
      ⟨some 139, .pick (.tmp 132) (.tmp 138) (.con (.bool false)), none⟩])
    (.cond (.tmp 139) (.seq (.seq (.region [⟨some 16, .mv (.con (.int .i64 2)), none⟩])
    (.block 7 (.loop true [true, false, false, false, false, false, false, true, true, true, false, false, false, false, true, true, true] [true, false, false, false, false, false, false, true, true, true, false, false, false, false, true, true] B96L29)))
    (.seq (.region [⟨some 157, .mv (.tmp 9), none⟩,
      ⟨some 158, .mv (.tmp 8), none⟩,
      ⟨some 159, .bin .sub (.tmp 157) (.tmp 158), none⟩,
      ⟨some 4, .mv (.tmp 159), none⟩])
    (.ret))) (.skip))))
  (.region [⟨some 125, .mv (.tmp 9), none⟩,
    ⟨some 126, .bin .add (.tmp 125) (.con (.int .i64 1)), none⟩,
    ⟨some 9, .mv (.tmp 126), none⟩]))
def B96 : ACode :=
  .seq (.region [⟨some 4, .mv (.con (.int .i64 0)), none⟩])
  (.block 0 (.seq (.region [⟨some 161, .mv (.tmp 1), none⟩,
      ⟨some 162, .bin .leq (.con (.int .i32 0)) (.tmp 161), none⟩,
      ⟨some 163, .mv (.tmp 162), none⟩,
      ⟨some 164, .mv (.tmp 1), (some (163, true))⟩,
      ⟨some 165, .bin .lss (.tmp 164) (.con (.int .i32 128)), (some (163, true))⟩,
      ⟨some 166, .pick (.tmp 163) (.tmp 165) (.con (.bool false)), none⟩,
      ⟨some 160, .mv (.tmp 166), none⟩])
    (.cond (.tmp 160) (.seq (.region [⟨some 167, .mv (.tmp 0), none⟩,
      ⟨some 168, .mv (.tmp 1), none⟩,
      ⟨some 169, .cvt .u8 (.tmp 168), none⟩,
      ⟨some 170, .call (.fn 87) [(.tmp 167), (.tmp 169)], none⟩,
      ⟨some 4, .mv (.tmp 170), none⟩])
    (.ret)) (.seq (.region [⟨some 172, .mv (.tmp 1), none⟩,
      ⟨some 173, .bin .eql (.tmp 172) (.con (.int .i32 65533)), none⟩,
      ⟨some 171, .mv (.tmp 173), none⟩])
    (.cond (.tmp 171) (.seq (.seq (.region [⟨some 174, .mv (.tmp 0), none⟩,
      ⟨some 175, .rng (.tmp 174), none⟩])
    (.block 9 (.loop true [false, false, false, false, false, false, false, false, false, false, false, false, false, false, false, false, false, false, false, false, false, false, false, false, false, false, false, false, false, false, false, false, false, false, false, false, false, false, false, false, false, false, false, false, false, false, false, false, false, false, false, false, false, false, false, false, false, false, false, false, false, false, false, false, false, false, false, false, false, false, false, false, false, false, false, false, false, false, false, false, false, false, false, false, false, false, false, false, false, false, false, false, false, false, false, false, false, false, false, false, false, false, false, false, false, false, false, false, false, false, false, false, false, false, false, false, false, false, false, false, false, false, false, false, false, false, false, false, false, false, false, false, false, false, false, false, false, false, false, false, false, false, false, false, false, false, false, false, false, false, false, false, false, false, false, false, false, false, false, false, false, false, false, false, false, false, false, false, false, false, false, false, false, false, false, true] [false, false, false, false, true] B96L38)))
    (.seq (.region [⟨some 4, .mv (.con (.int .i64 (-1))), none⟩])
    (.ret))) (.seq (.region [⟨some 184, .mv (.tmp 1), none⟩,
      ⟨some 185, .call (.fn 75) [(.tmp 184)], none⟩,
      ⟨some 186, .un .not (.tmp 185), none⟩,
      ⟨some 183, .mv (.tmp 186), none⟩])
    (.cond (.tmp 183) (.seq (.region [⟨some 4, .mv (.con (.int .i64 (-1))), none⟩])
    (.ret)) (.seq (.region [⟨some 17, .mv (.tmp 1), none⟩,
      ⟨some 18, .rstr (.tmp 17), none⟩,
      ⟨some 7, .mv (.tmp 18), none⟩])
    (.seq (.region [⟨some 19, .mv (.tmp 7), none⟩,
      ⟨some 20, .len true (.tmp 19), none⟩,
      ⟨some 21, .bin .sub (.tmp 20) (.con (.int .i64 1)), none⟩,
      ⟨some 8, .mv (.tmp 21), none⟩])
    (.seq (.region [⟨some 22, .mv (.tmp 8), none⟩,
      ⟨some 9, .mv (.tmp 22), none⟩])
    (.seq (.region [⟨some 10, .mv (.con (.int .i64 0)), none⟩])
    (.seq (.block 1 (.loop true [true, false, false, false, false, false, false, true, true, true] [false, false, false, false, true] B96L5))
    (.seq (.seq (.region [⟨some 4, .mv (.con (.int .i64 (-1))), none⟩])
    (.ret))
    (.seq (.skip)
    (.seq (.cond (.con (.bool true)) (.seq (.region [⟨some 99, .mv (.tmp 0), none⟩,
      ⟨some 100, .mv (.tmp 9), none⟩,
      ⟨some 101, .mv (.tmp 8), none⟩,
      ⟨some 102, .bin .sub (.tmp 100) (.tmp 101), none⟩,
      ⟨some 103, .slcStr (.tmp 99) (some (.tmp 102)) none, none⟩,
      ⟨some 104, .mv (.tmp 1), none⟩,
      ⟨some 105, .rstr (.tmp 104), none⟩,
      ⟨some 106, .call (.fn 106) [(.tmp 103), (.tmp 105)], none⟩,
      ⟨some 13, .mv (.tmp 106), none⟩])
    (.seq (.region [⟨some 107, .mv (.tmp 13), none⟩,
      ⟨some 108, .bin .geq (.tmp 107) (.con (.int .i64 0)), none⟩])
    (.cond (.tmp 108) (.seq (.region [⟨some 109, .mv (.tmp 9), none⟩,
      ⟨some 110, .mv (.tmp 13), none⟩,
      ⟨some 111, .bin .add (.tmp 109) (.tmp 110), none⟩,
      ⟨some 112, .mv (.tmp 8), none⟩,
      ⟨some 113, .bin .sub (.tmp 111) (.tmp 112), none⟩,
      ⟨some 4, .mv (.tmp 113), none⟩])
    (.ret)) (.skip)))) (.seq (.region [⟨some 114, .mv (.tmp 7), none⟩,
      ⟨some 115, .mv (.tmp 8), none⟩,
      ⟨some 116, .idxStr (.tmp 114) (.tmp 115), none⟩,
      ⟨some 14, .mv (.tmp 116), none⟩])
    (.seq (.region [⟨some 117, .mv (.tmp 7), none⟩,
      ⟨some 118, .mv (.tmp 8), none⟩,
      ⟨some 119, .bin .sub (.tmp 118) (.con (.int .i64 1)), none⟩,
      ⟨some 120, .idxStr (.tmp 117) (.tmp 119), none⟩,
      ⟨some 15, .mv (.tmp 120), none⟩])
    (.seq (.skip)
    (.block 5 (.loop true [true, false, false, false, false, false, false, true, true, true, false, false, false, false, true, true] [false, false, false, false, true] B96L25))))))
    (.seq (.region [⟨some 4, .mv (.con (.int .i64 (-1))), none⟩])
    (.ret)))))))))))))))))
def A96 : AFunc := { ntmps := 187, results := [.tmp 4], body := B96, coe := true, keep := 0 }
theorem tr96 : trFunc Tryd.prog M96 true Tryd.f96 = some A96 := by kernel_rfl

/-- internal/stringslite.IndexByte -/
def M97 : Marks := { cut := fun _ => true, hd := fun | _ => [], ex := fun | _ => [], imm := fun | _ => false }
def B97 : ACode :=
  .seq (.region [⟨some 4, .mv (.con (.int .i64 0)), none⟩])
  (.seq (.region [⟨some 5, .mv (.tmp 0), none⟩,
    ⟨some 6, .mv (.tmp 1), none⟩,
    ⟨some 7, .idxB (.tmp 5) (.tmp 6), none⟩,
    ⟨some 4, .mv (.tmp 7), none⟩])
  (.ret))
def A97 : AFunc := { ntmps := 8, results := [.tmp 4], body := B97, coe := true, keep := 0 }
theorem tr97 : trFunc Tryd.prog M97 true Tryd.f97 = some A97 := by kernel_rfl

/-- unicode/utf8.appendRuneNonASCII -/
def M104 : Marks := { cut := fun _ => true, hd := fun | _ => [], ex := fun | _ => [], imm := fun | 4 => true | 9 => true | 23 => true | 48 => true | 76 => true | _ => false }
def B104 : ACode :=
  .seq (.region [⟨some 4, .mv (.con (.slice 1 [])), none⟩])
  (.seq (.region [⟨some 6, .mv (.tmp 1), none⟩,
    ⟨some 7, .cvt .u32 (.tmp 6), none⟩,
    ⟨some 5, .mv (.tmp 7), none⟩])
  (.block 0 (.seq (.region [⟨some 12, .mv (.tmp 5), none⟩,
      ⟨some 13, .bin .leq (.tmp 12) (.con (.int .u32 2047)), none⟩,
      ⟨some 11, .mv (.tmp 13), none⟩])
    (.cond (.tmp 11) (.seq (.region [⟨some 14, .mv (.tmp 0), none⟩,
      ⟨some 15, .mv (.tmp 1), none⟩,
      ⟨some 16, .bin .shr (.tmp 15) (.con (.int .u64 6)), none⟩,
      ⟨some 17, .cvt .u8 (.tmp 16), none⟩,
      ⟨some 18, .bin .or (.con (.int .u8 192)) (.tmp 17), none⟩,
      ⟨some 19, .mv (.tmp 1), none⟩,
      ⟨some 20, .cvt .u8 (.tmp 19), none⟩,
      ⟨some 21, .bin .and (.tmp 20) (.con (.int .u8 63)), none⟩,
      ⟨some 22, .bin .or (.con (.int .u8 128)) (.tmp 21), none⟩,
      ⟨some 23, .lit true 5 1 2 [.int .u8 0] [(0, (.tmp 18)), (1, (.tmp 22))], none⟩,
      ⟨some 24, .app false 5 1 1 (.tmp 14) (.tmp 23), none⟩,
      ⟨some 4, .mv (.tmp 24), none⟩])
    (.ret)) (.seq (.seq (.region [⟨some 26, .mv (.tmp 5), none⟩,
      ⟨some 27, .bin .lss (.tmp 26) (.con (.int .u32 55296)), none⟩,
      ⟨some 25, .mv (.tmp 27), none⟩])
    (.cond (.tmp 25) (.skip) (.region [⟨some 28, .mv (.tmp 5), none⟩,
      ⟨some 29, .bin .lss (.con (.int .u32 57343)) (.tmp 28), none⟩,
      ⟨some 30, .mv (.tmp 29), none⟩,
      ⟨some 31, .mv (.tmp 5), (some (30, true))⟩,
      ⟨some 32, .bin .leq (.tmp 31) (.con (.int .u32 65535)), (some (30, true))⟩,
      ⟨some 33, .pick (.tmp 30) (.tmp 32) (.con (.bool false)), none⟩,
      ⟨some 25, .mv (.tmp 33), none⟩])))
    (.cond (.tmp 25) (.seq (.region [⟨some 34, .mv (.tmp 0), none⟩,
      ⟨some 35, .mv (.tmp 1), none⟩,
      ⟨some 36, .bin .shr (.tmp 35) (.con (.int .u64 12)), none⟩,
      ⟨some 37, .cvt .u8 (.tmp 36), none⟩,
      ⟨some 38, .bin .or (.con (.int .u8 224)) (.tmp 37), none⟩,
      ⟨some 39, .mv (.tmp 1), none⟩,
      ⟨some 40, .bin .shr (.tmp 39) (.con (.int .u64 6)), none⟩,
      ⟨some 41, .cvt .u8 (.tmp 40), none⟩,
      ⟨some 42, .bin .and (.tmp 41) (.con (.int .u8 63)), none⟩,
      ⟨some 43, .bin .or (.con (.int .u8 128)) (.tmp 42), none⟩,
      ⟨some 44, .mv (.tmp 1), none⟩,
      ⟨some 45, .cvt .u8 (.tmp 44), none⟩,
      ⟨some 46, .bin .and (.tmp 45) (.con (.int .u8 63)), none⟩,
      ⟨some 47, .bin .or (.con (.int .u8 128)) (.tmp 46), none⟩,
      ⟨some 48, .lit true 5 1 3 [.int .u8 0] [(0, (.tmp 38)), (1, (.tmp 43)), (2, (.tmp 47))], none⟩,
      ⟨some 49, .app false 5 1 1 (.tmp 34) (.tmp 48), none⟩,
      ⟨some 4, .mv (.tmp 49), none⟩])
    (.ret)) (.seq (.region [⟨some 51, .mv (.tmp 5), none⟩,
      ⟨some 52, .bin .gtr (.tmp 51) (.con (.int .u32 65535)), none⟩,
      ⟨some 53, .mv (.tmp 52), none⟩,
      ⟨some 54, .mv (.tmp 5), (some (53, true))⟩,
      ⟨some 55, .bin .leq (.tmp 54) (.con (.int .u32 1114111)), (some (53, true))⟩,
      ⟨some 56, .pick (.tmp 53) (.tmp 55) (.con (.bool false)), none⟩,
      ⟨some 50, .mv (.tmp 56), none⟩])
    (.cond (.tmp 50) (.seq (.region [⟨some 57, .mv (.tmp 0), none⟩,
      ⟨some 58, .mv (.tmp 1), none⟩,
      ⟨some 59, .bin .shr (.tmp 58) (.con (.int .u64 18)), none⟩,
      ⟨some 60, .cvt .u8 (.tmp 59), none⟩,
      ⟨some 61, .bin .or (.con (.int .u8 240)) (.tmp 60), none⟩,
      ⟨some 62, .mv (.tmp 1), none⟩,
      ⟨some 63, .bin .shr (.tmp 62) (.con (.int .u64 12)), none⟩,
      ⟨some 64, .cvt .u8 (.tmp 63), none⟩,
      ⟨some 65, .bin .and (.tmp 64) (.con (.int .u8 63)), none⟩,
      ⟨some 66, .bin .or (.con (.int .u8 128)) (.tmp 65), none⟩,
      ⟨some 67, .mv (.tmp 1), none⟩,
      ⟨some 68, .bin .shr (.tmp 67) (.con (.int .u64 6)), none⟩,
      ⟨some 69, .cvt .u8 (.tmp 68), none⟩,
      ⟨some 70, .bin .and (.tmp 69) (.con (.int .u8 63)), none⟩,
      ⟨some 71, .bin .or (.con (.int .u8 128)) (.tmp 70), none⟩,
      ⟨some 72, .mv (.tmp 1), none⟩,
      ⟨some 73, .cvt .u8 (.tmp 72), none⟩,
      ⟨some 74, .bin .and (.tmp 73) (.con (.int .u8 63)), none⟩,
      ⟨some 75, .bin .or (.con (.int .u8 128)) (.tmp 74), none⟩,
      ⟨some 76, .lit true 5 1 4 [.int .u8 0] [(0, (.tmp 61)), (1, (.tmp 66)), (2, (.tmp 71)), (3, (.tmp 75))], none⟩,
      ⟨some 77, .app false 5 1 1 (.tmp 57) (.tmp 76), none⟩,
      ⟨some 4, .mv (.tmp 77), none⟩])
    (.ret)) (.seq (.region [⟨some 8, .mv (.tmp 0), none⟩,
      ⟨some 9, .lit true 5 1 3 [.int .u8 0] [(0, (.con (.int .u8 239))), (1, (.con (.int .u8 191))), (2, (.con (.int .u8 189)))], none⟩,
      ⟨some 10, .app false 5 1 1 (.tmp 8) (.tmp 9), none⟩,
      ⟨some 4, .mv (.tmp 10), none⟩])
    (.ret))))))))))
def A104 : AFunc := { ntmps := 78, results := [.tmp 4], body := B104, coe := false, keep := 0 }
theorem tr104 : trFunc Tryd.prog M104 false Tryd.f104 = some A104 := by kernel_rfl

/-- The functions' deep codes, and contracts of functions without. -/
def ext : FuncId → Option (List DV → List Res → Option DOut) := fun | 41 => some (xFormat) | 43 => some (xValid) | 53 => some (xCopy 76) | _ => none
def env : Env := { af := fun | 4 => some A4 | 5 => some A5 | 6 => some A6 | 7 => some A7 | 12 => some A12 | 13 => some A13 | 14 => some A14 | 15 => some A15 | 16 => some A16 | 17 => some A17 | 18 => some A18 | 19 => some A19 | 20 => some A20 | 21 => some A21 | 22 => some A22 | 26 => some A26 | 28 => some A28 | 31 => some A31 | 32 => some A32 | 33 => some A33 | 34 => some A34 | 35 => some A35 | 36 => some A36 | 37 => some A37 | 38 => some A38 | 39 => some A39 | 40 => some A40 | 42 => some A42 | 44 => some A44 | 45 => some A45 | 46 => some A46 | 47 => some A47 | 48 => some A48 | 49 => some A49 | 50 => some A50 | 51 => some A51 | 56 => some A56 | 57 => some A57 | 58 => some A58 | 59 => some A59 | 60 => some A60 | 61 => some A61 | 62 => some A62 | 63 => some A63 | 64 => some A64 | 65 => some A65 | 66 => some A66 | 67 => some A67 | 68 => some A68 | 69 => some A69 | 70 => some A70 | 71 => some A71 | 72 => some A72 | 75 => some A75 | 76 => some A76 | 77 => some A77 | 82 => some A82 | 83 => some A83 | 84 => some A84 | 85 => some A85 | 86 => some A86 | 87 => some A87 | 88 => some A88 | 89 => some A89 | 95 => some A95 | 96 => some A96 | 97 => some A97 | 104 => some A104 | _ => none, ext := ext }
theorem env_ok {G : Glob} (hx : ExtOk Tryd.prog G ext) : EnvOk Tryd.prog G env where
  af := fun g F h => by
    unfold env at h
    simp only at h
    split at h
    · cases h; exact ⟨Tryd.f4, M4, true, by kernel_rfl, by kernel_rfl, tr4⟩
    · cases h; exact ⟨Tryd.f5, M5, true, by kernel_rfl, by kernel_rfl, tr5⟩
    · cases h; exact ⟨Tryd.f6, M6, true, by kernel_rfl, by kernel_rfl, tr6⟩
    · cases h; exact ⟨Tryd.f7, M7, true, by kernel_rfl, by kernel_rfl, tr7⟩
    · cases h; exact ⟨Tryd.f12, M12, true, by kernel_rfl, by kernel_rfl, tr12⟩
    · cases h; exact ⟨Tryd.f13, M13, true, by kernel_rfl, by kernel_rfl, tr13⟩
    · cases h; exact ⟨Tryd.f14, M14, true, by kernel_rfl, by kernel_rfl, tr14⟩
    · cases h; exact ⟨Tryd.f15, M15, true, by kernel_rfl, by kernel_rfl, tr15⟩
    · cases h; exact ⟨Tryd.f16, M16, true, by kernel_rfl, by kernel_rfl, tr16⟩
    · cases h; exact ⟨Tryd.f17, M17, true, by kernel_rfl, by kernel_rfl, tr17⟩
    · cases h; exact ⟨Tryd.f18, M18, true, by kernel_rfl, by kernel_rfl, tr18⟩
    · cases h; exact ⟨Tryd.f19, M19, true, by kernel_rfl, by kernel_rfl, tr19⟩
    · cases h; exact ⟨Tryd.f20, M20, true, by kernel_rfl, by kernel_rfl, tr20⟩
    · cases h; exact ⟨Tryd.f21, M21, true, by kernel_rfl, by kernel_rfl, tr21⟩
    · cases h; exact ⟨Tryd.f22, M22, true, by kernel_rfl, by kernel_rfl, tr22⟩
    · cases h; exact ⟨Tryd.f26, M26, true, by kernel_rfl, by kernel_rfl, tr26⟩
    · cases h; exact ⟨Tryd.f28, M28, true, by kernel_rfl, by kernel_rfl, tr28⟩
    · cases h; exact ⟨Tryd.f31, M31, true, by kernel_rfl, by kernel_rfl, tr31⟩
    · cases h; exact ⟨Tryd.f32, M32, true, by kernel_rfl, by kernel_rfl, tr32⟩
    · cases h; exact ⟨Tryd.f33, M33, true, by kernel_rfl, by kernel_rfl, tr33⟩
    · cases h; exact ⟨Tryd.f34, M34, true, by kernel_rfl, by kernel_rfl, tr34⟩
    · cases h; exact ⟨Tryd.f35, M35, true, by kernel_rfl, by kernel_rfl, tr35⟩
    · cases h; exact ⟨Tryd.f36, M36, true, by kernel_rfl, by kernel_rfl, tr36⟩
    · cases h; exact ⟨Tryd.f37, M37, true, by kernel_rfl, by kernel_rfl, tr37⟩
    · cases h; exact ⟨Tryd.f38, M38, true, by kernel_rfl, by kernel_rfl, tr38⟩
    · cases h; exact ⟨Tryd.f39, M39, true, by kernel_rfl, by kernel_rfl, tr39⟩
    · cases h; exact ⟨Tryd.f40, M40, true, by kernel_rfl, by kernel_rfl, tr40⟩
    · cases h; exact ⟨Tryd.f42, M42, true, by kernel_rfl, by kernel_rfl, tr42⟩
    · cases h; exact ⟨Tryd.f44, M44, true, by kernel_rfl, by kernel_rfl, tr44⟩
    · cases h; exact ⟨Tryd.f45, M45, true, by kernel_rfl, by kernel_rfl, tr45⟩
    · cases h; exact ⟨Tryd.f46, M46, true, by kernel_rfl, by kernel_rfl, tr46⟩
    · cases h; exact ⟨Tryd.f47, M47, true, by kernel_rfl, by kernel_rfl, tr47⟩
    · cases h; exact ⟨Tryd.f48, M48, true, by kernel_rfl, by kernel_rfl, tr48⟩
    · cases h; exact ⟨Tryd.f49, M49, true, by kernel_rfl, by kernel_rfl, tr49⟩
    · cases h; exact ⟨Tryd.f50, M50, true, by kernel_rfl, by kernel_rfl, tr50⟩
    · cases h; exact ⟨Tryd.f51, M51, true, by kernel_rfl, by kernel_rfl, tr51⟩
    · cases h; exact ⟨Tryd.f56, M56, true, by kernel_rfl, by kernel_rfl, tr56⟩
    · cases h; exact ⟨Tryd.f57, M57, true, by kernel_rfl, by kernel_rfl, tr57⟩
    · cases h; exact ⟨Tryd.f58, M58, true, by kernel_rfl, by kernel_rfl, tr58⟩
    · cases h; exact ⟨Tryd.f59, M59, true, by kernel_rfl, by kernel_rfl, tr59⟩
    · cases h; exact ⟨Tryd.f60, M60, true, by kernel_rfl, by kernel_rfl, tr60⟩
    · cases h; exact ⟨Tryd.f61, M61, true, by kernel_rfl, by kernel_rfl, tr61⟩
    · cases h; exact ⟨Tryd.f62, M62, true, by kernel_rfl, by kernel_rfl, tr62⟩
    · cases h; exact ⟨Tryd.f63, M63, true, by kernel_rfl, by kernel_rfl, tr63⟩
    · cases h; exact ⟨Tryd.f64, M64, true, by kernel_rfl, by kernel_rfl, tr64⟩
    · cases h; exact ⟨Tryd.f65, M65, true, by kernel_rfl, by kernel_rfl, tr65⟩
    · cases h; exact ⟨Tryd.f66, M66, true, by kernel_rfl, by kernel_rfl, tr66⟩
    · cases h; exact ⟨Tryd.f67, M67, true, by kernel_rfl, by kernel_rfl, tr67⟩
    · cases h; exact ⟨Tryd.f68, M68, true, by kernel_rfl, by kernel_rfl, tr68⟩
    · cases h; exact ⟨Tryd.f69, M69, true, by kernel_rfl, by kernel_rfl, tr69⟩
    · cases h; exact ⟨Tryd.f70, M70, true, by kernel_rfl, by kernel_rfl, tr70⟩
    · cases h; exact ⟨Tryd.f71, M71, true, by kernel_rfl, by kernel_rfl, tr71⟩
    · cases h; exact ⟨Tryd.f72, M72, true, by kernel_rfl, by kernel_rfl, tr72⟩
    · cases h; exact ⟨Tryd.f75, M75, true, by kernel_rfl, by kernel_rfl, tr75⟩
    · cases h; exact ⟨Tryd.f76, M76, true, by kernel_rfl, by kernel_rfl, tr76⟩
    · cases h; exact ⟨Tryd.f77, M77, true, by kernel_rfl, by kernel_rfl, tr77⟩
    · cases h; exact ⟨Tryd.f82, M82, true, by kernel_rfl, by kernel_rfl, tr82⟩
    · cases h; exact ⟨Tryd.f83, M83, true, by kernel_rfl, by kernel_rfl, tr83⟩
    · cases h; exact ⟨Tryd.f84, M84, true, by kernel_rfl, by kernel_rfl, tr84⟩
    · cases h; exact ⟨Tryd.f85, M85, true, by kernel_rfl, by kernel_rfl, tr85⟩
    · cases h; exact ⟨Tryd.f86, M86, true, by kernel_rfl, by kernel_rfl, tr86⟩
    · cases h; exact ⟨Tryd.f87, M87, true, by kernel_rfl, by kernel_rfl, tr87⟩
    · cases h; exact ⟨Tryd.f88, M88, true, by kernel_rfl, by kernel_rfl, tr88⟩
    · cases h; exact ⟨Tryd.f89, M89, true, by kernel_rfl, by kernel_rfl, tr89⟩
    · cases h; exact ⟨Tryd.f95, M95, false, by kernel_rfl, by kernel_rfl, tr95⟩
    · cases h; exact ⟨Tryd.f96, M96, true, by kernel_rfl, by kernel_rfl, tr96⟩
    · cases h; exact ⟨Tryd.f97, M97, true, by kernel_rfl, by kernel_rfl, tr97⟩
    · cases h; exact ⟨Tryd.f104, M104, false, by kernel_rfl, by kernel_rfl, tr104⟩
    · cases h
  ext := hx

end Go.Proofs.YtoadpaaghjomnaaDoor.Codes
