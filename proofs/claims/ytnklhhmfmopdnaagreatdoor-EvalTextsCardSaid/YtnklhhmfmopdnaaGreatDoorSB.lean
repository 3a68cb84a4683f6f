/-
  The deep codes of functions, each with the fact that it is that of the function's code. Written by wip/gen/deep.py.
  Conditions: none.
-/
import Derived.Test.YtnklhhmfmopdnaaGreatDoorMF
import Derived.Test.YtnklhhmfmopdnaaGreatDoorSA
import Derived.Test.YtnklhhmfmopdnaaGreatDoorProg
import Derived.KernelRfl
set_option maxRecDepth 100000
namespace Go.Proofs.YtnklhhmfmopdnaaGreatDoor.Codes
open Go.Deepv
def M114 : Marks := { cut := fun _ => true, hd := fun | _ => [], ex := fun | _ => [], imm := fun | _ => false }
def B114 : ACode :=
 .seq (.region [oP 7 (.box false (tP 3)),
 oP 8 (.mv (bP false))])
 (.seq (.region [oP 9 (.mv (tP 0)),
 oP 10 (.len false (tP 9)),
 oP 11 (.mv (tP 1)),
 oP 12 (.bin .geq (tP 10) (tP 11)),
 oP 13 (.mv (tP 12)),
 gP 14 13 true (.mv (tP 0)),
 gP 15 13 true (.len false (tP 14)),
 gP 16 13 true (.mv (tP 2)),
 gP 17 13 true (.bin .leq (tP 15) (tP 16)),
 oP 18 (.pick (tP 13) (tP 17) (bP false)),
 oP 19 (.mv (tP 18)),
 gP 20 19 true (.mv (tP 0)),
 gP 21 19 true (.mkf (.func 154) [] [(tP 7)]),
 gP 22 19 true (.call (.fn 90) [(tP 20), (tP 21)]),
 gP 23 19 true (.un .not (tP 22)),
 oP 24 (.pick (tP 19) (tP 23) (bP false)),
 oP 8 (.mv (tP 24))])
 (.ret))
def A114 : AFunc := { ntmps := 25, results := [.tmp 8], body := B114, coe := true, keep := 0 }
theorem tr114 : trFunc Tryz.prog M114 true Tryz.f114 = some A114 := by kernel_rfl
def M115 : Marks := { cut := fun _ => true, hd := fun | _ => [], ex := fun | _ => [], imm := fun | 1 => true | _ => false }
def B115 : ACode :=
 .seq (.region [oP 1 (.box true (tP 0)),
 oP 2 (.mv (bP false))])
 (.seq (.region [oP 3 (.addOff 2 (tP 1)),
 oP 4 (.load none (tP 3)),
 oP 5 (.call (.fn 155) [(tP 4)]),
 oP 6 (.mv (tP 5)),
 gP 7 6 true (.addOff 3 (tP 1)),
 gP 8 6 true (.load (some 4) (tP 7)),
 gP 9 6 true (.call (.fn 153) [(tP 8)]),
 oP 10 (.pick (tP 6) (tP 9) (bP false)),
 oP 11 (.mv (tP 10)),
 gP 12 11 true (.addOff 7 (tP 1)),
 gP 13 11 true (.load none (tP 12)),
 gP 14 11 true (.bin .geq (tP 13) (iP 0)),
 oP 15 (.pick (tP 11) (tP 14) (bP false)),
 oP 16 (.mv (tP 15)),
 gP 17 16 true (.addOff 7 (tP 1)),
 gP 18 16 true (.load none (tP 17)),
 gP 19 16 true (.bin .leq (tP 18) (iP 64)),
 oP 20 (.pick (tP 16) (tP 19) (bP false)),
 oP 21 (.mv (tP 20)),
 gP 22 21 true (.addOff 8 (tP 1)),
 gP 23 21 true (.load (some 8) (tP 22)),
 gP 24 21 true (.call (.fn 94) [(tP 23)]),
 oP 25 (.pick (tP 21) (tP 24) (bP false)),
 oP 2 (.mv (tP 25))])
 (.ret))
def A115 : AFunc := { ntmps := 26, results := [.tmp 2], body := B115, coe := true, keep := 0 }
theorem tr115 : trFunc Tryz.prog M115 true Tryz.f115 = some A115 := by kernel_rfl
abbrev H116L2 : List Bool := [true, true, false, false, false, false, false, true, true]
abbrev X116L2 : List Bool := [false, false, false, false, true]
def M116 : Marks := { cut := fun _ => true, hd := fun | 2 => H116L2 | _ => [], ex := fun | 2 => X116L2 | _ => [], imm := fun | _ => false }
def B116L2 : ACode :=
 .seq (.region [oP 9 (.bin .lss (tP 8) (tP 7))])
 (.seq (.cond (tP 9) (.skip) (.exit 0))
 (.seq (.block 1 (.seq (.region [oP 10 (.mv (tP 8)),
 oP 5 (.mv (tP 10))])
 (.seq (.region [oP 11 (.mv (tP 1)),
 oP 12 (.mv (tP 0)),
 oP 13 (.mv (tP 5)),
 oP 14 (.idxAddr 2 (tP 12) (tP 13)),
 oP 15 (.load (some 2) (tP 14)),
 oP 16 (.call (tP 11) [(tP 15)])])
 (.cond (tP 16) (.seq (.region [oP 17 (.mv (tP 5)),
 oP 4 (.mv (tP 17))])
 (.ret)) (.skip)))))
 (.region [oP 18 (.bin .add (tP 8) (iP 1)),
 oP 8 (.mv (tP 18))])))
def B116 : ACode :=
 .seq (.region [oP 4 (.mv (iP 0))])
 (.seq (.seq (.region [oP 6 (.mv (tP 0)),
 oP 7 (.len false (tP 6)),
 oP 8 (.mv (iP 0))])
 (.block 0 (.loop true H116L2 X116L2 B116L2)))
 (.seq (.region [oP 4 (.mv (iP (-1)))])
 (.ret)))
def A116 : AFunc := { ntmps := 19, results := [.tmp 4], body := B116, coe := true, keep := 0 }
theorem tr116 : trFunc Tryz.prog M116 true Tryz.f116 = some A116 := by kernel_rfl
def M117 : Marks := { cut := fun _ => true, hd := fun | _ => [], ex := fun | _ => [], imm := fun | _ => false }
def B117 : ACode :=
 .seq (.region [oP 3 (.box false (tP 1)),
 oP 4 (.mv (iP 0))])
 (.seq (.region [oP 5 (.mv (tP 0)),
 oP 6 (.mkf (.func 157) [] [(tP 3)]),
 oP 7 (.call (.fn 156) [(tP 5), (tP 6)]),
 oP 4 (.mv (tP 7))])
 (.ret))
def A117 : AFunc := { ntmps := 8, results := [.tmp 4], body := B117, coe := true, keep := 0 }
theorem tr117 : trFunc Tryz.prog M117 true Tryz.f117 = some A117 := by kernel_rfl
def M118 : Marks := { cut := fun _ => true, hd := fun | _ => [], ex := fun | _ => [], imm := fun | _ => false }
def B118 : ACode :=
 .seq (.region [oP 4 (.mv (bP false))])
 (.seq (.region [oP 5 (.mv (tP 0)),
 oP 6 (.mv (tP 1)),
 oP 7 (.call (.fn 158) [(tP 5), (tP 6)]),
 oP 8 (.bin .geq (tP 7) (iP 0)),
 oP 4 (.mv (tP 8))])
 (.ret))
def A118 : AFunc := { ntmps := 9, results := [.tmp 4], body := B118, coe := true, keep := 0 }
theorem tr118 : trFunc Tryz.prog M118 true Tryz.f118 = some A118 := by kernel_rfl
def M119 : Marks := { cut := fun _ => true, hd := fun | _ => [], ex := fun | _ => [], imm := fun | 2 => true | _ => false }
def B119 : ACode :=
 .seq (.region [oP 2 (.box true (tP 0)),
 oP 3 (.mv (bP false))])
 (.seq (.region [oP 4 (.load none (tP 1)),
 oP 5 (.load (some 3) (tP 2)),
 oP 6 (.call (.fn 82) [(tP 4), (tP 5)]),
 oP 7 (.un .not (tP 6)),
 oP 3 (.mv (tP 7))])
 (.ret))
def A119 : AFunc := { ntmps := 8, results := [.tmp 3], body := B119, coe := true, keep := 0 }
theorem tr119 : trFunc Tryz.prog M119 true Tryz.f119 = some A119 := by kernel_rfl
def M120 : Marks := { cut := fun _ => true, hd := fun | _ => [], ex := fun | _ => [], imm := fun | 1 => true | _ => false }
def B120 : ACode :=
 .seq (.region [oP 1 (.box true (tP 0)),
 oP 2 (.mv (.con (.nilf)))])
 (.seq (.region [oP 3 (.mkf (.func 159) [] [(tP 1)]),
 oP 2 (.mv (tP 3))])
 (.ret))
def A120 : AFunc := { ntmps := 4, results := [.tmp 2], body := B120, coe := true, keep := 0 }
theorem tr120 : trFunc Tryz.prog M120 true Tryz.f120 = some A120 := by kernel_rfl
def M121 : Marks := { cut := fun _ => true, hd := fun | _ => [], ex := fun | _ => [], imm := fun | 2 => true | _ => false }
def B121 : ACode :=
 .seq (.region [oP 2 (.box true (tP 0)),
 oP 3 (.mv (bP false))])
 (.seq (.region [oP 4 (.load none (tP 1)),
 oP 5 (.addOff 1 (tP 2)),
 oP 6 (.load none (tP 5)),
 oP 7 (.call (.fn 122) [(tP 4), (tP 6)]),
 oP 3 (.mv (tP 7))])
 (.ret))
def A121 : AFunc := { ntmps := 8, results := [.tmp 3], body := B121, coe := true, keep := 0 }
theorem tr121 : trFunc Tryz.prog M121 true Tryz.f121 = some A121 := by kernel_rfl
def M122 : Marks := { cut := fun _ => true, hd := fun | _ => [], ex := fun | _ => [], imm := fun | _ => false }
def B122 : ACode :=
 .seq (.region [oP 2 (.box false (tP 0)),
 oP 4 (.mv (bP false))])
 (.seq (.region [oP 5 (.mv (tP 1)),
 oP 6 (.mkf (.func 160) [] [(tP 2)]),
 oP 7 (.call (.fn 118) [(tP 5), (tP 6)]),
 oP 8 (.un .not (tP 7)),
 oP 4 (.mv (tP 8))])
 (.ret))
def A122 : AFunc := { ntmps := 9, results := [.tmp 4], body := B122, coe := true, keep := 0 }
theorem tr122 : trFunc Tryz.prog M122 true Tryz.f122 = some A122 := by kernel_rfl
def M123 : Marks := { cut := fun _ => true, hd := fun | _ => [], ex := fun | _ => [], imm := fun | _ => false }
def B123 : ACode :=
 .seq (.region [oP 4 (.mv (bP false))])
 (.seq (.region [oP 5 (.mv (tP 0)),
 oP 6 (.mv (tP 1)),
 oP 7 (.call (.fn 162) [(tP 5), (tP 6)]),
 oP 8 (.bin .geq (tP 7) (iP 0)),
 oP 4 (.mv (tP 8))])
 (.ret))
def A123 : AFunc := { ntmps := 9, results := [.tmp 4], body := B123, coe := true, keep := 0 }
theorem tr123 : trFunc Tryz.prog M123 true Tryz.f123 = some A123 := by kernel_rfl
def M124 : Marks := { cut := fun _ => true, hd := fun | _ => [], ex := fun | _ => [], imm := fun | 2 => true | _ => false }
def B124 : ACode :=
 .seq (.region [oP 2 (.box true (tP 0)),
 oP 3 (.mv (bP false))])
 (.seq (.region [oP 4 (.addOff 2 (tP 2)),
 oP 5 (.load none (tP 4)),
 oP 6 (.addOff 2 (tP 1)),
 oP 7 (.load none (tP 6)),
 oP 8 (.bin .eql (tP 5) (tP 7)),
 oP 3 (.mv (tP 8))])
 (.ret))
def A124 : AFunc := { ntmps := 9, results := [.tmp 3], body := B124, coe := true, keep := 0 }
theorem tr124 : trFunc Tryz.prog M124 true Tryz.f124 = some A124 := by kernel_rfl
def M125 : Marks := { cut := fun _ => true, hd := fun | _ => [], ex := fun | _ => [], imm := fun | 4 => true | 5 => true | _ => false }
def B125 : ACode :=
 .seq (.region [oP 4 (.box true (tP 1)),
 oP 5 (.box true (tP 2)),
 oP 6 (.mv (.con (.nili)))])
 (.seq (.region [oP 10 (.mv (tP 0)),
 oP 11 (.load (some 8) (tP 4)),
 oP 12 (.call (.fn 95) [(tP 10), (tP 11)]),
 oP 9 (.mv (tP 12)),
 oP 13 (.ext 0 (tP 9)),
 oP 14 (.ext 1 (tP 9)),
 oP 7 (.alloc [.ok (.int .i64 0), .ok (.str ⟨#[]⟩), .error 3]),
 sP (.store 3 (tP 7) (tP 13)),
 oP 8 (.mv (tP 14))])
 (.seq (.seq (.region [oP 15 (.mv (tP 8)),
 oP 16 (.isnil 1 false (tP 15)),
 oP 17 (.mv (tP 16)),
 gP 18 17 true (.load (some 3) (tP 7)),
 gP 19 17 true (.load (some 3) (tP 5)),
 gP 20 17 true (.call (.fn 163) [(tP 18), (tP 19)]),
 gP 21 17 true (.un .not (tP 20)),
 oP 22 (.pick (tP 17) (tP 21) (bP false))])
 (.cond (tP 22) (.region [oP 23 (.addOff 1 (tP 4)),
 oP 24 (.load (some 2) (tP 23)),
 oP 25 (.call (.fn 87) [(iP 10), (tP 24)]),
 oP 8 (.mv (tP 25))]) (.skip)))
 (.seq (.region [oP 26 (.mv (tP 8)),
 oP 6 (.mv (tP 26))])
 (.ret))))
def A125 : AFunc := { ntmps := 27, results := [.tmp 6], body := B125, coe := true, keep := 0 }
theorem tr125 : trFunc Tryz.prog M125 true Tryz.f125 = some A125 := by kernel_rfl
def M126 : Marks := { cut := fun _ => true, hd := fun | _ => [], ex := fun | _ => [], imm := fun | 2 => true | _ => false }
def B126 : ACode :=
 .seq (.region [oP 2 (.box true (tP 0)),
 oP 3 (.mv (bP false))])
 (.seq (.region [oP 4 (.addOff 2 (tP 2)),
 oP 5 (.load none (tP 4)),
 oP 6 (.addOff 2 (tP 1)),
 oP 7 (.load none (tP 6)),
 oP 8 (.bin .eql (tP 5) (tP 7)),
 oP 3 (.mv (tP 8))])
 (.ret))
def A126 : AFunc := { ntmps := 9, results := [.tmp 3], body := B126, coe := true, keep := 0 }
theorem tr126 : trFunc Tryz.prog M126 true Tryz.f126 = some A126 := by kernel_rfl
def M127 : Marks := { cut := fun _ => true, hd := fun | _ => [], ex := fun | _ => [], imm := fun | _ => false }
def B127 : ACode :=
 .seq (.region [oP 2 (.alloc [.ok (.int .i64 0), .ok (.str ⟨#[]⟩), .error 3])])
 (.seq (.region [oP 3 (.mv (tP 0)),
 oP 4 (.build [.int .i64 0, .str ⟨#[]⟩, .slice 3 []] [(0, 1, (iP 2)), (1, 1, (tP 3))]),
 sP (.store 3 (tP 2) (tP 4))])
 (.ret))
def A127 : AFunc := { ntmps := 5, results := [.cell (some 3) 2], body := B127, coe := true, keep := 0 }
theorem tr127 : trFunc Tryz.prog M127 true Tryz.f127 = some A127 := by kernel_rfl
abbrev H128L2 : List Bool := [true, true, false, false, false, false, false, true, true]
abbrev X128L2 : List Bool := [false, false, false, false, true]
def M128 : Marks := { cut := fun _ => true, hd := fun | 2 => H128L2 | _ => [], ex := fun | 2 => X128L2 | _ => [], imm := fun | _ => false }
def B128L2 : ACode :=
 .seq (.region [oP 9 (.bin .lss (tP 8) (tP 7))])
 (.seq (.cond (tP 9) (.skip) (.exit 0))
 (.seq (.block 1 (.seq (.region [oP 10 (.mv (tP 8)),
 oP 5 (.mv (tP 10))])
 (.seq (.region [oP 11 (.mv (tP 1)),
 oP 12 (.mv (tP 0)),
 oP 13 (.mv (tP 5)),
 oP 14 (.idxAddr 16 (tP 12) (tP 13)),
 oP 15 (.load (some 16) (tP 14)),
 oP 16 (.call (tP 11) [(tP 15)])])
 (.cond (tP 16) (.seq (.region [oP 17 (.mv (tP 5)),
 oP 4 (.mv (tP 17))])
 (.ret)) (.skip)))))
 (.region [oP 18 (.bin .add (tP 8) (iP 1)),
 oP 8 (.mv (tP 18))])))
def B128 : ACode :=
 .seq (.region [oP 4 (.mv (iP 0))])
 (.seq (.seq (.region [oP 6 (.mv (tP 0)),
 oP 7 (.len false (tP 6)),
 oP 8 (.mv (iP 0))])
 (.block 0 (.loop true H128L2 X128L2 B128L2)))
 (.seq (.region [oP 4 (.mv (iP (-1)))])
 (.ret)))
def A128 : AFunc := { ntmps := 19, results := [.tmp 4], body := B128, coe := true, keep := 0 }
theorem tr128 : trFunc Tryz.prog M128 true Tryz.f128 = some A128 := by kernel_rfl
def M129 : Marks := { cut := fun _ => true, hd := fun | _ => [], ex := fun | _ => [], imm := fun | 3 => true | _ => false }
def B129 : ACode :=
 .seq (.region [oP 3 (.box true (tP 1)),
 oP 4 (.mv (bP false))])
 (.seq (.region [oP 8 (.load (some 8) (tP 3)),
 oP 9 (.call (.fn 164) [(tP 8)]),
 oP 7 (.mv (tP 9)),
 oP 10 (.ext 0 (tP 7)),
 oP 11 (.ext 1 (tP 7)),
 oP 5 (.alloc [.ok (.bool false), .ok (.bool false), .ok (.bool false), .ok (.int .i64 0), .ok (.int .i64 0), .ok (.bool false)]),
 sP (.store 6 (tP 5) (tP 10)),
 oP 6 (.mv (tP 11))])
 (.seq (.seq (.region [oP 12 (.mv (tP 0)),
 oP 13 (.bin .lss (tP 12) (iP 1)),
 oP 14 (.mv (tP 13)),
 gP 15 14 false (.mv (tP 6)),
 gP 16 14 false (.un .not (tP 15)),
 oP 17 (.pick (tP 14) (bP true) (tP 16)),
 oP 18 (.mv (tP 17)),
 gP 19 18 false (.addOff 0 (tP 5)),
 gP 20 18 false (.load none (tP 19)),
 gP 21 18 false (.un .not (tP 20)),
 gP 22 18 false (.mv (tP 21)),
 gP 23 22 true (.addOff 5 (tP 3)),
 gP 24 22 true (.load none (tP 23)),
 gP 25 22 true (.bin .neq (tP 24) (.con (.str ⟨#[]⟩))),
 gP 26 18 false (.pick (tP 22) (tP 25) (bP false)),
 oP 27 (.pick (tP 18) (bP true) (tP 26)),
 oP 28 (.mv (tP 27)),
 gP 29 28 false (.addOff 1 (tP 5)),
 gP 30 28 false (.load none (tP 29)),
 gP 31 28 false (.un .not (tP 30)),
 gP 32 28 false (.mv (tP 31)),
 gP 33 32 true (.addOff 3 (tP 3)),
 gP 34 32 true (.load none (tP 33)),
 gP 35 32 true (.bin .neq (tP 34) (iP 0)),
 gP 36 28 false (.pick (tP 32) (tP 35) (bP false)),
 oP 37 (.pick (tP 28) (bP true) (tP 36)),
 oP 38 (.mv (tP 37)),
 gP 39 38 false (.addOff 2 (tP 5)),
 gP 40 38 false (.load none (tP 39)),
 gP 41 38 false (.un .not (tP 40)),
 gP 42 38 false (.mv (tP 41)),
 gP 43 42 true (.addOff 4 (tP 3)),
 gP 44 42 true (.load none (tP 43)),
 gP 45 42 true (.len false (tP 44)),
 gP 46 42 true (.bin .gtr (tP 45) (iP 0)),
 gP 47 38 false (.pick (tP 42) (tP 46) (bP false)),
 oP 48 (.pick (tP 38) (bP true) (tP 47))])
 (.cond (tP 48) (.seq (.region [oP 4 (.mv (bP false))])
 (.ret)) (.skip)))
 (.seq (.seq (.region [oP 49 (.addOff 5 (tP 5)),
 oP 50 (.load none (tP 49)),
 oP 51 (.un .not (tP 50)),
 oP 52 (.mv (tP 51)),
 gP 53 52 true (.addOff 7 (tP 3)),
 gP 54 52 true (.load none (tP 53)),
 gP 55 52 true (.len false (tP 54)),
 gP 56 52 true (.bin .gtr (tP 55) (iP 0)),
 oP 57 (.pick (tP 52) (tP 56) (bP false)),
 oP 58 (.mv (tP 57)),
 gP 59 58 false (.addOff 5 (tP 5)),
 gP 60 58 false (.load none (tP 59)),
 gP 61 58 false (.mv (tP 60)),
 gP 62 61 true (.addOff 7 (tP 3)),
 gP 63 61 true (.load none (tP 62)),
 gP 64 61 true (.mv (tP 0)),
 gP 65 61 true (.bin .sub (tP 64) (iP 1)),
 gP 66 61 true (.mkf (.func 166) [(tP 65)] []),
 gP 67 61 true (.call (.fn 165) [(tP 63), (iP 1), (iP 32), (tP 66)]),
 gP 68 61 true (.un .not (tP 67)),
 gP 69 58 false (.pick (tP 61) (tP 68) (bP false)),
 oP 70 (.pick (tP 58) (bP true) (tP 69))])
 (.cond (tP 70) (.seq (.region [oP 4 (.mv (bP false))])
 (.ret)) (.skip)))
 (.seq (.region [oP 71 (.addOff 6 (tP 3)),
 oP 72 (.load none (tP 71)),
 oP 73 (.addOff 3 (tP 5)),
 oP 74 (.load none (tP 73)),
 oP 75 (.addOff 4 (tP 5)),
 oP 76 (.load none (tP 75)),
 oP 77 (.mv (tP 0)),
 oP 78 (.bin .sub (tP 77) (iP 1)),
 oP 79 (.mkf (.func 129) [(tP 78)] []),
 oP 80 (.call (.fn 167) [(tP 72), (tP 74), (tP 76), (tP 79)]),
 oP 4 (.mv (tP 80))])
 (.ret)))))
def A129 : AFunc := { ntmps := 81, results := [.tmp 4], body := B129, coe := true, keep := 0 }
theorem tr129 : trFunc Tryz.prog M129 true Tryz.f129 = some A129 := by kernel_rfl
def M130 : Marks := { cut := fun _ => true, hd := fun | _ => [], ex := fun | _ => [], imm := fun | _ => false }
def B130 : ACode :=
 .seq (.region [oP 0 (.alloc [.ok (.int .i64 0), .ok (.str ⟨#[]⟩), .error 3])])
 (.seq (.region [oP 1 (.build [.int .i64 0, .str ⟨#[]⟩, .slice 3 []] [(0, 1, (iP 0))]),
 sP (.store 3 (tP 0) (tP 1))])
 (.ret))
def A130 : AFunc := { ntmps := 2, results := [.cell (some 3) 0], body := B130, coe := true, keep := 0 }
theorem tr130 : trFunc Tryz.prog M130 true Tryz.f130 = some A130 := by kernel_rfl
def M131 : Marks := { cut := fun _ => true, hd := fun | _ => [], ex := fun | _ => [], imm := fun | _ => false }
def B131 : ACode :=
 .seq (.region [oP 0 (.alloc [.ok (.int .i64 0), .ok (.str ⟨#[]⟩), .error 3])])
 (.seq (.region [oP 1 (.build [.int .i64 0, .str ⟨#[]⟩, .slice 3 []] [(0, 1, (iP 1))]),
 sP (.store 3 (tP 0) (tP 1))])
 (.ret))
def A131 : AFunc := { ntmps := 2, results := [.cell (some 3) 0], body := B131, coe := true, keep := 0 }
theorem tr131 : trFunc Tryz.prog M131 true Tryz.f131 = some A131 := by kernel_rfl
def M132 : Marks := { cut := fun _ => true, hd := fun | _ => [], ex := fun | _ => [], imm := fun | _ => false }
def B132 : ACode :=
 .seq (.region [oP 1 (.box false (tP 0)),
 oP 2 (.mv (.con (.nilf)))])
 (.seq (.region [oP 3 (.mkf (.func 168) [] [(tP 1)]),
 oP 2 (.mv (tP 3))])
 (.ret))
def A132 : AFunc := { ntmps := 4, results := [.tmp 2], body := B132, coe := true, keep := 0 }
theorem tr132 : trFunc Tryz.prog M132 true Tryz.f132 = some A132 := by kernel_rfl
def M133 : Marks := { cut := fun _ => true, hd := fun | _ => [], ex := fun | _ => [], imm := fun | 3 => true | _ => false, alts := fun | 7 => [[0, 1, 2, 3, 4, 5, 6, 7, 9, 10, 11, 8, 12, 13, 14, 15]] | _ => [] }
def B133 : ACode :=
 .seq (.region [oP 3 (.box true (tP 1)),
 oP 4 (.alloc [.ok (.int .i64 0), .ok (.str ⟨#[]⟩), .error 3]),
 oP 5 (.mv (.con (.nili)))])
 (.seq (.draw [oP 11 (.mv (tP 0)),
 oP 12 (.nilchk (tP 11)),
 oP 13 (.addOff 17 (tP 12)),
 oP 14 (.load none (tP 13)),
 oP 15 (.addOff 5 (tP 3)),
 oP 16 (.load none (tP 15)),
 oP 17 (.call (.fn 170) [(tP 14), (tP 16)]),
 oP 10 (.mv (tP 17)),
 oP 18 (.ext 0 (tP 10)),
 oP 19 (.ext 1 (tP 10)),
 oP 20 (.ext 2 (tP 10)),
 oP 6 (.mv (tP 18)),
 oP 7 (.mv (tP 19)),
 oP 8 (.mv (tP 20))] [])
 (.seq (.seq (.region [oP 21 (.mv (tP 8)),
 oP 22 (.un .not (tP 21))])
 (.cond (tP 22) (.seq (.region [oP 23 (.build [.int .i64 0, .str ⟨#[]⟩, .slice 3 []] []),
 oP 24 (.addOff 1 (tP 3)),
 oP 25 (.load (some 2) (tP 24)),
 oP 26 (.call (.fn 87) [(iP 8), (tP 25)]),
 sP (.store 3 (tP 4) (tP 23)),
 oP 5 (.mv (tP 26))])
 (.ret)) (.skip)))
 (.seq (.region [oP 27 (.mv (tP 0)),
 oP 28 (.nilchk (tP 27)),
 oP 29 (.addOff 17 (tP 28)),
 oP 30 (.load none (tP 29)),
 oP 31 (.mv (tP 6)),
 oP 32 (.idxAddr 4 (tP 30) (tP 31)),
 oP 33 (.addOff 3 (tP 32)),
 oP 34 (.load none (tP 33)),
 oP 35 (.mv (tP 7)),
 oP 36 (.idxAddr 2 (tP 34) (tP 35)),
 oP 37 (.addOff 1 (tP 36)),
 oP 38 (.load none (tP 37)),
 oP 9 (.mv (tP 38))])
 (.seq (.seq (.region [oP 39 (.addOff 6 (tP 3)),
 oP 40 (.load none (tP 39)),
 oP 41 (.len false (tP 40)),
 oP 42 (.mv (tP 9)),
 oP 43 (.len false (tP 42)),
 oP 44 (.bin .neq (tP 41) (tP 43))])
 (.cond (tP 44) (.seq (.region [oP 45 (.build [.int .i64 0, .str ⟨#[]⟩, .slice 3 []] []),
 oP 46 (.addOff 1 (tP 3)),
 oP 47 (.load (some 2) (tP 46)),
 oP 48 (.call (.fn 87) [(iP 11), (tP 47)]),
 sP (.store 3 (tP 4) (tP 45)),
 oP 5 (.mv (tP 48))])
 (.ret)) (.skip)))
 (.seq (.draw [oP 49 (.mv (tP 0)),
 oP 50 (.nilchk (tP 49)),
 oP 51 (.addOff 17 (tP 50)),
 oP 52 (.load none (tP 51)),
 oP 53 (.mv (tP 6)),
 oP 54 (.idxAddr 4 (tP 52) (tP 53)),
 oP 55 (.addOff 2 (tP 54)),
 oP 56 (.load none (tP 55)),
 oP 57 (.call (.fn 127) [(tP 56)]),
 oP 58 (.mv (tP 0)),
 oP 59 (.addOff 6 (tP 3)),
 oP 60 (.load none (tP 59)),
 oP 61 (.mv (tP 9)),
 oP 62 (.call (.fn 171) [(tP 58), (tP 60), (tP 61)]),
 sP (.store 3 (tP 4) (tP 57)),
 oP 5 (.mv (tP 62))] [[oP 49 (.mv (tP 0)), oP 50 (.nilchk (tP 49)), oP 51 (.addOff 17 (tP 50)), oP 52 (.load none (tP 51)), oP 53 (.mv (tP 6)), oP 54 (.idxAddr 4 (tP 52) (tP 53)), oP 55 (.addOff 2 (tP 54)), oP 56 (.load none (tP 55)), oP 58 (.mv (tP 0)), oP 59 (.addOff 6 (tP 3)), oP 60 (.load none (tP 59)), oP 57 (.call (.fn 127) [(tP 56)]), oP 61 (.mv (tP 9)), oP 62 (.call (.fn 171) [(tP 58), (tP 60), (tP 61)]), sP (.store 3 (tP 4) (tP 57)), oP 5 (.mv (tP 62))]])
 (.ret))))))
def A133 : AFunc := { ntmps := 63, results := [.cell (some 3) 4, .tmp 5], body := B133, coe := true, keep := 0 }
theorem tr133 : trFunc Tryz.prog M133 true Tryz.f133 = some A133 := by kernel_rfl
abbrev H134L10 : List Bool := [true, false, false, true, true, false, true, true, false, false, false, false, false, false, false, false, false, false, false, false, false, false, false, false, false, false, false, false, false, false, false, false, false, false, false, false, false, false, false, false, false, false, false, false, false, false, false, false, false, false, false, false, false, false, false, false, false, false, false, false, false, false, true, true, true]
abbrev X134L10 : List Bool := [true, false, false, true, true, false, true, true]
def M134 : Marks := { cut := fun _ => true, hd := fun | 10 => H134L10 | _ => [], ex := fun | 10 => X134L10 | _ => [], imm := fun | 71 => true | _ => false, alts := fun | 14 => [[0, 1, 2, 3, 4, 5, 6, 7, 9, 10, 11, 12, 13, 8, 14, 15], [0, 1, 2, 3, 5, 9, 10, 11, 12, 13, 4, 6, 7, 8, 14, 15]] | _ => [] }
def B134L10 : ACode :=
 .seq (.region [oP 65 (.bin .lss (tP 64) (tP 63))])
 (.seq (.cond (tP 65) (.skip) (.exit 1))
 (.seq (.block 2 (.seq (.region [oP 66 (.idxAddr 4 (tP 62) (tP 64)),
 oP 67 (.load (some 4) (tP 66)),
 oP 9 (.alloc [.ok (.str ⟨#[]⟩), .ok (.int .i64 0), .ok (.str ⟨#[]⟩), .error 3]),
 sP (.store 4 (tP 9) (tP 67))])
 (.region [oP 68 (.mv (tP 7)),
 oP 69 (.addOff 1 (tP 9)),
 oP 70 (.load (some 3) (tP 69)),
 oP 71 (.lit true 0 3 1 [.int .i64 0, .str ⟨#[]⟩, .slice 3 []] [(0, (tP 70))]),
 oP 72 (.app false 0 3 48 (tP 68) (tP 71)),
 oP 7 (.mv (tP 72))])))
 (.region [oP 73 (.bin .add (tP 64) (iP 1)),
 oP 64 (.mv (tP 73))])))
def B134 : ACode :=
 .seq (.region [oP 3 (.box false (tP 1)),
 oP 4 (.alloc [.ok (.int .i64 0), .ok (.str ⟨#[]⟩), .error 3]),
 oP 5 (.mv (.con (.nili)))])
 (.seq (.region [oP 10 (.mv (tP 0)),
 oP 11 (.nilchk (tP 10)),
 oP 12 (.addOff 0 (tP 11)),
 oP 13 (.addOff 1 (tP 12)),
 oP 14 (.load none (tP 13)),
 oP 15 (.mkf (.func 172) [] [(tP 3)]),
 oP 16 (.call (.fn 162) [(tP 14), (tP 15)]),
 oP 6 (.mv (tP 16))])
 (.seq (.block 0 (.seq (.region [oP 18 (.mv (tP 6)),
 oP 19 (.bin .lss (tP 18) (iP 0)),
 oP 17 (.mv (tP 19))])
 (.cond (tP 17) (.seq (.region [oP 20 (.build [.int .i64 0, .str ⟨#[]⟩, .slice 3 []] []),
 oP 21 (.addOff 1 (tP 3)),
 oP 22 (.load (some 2) (tP 21)),
 oP 23 (.call (.fn 87) [(iP 8), (tP 22)]),
 sP (.store 3 (tP 4) (tP 20)),
 oP 5 (.mv (tP 23))])
 (.ret)) (.seq (.region [oP 25 (.mv (tP 6)),
 oP 26 (.mv (tP 0)),
 oP 27 (.nilchk (tP 26)),
 oP 28 (.addOff 18 (tP 27)),
 oP 29 (.load none (tP 28)),
 oP 30 (.bin .gtr (tP 25) (tP 29)),
 oP 24 (.mv (tP 30))])
 (.cond (tP 24) (.seq (.region [oP 31 (.build [.int .i64 0, .str ⟨#[]⟩, .slice 3 []] []),
 oP 32 (.addOff 1 (tP 3)),
 oP 33 (.load (some 2) (tP 32)),
 oP 34 (.call (.fn 87) [(iP 14), (tP 33)]),
 sP (.store 3 (tP 4) (tP 31)),
 oP 5 (.mv (tP 34))])
 (.ret)) (.seq (.draw [oP 36 (.mv (tP 0)),
 oP 37 (.nilchk (tP 36)),
 oP 38 (.addOff 0 (tP 37)),
 oP 39 (.addOff 1 (tP 38)),
 oP 40 (.load none (tP 39)),
 oP 41 (.mv (tP 6)),
 oP 42 (.idxAddr 15 (tP 40) (tP 41)),
 oP 43 (.addOff 3 (tP 42)),
 oP 44 (.load none (tP 43)),
 oP 45 (.len false (tP 44)),
 oP 46 (.addOff 6 (tP 3)),
 oP 47 (.load none (tP 46)),
 oP 48 (.len false (tP 47)),
 oP 49 (.bin .neq (tP 45) (tP 48)),
 oP 35 (.mv (tP 49))] [])
 (.cond (tP 35) (.seq (.region [oP 50 (.build [.int .i64 0, .str ⟨#[]⟩, .slice 3 []] []),
 oP 51 (.addOff 1 (tP 3)),
 oP 52 (.load (some 2) (tP 51)),
 oP 53 (.call (.fn 87) [(iP 11), (tP 52)]),
 sP (.store 3 (tP 4) (tP 50)),
 oP 5 (.mv (tP 53))])
 (.ret)) (.skip))))))))
 (.seq (.region [oP 7 (.nilrow 3)])
 (.seq (.seq (.region [oP 54 (.mv (tP 0)),
 oP 55 (.nilchk (tP 54)),
 oP 56 (.addOff 0 (tP 55)),
 oP 57 (.addOff 1 (tP 56)),
 oP 58 (.load none (tP 57)),
 oP 59 (.mv (tP 6)),
 oP 60 (.idxAddr 15 (tP 58) (tP 59)),
 oP 61 (.addOff 3 (tP 60)),
 oP 62 (.load none (tP 61)),
 oP 63 (.len false (tP 62)),
 oP 64 (.mv (iP 0))])
 (.block 1 (.loop true H134L10 X134L10 B134L10)))
 (.seq (.draw [oP 74 (.mv (tP 0)),
 oP 75 (.nilchk (tP 74)),
 oP 76 (.addOff 0 (tP 75)),
 oP 77 (.addOff 1 (tP 76)),
 oP 78 (.load none (tP 77)),
 oP 79 (.mv (tP 6)),
 oP 80 (.idxAddr 15 (tP 78) (tP 79)),
 oP 81 (.addOff 4 (tP 80)),
 oP 82 (.load (some 3) (tP 81)),
 oP 83 (.mv (tP 0)),
 oP 84 (.addOff 6 (tP 3)),
 oP 85 (.load none (tP 84)),
 oP 86 (.mv (tP 7)),
 oP 87 (.call (.fn 171) [(tP 83), (tP 85), (tP 86)]),
 sP (.store 3 (tP 4) (tP 82)),
 oP 5 (.mv (tP 87))] [[oP 74 (.mv (tP 0)), oP 75 (.nilchk (tP 74)), oP 76 (.addOff 0 (tP 75)), oP 77 (.addOff 1 (tP 76)), oP 78 (.load none (tP 77)), oP 79 (.mv (tP 6)), oP 80 (.idxAddr 15 (tP 78) (tP 79)), oP 81 (.addOff 4 (tP 80)), oP 83 (.mv (tP 0)), oP 84 (.addOff 6 (tP 3)), oP 85 (.load none (tP 84)), oP 86 (.mv (tP 7)), oP 87 (.call (.fn 171) [(tP 83), (tP 85), (tP 86)]), oP 82 (.load (some 3) (tP 81)), sP (.store 3 (tP 4) (tP 82)), oP 5 (.mv (tP 87))], [oP 74 (.mv (tP 0)), oP 75 (.nilchk (tP 74)), oP 76 (.addOff 0 (tP 75)), oP 77 (.addOff 1 (tP 76)), oP 79 (.mv (tP 6)), oP 83 (.mv (tP 0)), oP 84 (.addOff 6 (tP 3)), oP 85 (.load none (tP 84)), oP 86 (.mv (tP 7)), oP 87 (.call (.fn 171) [(tP 83), (tP 85), (tP 86)]), oP 78 (.load none (tP 77)), oP 80 (.idxAddr 15 (tP 78) (tP 79)), oP 81 (.addOff 4 (tP 80)), oP 82 (.load (some 3) (tP 81)), sP (.store 3 (tP 4) (tP 82)), oP 5 (.mv (tP 87))]])
 (.ret))))))
def A134 : AFunc := { ntmps := 88, results := [.cell (some 3) 4, .tmp 5], body := B134, coe := true, keep := 0 }
theorem tr134 : trFunc Tryz.prog M134 true Tryz.f134 = some A134 := by kernel_rfl
abbrev H135L6 : List Bool := [false, false, true, false, true, false, true, false, true, false, false, false, false, false, false, false, false, false, false, false, false, false, false, false, false, false, false, false, false, true, true, true]
abbrev X135L6 : List Bool := [false, false, false, false, true, true, false, false, true]
def M135 : Marks := { cut := fun _ => true, hd := fun | 6 => H135L6 | _ => [], ex := fun | 6 => X135L6 | _ => [], imm := fun | 3 => true | _ => false, alts := fun | 1 => [[0, 1, 2, 3, 4, 9, 5, 6, 7, 8, 10, 11], [0, 1, 2, 3, 9, 4, 5, 6, 7, 8, 10, 11], [0, 1, 9, 2, 3, 4, 5, 6, 7, 8, 10, 11], [1, 2, 3, 4, 9, 0, 5, 6, 7, 8, 10, 11], [1, 2, 3, 9, 0, 4, 5, 6, 7, 8, 10, 11], [1, 9, 0, 2, 3, 4, 5, 6, 7, 8, 10, 11]] | 12 => [[0, 1, 2, 3, 4, 5, 10, 6, 7, 8, 9, 11, 12], [0, 1, 2, 3, 5, 10, 4, 6, 7, 8, 9, 11, 12], [1, 2, 3, 4, 5, 10, 0, 6, 7, 8, 9, 11, 12], [1, 2, 3, 5, 10, 0, 4, 6, 7, 8, 9, 11, 12]] | 18 => [[1, 2, 3, 4, 0, 5, 6]] | _ => [] }
def B135L6 : ACode :=
 .seq (.region [oP 32 (.bin .lss (tP 31) (tP 30))])
 (.seq (.cond (tP 32) (.skip) (.exit 0))
 (.seq (.block 1 (.seq (.region [oP 33 (.mv (tP 31)),
 oP 34 (.idxAddr 14 (tP 29) (tP 31)),
 oP 35 (.load (some 14) (tP 34)),
 oP 10 (.alloc [.ok (.int .i64 0), .ok (.int .i64 0), .ok (.int .i64 0), .ok (.str ⟨#[]⟩), .ok (.int .i64 0), .error 6, .ok (.int .i64 0), .ok (.int .i64 0), .ok (.int .i64 0), .ok (.int .i64 0), .error 1, .ok (.str ⟨#[]⟩), .error 8, .error 14]),
 oP 9 (.mv (tP 33)),
 sP (.store 14 (tP 10) (tP 35))])
 (.seq (.region [oP 36 (.load none (tP 2)),
 oP 37 (.nilchk (tP 36)),
 oP 38 (.addOff 17 (tP 37)),
 oP 39 (.load none (tP 38)),
 oP 40 (.build [.slice 4 [], .slice 4 []] [(0, 1, (tP 39))]),
 oP 41 (.box false (tP 40)),
 oP 11 (.mv (tP 41))])
 (.seq (.seq (.region [oP 42 (.mv (tP 11)),
 oP 43 (.addOff 0 (tP 10)),
 oP 44 (.load (some 6) (tP 43)),
 oP 45 (.load (some 3) (tP 6)),
 oP 46 (.call (.fn 142) [(tP 42), (tP 44), (tP 45)]),
 oP 12 (.mv (tP 46))])
 (.seq (.region [oP 47 (.mv (tP 12)),
 oP 48 (.isnil 1 true (tP 47))])
 (.cond (tP 48) (.seq (.region [oP 49 (.load (some 3) (tP 8)),
 oP 50 (.mv (tP 12)),
 sP (.store 3 (tP 4) (tP 49)),
 oP 5 (.mv (tP 50))])
 (.ret)) (.skip))))
 (.seq (.draw [oP 52 (.load none (tP 2)),
 oP 53 (.mv (tP 11)),
 oP 54 (.nilchk (tP 53)),
 oP 55 (.addOff 1 (tP 54)),
 oP 56 (.load none (tP 55)),
 oP 57 (.mkf (.func 174) [] [(tP 2), (tP 10)]),
 oP 58 (.call (.fn 173) [(tP 52), (tP 56), (tP 57)]),
 oP 51 (.mv (tP 58)),
 oP 59 (.ext 0 (tP 51)),
 oP 60 (.ext 1 (tP 51)),
 oP 13 (.alloc [.ok (.int .i64 0), .ok (.str ⟨#[]⟩), .error 3]),
 sP (.store 3 (tP 13) (tP 59)),
 oP 14 (.mv (tP 60))] [[oP 52 (.load none (tP 2)), oP 53 (.mv (tP 11)), oP 54 (.nilchk (tP 53)), oP 55 (.addOff 1 (tP 54)), oP 56 (.load none (tP 55)), oP 57 (.mkf (.func 174) [] [(tP 2), (tP 10)]), oP 13 (.alloc [.ok (.int .i64 0), .ok (.str ⟨#[]⟩), .error 3]), oP 58 (.call (.fn 173) [(tP 52), (tP 56), (tP 57)]), oP 51 (.mv (tP 58)), oP 59 (.ext 0 (tP 51)), oP 60 (.ext 1 (tP 51)), sP (.store 3 (tP 13) (tP 59)), oP 14 (.mv (tP 60))], [oP 52 (.load none (tP 2)), oP 53 (.mv (tP 11)), oP 54 (.nilchk (tP 53)), oP 55 (.addOff 1 (tP 54)), oP 57 (.mkf (.func 174) [] [(tP 2), (tP 10)]), oP 13 (.alloc [.ok (.int .i64 0), .ok (.str ⟨#[]⟩), .error 3]), oP 56 (.load none (tP 55)), oP 58 (.call (.fn 173) [(tP 52), (tP 56), (tP 57)]), oP 51 (.mv (tP 58)), oP 59 (.ext 0 (tP 51)), oP 60 (.ext 1 (tP 51)), sP (.store 3 (tP 13) (tP 59)), oP 14 (.mv (tP 60))], [oP 53 (.mv (tP 11)), oP 54 (.nilchk (tP 53)), oP 55 (.addOff 1 (tP 54)), oP 56 (.load none (tP 55)), oP 57 (.mkf (.func 174) [] [(tP 2), (tP 10)]), oP 13 (.alloc [.ok (.int .i64 0), .ok (.str ⟨#[]⟩), .error 3]), oP 52 (.load none (tP 2)), oP 58 (.call (.fn 173) [(tP 52), (tP 56), (tP 57)]), oP 51 (.mv (tP 58)), oP 59 (.ext 0 (tP 51)), oP 60 (.ext 1 (tP 51)), sP (.store 3 (tP 13) (tP 59)), oP 14 (.mv (tP 60))], [oP 53 (.mv (tP 11)), oP 54 (.nilchk (tP 53)), oP 55 (.addOff 1 (tP 54)), oP 57 (.mkf (.func 174) [] [(tP 2), (tP 10)]), oP 13 (.alloc [.ok (.int .i64 0), .ok (.str ⟨#[]⟩), .error 3]), oP 52 (.load none (tP 2)), oP 56 (.load none (tP 55)), oP 58 (.call (.fn 173) [(tP 52), (tP 56), (tP 57)]), oP 51 (.mv (tP 58)), oP 59 (.ext 0 (tP 51)), oP 60 (.ext 1 (tP 51)), sP (.store 3 (tP 13) (tP 59)), oP 14 (.mv (tP 60))]])
 (.block 2 (.seq (.region [oP 62 (.mv (tP 14)),
 oP 63 (.isnil 1 true (tP 62)),
 oP 61 (.mv (tP 63))])
 (.cond (tP 61) (.seq (.region [oP 64 (.load (some 3) (tP 8)),
 oP 65 (.mv (tP 14)),
 sP (.store 3 (tP 4) (tP 64)),
 oP 5 (.mv (tP 65))])
 (.ret)) (.seq (.region [oP 67 (.mv (tP 9)),
 oP 68 (.bin .eql (tP 67) (iP 0)),
 oP 66 (.mv (tP 68))])
 (.cond (tP 66) (.region [oP 69 (.load (some 3) (tP 13)),
 sP (.store 3 (tP 8) (tP 69))]) (.seq (.region [oP 71 (.load (some 3) (tP 13)),
 oP 72 (.load (some 3) (tP 8)),
 oP 73 (.call (.fn 163) [(tP 71), (tP 72)]),
 oP 74 (.un .not (tP 73)),
 oP 70 (.mv (tP 74))])
 (.cond (tP 70) (.seq (.draw [oP 75 (.load (some 3) (tP 8)),
 oP 76 (.addOff 6 (tP 10)),
 oP 77 (.addOff 1 (tP 76)),
 oP 78 (.load (some 2) (tP 77)),
 oP 79 (.call (.fn 87) [(iP 10), (tP 78)]),
 sP (.store 3 (tP 4) (tP 75)),
 oP 5 (.mv (tP 79))] [[oP 76 (.addOff 6 (tP 10)), oP 77 (.addOff 1 (tP 76)), oP 78 (.load (some 2) (tP 77)), oP 79 (.call (.fn 87) [(iP 10), (tP 78)]), oP 75 (.load (some 3) (tP 8)), sP (.store 3 (tP 4) (tP 75)), oP 5 (.mv (tP 79))]])
 (.ret)) (.skip)))))))))))))
 (.region [oP 80 (.bin .add (tP 31) (iP 1)),
 oP 31 (.mv (tP 80))])))
def B135 : ACode :=
 .seq (.region [oP 2 (.box false (tP 0)),
 oP 3 (.box true (tP 1)),
 oP 4 (.alloc [.ok (.int .i64 0), .ok (.str ⟨#[]⟩), .error 3]),
 oP 5 (.mv (.con (.nili)))])
 (.seq (.draw [oP 16 (.load none (tP 2)),
 oP 17 (.addOff 6 (tP 3)),
 oP 18 (.load none (tP 17)),
 oP 19 (.idxAddr 8 (tP 18) (iP 0)),
 oP 20 (.load (some 8) (tP 19)),
 oP 21 (.call (.fn 95) [(tP 16), (tP 20)]),
 oP 15 (.mv (tP 21)),
 oP 22 (.ext 0 (tP 15)),
 oP 23 (.ext 1 (tP 15)),
 oP 6 (.alloc [.ok (.int .i64 0), .ok (.str ⟨#[]⟩), .error 3]),
 sP (.store 3 (tP 6) (tP 22)),
 oP 7 (.mv (tP 23))] [[oP 16 (.load none (tP 2)), oP 17 (.addOff 6 (tP 3)), oP 18 (.load none (tP 17)), oP 19 (.idxAddr 8 (tP 18) (iP 0)), oP 20 (.load (some 8) (tP 19)), oP 6 (.alloc [.ok (.int .i64 0), .ok (.str ⟨#[]⟩), .error 3]), oP 21 (.call (.fn 95) [(tP 16), (tP 20)]), oP 15 (.mv (tP 21)), oP 22 (.ext 0 (tP 15)), oP 23 (.ext 1 (tP 15)), sP (.store 3 (tP 6) (tP 22)), oP 7 (.mv (tP 23))], [oP 16 (.load none (tP 2)), oP 17 (.addOff 6 (tP 3)), oP 18 (.load none (tP 17)), oP 19 (.idxAddr 8 (tP 18) (iP 0)), oP 6 (.alloc [.ok (.int .i64 0), .ok (.str ⟨#[]⟩), .error 3]), oP 20 (.load (some 8) (tP 19)), oP 21 (.call (.fn 95) [(tP 16), (tP 20)]), oP 15 (.mv (tP 21)), oP 22 (.ext 0 (tP 15)), oP 23 (.ext 1 (tP 15)), sP (.store 3 (tP 6) (tP 22)), oP 7 (.mv (tP 23))], [oP 16 (.load none (tP 2)), oP 17 (.addOff 6 (tP 3)), oP 6 (.alloc [.ok (.int .i64 0), .ok (.str ⟨#[]⟩), .error 3]), oP 18 (.load none (tP 17)), oP 19 (.idxAddr 8 (tP 18) (iP 0)), oP 20 (.load (some 8) (tP 19)), oP 21 (.call (.fn 95) [(tP 16), (tP 20)]), oP 15 (.mv (tP 21)), oP 22 (.ext 0 (tP 15)), oP 23 (.ext 1 (tP 15)), sP (.store 3 (tP 6) (tP 22)), oP 7 (.mv (tP 23))], [oP 17 (.addOff 6 (tP 3)), oP 18 (.load none (tP 17)), oP 19 (.idxAddr 8 (tP 18) (iP 0)), oP 20 (.load (some 8) (tP 19)), oP 6 (.alloc [.ok (.int .i64 0), .ok (.str ⟨#[]⟩), .error 3]), oP 16 (.load none (tP 2)), oP 21 (.call (.fn 95) [(tP 16), (tP 20)]), oP 15 (.mv (tP 21)), oP 22 (.ext 0 (tP 15)), oP 23 (.ext 1 (tP 15)), sP (.store 3 (tP 6) (tP 22)), oP 7 (.mv (tP 23))], [oP 17 (.addOff 6 (tP 3)), oP 18 (.load none (tP 17)), oP 19 (.idxAddr 8 (tP 18) (iP 0)), oP 6 (.alloc [.ok (.int .i64 0), .ok (.str ⟨#[]⟩), .error 3]), oP 16 (.load none (tP 2)), oP 20 (.load (some 8) (tP 19)), oP 21 (.call (.fn 95) [(tP 16), (tP 20)]), oP 15 (.mv (tP 21)), oP 22 (.ext 0 (tP 15)), oP 23 (.ext 1 (tP 15)), sP (.store 3 (tP 6) (tP 22)), oP 7 (.mv (tP 23))], [oP 17 (.addOff 6 (tP 3)), oP 6 (.alloc [.ok (.int .i64 0), .ok (.str ⟨#[]⟩), .error 3]), oP 16 (.load none (tP 2)), oP 18 (.load none (tP 17)), oP 19 (.idxAddr 8 (tP 18) (iP 0)), oP 20 (.load (some 8) (tP 19)), oP 21 (.call (.fn 95) [(tP 16), (tP 20)]), oP 15 (.mv (tP 21)), oP 22 (.ext 0 (tP 15)), oP 23 (.ext 1 (tP 15)), sP (.store 3 (tP 6) (tP 22)), oP 7 (.mv (tP 23))]])
 (.seq (.seq (.region [oP 24 (.mv (tP 7)),
 oP 25 (.isnil 1 true (tP 24))])
 (.cond (tP 25) (.seq (.region [oP 26 (.load (some 3) (tP 6)),
 oP 27 (.mv (tP 7)),
 sP (.store 3 (tP 4) (tP 26)),
 oP 5 (.mv (tP 27))])
 (.ret)) (.skip)))
 (.seq (.region [oP 8 (.alloc [.ok (.int .i64 0), .ok (.str ⟨#[]⟩), .error 3])])
 (.seq (.seq (.region [oP 28 (.addOff 7 (tP 3)),
 oP 29 (.load none (tP 28)),
 oP 30 (.len false (tP 29)),
 oP 31 (.mv (iP 0))])
 (.block 0 (.loop true H135L6 X135L6 B135L6)))
 (.seq (.region [oP 81 (.load (some 3) (tP 8)),
 sP (.store 3 (tP 4) (tP 81)),
 oP 5 (.mv (.con (.nili)))])
 (.ret))))))
def A135 : AFunc := { ntmps := 82, results := [.cell (some 3) 4, .tmp 5], body := B135, coe := true, keep := 0 }
theorem tr135 : trFunc Tryz.prog M135 true Tryz.f135 = some A135 := by kernel_rfl
def M136 : Marks := { cut := fun _ => true, hd := fun | _ => [], ex := fun | _ => [], imm := fun | 3 => true | 18 => true | 27 => true | 37 => true | 47 => true | 58 => true | 66 => true | _ => false, alts := fun | 5 => [[0, 1, 2, 4, 3, 5, 6, 7, 8, 9], [0, 1, 2, 4, 5, 3, 6, 7, 8, 9], [1, 2, 3, 0, 4, 5, 6, 7, 8, 9]] | 7 => [[0, 1, 2, 4, 3, 5, 6, 7, 8], [1, 2, 3, 0, 4, 5, 6, 7, 8]] | 9 => [[0, 1, 2, 4, 3, 5, 6, 7, 8, 9], [0, 1, 2, 4, 5, 3, 6, 7, 8, 9], [1, 2, 3, 0, 4, 5, 6, 7, 8, 9]] | 11 => [[0, 1, 2, 4, 3, 5, 6, 7, 8, 9], [0, 1, 2, 4, 5, 3, 6, 7, 8, 9], [1, 2, 3, 0, 4, 5, 6, 7, 8, 9]] | 13 => [[0, 1, 2, 4, 3, 5, 6, 7, 8, 9, 10], [0, 1, 2, 4, 5, 3, 6, 7, 8, 9, 10], [0, 1, 2, 4, 5, 6, 3, 7, 8, 9, 10], [1, 2, 3, 0, 4, 5, 6, 7, 8, 9, 10]] | 14 => [[0, 1, 2, 4, 3, 5, 6, 7, 8, 9], [0, 1, 2, 4, 5, 3, 6, 7, 8, 9], [1, 2, 3, 0, 4, 5, 6, 7, 8, 9]] | _ => [] }
def B136 : ACode :=
 .seq (.region [oP 3 (.box true (tP 1)),
 oP 4 (.alloc [.ok (.int .i64 0), .ok (.str ⟨#[]⟩), .error 3]),
 oP 5 (.mv (.con (.nili)))])
 (.seq (.seq (.region [oP 6 (.addOff 3 (tP 3)),
 oP 7 (.load none (tP 6))])
 (.block 0 (.seq (.seq (.region [oP 9 (.bin .eql (tP 7) (iP 5)),
 oP 8 (.mv (tP 9))])
 (.cond (tP 8) (.skip) (.seq (.region [oP 10 (.bin .eql (tP 7) (iP 6)),
 oP 8 (.mv (tP 10))])
 (.cond (tP 8) (.skip) (.region [oP 11 (.bin .eql (tP 7) (iP 7)),
 oP 8 (.mv (tP 11))])))))
 (.cond (tP 8) (.seq (.draw [oP 12 (.call (.fn 127) [(.con (.str ⟨#[98, 111, 111, 108]⟩))]),
 oP 13 (.mv (tP 0)),
 oP 14 (.addOff 6 (tP 3)),
 oP 15 (.load none (tP 14)),
 oP 16 (.call (.fn 130) []),
 oP 17 (.call (.fn 130) []),
 oP 18 (.lit true 0 3 2 [.int .i64 0, .str ⟨#[]⟩, .slice 3 []] [(0, (tP 16)), (1, (tP 17))]),
 oP 19 (.call (.fn 171) [(tP 13), (tP 15), (tP 18)]),
 sP (.store 3 (tP 4) (tP 12)),
 oP 5 (.mv (tP 19))] [[oP 12 (.call (.fn 127) [(.con (.str ⟨#[98, 111, 111, 108]⟩))]), oP 13 (.mv (tP 0)), oP 14 (.addOff 6 (tP 3)), oP 16 (.call (.fn 130) []), oP 15 (.load none (tP 14)), oP 17 (.call (.fn 130) []), oP 18 (.lit true 0 3 2 [.int .i64 0, .str ⟨#[]⟩, .slice 3 []] [(0, (tP 16)), (1, (tP 17))]), oP 19 (.call (.fn 171) [(tP 13), (tP 15), (tP 18)]), sP (.store 3 (tP 4) (tP 12)), oP 5 (.mv (tP 19))], [oP 12 (.call (.fn 127) [(.con (.str ⟨#[98, 111, 111, 108]⟩))]), oP 13 (.mv (tP 0)), oP 14 (.addOff 6 (tP 3)), oP 16 (.call (.fn 130) []), oP 17 (.call (.fn 130) []), oP 15 (.load none (tP 14)), oP 18 (.lit true 0 3 2 [.int .i64 0, .str ⟨#[]⟩, .slice 3 []] [(0, (tP 16)), (1, (tP 17))]), oP 19 (.call (.fn 171) [(tP 13), (tP 15), (tP 18)]), sP (.store 3 (tP 4) (tP 12)), oP 5 (.mv (tP 19))], [oP 13 (.mv (tP 0)), oP 14 (.addOff 6 (tP 3)), oP 15 (.load none (tP 14)), oP 12 (.call (.fn 127) [(.con (.str ⟨#[98, 111, 111, 108]⟩))]), oP 16 (.call (.fn 130) []), oP 17 (.call (.fn 130) []), oP 18 (.lit true 0 3 2 [.int .i64 0, .str ⟨#[]⟩, .slice 3 []] [(0, (tP 16)), (1, (tP 17))]), oP 19 (.call (.fn 171) [(tP 13), (tP 15), (tP 18)]), sP (.store 3 (tP 4) (tP 12)), oP 5 (.mv (tP 19))]])
 (.ret)) (.seq (.region [oP 21 (.bin .eql (tP 7) (iP 8)),
 oP 20 (.mv (tP 21))])
 (.cond (tP 20) (.seq (.draw [oP 22 (.call (.fn 130) []),
 oP 23 (.mv (tP 0)),
 oP 24 (.addOff 6 (tP 3)),
 oP 25 (.load none (tP 24)),
 oP 26 (.call (.fn 131) []),
 oP 27 (.lit true 0 3 1 [.int .i64 0, .str ⟨#[]⟩, .slice 3 []] [(0, (tP 26))]),
 oP 28 (.call (.fn 171) [(tP 23), (tP 25), (tP 27)]),
 sP (.store 3 (tP 4) (tP 22)),
 oP 5 (.mv (tP 28))] [[oP 22 (.call (.fn 130) []), oP 23 (.mv (tP 0)), oP 24 (.addOff 6 (tP 3)), oP 26 (.call (.fn 131) []), oP 25 (.load none (tP 24)), oP 27 (.lit true 0 3 1 [.int .i64 0, .str ⟨#[]⟩, .slice 3 []] [(0, (tP 26))]), oP 28 (.call (.fn 171) [(tP 23), (tP 25), (tP 27)]), sP (.store 3 (tP 4) (tP 22)), oP 5 (.mv (tP 28))], [oP 23 (.mv (tP 0)), oP 24 (.addOff 6 (tP 3)), oP 25 (.load none (tP 24)), oP 22 (.call (.fn 130) []), oP 26 (.call (.fn 131) []), oP 27 (.lit true 0 3 1 [.int .i64 0, .str ⟨#[]⟩, .slice 3 []] [(0, (tP 26))]), oP 28 (.call (.fn 171) [(tP 23), (tP 25), (tP 27)]), sP (.store 3 (tP 4) (tP 22)), oP 5 (.mv (tP 28))]])
 (.ret)) (.seq (.region [oP 30 (.bin .eql (tP 7) (iP 9)),
 oP 29 (.mv (tP 30))])
 (.cond (tP 29) (.seq (.draw [oP 31 (.call (.fn 130) []),
 oP 32 (.mv (tP 0)),
 oP 33 (.addOff 6 (tP 3)),
 oP 34 (.load none (tP 33)),
 oP 35 (.call (.fn 131) []),
 oP 36 (.call (.fn 130) []),
 oP 37 (.lit true 0 3 2 [.int .i64 0, .str ⟨#[]⟩, .slice 3 []] [(0, (tP 35)), (1, (tP 36))]),
 oP 38 (.call (.fn 171) [(tP 32), (tP 34), (tP 37)]),
 sP (.store 3 (tP 4) (tP 31)),
 oP 5 (.mv (tP 38))] [[oP 31 (.call (.fn 130) []), oP 32 (.mv (tP 0)), oP 33 (.addOff 6 (tP 3)), oP 35 (.call (.fn 131) []), oP 34 (.load none (tP 33)), oP 36 (.call (.fn 130) []), oP 37 (.lit true 0 3 2 [.int .i64 0, .str ⟨#[]⟩, .slice 3 []] [(0, (tP 35)), (1, (tP 36))]), oP 38 (.call (.fn 171) [(tP 32), (tP 34), (tP 37)]), sP (.store 3 (tP 4) (tP 31)), oP 5 (.mv (tP 38))], [oP 31 (.call (.fn 130) []), oP 32 (.mv (tP 0)), oP 33 (.addOff 6 (tP 3)), oP 35 (.call (.fn 131) []), oP 36 (.call (.fn 130) []), oP 34 (.load none (tP 33)), oP 37 (.lit true 0 3 2 [.int .i64 0, .str ⟨#[]⟩, .slice 3 []] [(0, (tP 35)), (1, (tP 36))]), oP 38 (.call (.fn 171) [(tP 32), (tP 34), (tP 37)]), sP (.store 3 (tP 4) (tP 31)), oP 5 (.mv (tP 38))], [oP 32 (.mv (tP 0)), oP 33 (.addOff 6 (tP 3)), oP 34 (.load none (tP 33)), oP 31 (.call (.fn 130) []), oP 35 (.call (.fn 131) []), oP 36 (.call (.fn 130) []), oP 37 (.lit true 0 3 2 [.int .i64 0, .str ⟨#[]⟩, .slice 3 []] [(0, (tP 35)), (1, (tP 36))]), oP 38 (.call (.fn 171) [(tP 32), (tP 34), (tP 37)]), sP (.store 3 (tP 4) (tP 31)), oP 5 (.mv (tP 38))]])
 (.ret)) (.seq (.region [oP 40 (.bin .eql (tP 7) (iP 10)),
 oP 39 (.mv (tP 40))])
 (.cond (tP 39) (.seq (.draw [oP 41 (.call (.fn 131) []),
 oP 42 (.mv (tP 0)),
 oP 43 (.addOff 6 (tP 3)),
 oP 44 (.load none (tP 43)),
 oP 45 (.call (.fn 131) []),
 oP 46 (.call (.fn 131) []),
 oP 47 (.lit true 0 3 2 [.int .i64 0, .str ⟨#[]⟩, .slice 3 []] [(0, (tP 45)), (1, (tP 46))]),
 oP 48 (.call (.fn 171) [(tP 42), (tP 44), (tP 47)]),
 sP (.store 3 (tP 4) (tP 41)),
 oP 5 (.mv (tP 48))] [[oP 41 (.call (.fn 131) []), oP 42 (.mv (tP 0)), oP 43 (.addOff 6 (tP 3)), oP 45 (.call (.fn 131) []), oP 44 (.load none (tP 43)), oP 46 (.call (.fn 131) []), oP 47 (.lit true 0 3 2 [.int .i64 0, .str ⟨#[]⟩, .slice 3 []] [(0, (tP 45)), (1, (tP 46))]), oP 48 (.call (.fn 171) [(tP 42), (tP 44), (tP 47)]), sP (.store 3 (tP 4) (tP 41)), oP 5 (.mv (tP 48))], [oP 41 (.call (.fn 131) []), oP 42 (.mv (tP 0)), oP 43 (.addOff 6 (tP 3)), oP 45 (.call (.fn 131) []), oP 46 (.call (.fn 131) []), oP 44 (.load none (tP 43)), oP 47 (.lit true 0 3 2 [.int .i64 0, .str ⟨#[]⟩, .slice 3 []] [(0, (tP 45)), (1, (tP 46))]), oP 48 (.call (.fn 171) [(tP 42), (tP 44), (tP 47)]), sP (.store 3 (tP 4) (tP 41)), oP 5 (.mv (tP 48))], [oP 42 (.mv (tP 0)), oP 43 (.addOff 6 (tP 3)), oP 44 (.load none (tP 43)), oP 41 (.call (.fn 131) []), oP 45 (.call (.fn 131) []), oP 46 (.call (.fn 131) []), oP 47 (.lit true 0 3 2 [.int .i64 0, .str ⟨#[]⟩, .slice 3 []] [(0, (tP 45)), (1, (tP 46))]), oP 48 (.call (.fn 171) [(tP 42), (tP 44), (tP 47)]), sP (.store 3 (tP 4) (tP 41)), oP 5 (.mv (tP 48))]])
 (.ret)) (.seq (.region [oP 50 (.bin .eql (tP 7) (iP 11)),
 oP 49 (.mv (tP 50))])
 (.cond (tP 49) (.seq (.draw [oP 51 (.call (.fn 131) []),
 oP 52 (.mv (tP 0)),
 oP 53 (.addOff 6 (tP 3)),
 oP 54 (.load none (tP 53)),
 oP 55 (.call (.fn 131) []),
 oP 56 (.call (.fn 130) []),
 oP 57 (.call (.fn 130) []),
 oP 58 (.lit true 0 3 3 [.int .i64 0, .str ⟨#[]⟩, .slice 3 []] [(0, (tP 55)), (1, (tP 56)), (2, (tP 57))]),
 oP 59 (.call (.fn 171) [(tP 52), (tP 54), (tP 58)]),
 sP (.store 3 (tP 4) (tP 51)),
 oP 5 (.mv (tP 59))] [[oP 51 (.call (.fn 131) []), oP 52 (.mv (tP 0)), oP 53 (.addOff 6 (tP 3)), oP 55 (.call (.fn 131) []), oP 54 (.load none (tP 53)), oP 56 (.call (.fn 130) []), oP 57 (.call (.fn 130) []), oP 58 (.lit true 0 3 3 [.int .i64 0, .str ⟨#[]⟩, .slice 3 []] [(0, (tP 55)), (1, (tP 56)), (2, (tP 57))]), oP 59 (.call (.fn 171) [(tP 52), (tP 54), (tP 58)]), sP (.store 3 (tP 4) (tP 51)), oP 5 (.mv (tP 59))], [oP 51 (.call (.fn 131) []), oP 52 (.mv (tP 0)), oP 53 (.addOff 6 (tP 3)), oP 55 (.call (.fn 131) []), oP 56 (.call (.fn 130) []), oP 54 (.load none (tP 53)), oP 57 (.call (.fn 130) []), oP 58 (.lit true 0 3 3 [.int .i64 0, .str ⟨#[]⟩, .slice 3 []] [(0, (tP 55)), (1, (tP 56)), (2, (tP 57))]), oP 59 (.call (.fn 171) [(tP 52), (tP 54), (tP 58)]), sP (.store 3 (tP 4) (tP 51)), oP 5 (.mv (tP 59))], [oP 51 (.call (.fn 131) []), oP 52 (.mv (tP 0)), oP 53 (.addOff 6 (tP 3)), oP 55 (.call (.fn 131) []), oP 56 (.call (.fn 130) []), oP 57 (.call (.fn 130) []), oP 54 (.load none (tP 53)), oP 58 (.lit true 0 3 3 [.int .i64 0, .str ⟨#[]⟩, .slice 3 []] [(0, (tP 55)), (1, (tP 56)), (2, (tP 57))]), oP 59 (.call (.fn 171) [(tP 52), (tP 54), (tP 58)]), sP (.store 3 (tP 4) (tP 51)), oP 5 (.mv (tP 59))], [oP 52 (.mv (tP 0)), oP 53 (.addOff 6 (tP 3)), oP 54 (.load none (tP 53)), oP 51 (.call (.fn 131) []), oP 55 (.call (.fn 131) []), oP 56 (.call (.fn 130) []), oP 57 (.call (.fn 130) []), oP 58 (.lit true 0 3 3 [.int .i64 0, .str ⟨#[]⟩, .slice 3 []] [(0, (tP 55)), (1, (tP 56)), (2, (tP 57))]), oP 59 (.call (.fn 171) [(tP 52), (tP 54), (tP 58)]), sP (.store 3 (tP 4) (tP 51)), oP 5 (.mv (tP 59))]])
 (.ret)) (.skip)))))))))))))
 (.seq (.draw [oP 60 (.call (.fn 130) []),
 oP 61 (.mv (tP 0)),
 oP 62 (.addOff 6 (tP 3)),
 oP 63 (.load none (tP 62)),
 oP 64 (.call (.fn 130) []),
 oP 65 (.call (.fn 130) []),
 oP 66 (.lit true 0 3 2 [.int .i64 0, .str ⟨#[]⟩, .slice 3 []] [(0, (tP 64)), (1, (tP 65))]),
 oP 67 (.call (.fn 171) [(tP 61), (tP 63), (tP 66)]),
 sP (.store 3 (tP 4) (tP 60)),
 oP 5 (.mv (tP 67))] [[oP 60 (.call (.fn 130) []), oP 61 (.mv (tP 0)), oP 62 (.addOff 6 (tP 3)), oP 64 (.call (.fn 130) []), oP 63 (.load none (tP 62)), oP 65 (.call (.fn 130) []), oP 66 (.lit true 0 3 2 [.int .i64 0, .str ⟨#[]⟩, .slice 3 []] [(0, (tP 64)), (1, (tP 65))]), oP 67 (.call (.fn 171) [(tP 61), (tP 63), (tP 66)]), sP (.store 3 (tP 4) (tP 60)), oP 5 (.mv (tP 67))], [oP 60 (.call (.fn 130) []), oP 61 (.mv (tP 0)), oP 62 (.addOff 6 (tP 3)), oP 64 (.call (.fn 130) []), oP 65 (.call (.fn 130) []), oP 63 (.load none (tP 62)), oP 66 (.lit true 0 3 2 [.int .i64 0, .str ⟨#[]⟩, .slice 3 []] [(0, (tP 64)), (1, (tP 65))]), oP 67 (.call (.fn 171) [(tP 61), (tP 63), (tP 66)]), sP (.store 3 (tP 4) (tP 60)), oP 5 (.mv (tP 67))], [oP 61 (.mv (tP 0)), oP 62 (.addOff 6 (tP 3)), oP 63 (.load none (tP 62)), oP 60 (.call (.fn 130) []), oP 64 (.call (.fn 130) []), oP 65 (.call (.fn 130) []), oP 66 (.lit true 0 3 2 [.int .i64 0, .str ⟨#[]⟩, .slice 3 []] [(0, (tP 64)), (1, (tP 65))]), oP 67 (.call (.fn 171) [(tP 61), (tP 63), (tP 66)]), sP (.store 3 (tP 4) (tP 60)), oP 5 (.mv (tP 67))]])
 (.ret)))
def A136 : AFunc := { ntmps := 68, results := [.cell (some 3) 4, .tmp 5], body := B136, coe := true, keep := 0 }
theorem tr136 : trFunc Tryz.prog M136 true Tryz.f136 = some A136 := by kernel_rfl
def M137 : Marks := { cut := fun _ => true, hd := fun | _ => [], ex := fun | _ => [], imm := fun | 63 => true | _ => false, alts := fun | 2 => [[0, 1, 2, 3, 5, 4, 6, 7], [0, 1, 5, 2, 3, 4, 6, 7], [1, 2, 3, 4, 5, 0, 6, 7], [1, 2, 3, 5, 0, 4, 6, 7], [1, 5, 0, 2, 3, 4, 6, 7]] | 5 => [[0, 1, 2, 3, 4, 9, 5, 6, 7, 8, 10, 11], [0, 1, 2, 3, 9, 4, 5, 6, 7, 8, 10, 11], [0, 1, 9, 2, 3, 4, 5, 6, 7, 8, 10, 11], [1, 2, 3, 4, 9, 0, 5, 6, 7, 8, 10, 11], [1, 2, 3, 9, 0, 4, 5, 6, 7, 8, 10, 11], [1, 9, 0, 2, 3, 4, 5, 6, 7, 8, 10, 11]] | 9 => [[0, 1, 2, 3, 4, 9, 5, 6, 7, 8, 10, 11], [0, 1, 2, 3, 9, 4, 5, 6, 7, 8, 10, 11], [0, 1, 9, 2, 3, 4, 5, 6, 7, 8, 10, 11], [1, 2, 3, 4, 9, 0, 5, 6, 7, 8, 10, 11], [1, 2, 3, 9, 0, 4, 5, 6, 7, 8, 10, 11], [1, 9, 0, 2, 3, 4, 5, 6, 7, 8, 10, 11]] | _ => [] }
def B137 : ACode :=
 .seq (.region [oP 2 (.box false (tP 0)),
 oP 3 (.box false (tP 1)),
 oP 4 (.alloc [.ok (.int .i64 0), .ok (.str ⟨#[]⟩), .error 3]),
 oP 5 (.mv (.con (.nili)))])
 (.seq (.seq (.region [oP 11 (.addOff 0 (tP 3)),
 oP 12 (.load none (tP 11)),
 oP 13 (.bin .eql (tP 12) (iP 7))])
 (.cond (tP 13) (.seq (.seq (.draw [oP 14 (.load none (tP 2)),
 oP 15 (.addOff 6 (tP 3)),
 oP 16 (.load none (tP 15)),
 oP 17 (.idxAddr 8 (tP 16) (iP 0)),
 oP 18 (.load (some 8) (tP 17)),
 oP 19 (.call (.fn 127) [(.con (.str ⟨#[98, 111, 111, 108]⟩))]),
 oP 20 (.call (.fn 125) [(tP 14), (tP 18), (tP 19)]),
 oP 6 (.mv (tP 20))] [[oP 14 (.load none (tP 2)), oP 15 (.addOff 6 (tP 3)), oP 16 (.load none (tP 15)), oP 17 (.idxAddr 8 (tP 16) (iP 0)), oP 19 (.call (.fn 127) [(.con (.str ⟨#[98, 111, 111, 108]⟩))]), oP 18 (.load (some 8) (tP 17)), oP 20 (.call (.fn 125) [(tP 14), (tP 18), (tP 19)]), oP 6 (.mv (tP 20))], [oP 14 (.load none (tP 2)), oP 15 (.addOff 6 (tP 3)), oP 19 (.call (.fn 127) [(.con (.str ⟨#[98, 111, 111, 108]⟩))]), oP 16 (.load none (tP 15)), oP 17 (.idxAddr 8 (tP 16) (iP 0)), oP 18 (.load (some 8) (tP 17)), oP 20 (.call (.fn 125) [(tP 14), (tP 18), (tP 19)]), oP 6 (.mv (tP 20))], [oP 15 (.addOff 6 (tP 3)), oP 16 (.load none (tP 15)), oP 17 (.idxAddr 8 (tP 16) (iP 0)), oP 18 (.load (some 8) (tP 17)), oP 19 (.call (.fn 127) [(.con (.str ⟨#[98, 111, 111, 108]⟩))]), oP 14 (.load none (tP 2)), oP 20 (.call (.fn 125) [(tP 14), (tP 18), (tP 19)]), oP 6 (.mv (tP 20))], [oP 15 (.addOff 6 (tP 3)), oP 16 (.load none (tP 15)), oP 17 (.idxAddr 8 (tP 16) (iP 0)), oP 19 (.call (.fn 127) [(.con (.str ⟨#[98, 111, 111, 108]⟩))]), oP 14 (.load none (tP 2)), oP 18 (.load (some 8) (tP 17)), oP 20 (.call (.fn 125) [(tP 14), (tP 18), (tP 19)]), oP 6 (.mv (tP 20))], [oP 15 (.addOff 6 (tP 3)), oP 19 (.call (.fn 127) [(.con (.str ⟨#[98, 111, 111, 108]⟩))]), oP 14 (.load none (tP 2)), oP 16 (.load none (tP 15)), oP 17 (.idxAddr 8 (tP 16) (iP 0)), oP 18 (.load (some 8) (tP 17)), oP 20 (.call (.fn 125) [(tP 14), (tP 18), (tP 19)]), oP 6 (.mv (tP 20))]])
 (.seq (.region [oP 21 (.mv (tP 6)),
 oP 22 (.isnil 1 true (tP 21))])
 (.cond (tP 22) (.seq (.region [oP 23 (.build [.int .i64 0, .str ⟨#[]⟩, .slice 3 []] []),
 oP 24 (.mv (tP 6)),
 sP (.store 3 (tP 4) (tP 23)),
 oP 5 (.mv (tP 24))])
 (.ret)) (.skip))))
 (.seq (.draw [oP 26 (.load none (tP 2)),
 oP 27 (.addOff 6 (tP 3)),
 oP 28 (.load none (tP 27)),
 oP 29 (.idxAddr 8 (tP 28) (iP 1)),
 oP 30 (.load (some 8) (tP 29)),
 oP 31 (.call (.fn 95) [(tP 26), (tP 30)]),
 oP 25 (.mv (tP 31)),
 oP 32 (.ext 0 (tP 25)),
 oP 33 (.ext 1 (tP 25)),
 oP 7 (.alloc [.ok (.int .i64 0), .ok (.str ⟨#[]⟩), .error 3]),
 sP (.store 3 (tP 7) (tP 32)),
 oP 8 (.mv (tP 33))] [[oP 26 (.load none (tP 2)), oP 27 (.addOff 6 (tP 3)), oP 28 (.load none (tP 27)), oP 29 (.idxAddr 8 (tP 28) (iP 1)), oP 30 (.load (some 8) (tP 29)), oP 7 (.alloc [.ok (.int .i64 0), .ok (.str ⟨#[]⟩), .error 3]), oP 31 (.call (.fn 95) [(tP 26), (tP 30)]), oP 25 (.mv (tP 31)), oP 32 (.ext 0 (tP 25)), oP 33 (.ext 1 (tP 25)), sP (.store 3 (tP 7) (tP 32)), oP 8 (.mv (tP 33))], [oP 26 (.load none (tP 2)), oP 27 (.addOff 6 (tP 3)), oP 28 (.load none (tP 27)), oP 29 (.idxAddr 8 (tP 28) (iP 1)), oP 7 (.alloc [.ok (.int .i64 0), .ok (.str ⟨#[]⟩), .error 3]), oP 30 (.load (some 8) (tP 29)), oP 31 (.call (.fn 95) [(tP 26), (tP 30)]), oP 25 (.mv (tP 31)), oP 32 (.ext 0 (tP 25)), oP 33 (.ext 1 (tP 25)), sP (.store 3 (tP 7) (tP 32)), oP 8 (.mv (tP 33))], [oP 26 (.load none (tP 2)), oP 27 (.addOff 6 (tP 3)), oP 7 (.alloc [.ok (.int .i64 0), .ok (.str ⟨#[]⟩), .error 3]), oP 28 (.load none (tP 27)), oP 29 (.idxAddr 8 (tP 28) (iP 1)), oP 30 (.load (some 8) (tP 29)), oP 31 (.call (.fn 95) [(tP 26), (tP 30)]), oP 25 (.mv (tP 31)), oP 32 (.ext 0 (tP 25)), oP 33 (.ext 1 (tP 25)), sP (.store 3 (tP 7) (tP 32)), oP 8 (.mv (tP 33))], [oP 27 (.addOff 6 (tP 3)), oP 28 (.load none (tP 27)), oP 29 (.idxAddr 8 (tP 28) (iP 1)), oP 30 (.load (some 8) (tP 29)), oP 7 (.alloc [.ok (.int .i64 0), .ok (.str ⟨#[]⟩), .error 3]), oP 26 (.load none (tP 2)), oP 31 (.call (.fn 95) [(tP 26), (tP 30)]), oP 25 (.mv (tP 31)), oP 32 (.ext 0 (tP 25)), oP 33 (.ext 1 (tP 25)), sP (.store 3 (tP 7) (tP 32)), oP 8 (.mv (tP 33))], [oP 27 (.addOff 6 (tP 3)), oP 28 (.load none (tP 27)), oP 29 (.idxAddr 8 (tP 28) (iP 1)), oP 7 (.alloc [.ok (.int .i64 0), .ok (.str ⟨#[]⟩), .error 3]), oP 26 (.load none (tP 2)), oP 30 (.load (some 8) (tP 29)), oP 31 (.call (.fn 95) [(tP 26), (tP 30)]), oP 25 (.mv (tP 31)), oP 32 (.ext 0 (tP 25)), oP 33 (.ext 1 (tP 25)), sP (.store 3 (tP 7) (tP 32)), oP 8 (.mv (tP 33))], [oP 27 (.addOff 6 (tP 3)), oP 7 (.alloc [.ok (.int .i64 0), .ok (.str ⟨#[]⟩), .error 3]), oP 26 (.load none (tP 2)), oP 28 (.load none (tP 27)), oP 29 (.idxAddr 8 (tP 28) (iP 1)), oP 30 (.load (some 8) (tP 29)), oP 31 (.call (.fn 95) [(tP 26), (tP 30)]), oP 25 (.mv (tP 31)), oP 32 (.ext 0 (tP 25)), oP 33 (.ext 1 (tP 25)), sP (.store 3 (tP 7) (tP 32)), oP 8 (.mv (tP 33))]])
 (.seq (.seq (.region [oP 34 (.mv (tP 8)),
 oP 35 (.isnil 1 false (tP 34))])
 (.cond (tP 35) (.draw [oP 36 (.load none (tP 2)),
 oP 37 (.addOff 6 (tP 3)),
 oP 38 (.load none (tP 37)),
 oP 39 (.idxAddr 8 (tP 38) (iP 2)),
 oP 40 (.load (some 8) (tP 39)),
 oP 41 (.load (some 3) (tP 7)),
 oP 42 (.call (.fn 125) [(tP 36), (tP 40), (tP 41)]),
 oP 8 (.mv (tP 42))] []) (.skip)))
 (.seq (.region [oP 43 (.load (some 3) (tP 7)),
 oP 44 (.mv (tP 8)),
 sP (.store 3 (tP 4) (tP 43)),
 oP 5 (.mv (tP 44))])
 (.ret))))) (.skip)))
 (.seq (.draw [oP 46 (.load none (tP 2)),
 oP 47 (.addOff 6 (tP 3)),
 oP 48 (.load none (tP 47)),
 oP 49 (.idxAddr 8 (tP 48) (iP 0)),
 oP 50 (.load (some 8) (tP 49)),
 oP 51 (.call (.fn 95) [(tP 46), (tP 50)]),
 oP 45 (.mv (tP 51)),
 oP 52 (.ext 0 (tP 45)),
 oP 53 (.ext 1 (tP 45)),
 oP 9 (.alloc [.ok (.int .i64 0), .ok (.str ⟨#[]⟩), .error 3]),
 sP (.store 3 (tP 9) (tP 52)),
 oP 10 (.mv (tP 53))] [[oP 46 (.load none (tP 2)), oP 47 (.addOff 6 (tP 3)), oP 48 (.load none (tP 47)), oP 49 (.idxAddr 8 (tP 48) (iP 0)), oP 50 (.load (some 8) (tP 49)), oP 9 (.alloc [.ok (.int .i64 0), .ok (.str ⟨#[]⟩), .error 3]), oP 51 (.call (.fn 95) [(tP 46), (tP 50)]), oP 45 (.mv (tP 51)), oP 52 (.ext 0 (tP 45)), oP 53 (.ext 1 (tP 45)), sP (.store 3 (tP 9) (tP 52)), oP 10 (.mv (tP 53))], [oP 46 (.load none (tP 2)), oP 47 (.addOff 6 (tP 3)), oP 48 (.load none (tP 47)), oP 49 (.idxAddr 8 (tP 48) (iP 0)), oP 9 (.alloc [.ok (.int .i64 0), .ok (.str ⟨#[]⟩), .error 3]), oP 50 (.load (some 8) (tP 49)), oP 51 (.call (.fn 95) [(tP 46), (tP 50)]), oP 45 (.mv (tP 51)), oP 52 (.ext 0 (tP 45)), oP 53 (.ext 1 (tP 45)), sP (.store 3 (tP 9) (tP 52)), oP 10 (.mv (tP 53))], [oP 46 (.load none (tP 2)), oP 47 (.addOff 6 (tP 3)), oP 9 (.alloc [.ok (.int .i64 0), .ok (.str ⟨#[]⟩), .error 3]), oP 48 (.load none (tP 47)), oP 49 (.idxAddr 8 (tP 48) (iP 0)), oP 50 (.load (some 8) (tP 49)), oP 51 (.call (.fn 95) [(tP 46), (tP 50)]), oP 45 (.mv (tP 51)), oP 52 (.ext 0 (tP 45)), oP 53 (.ext 1 (tP 45)), sP (.store 3 (tP 9) (tP 52)), oP 10 (.mv (tP 53))], [oP 47 (.addOff 6 (tP 3)), oP 48 (.load none (tP 47)), oP 49 (.idxAddr 8 (tP 48) (iP 0)), oP 50 (.load (some 8) (tP 49)), oP 9 (.alloc [.ok (.int .i64 0), .ok (.str ⟨#[]⟩), .error 3]), oP 46 (.load none (tP 2)), oP 51 (.call (.fn 95) [(tP 46), (tP 50)]), oP 45 (.mv (tP 51)), oP 52 (.ext 0 (tP 45)), oP 53 (.ext 1 (tP 45)), sP (.store 3 (tP 9) (tP 52)), oP 10 (.mv (tP 53))], [oP 47 (.addOff 6 (tP 3)), oP 48 (.load none (tP 47)), oP 49 (.idxAddr 8 (tP 48) (iP 0)), oP 9 (.alloc [.ok (.int .i64 0), .ok (.str ⟨#[]⟩), .error 3]), oP 46 (.load none (tP 2)), oP 50 (.load (some 8) (tP 49)), oP 51 (.call (.fn 95) [(tP 46), (tP 50)]), oP 45 (.mv (tP 51)), oP 52 (.ext 0 (tP 45)), oP 53 (.ext 1 (tP 45)), sP (.store 3 (tP 9) (tP 52)), oP 10 (.mv (tP 53))], [oP 47 (.addOff 6 (tP 3)), oP 9 (.alloc [.ok (.int .i64 0), .ok (.str ⟨#[]⟩), .error 3]), oP 46 (.load none (tP 2)), oP 48 (.load none (tP 47)), oP 49 (.idxAddr 8 (tP 48) (iP 0)), oP 50 (.load (some 8) (tP 49)), oP 51 (.call (.fn 95) [(tP 46), (tP 50)]), oP 45 (.mv (tP 51)), oP 52 (.ext 0 (tP 45)), oP 53 (.ext 1 (tP 45)), sP (.store 3 (tP 9) (tP 52)), oP 10 (.mv (tP 53))]])
 (.seq (.seq (.region [oP 54 (.mv (tP 10)),
 oP 55 (.isnil 1 true (tP 54))])
 (.cond (tP 55) (.seq (.region [oP 56 (.load (some 3) (tP 9)),
 oP 57 (.mv (tP 10)),
 sP (.store 3 (tP 4) (tP 56)),
 oP 5 (.mv (tP 57))])
 (.ret)) (.skip)))
 (.seq (.region [oP 58 (.load none (tP 2)),
 oP 59 (.addOff 5 (tP 3)),
 oP 60 (.load none (tP 59)),
 oP 61 (.load (some 3) (tP 9)),
 oP 62 (.build [.str ⟨#[]⟩, .int .i64 0, .str ⟨#[]⟩, .slice 3 []] [(0, 1, (tP 60)), (1, 3, (tP 61))]),
 oP 63 (.lit true 0 4 1 [.str ⟨#[]⟩, .int .i64 0, .str ⟨#[]⟩, .slice 3 []] [(0, (tP 62))]),
 oP 64 (.mkf (.func 175) [] [(tP 3), (tP 9), (tP 2)]),
 oP 65 (.call (.fn 173) [(tP 58), (tP 63), (tP 64)]),
 oP 66 (.ext 0 (tP 65)),
 oP 67 (.ext 1 (tP 65)),
 sP (.store 3 (tP 4) (tP 66)),
 oP 5 (.mv (tP 67))])
 (.ret)))))
def A137 : AFunc := { ntmps := 68, results := [.cell (some 3) 4, .tmp 5], body := B137, coe := true, keep := 0 }
theorem tr137 : trFunc Tryz.prog M137 true Tryz.f137 = some A137 := by kernel_rfl
abbrev H139L4 : List Bool := [false, false, false, true, false, true, false, false, false, false, false, false, false, false, false, true, true, true]
abbrev X139L4 : List Bool := [false, false, false, false, false, false, true]
def M139 : Marks := { cut := fun _ => true, hd := fun | 4 => H139L4 | _ => [], ex := fun | 4 => X139L4 | _ => [], imm := fun | 3 => true | 5 => true | _ => false }
def B139L4 : ACode :=
 .seq (.region [oP 18 (.bin .lss (tP 17) (tP 16))])
 (.seq (.cond (tP 18) (.skip) (.exit 0))
 (.seq (.block 1 (.seq (.region [oP 19 (.idxAddr 1 (tP 15) (tP 17)),
 oP 20 (.load none (tP 19)),
 oP 8 (.mv (tP 20))])
 (.seq (.region [oP 21 (.load (some 1) (tP 3)),
 oP 22 (.mv (tP 8)),
 oP 23 (.load (some 6) (tP 5)),
 oP 24 (.call (.fn 182) [(tP 21), (tP 22), (tP 23)]),
 oP 9 (.mv (tP 24))])
 (.seq (.region [oP 25 (.mv (tP 9)),
 oP 26 (.isnil 1 true (tP 25))])
 (.cond (tP 26) (.seq (.region [oP 27 (.mv (tP 9)),
 oP 6 (.mv (tP 27))])
 (.ret)) (.skip))))))
 (.region [oP 28 (.bin .add (tP 17) (iP 1)),
 oP 17 (.mv (tP 28))])))
def B139 : ACode :=
 .seq (.region [oP 3 (.box true (tP 0)),
 oP 5 (.box true (tP 2)),
 oP 6 (.mv (.con (.nili)))])
 (.seq (.seq (.region [oP 10 (.load (some 6) (tP 5)),
 oP 11 (.call (.fn 180) [(tP 10)])])
 (.cond (tP 11) (.seq (.region [oP 12 (.mv (tP 1)),
 oP 6 (.mv (tP 12))])
 (.ret)) (.skip)))
 (.seq (.seq (.region [oP 13 (.load (some 1) (tP 3)),
 oP 14 (.mv (tP 1)),
 oP 15 (.call (.fn 181) [(tP 13), (tP 14)]),
 oP 16 (.len false (tP 15)),
 oP 17 (.mv (iP 0))])
 (.block 0 (.loop true H139L4 X139L4 B139L4)))
 (.seq (.region [oP 6 (.mv (.con (.nili)))])
 (.ret))))
def A139 : AFunc := { ntmps := 29, results := [.tmp 6], body := B139, coe := true, keep := 0 }
theorem tr139 : trFunc Tryz.prog M139 true Tryz.f139 = some A139 := by kernel_rfl
abbrev H140L5 : List Bool := [false, false, false, true, false, true, false, true, false, false, false, false, false, false, true, true, true]
abbrev X140L5 : List Bool := [false, false, false, false, false, false, false, true]
def M140 : Marks := { cut := fun _ => true, hd := fun | 5 => H140L5 | _ => [], ex := fun | 5 => X140L5 | _ => [], imm := fun | 3 => true | 5 => true | 6 => true | _ => false }
def B140L5 : ACode :=
 .seq (.region [oP 17 (.bin .lss (tP 16) (tP 15))])
 (.seq (.cond (tP 17) (.skip) (.exit 0))
 (.seq (.block 1 (.seq (.region [oP 18 (.idxAddr 1 (tP 14) (tP 16)),
 oP 19 (.load none (tP 18)),
 oP 9 (.mv (tP 19))])
 (.region [oP 20 (.mv (tP 7)),
 oP 21 (.load (some 1) (tP 3)),
 oP 22 (.mv (tP 9)),
 oP 23 (.load (some 6) (tP 5)),
 oP 24 (.call (.fn 183) [(tP 21), (tP 22), (tP 23)]),
 oP 25 (.app false 0 1 16 (tP 20) (tP 24)),
 oP 7 (.mv (tP 25))])))
 (.region [oP 26 (.bin .add (tP 16) (iP 1)),
 oP 16 (.mv (tP 26))])))
def B140 : ACode :=
 .seq (.region [oP 3 (.box true (tP 0)),
 oP 5 (.box true (tP 2)),
 oP 6 (.mv (.con (.slice 1 [])))])
 (.seq (.seq (.region [oP 10 (.load (some 6) (tP 5)),
 oP 11 (.call (.fn 180) [(tP 10)])])
 (.cond (tP 11) (.seq (.region [oP 6 (.mv (.con (.slice 1 [])))])
 (.ret)) (.skip)))
 (.seq (.region [oP 7 (.nilrow 1)])
 (.seq (.seq (.region [oP 12 (.load (some 1) (tP 3)),
 oP 13 (.mv (tP 1)),
 oP 14 (.call (.fn 181) [(tP 12), (tP 13)]),
 oP 15 (.len false (tP 14)),
 oP 16 (.mv (iP 0))])
 (.block 0 (.loop true H140L5 X140L5 B140L5)))
 (.seq (.region [oP 27 (.mv (tP 7)),
 oP 6 (.mv (tP 27))])
 (.ret)))))
def A140 : AFunc := { ntmps := 28, results := [.tmp 6], body := B140, coe := true, keep := 0 }
theorem tr140 : trFunc Tryz.prog M140 true Tryz.f140 = some A140 := by kernel_rfl
def M141 : Marks := { cut := fun _ => true, hd := fun | _ => [], ex := fun | _ => [], imm := fun | 1 => true | _ => false }
def B141 : ACode :=
 .seq (.region [oP 1 (.box true (tP 0)),
 oP 2 (.mv (bP false))])
 (.seq (.region [oP 3 (.load (some 6) (tP 1)),
 oP 4 (.call (.fn 184) [(iP 64), (tP 3)]),
 oP 2 (.mv (tP 4))])
 (.ret))
def A141 : AFunc := { ntmps := 5, results := [.tmp 2], body := B141, coe := true, keep := 0 }
theorem tr141 : trFunc Tryz.prog M141 true Tryz.f141 = some A141 := by kernel_rfl
abbrev H142L24 : List Bool := [true, false, false, false, true, false, false, false, false, false, false, false, false, false, false, false, false, false, false, false, false, false, false, false, false, false, false, false, false, false, false, false, false, false, false, false, false, false, false, false, false, false, false, false, false, false, false, false, false, false, false, false, false, false, false, false, false, false, false, false, false, false, false, false, false, false, false, false, false, false, false, false, false, false, false, false, false, false, false, false, false, false, false, false, false, false, false, false, false, false, false, false, false, false, false, false, false, false, false, false, false, false, false, false, false, false, false, false, false, false, false, false, false, false, false, false, false, false, false, false, false, false, false, false, false, false, false, false, false, false, false, false, false, false, false, false, false, false, false, true, true, true]
abbrev X142L24 : List Bool := [false, false, false, false, false, false, true]
def M142 : Marks := { cut := fun _ => true, hd := fun | 24 => H142L24 | _ => [], ex := fun | 24 => X142L24 | _ => [], imm := fun | 5 => true | 36 => true | _ => false }
def B142L24 : ACode :=
 .seq (.region [oP 142 (.bin .lss (tP 141) (tP 140))])
 (.seq (.cond (tP 142) (.skip) (.exit 2))
 (.seq (.block 3 (.seq (.region [oP 143 (.mv (tP 141)),
 oP 144 (.idxAddr 3 (tP 139) (tP 141)),
 oP 145 (.load (some 3) (tP 144)),
 oP 12 (.alloc [.ok (.int .i64 0), .ok (.str ⟨#[]⟩), .error 3]),
 oP 11 (.mv (tP 143)),
 sP (.store 3 (tP 12) (tP 145))])
 (.seq (.draw [oP 146 (.mv (tP 0)),
 oP 147 (.addOff 5 (tP 4)),
 oP 148 (.load none (tP 147)),
 oP 149 (.mv (tP 11)),
 oP 150 (.idxAddr 6 (tP 148) (tP 149)),
 oP 151 (.load (some 6) (tP 150)),
 oP 152 (.load (some 3) (tP 12)),
 oP 153 (.call (.fn 142) [(tP 146), (tP 151), (tP 152)]),
 oP 13 (.mv (tP 153))] [])
 (.seq (.region [oP 154 (.mv (tP 13)),
 oP 155 (.isnil 1 true (tP 154))])
 (.cond (tP 155) (.seq (.region [oP 156 (.mv (tP 13)),
 oP 6 (.mv (tP 156))])
 (.ret)) (.skip))))))
 (.region [oP 157 (.bin .add (tP 141) (iP 1)),
 oP 141 (.mv (tP 157))])))
def B142 : ACode :=
 .seq (.region [oP 4 (.box false (tP 1)),
 oP 5 (.box true (tP 2)),
 oP 6 (.mv (.con (.nili)))])
 (.seq (.region [oP 7 (.nilrow 3)])
 (.seq (.seq (.region [oP 14 (.addOff 0 (tP 4)),
 oP 15 (.load none (tP 14))])
 (.block 0 (.seq (.region [oP 17 (.bin .eql (tP 15) (iP 1)),
 oP 16 (.mv (tP 17))])
 (.cond (tP 16) (.seq (.seq (.region [oP 18 (.mv (tP 0)),
 oP 19 (.nilchk (tP 18)),
 oP 20 (.addOff 1 (tP 19)),
 oP 21 (.load none (tP 20)),
 oP 22 (.mkf (.func 186) [] [(tP 4)]),
 oP 23 (.call (.fn 185) [(tP 21), (tP 22)])])
 (.cond (tP 23) (.seq (.region [oP 24 (.addOff 1 (tP 4)),
 oP 25 (.load (some 2) (tP 24)),
 oP 26 (.call (.fn 87) [(iP 9), (tP 25)]),
 oP 6 (.mv (tP 26))])
 (.ret)) (.skip)))
 (.draw [oP 27 (.mv (tP 0)),
 oP 28 (.mv (tP 0)),
 oP 29 (.nilchk (tP 28)),
 oP 30 (.addOff 1 (tP 29)),
 oP 31 (.load none (tP 30)),
 oP 32 (.addOff 3 (tP 4)),
 oP 33 (.load none (tP 32)),
 oP 34 (.load (some 3) (tP 5)),
 oP 35 (.build [.str ⟨#[]⟩, .int .i64 0, .str ⟨#[]⟩, .slice 3 []] [(0, 1, (tP 33)), (1, 3, (tP 34))]),
 oP 36 (.lit true 0 4 1 [.str ⟨#[]⟩, .int .i64 0, .str ⟨#[]⟩, .slice 3 []] [(0, (tP 35))]),
 oP 37 (.app false 0 4 64 (tP 31) (tP 36)),
 oP 38 (.nilchk (tP 27)),
 oP 39 (.addOff 1 (tP 38)),
 sP (.store 1 (tP 39) (tP 37))] [])) (.seq (.region [oP 41 (.bin .eql (tP 15) (iP 2)),
 oP 40 (.mv (tP 41))])
 (.cond (tP 40) (.seq (.region [oP 42 (.addOff 0 (tP 5)),
 oP 43 (.load none (tP 42)),
 oP 44 (.bin .neq (tP 43) (iP 0))])
 (.cond (tP 44) (.seq (.region [oP 45 (.addOff 1 (tP 4)),
 oP 46 (.load (some 2) (tP 45)),
 oP 47 (.call (.fn 87) [(iP 10), (tP 46)]),
 oP 6 (.mv (tP 47))])
 (.ret)) (.skip))) (.seq (.region [oP 49 (.bin .eql (tP 15) (iP 3)),
 oP 48 (.mv (tP 49))])
 (.cond (tP 48) (.seq (.draw [oP 51 (.mv (tP 0)),
 oP 52 (.nilchk (tP 51)),
 oP 53 (.addOff 0 (tP 52)),
 oP 54 (.load none (tP 53)),
 oP 55 (.addOff 3 (tP 4)),
 oP 56 (.load none (tP 55)),
 oP 57 (.call (.fn 170) [(tP 54), (tP 56)]),
 oP 50 (.mv (tP 57)),
 oP 58 (.ext 0 (tP 50)),
 oP 59 (.ext 1 (tP 50)),
 oP 60 (.ext 2 (tP 50)),
 oP 8 (.mv (tP 58)),
 oP 9 (.mv (tP 59)),
 oP 10 (.mv (tP 60))] [])
 (.seq (.block 1 (.seq (.region [oP 62 (.mv (tP 10)),
 oP 63 (.un .not (tP 62)),
 oP 61 (.mv (tP 63))])
 (.cond (tP 61) (.seq (.region [oP 64 (.addOff 1 (tP 4)),
 oP 65 (.load (some 2) (tP 64)),
 oP 66 (.call (.fn 87) [(iP 8), (tP 65)]),
 oP 6 (.mv (tP 66))])
 (.ret)) (.seq (.draw [oP 68 (.addOff 0 (tP 5)),
 oP 69 (.load none (tP 68)),
 oP 70 (.bin .neq (tP 69) (iP 2)),
 oP 71 (.mv (tP 70)),
 gP 72 71 false (.mv (tP 0)),
 gP 73 71 false (.nilchk (tP 72)),
 gP 74 71 false (.addOff 0 (tP 73)),
 gP 75 71 false (.load none (tP 74)),
 gP 76 71 false (.mv (tP 8)),
 gP 77 71 false (.idxAddr 4 (tP 75) (tP 76)),
 gP 78 71 false (.addOff 2 (tP 77)),
 gP 79 71 false (.load none (tP 78)),
 gP 80 71 false (.addOff 1 (tP 5)),
 gP 81 71 false (.load none (tP 80)),
 gP 82 71 false (.bin .neq (tP 79) (tP 81)),
 oP 83 (.pick (tP 71) (bP true) (tP 82)),
 oP 67 (.mv (tP 83))] [])
 (.cond (tP 67) (.seq (.region [oP 84 (.addOff 1 (tP 4)),
 oP 85 (.load (some 2) (tP 84)),
 oP 86 (.call (.fn 87) [(iP 10), (tP 85)]),
 oP 6 (.mv (tP 86))])
 (.ret)) (.seq (.draw [oP 88 (.mv (tP 0)),
 oP 89 (.nilchk (tP 88)),
 oP 90 (.addOff 0 (tP 89)),
 oP 91 (.load none (tP 90)),
 oP 92 (.mv (tP 8)),
 oP 93 (.idxAddr 4 (tP 91) (tP 92)),
 oP 94 (.addOff 3 (tP 93)),
 oP 95 (.load none (tP 94)),
 oP 96 (.mv (tP 9)),
 oP 97 (.idxAddr 2 (tP 95) (tP 96)),
 oP 98 (.addOff 1 (tP 97)),
 oP 99 (.load none (tP 98)),
 oP 100 (.len false (tP 99)),
 oP 101 (.addOff 5 (tP 4)),
 oP 102 (.load none (tP 101)),
 oP 103 (.len false (tP 102)),
 oP 104 (.bin .neq (tP 100) (tP 103)),
 oP 87 (.mv (tP 104))] [])
 (.cond (tP 87) (.seq (.region [oP 105 (.addOff 1 (tP 4)),
 oP 106 (.load (some 2) (tP 105)),
 oP 107 (.call (.fn 87) [(iP 11), (tP 106)]),
 oP 6 (.mv (tP 107))])
 (.ret)) (.skip))))))))
 (.region [oP 108 (.mv (tP 0)),
 oP 109 (.nilchk (tP 108)),
 oP 110 (.addOff 0 (tP 109)),
 oP 111 (.load none (tP 110)),
 oP 112 (.mv (tP 8)),
 oP 113 (.idxAddr 4 (tP 111) (tP 112)),
 oP 114 (.addOff 3 (tP 113)),
 oP 115 (.load none (tP 114)),
 oP 116 (.mv (tP 9)),
 oP 117 (.idxAddr 2 (tP 115) (tP 116)),
 oP 118 (.addOff 1 (tP 117)),
 oP 119 (.load none (tP 118)),
 oP 7 (.mv (tP 119))]))) (.seq (.region [oP 121 (.bin .eql (tP 15) (iP 4)),
 oP 120 (.mv (tP 121))])
 (.cond (tP 120) (.seq (.seq (.region [oP 122 (.addOff 0 (tP 5)),
 oP 123 (.load none (tP 122)),
 oP 124 (.bin .neq (tP 123) (iP 3)),
 oP 125 (.mv (tP 124)),
 gP 126 125 false (.addOff 5 (tP 4)),
 gP 127 125 false (.load none (tP 126)),
 gP 128 125 false (.len false (tP 127)),
 gP 129 125 false (.addOff 2 (tP 5)),
 gP 130 125 false (.load none (tP 129)),
 gP 131 125 false (.len false (tP 130)),
 gP 132 125 false (.bin .neq (tP 128) (tP 131)),
 oP 133 (.pick (tP 125) (bP true) (tP 132))])
 (.cond (tP 133) (.seq (.region [oP 134 (.addOff 1 (tP 4)),
 oP 135 (.load (some 2) (tP 134)),
 oP 136 (.call (.fn 87) [(iP 10), (tP 135)]),
 oP 6 (.mv (tP 136))])
 (.ret)) (.skip)))
 (.region [oP 137 (.addOff 2 (tP 5)),
 oP 138 (.load none (tP 137)),
 oP 7 (.mv (tP 138))])) (.skip)))))))))))
 (.seq (.seq (.region [oP 139 (.mv (tP 7)),
 oP 140 (.len false (tP 139)),
 oP 141 (.mv (iP 0))])
 (.block 2 (.loop true H142L24 X142L24 B142L24)))
 (.seq (.region [oP 6 (.mv (.con (.nili)))])
 (.ret)))))
def A142 : AFunc := { ntmps := 158, results := [.tmp 6], body := B142, coe := true, keep := 0 }
theorem tr142 : trFunc Tryz.prog M142 true Tryz.f142 = some A142 := by kernel_rfl
def M143 : Marks := { cut := fun _ => true, hd := fun | _ => [], ex := fun | _ => [], imm := fun | _ => false }
def B143 : ACode :=
 .seq (.region [oP 6 (.mv (bP false))])
 (.seq (.region [oP 7 (.mv (tP 1)),
 oP 8 (.mv (tP 2)),
 oP 9 (.mv (tP 0)),
 oP 10 (.mkf (.func 107) [(tP 9)] []),
 oP 11 (.call (.fn 187) [(tP 7), (tP 8), (tP 10)]),
 oP 6 (.mv (tP 11))])
 (.ret))
def A143 : AFunc := { ntmps := 12, results := [.tmp 6], body := B143, coe := true, keep := 0 }
theorem tr143 : trFunc Tryz.prog M143 true Tryz.f143 = some A143 := by kernel_rfl
def M144 : Marks := { cut := fun _ => true, hd := fun | _ => [], ex := fun | _ => [], imm := fun | 3 => true | _ => false }
def B144 : ACode :=
 .seq (.region [oP 3 (.box true (tP 1)),
 oP 4 (.mv (bP false))])
 (.seq (.seq (.region [oP 5 (.mv (tP 0)),
 oP 6 (.bin .lss (tP 5) (iP 1))])
 (.cond (tP 6) (.seq (.region [oP 4 (.mv (bP false))])
 (.ret)) (.skip)))
 (.seq (.seq (.region [oP 7 (.addOff 0 (tP 3)),
 oP 8 (.load none (tP 7))])
 (.block 0 (.seq (.seq (.region [oP 10 (.bin .eql (tP 8) (iP 0)),
 oP 9 (.mv (tP 10))])
 (.cond (tP 9) (.skip) (.region [oP 11 (.bin .eql (tP 8) (iP 1)),
 oP 9 (.mv (tP 11))])))
 (.cond (tP 9) (.seq (.region [oP 12 (.addOff 1 (tP 3)),
 oP 13 (.load none (tP 12)),
 oP 14 (.bin .eql (tP 13) (.con (.str ⟨#[]⟩))),
 oP 15 (.mv (tP 14)),
 gP 16 15 true (.addOff 2 (tP 3)),
 gP 17 15 true (.load none (tP 16)),
 gP 18 15 true (.len false (tP 17)),
 gP 19 15 true (.bin .eql (tP 18) (iP 0)),
 oP 20 (.pick (tP 15) (tP 19) (bP false)),
 oP 4 (.mv (tP 20))])
 (.ret)) (.seq (.region [oP 22 (.bin .eql (tP 8) (iP 2)),
 oP 21 (.mv (tP 22))])
 (.cond (tP 21) (.seq (.region [oP 23 (.addOff 1 (tP 3)),
 oP 24 (.load none (tP 23)),
 oP 25 (.call (.fn 147) [(tP 24)]),
 oP 26 (.mv (tP 25)),
 gP 27 26 true (.addOff 2 (tP 3)),
 gP 28 26 true (.load none (tP 27)),
 gP 29 26 true (.len false (tP 28)),
 gP 30 26 true (.bin .eql (tP 29) (iP 0)),
 oP 31 (.pick (tP 26) (tP 30) (bP false)),
 oP 4 (.mv (tP 31))])
 (.ret)) (.seq (.region [oP 33 (.bin .eql (tP 8) (iP 3)),
 oP 32 (.mv (tP 33))])
 (.cond (tP 32) (.seq (.region [oP 34 (.addOff 1 (tP 3)),
 oP 35 (.load none (tP 34)),
 oP 36 (.bin .eql (tP 35) (.con (.str ⟨#[]⟩))),
 oP 37 (.mv (tP 36)),
 gP 38 37 true (.addOff 2 (tP 3)),
 gP 39 37 true (.load none (tP 38)),
 gP 40 37 true (.mv (tP 0)),
 gP 41 37 true (.bin .sub (tP 40) (iP 1)),
 gP 42 37 true (.mkf (.func 144) [(tP 41)] []),
 gP 43 37 true (.call (.fn 188) [(tP 39), (iP 2), (iP 6), (tP 42)]),
 oP 44 (.pick (tP 37) (tP 43) (bP false)),
 oP 4 (.mv (tP 44))])
 (.ret)) (.skip)))))))))
 (.seq (.region [oP 4 (.mv (bP false))])
 (.ret))))
def A144 : AFunc := { ntmps := 45, results := [.tmp 4], body := B144, coe := true, keep := 0 }
theorem tr144 : trFunc Tryz.prog M144 true Tryz.f144 = some A144 := by kernel_rfl
def M145 : Marks := { cut := fun _ => true, hd := fun | _ => [], ex := fun | _ => [], imm := fun | _ => false }
def B145 : ACode :=
 .seq (.region [oP 4 (.mv (bP false))])
 (.seq (.region [oP 5 (.mv (tP 0)),
 oP 6 (.mv (tP 1)),
 oP 7 (.call (.fn 156) [(tP 5), (tP 6)]),
 oP 8 (.bin .geq (tP 7) (iP 0)),
 oP 4 (.mv (tP 8))])
 (.ret))
def A145 : AFunc := { ntmps := 9, results := [.tmp 4], body := B145, coe := true, keep := 0 }
theorem tr145 : trFunc Tryz.prog M145 true Tryz.f145 = some A145 := by kernel_rfl
def M146 : Marks := { cut := fun _ => true, hd := fun | _ => [], ex := fun | _ => [], imm := fun | 2 => true | _ => false }
def B146 : ACode :=
 .seq (.region [oP 2 (.box true (tP 0)),
 oP 3 (.mv (bP false))])
 (.seq (.region [oP 4 (.load none (tP 1)),
 oP 5 (.load (some 4) (tP 2)),
 oP 6 (.call (tP 4) [(tP 5)]),
 oP 7 (.un .not (tP 6)),
 oP 3 (.mv (tP 7))])
 (.ret))
def A146 : AFunc := { ntmps := 8, results := [.tmp 3], body := B146, coe := true, keep := 0 }
theorem tr146 : trFunc Tryz.prog M146 true Tryz.f146 = some A146 := by kernel_rfl
def M147 : Marks := { cut := fun _ => true, hd := fun | _ => [], ex := fun | _ => [], imm := fun | _ => false }
def B147 : ACode :=
 .seq (.region [oP 2 (.mv (bP false))])
 (.seq (.region [oP 3 (.mv (tP 0)),
 oP 4 (.call (.fn 155) [(tP 3)]),
 oP 5 (.mv (tP 4)),
 gP 6 5 true (.mv (tP 0)),
 gP 7 5 true (.bin .neq (tP 6) (.con (.str ⟨#[105, 110, 116]⟩))),
 oP 8 (.pick (tP 5) (tP 7) (bP false)),
 oP 9 (.mv (tP 8)),
 gP 10 9 true (.mv (tP 0)),
 gP 11 9 true (.bin .neq (tP 10) (.con (.str ⟨#[98, 121, 116, 101, 115]⟩))),
 oP 12 (.pick (tP 9) (tP 11) (bP false)),
 oP 2 (.mv (tP 12))])
 (.ret))
def A147 : AFunc := { ntmps := 13, results := [.tmp 2], body := B147, coe := true, keep := 0 }
theorem tr147 : trFunc Tryz.prog M147 true Tryz.f147 = some A147 := by kernel_rfl
def M148 : Marks := { cut := fun _ => true, hd := fun | _ => [], ex := fun | _ => [], imm := fun | _ => false }
def B148 : ACode :=
 .seq (.region [oP 7 (.box false (tP 3)),
 oP 8 (.mv (bP false))])
 (.seq (.region [oP 9 (.mv (tP 0)),
 oP 10 (.len false (tP 9)),
 oP 11 (.mv (tP 1)),
 oP 12 (.bin .geq (tP 10) (tP 11)),
 oP 13 (.mv (tP 12)),
 gP 14 13 true (.mv (tP 0)),
 gP 15 13 true (.len false (tP 14)),
 gP 16 13 true (.mv (tP 2)),
 gP 17 13 true (.bin .leq (tP 15) (tP 16)),
 oP 18 (.pick (tP 13) (tP 17) (bP false)),
 oP 19 (.mv (tP 18)),
 gP 20 19 true (.mv (tP 0)),
 gP 21 19 true (.mkf (.func 189) [] [(tP 7)]),
 gP 22 19 true (.call (.fn 80) [(tP 20), (tP 21)]),
 gP 23 19 true (.un .not (tP 22)),
 oP 24 (.pick (tP 19) (tP 23) (bP false)),
 oP 8 (.mv (tP 24))])
 (.ret))
def A148 : AFunc := { ntmps := 25, results := [.tmp 8], body := B148, coe := true, keep := 0 }
theorem tr148 : trFunc Tryz.prog M148 true Tryz.f148 = some A148 := by kernel_rfl
def M149 : Marks := { cut := fun _ => true, hd := fun | _ => [], ex := fun | _ => [], imm := fun | 1 => true | _ => false }
def B149 : ACode :=
 .seq (.region [oP 1 (.box true (tP 0)),
 oP 2 (.mv (bP false))])
 (.seq (.region [oP 3 (.addOff 0 (tP 1)),
 oP 4 (.load none (tP 3)),
 oP 5 (.call (.fn 190) [(tP 4)]),
 oP 6 (.mv (tP 5)),
 gP 7 6 true (.addOff 1 (tP 1)),
 gP 8 6 true (.load none (tP 7)),
 gP 9 6 true (.call (.fn 188) [(tP 8), (iP 0), (iP 6), (.fn 109)]),
 oP 10 (.pick (tP 6) (tP 9) (bP false)),
 oP 2 (.mv (tP 10))])
 (.ret))
def A149 : AFunc := { ntmps := 11, results := [.tmp 2], body := B149, coe := true, keep := 0 }
theorem tr149 : trFunc Tryz.prog M149 true Tryz.f149 = some A149 := by kernel_rfl
def M150 : Marks := { cut := fun _ => true, hd := fun | _ => [], ex := fun | _ => [], imm := fun | 2 => true | _ => false }
def B150 : ACode :=
 .seq (.region [oP 2 (.box true (tP 0)),
 oP 3 (.mv (bP false))])
 (.seq (.region [oP 4 (.load none (tP 1)),
 oP 5 (.load (some 15) (tP 2)),
 oP 6 (.call (tP 4) [(tP 5)]),
 oP 7 (.un .not (tP 6)),
 oP 3 (.mv (tP 7))])
 (.ret))
def A150 : AFunc := { ntmps := 8, results := [.tmp 3], body := B150, coe := true, keep := 0 }
theorem tr150 : trFunc Tryz.prog M150 true Tryz.f150 = some A150 := by kernel_rfl
def M151 : Marks := { cut := fun _ => true, hd := fun | _ => [], ex := fun | _ => [], imm := fun | _ => false }
def B151 : ACode :=
 .seq (.region [oP 2 (.mv (bP false))])
 (.seq (.seq (.region [oP 3 (.mv (tP 0))])
 (.block 0 (.seq (.seq (.region [oP 5 (.bin .eql (tP 3) (.con (.str ⟨#[105, 110, 116]⟩))),
 oP 4 (.mv (tP 5))])
 (.cond (tP 4) (.skip) (.seq (.region [oP 6 (.bin .eql (tP 3) (.con (.str ⟨#[98, 121, 116, 101, 115]⟩))),
 oP 4 (.mv (tP 6))])
 (.cond (tP 4) (.skip) (.seq (.region [oP 7 (.bin .eql (tP 3) (.con (.str ⟨#[108, 101, 110]⟩))),
 oP 4 (.mv (tP 7))])
 (.cond (tP 4) (.skip) (.seq (.region [oP 8 (.bin .eql (tP 3) (.con (.str ⟨#[97, 116]⟩))),
 oP 4 (.mv (tP 8))])
 (.cond (tP 4) (.skip) (.seq (.region [oP 9 (.bin .eql (tP 3) (.con (.str ⟨#[99, 97, 116]⟩))),
 oP 4 (.mv (tP 9))])
 (.cond (tP 4) (.skip) (.region [oP 10 (.bin .eql (tP 3) (.con (.str ⟨#[99, 117, 116]⟩))),
 oP 4 (.mv (tP 10))])))))))))))
 (.cond (tP 4) (.seq (.region [oP 2 (.mv (bP false))])
 (.ret)) (.skip)))))
 (.seq (.region [oP 11 (.mv (tP 0)),
 oP 12 (.call (.fn 155) [(tP 11)]),
 oP 2 (.mv (tP 12))])
 (.ret)))
def A151 : AFunc := { ntmps := 13, results := [.tmp 2], body := B151, coe := true, keep := 0 }
theorem tr151 : trFunc Tryz.prog M151 true Tryz.f151 = some A151 := by kernel_rfl
def M152 : Marks := { cut := fun _ => true, hd := fun | _ => [], ex := fun | _ => [], imm := fun | _ => false }
def B152 : ACode :=
 .seq (.region [oP 7 (.box false (tP 3)),
 oP 8 (.mv (bP false))])
 (.seq (.region [oP 9 (.mv (tP 0)),
 oP 10 (.len false (tP 9)),
 oP 11 (.mv (tP 1)),
 oP 12 (.bin .geq (tP 10) (tP 11)),
 oP 13 (.mv (tP 12)),
 gP 14 13 true (.mv (tP 0)),
 gP 15 13 true (.len false (tP 14)),
 gP 16 13 true (.mv (tP 2)),
 gP 17 13 true (.bin .leq (tP 15) (tP 16)),
 oP 18 (.pick (tP 13) (tP 17) (bP false)),
 oP 19 (.mv (tP 18)),
 gP 20 19 true (.mv (tP 0)),
 gP 21 19 true (.mkf (.func 191) [] [(tP 7)]),
 gP 22 19 true (.call (.fn 185) [(tP 20), (tP 21)]),
 gP 23 19 true (.un .not (tP 22)),
 oP 24 (.pick (tP 19) (tP 23) (bP false)),
 oP 8 (.mv (tP 24))])
 (.ret))
def A152 : AFunc := { ntmps := 25, results := [.tmp 8], body := B152, coe := true, keep := 0 }
theorem tr152 : trFunc Tryz.prog M152 true Tryz.f152 = some A152 := by kernel_rfl
def M153 : Marks := { cut := fun _ => true, hd := fun | _ => [], ex := fun | _ => [], imm := fun | 1 => true | _ => false }
def B153 : ACode :=
 .seq (.region [oP 1 (.box true (tP 0)),
 oP 2 (.mv (bP false))])
 (.seq (.region [oP 3 (.addOff 0 (tP 1)),
 oP 4 (.load none (tP 3)),
 oP 5 (.call (.fn 155) [(tP 4)]),
 oP 6 (.mv (tP 5)),
 gP 7 6 true (.addOff 1 (tP 1)),
 gP 8 6 true (.load (some 3) (tP 7)),
 gP 9 6 true (.call (.fn 109) [(tP 8)]),
 oP 10 (.pick (tP 6) (tP 9) (bP false)),
 oP 2 (.mv (tP 10))])
 (.ret))
def A153 : AFunc := { ntmps := 11, results := [.tmp 2], body := B153, coe := true, keep := 0 }
theorem tr153 : trFunc Tryz.prog M153 true Tryz.f153 = some A153 := by kernel_rfl
def M154 : Marks := { cut := fun _ => true, hd := fun | _ => [], ex := fun | _ => [], imm := fun | 2 => true | _ => false }
def B154 : ACode :=
 .seq (.region [oP 2 (.box true (tP 0)),
 oP 3 (.mv (bP false))])
 (.seq (.region [oP 4 (.load none (tP 1)),
 oP 5 (.load (some 16) (tP 2)),
 oP 6 (.call (tP 4) [(tP 5)]),
 oP 7 (.un .not (tP 6)),
 oP 3 (.mv (tP 7))])
 (.ret))
def A154 : AFunc := { ntmps := 8, results := [.tmp 3], body := B154, coe := true, keep := 0 }
theorem tr154 : trFunc Tryz.prog M154 true Tryz.f154 = some A154 := by kernel_rfl
def M155 : Marks := { cut := fun _ => true, hd := fun | _ => [], ex := fun | _ => [], imm := fun | _ => false }
def B155 : ACode :=
 .seq (.region [oP 2 (.mv (bP false))])
 (.seq (.region [oP 3 (.mv (tP 0)),
 oP 4 (.call (.fn 192) [(tP 3), (bP false)]),
 oP 2 (.mv (tP 4))])
 (.ret))
def A155 : AFunc := { ntmps := 5, results := [.tmp 2], body := B155, coe := true, keep := 0 }
theorem tr155 : trFunc Tryz.prog M155 true Tryz.f155 = some A155 := by kernel_rfl
abbrev H156L2 : List Bool := [true, true, false, false, false, false, false, true, true]
abbrev X156L2 : List Bool := [false, false, false, false, true]
def M156 : Marks := { cut := fun _ => true, hd := fun | 2 => H156L2 | _ => [], ex := fun | 2 => X156L2 | _ => [], imm := fun | _ => false }
def B156L2 : ACode :=
 .seq (.region [oP 9 (.bin .lss (tP 8) (tP 7))])
 (.seq (.cond (tP 9) (.skip) (.exit 0))
 (.seq (.block 1 (.seq (.region [oP 10 (.mv (tP 8)),
 oP 5 (.mv (tP 10))])
 (.seq (.region [oP 11 (.mv (tP 1)),
 oP 12 (.mv (tP 0)),
 oP 13 (.mv (tP 5)),
 oP 14 (.idxAddr 4 (tP 12) (tP 13)),
 oP 15 (.load (some 4) (tP 14)),
 oP 16 (.call (tP 11) [(tP 15)])])
 (.cond (tP 16) (.seq (.region [oP 17 (.mv (tP 5)),
 oP 4 (.mv (tP 17))])
 (.ret)) (.skip)))))
 (.region [oP 18 (.bin .add (tP 8) (iP 1)),
 oP 8 (.mv (tP 18))])))
def B156 : ACode :=
 .seq (.region [oP 4 (.mv (iP 0))])
 (.seq (.seq (.region [oP 6 (.mv (tP 0)),
 oP 7 (.len false (tP 6)),
 oP 8 (.mv (iP 0))])
 (.block 0 (.loop true H156L2 X156L2 B156L2)))
 (.seq (.region [oP 4 (.mv (iP (-1)))])
 (.ret)))
def A156 : AFunc := { ntmps := 19, results := [.tmp 4], body := B156, coe := true, keep := 0 }
theorem tr156 : trFunc Tryz.prog M156 true Tryz.f156 = some A156 := by kernel_rfl
def M157 : Marks := { cut := fun _ => true, hd := fun | _ => [], ex := fun | _ => [], imm := fun | 2 => true | _ => false }
def B157 : ACode :=
 .seq (.region [oP 2 (.box true (tP 0)),
 oP 3 (.mv (bP false))])
 (.seq (.region [oP 4 (.addOff 2 (tP 2)),
 oP 5 (.load none (tP 4)),
 oP 6 (.load none (tP 1)),
 oP 7 (.bin .eql (tP 5) (tP 6)),
 oP 3 (.mv (tP 7))])
 (.ret))
def A157 : AFunc := { ntmps := 8, results := [.tmp 3], body := B157, coe := true, keep := 0 }
theorem tr157 : trFunc Tryz.prog M157 true Tryz.f157 = some A157 := by kernel_rfl
abbrev H158L2 : List Bool := [true, true, false, false, false, false, false, true, true]
abbrev X158L2 : List Bool := [false, false, false, false, true]
def M158 : Marks := { cut := fun _ => true, hd := fun | 2 => H158L2 | _ => [], ex := fun | 2 => X158L2 | _ => [], imm := fun | _ => false }
def B158L2 : ACode :=
 .seq (.region [oP 9 (.bin .lss (tP 8) (tP 7))])
 (.seq (.cond (tP 9) (.skip) (.exit 0))
 (.seq (.block 1 (.seq (.region [oP 10 (.mv (tP 8)),
 oP 5 (.mv (tP 10))])
 (.seq (.region [oP 11 (.mv (tP 1)),
 oP 12 (.mv (tP 0)),
 oP 13 (.mv (tP 5)),
 oP 14 (.idxAddr 3 (tP 12) (tP 13)),
 oP 15 (.load (some 3) (tP 14)),
 oP 16 (.call (tP 11) [(tP 15)])])
 (.cond (tP 16) (.seq (.region [oP 17 (.mv (tP 5)),
 oP 4 (.mv (tP 17))])
 (.ret)) (.skip)))))
 (.region [oP 18 (.bin .add (tP 8) (iP 1)),
 oP 8 (.mv (tP 18))])))
def B158 : ACode :=
 .seq (.region [oP 4 (.mv (iP 0))])
 (.seq (.seq (.region [oP 6 (.mv (tP 0)),
 oP 7 (.len false (tP 6)),
 oP 8 (.mv (iP 0))])
 (.block 0 (.loop true H158L2 X158L2 B158L2)))
 (.seq (.region [oP 4 (.mv (iP (-1)))])
 (.ret)))
def A158 : AFunc := { ntmps := 19, results := [.tmp 4], body := B158, coe := true, keep := 0 }
theorem tr158 : trFunc Tryz.prog M158 true Tryz.f158 = some A158 := by kernel_rfl
abbrev H159L1 : List Bool := [true, true, false, true]
abbrev X159L1 : List Bool := []
def M159 : Marks := { cut := fun _ => true, hd := fun | 1 => H159L1 | _ => [], ex := fun | 1 => X159L1 | _ => [], imm := fun | _ => false }
def B159L1 : ACode :=
 .seq (.seq (.region [oP 7 (.mv (tP 3)),
 oP 8 (.bin .geq (tP 7) (iP 0))])
 (.cond (tP 8) (.skip) (.exit 0)))
 (.seq (.block 1 (.seq (.region [oP 11 (.mv (tP 0)),
 oP 12 (.mv (tP 3)),
 oP 13 (.load none (tP 1)),
 oP 14 (.mv (tP 3)),
 oP 15 (.idxAddr 4 (tP 13) (tP 14)),
 oP 16 (.load (some 4) (tP 15)),
 oP 17 (.call (tP 11) [(tP 12), (tP 16)]),
 oP 18 (.un .not (tP 17))])
 (.cond (tP 18) (.ret) (.skip))))
 (.region [oP 9 (.mv (tP 3)),
 oP 10 (.bin .sub (tP 9) (iP 1)),
 oP 3 (.mv (tP 10))]))
def B159 : ACode :=
 .seq (.region [oP 4 (.load none (tP 1)),
 oP 5 (.len false (tP 4)),
 oP 6 (.bin .sub (tP 5) (iP 1)),
 oP 3 (.mv (tP 6))])
 (.block 0 (.loop true H159L1 X159L1 B159L1))
def A159 : AFunc := { ntmps := 19, results := [], body := B159, coe := true, keep := 0 }
theorem tr159 : trFunc Tryz.prog M159 true Tryz.f159 = some A159 := by kernel_rfl
def M160 : Marks := { cut := fun _ => true, hd := fun | _ => [], ex := fun | _ => [], imm := fun | 2 => true | _ => false }
def B160 : ACode :=
 .seq (.region [oP 2 (.box true (tP 0)),
 oP 3 (.mv (bP false))])
 (.seq (.region [oP 4 (.load none (tP 1)),
 oP 5 (.load (some 3) (tP 2)),
 oP 6 (.call (.fn 161) [(tP 4), (tP 5)]),
 oP 7 (.un .not (tP 6)),
 oP 3 (.mv (tP 7))])
 (.ret))
def A160 : AFunc := { ntmps := 8, results := [.tmp 3], body := B160, coe := true, keep := 0 }
theorem tr160 : trFunc Tryz.prog M160 true Tryz.f160 = some A160 := by kernel_rfl
def M161 : Marks := { cut := fun _ => true, hd := fun | _ => [], ex := fun | _ => [], imm := fun | 3 => true | _ => false }
def B161 : ACode :=
 .seq (.region [oP 3 (.box true (tP 1)),
 oP 4 (.mv (bP false))])
 (.seq (.seq (.region [oP 7 (.addOff 0 (tP 3)),
 oP 8 (.load none (tP 7))])
 (.block 0 (.seq (.seq (.region [oP 10 (.bin .eql (tP 8) (iP 0)),
 oP 9 (.mv (tP 10))])
 (.cond (tP 9) (.skip) (.region [oP 11 (.bin .eql (tP 8) (iP 1)),
 oP 9 (.mv (tP 11))])))
 (.cond (tP 9) (.seq (.region [oP 4 (.mv (bP true))])
 (.ret)) (.seq (.region [oP 13 (.bin .eql (tP 8) (iP 2)),
 oP 12 (.mv (tP 13))])
 (.cond (tP 12) (.seq (.draw [oP 15 (.mv (tP 0)),
 oP 16 (.nilchk (tP 15)),
 oP 17 (.addOff 1 (tP 16)),
 oP 18 (.load none (tP 17)),
 oP 19 (.addOff 1 (tP 3)),
 oP 20 (.load none (tP 19)),
 oP 21 (.mlook true (.str ⟨#[]⟩) (.int .i64 0) (tP 18) (tP 20)),
 oP 14 (.mv (tP 21)),
 oP 22 (.ext 0 (tP 14)),
 oP 23 (.ext 1 (tP 14)),
 oP 5 (.mv (tP 22)),
 oP 6 (.mv (tP 23))] [])
 (.seq (.region [oP 24 (.mv (tP 6)),
 oP 25 (.mv (tP 24)),
 gP 26 25 true (.mv (tP 0)),
 gP 27 25 true (.nilchk (tP 26)),
 gP 28 25 true (.addOff 2 (tP 27)),
 gP 29 25 true (.load none (tP 28)),
 gP 30 25 true (.mv (tP 5)),
 gP 31 25 true (.idxAddr 1 (tP 29) (tP 30)),
 gP 32 25 true (.load none (tP 31)),
 oP 33 (.pick (tP 25) (tP 32) (bP false)),
 oP 4 (.mv (tP 33))])
 (.ret))) (.skip)))))))
 (.seq (.region [oP 34 (.mv (tP 0)),
 oP 35 (.addOff 2 (tP 3)),
 oP 36 (.load none (tP 35)),
 oP 37 (.call (.fn 122) [(tP 34), (tP 36)]),
 oP 4 (.mv (tP 37))])
 (.ret)))
def A161 : AFunc := { ntmps := 38, results := [.tmp 4], body := B161, coe := true, keep := 0 }
theorem tr161 : trFunc Tryz.prog M161 true Tryz.f161 = some A161 := by kernel_rfl
abbrev H162L2 : List Bool := [true, true, false, false, false, false, false, true, true]
abbrev X162L2 : List Bool := [false, false, false, false, true]
def M162 : Marks := { cut := fun _ => true, hd := fun | 2 => H162L2 | _ => [], ex := fun | 2 => X162L2 | _ => [], imm := fun | _ => false }
def B162L2 : ACode :=
 .seq (.region [oP 9 (.bin .lss (tP 8) (tP 7))])
 (.seq (.cond (tP 9) (.skip) (.exit 0))
 (.seq (.block 1 (.seq (.region [oP 10 (.mv (tP 8)),
 oP 5 (.mv (tP 10))])
 (.seq (.region [oP 11 (.mv (tP 1)),
 oP 12 (.mv (tP 0)),
 oP 13 (.mv (tP 5)),
 oP 14 (.idxAddr 15 (tP 12) (tP 13)),
 oP 15 (.load (some 15) (tP 14)),
 oP 16 (.call (tP 11) [(tP 15)])])
 (.cond (tP 16) (.seq (.region [oP 17 (.mv (tP 5)),
 oP 4 (.mv (tP 17))])
 (.ret)) (.skip)))))
 (.region [oP 18 (.bin .add (tP 8) (iP 1)),
 oP 8 (.mv (tP 18))])))
def B162 : ACode :=
 .seq (.region [oP 4 (.mv (iP 0))])
 (.seq (.seq (.region [oP 6 (.mv (tP 0)),
 oP 7 (.len false (tP 6)),
 oP 8 (.mv (iP 0))])
 (.block 0 (.loop true H162L2 X162L2 B162L2)))
 (.seq (.region [oP 4 (.mv (iP (-1)))])
 (.ret)))
def A162 : AFunc := { ntmps := 19, results := [.tmp 4], body := B162, coe := true, keep := 0 }
theorem tr162 : trFunc Tryz.prog M162 true Tryz.f162 = some A162 := by kernel_rfl
def M163 : Marks := { cut := fun _ => true, hd := fun | _ => [], ex := fun | _ => [], imm := fun | 2 => true | 3 => true | _ => false }
def B163 : ACode :=
 .seq (.region [oP 2 (.box true (tP 0)),
 oP 3 (.box true (tP 1)),
 oP 4 (.mv (bP false))])
 (.seq (.region [oP 5 (.addOff 0 (tP 2)),
 oP 6 (.load none (tP 5)),
 oP 7 (.addOff 0 (tP 3)),
 oP 8 (.load none (tP 7)),
 oP 9 (.bin .eql (tP 6) (tP 8)),
 oP 10 (.mv (tP 9)),
 gP 11 10 true (.addOff 1 (tP 2)),
 gP 12 10 true (.load none (tP 11)),
 gP 13 10 true (.addOff 1 (tP 3)),
 gP 14 10 true (.load none (tP 13)),
 gP 15 10 true (.bin .eql (tP 12) (tP 14)),
 oP 16 (.pick (tP 10) (tP 15) (bP false)),
 oP 17 (.mv (tP 16)),
 gP 18 17 true (.addOff 2 (tP 2)),
 gP 19 17 true (.load none (tP 18)),
 gP 20 17 true (.addOff 2 (tP 3)),
 gP 21 17 true (.load none (tP 20)),
 gP 22 17 true (.call (.fn 193) [(tP 19), (tP 21), (.fn 163)]),
 oP 23 (.pick (tP 17) (tP 22) (bP false)),
 oP 4 (.mv (tP 23))])
 (.ret))
def A163 : AFunc := { ntmps := 24, results := [.tmp 4], body := B163, coe := true, keep := 0 }
theorem tr163 : trFunc Tryz.prog M163 true Tryz.f163 = some A163 := by kernel_rfl
def M164 : Marks := { cut := fun _ => true, hd := fun | _ => [], ex := fun | _ => [], imm := fun | 1 => true | _ => false, alts := fun | 5 => [[0, 1, 5, 2, 3, 4, 6]] | 7 => [[0, 1, 2, 3, 4, 5, 9, 6, 7, 8, 10]] | 22 => [[0, 1, 2, 3, 4, 5, 6, 7, 11, 8, 9, 10, 12]] | 24 => [[0, 1, 2, 3, 4, 5, 6, 7, 8, 9, 10, 14, 11, 12, 13, 15]] | _ => [] }
def B164 : ACode :=
 .seq (.region [oP 1 (.box true (tP 0)),
 oP 2 (.alloc [.ok (.bool false), .ok (.bool false), .ok (.bool false), .ok (.int .i64 0), .ok (.int .i64 0), .ok (.bool false)]),
 oP 3 (.mv (bP false))])
 (.seq (.seq (.region [oP 5 (.addOff 0 (tP 1)),
 oP 6 (.load none (tP 5))])
 (.block 0 (.seq (.region [oP 8 (.bin .eql (tP 6) (iP 0)),
 oP 7 (.mv (tP 8))])
 (.cond (tP 7) (.seq (.region [oP 9 (.build [.bool false, .bool false, .bool false, .int .i64 0, .int .i64 0, .bool false] [(1, 1, (bP true))]),
 oP 10 (.addOff 3 (tP 1)),
 oP 11 (.load none (tP 10)),
 oP 12 (.call (.fn 194) [(tP 11)]),
 sP (.store 6 (tP 2) (tP 9)),
 oP 3 (.mv (tP 12))])
 (.ret)) (.seq (.region [oP 14 (.bin .eql (tP 6) (iP 1)),
 oP 13 (.mv (tP 14))])
 (.cond (tP 13) (.seq (.draw [oP 15 (.build [.bool false, .bool false, .bool false, .int .i64 0, .int .i64 0, .bool false] [(2, 1, (bP true))]),
 oP 16 (.addOff 4 (tP 1)),
 oP 17 (.load none (tP 16)),
 oP 18 (.len false (tP 17)),
 oP 19 (.bin .leq (tP 18) (iP 64)),
 sP (.store 6 (tP 2) (tP 15)),
 oP 3 (.mv (tP 19))] [[oP 15 (.build [.bool false, .bool false, .bool false, .int .i64 0, .int .i64 0, .bool false] [(2, 1, (bP true))]), oP 16 (.addOff 4 (tP 1)), sP (.store 6 (tP 2) (tP 15)), oP 17 (.load none (tP 16)), oP 18 (.len false (tP 17)), oP 19 (.bin .leq (tP 18) (iP 64)), oP 3 (.mv (tP 19))]])
 (.ret)) (.seq (.region [oP 21 (.bin .eql (tP 6) (iP 2)),
 oP 20 (.mv (tP 21))])
 (.cond (tP 20) (.seq (.draw [oP 22 (.build [.bool false, .bool false, .bool false, .int .i64 0, .int .i64 0, .bool false] [(0, 1, (bP true))]),
 oP 23 (.addOff 5 (tP 1)),
 oP 24 (.load none (tP 23)),
 oP 25 (.call (.fn 155) [(tP 24)]),
 oP 26 (.mv (tP 25)),
 gP 27 26 false (.addOff 5 (tP 1)),
 gP 28 26 false (.load none (tP 27)),
 gP 29 26 false (.bin .eql (tP 28) (.con (.str ⟨#[115, 116, 97, 116, 101]⟩))),
 oP 30 (.pick (tP 26) (bP true) (tP 29)),
 sP (.store 6 (tP 2) (tP 22)),
 oP 3 (.mv (tP 30))] [[oP 22 (.build [.bool false, .bool false, .bool false, .int .i64 0, .int .i64 0, .bool false] [(0, 1, (bP true))]), oP 23 (.addOff 5 (tP 1)), oP 24 (.load none (tP 23)), oP 25 (.call (.fn 155) [(tP 24)]), oP 26 (.mv (tP 25)), gP 27 26 false (.addOff 5 (tP 1)), sP (.store 6 (tP 2) (tP 22)), gP 28 26 false (.load none (tP 27)), gP 29 26 false (.bin .eql (tP 28) (.con (.str ⟨#[115, 116, 97, 116, 101]⟩))), oP 30 (.pick (tP 26) (bP true) (tP 29)), oP 3 (.mv (tP 30))]])
 (.ret)) (.seq (.region [oP 32 (.bin .eql (tP 6) (iP 3)),
 oP 31 (.mv (tP 32))])
 (.cond (tP 31) (.seq (.region [oP 33 (.build [.bool false, .bool false, .bool false, .int .i64 0, .int .i64 0, .bool false] [(0, 1, (bP true)), (4, 1, (iP 6))]),
 oP 34 (.addOff 5 (tP 1)),
 oP 35 (.load none (tP 34)),
 oP 36 (.call (.fn 190) [(tP 35)]),
 sP (.store 6 (tP 2) (tP 33)),
 oP 3 (.mv (tP 36))])
 (.ret)) (.seq (.region [oP 38 (.bin .eql (tP 6) (iP 4)),
 oP 37 (.mv (tP 38))])
 (.cond (tP 37) (.seq (.region [oP 39 (.build [.bool false, .bool false, .bool false, .int .i64 0, .int .i64 0, .bool false] [(3, 1, (iP 2)), (4, 1, (iP 6))]),
 sP (.store 6 (tP 2) (tP 39)),
 oP 3 (.mv (bP true))])
 (.ret)) (.seq (.region [oP 41 (.bin .eql (tP 6) (iP 5)),
 oP 40 (.mv (tP 41))])
 (.cond (tP 40) (.seq (.region [oP 42 (.build [.bool false, .bool false, .bool false, .int .i64 0, .int .i64 0, .bool false] [(0, 1, (bP true)), (3, 1, (iP 1)), (4, 1, (iP 6))]),
 oP 43 (.addOff 5 (tP 1)),
 oP 44 (.load none (tP 43)),
 oP 45 (.call (.fn 151) [(tP 44)]),
 sP (.store 6 (tP 2) (tP 42)),
 oP 3 (.mv (tP 45))])
 (.ret)) (.seq (.region [oP 47 (.bin .eql (tP 6) (iP 6)),
 oP 46 (.mv (tP 47))])
 (.cond (tP 46) (.seq (.region [oP 48 (.build [.bool false, .bool false, .bool false, .int .i64 0, .int .i64 0, .bool false] [(0, 1, (bP true)), (3, 1, (iP 2)), (4, 1, (iP 2))]),
 oP 49 (.addOff 5 (tP 1)),
 oP 50 (.load none (tP 49)),
 oP 51 (.call (.fn 155) [(tP 50)]),
 sP (.store 6 (tP 2) (tP 48)),
 oP 3 (.mv (tP 51))])
 (.ret)) (.seq (.region [oP 53 (.bin .eql (tP 6) (iP 7)),
 oP 52 (.mv (tP 53))])
 (.cond (tP 52) (.seq (.region [oP 54 (.build [.bool false, .bool false, .bool false, .int .i64 0, .int .i64 0, .bool false] [(3, 1, (iP 3)), (4, 1, (iP 3))]),
 sP (.store 6 (tP 2) (tP 54)),
 oP 3 (.mv (bP true))])
 (.ret)) (.seq (.region [oP 56 (.bin .eql (tP 6) (iP 8)),
 oP 55 (.mv (tP 56))])
 (.cond (tP 55) (.seq (.region [oP 57 (.build [.bool false, .bool false, .bool false, .int .i64 0, .int .i64 0, .bool false] [(3, 1, (iP 1)), (4, 1, (iP 1)), (5, 1, (bP true))]),
 sP (.store 6 (tP 2) (tP 57)),
 oP 3 (.mv (bP true))])
 (.ret)) (.seq (.region [oP 59 (.bin .eql (tP 6) (iP 9)),
 oP 58 (.mv (tP 59))])
 (.cond (tP 58) (.seq (.region [oP 60 (.addOff 3 (tP 1)),
 oP 61 (.load none (tP 60)),
 oP 62 (.call (.fn 195) [(tP 61)]),
 oP 4 (.mv (tP 62))])
 (.seq (.draw [oP 63 (.mv (tP 4)),
 oP 64 (.mv (tP 4)),
 oP 65 (.build [.bool false, .bool false, .bool false, .int .i64 0, .int .i64 0, .bool false] [(1, 1, (bP true)), (3, 1, (tP 63)), (4, 1, (tP 64))]),
 oP 66 (.addOff 3 (tP 1)),
 oP 67 (.load none (tP 66)),
 oP 68 (.bin .geq (tP 67) (iP 0)),
 oP 69 (.mv (tP 68)),
 gP 70 69 true (.addOff 3 (tP 1)),
 gP 71 69 true (.load none (tP 70)),
 gP 72 69 true (.bin .lss (tP 71) (iP 12)),
 oP 73 (.pick (tP 69) (tP 72) (bP false)),
 sP (.store 6 (tP 2) (tP 65)),
 oP 3 (.mv (tP 73))] [[oP 63 (.mv (tP 4)), oP 64 (.mv (tP 4)), oP 65 (.build [.bool false, .bool false, .bool false, .int .i64 0, .int .i64 0, .bool false] [(1, 1, (bP true)), (3, 1, (tP 63)), (4, 1, (tP 64))]), oP 66 (.addOff 3 (tP 1)), oP 67 (.load none (tP 66)), oP 68 (.bin .geq (tP 67) (iP 0)), oP 69 (.mv (tP 68)), gP 70 69 true (.addOff 3 (tP 1)), sP (.store 6 (tP 2) (tP 65)), gP 71 69 true (.load none (tP 70)), gP 72 69 true (.bin .lss (tP 71) (iP 12)), oP 73 (.pick (tP 69) (tP 72) (bP false)), oP 3 (.mv (tP 73))]])
 (.ret))) (.seq (.region [oP 75 (.bin .eql (tP 6) (iP 10)),
 oP 74 (.mv (tP 75))])
 (.cond (tP 74) (.seq (.draw [oP 76 (.build [.bool false, .bool false, .bool false, .int .i64 0, .int .i64 0, .bool false] [(0, 1, (bP true)), (1, 1, (bP true)), (3, 1, (iP 2)), (4, 1, (iP 2))]),
 oP 77 (.addOff 5 (tP 1)),
 oP 78 (.load none (tP 77)),
 oP 79 (.call (.fn 155) [(tP 78)]),
 oP 80 (.mv (tP 79)),
 gP 81 80 true (.addOff 3 (tP 1)),
 gP 82 80 true (.load none (tP 81)),
 gP 83 80 true (.bin .geq (tP 82) (iP 0)),
 oP 84 (.pick (tP 80) (tP 83) (bP false)),
 oP 85 (.mv (tP 84)),
 gP 86 85 true (.addOff 3 (tP 1)),
 gP 87 85 true (.load none (tP 86)),
 gP 88 85 true (.bin .leq (tP 87) (iP 1000)),
 oP 89 (.pick (tP 85) (tP 88) (bP false)),
 sP (.store 6 (tP 2) (tP 76)),
 oP 3 (.mv (tP 89))] [[oP 76 (.build [.bool false, .bool false, .bool false, .int .i64 0, .int .i64 0, .bool false] [(0, 1, (bP true)), (1, 1, (bP true)), (3, 1, (iP 2)), (4, 1, (iP 2))]), oP 77 (.addOff 5 (tP 1)), oP 78 (.load none (tP 77)), oP 79 (.call (.fn 155) [(tP 78)]), oP 80 (.mv (tP 79)), gP 81 80 true (.addOff 3 (tP 1)), gP 82 80 true (.load none (tP 81)), gP 83 80 true (.bin .geq (tP 82) (iP 0)), oP 84 (.pick (tP 80) (tP 83) (bP false)), oP 85 (.mv (tP 84)), gP 86 85 true (.addOff 3 (tP 1)), sP (.store 6 (tP 2) (tP 76)), gP 87 85 true (.load none (tP 86)), gP 88 85 true (.bin .leq (tP 87) (iP 1000)), oP 89 (.pick (tP 85) (tP 88) (bP false)), oP 3 (.mv (tP 89))]])
 (.ret)) (.skip)))))))))))))))))))))))))
 (.seq (.region [oP 90 (.build [.bool false, .bool false, .bool false, .int .i64 0, .int .i64 0, .bool false] []),
 sP (.store 6 (tP 2) (tP 90)),
 oP 3 (.mv (bP false))])
 (.ret)))
def A164 : AFunc := { ntmps := 91, results := [.cell (some 6) 2, .tmp 3], body := B164, coe := true, keep := 0 }
theorem tr164 : trFunc Tryz.prog M164 true Tryz.f164 = some A164 := by kernel_rfl
def M165 : Marks := { cut := fun _ => true, hd := fun | _ => [], ex := fun | _ => [], imm := fun | _ => false }
def B165 : ACode :=
 .seq (.region [oP 7 (.box false (tP 3)),
 oP 8 (.mv (bP false))])
 (.seq (.region [oP 9 (.mv (tP 0)),
 oP 10 (.len false (tP 9)),
 oP 11 (.mv (tP 1)),
 oP 12 (.bin .geq (tP 10) (tP 11)),
 oP 13 (.mv (tP 12)),
 gP 14 13 true (.mv (tP 0)),
 gP 15 13 true (.len false (tP 14)),
 gP 16 13 true (.mv (tP 2)),
 gP 17 13 true (.bin .leq (tP 15) (tP 16)),
 oP 18 (.pick (tP 13) (tP 17) (bP false)),
 oP 19 (.mv (tP 18)),
 gP 20 19 true (.mv (tP 0)),
 gP 21 19 true (.mkf (.func 197) [] [(tP 7)]),
 gP 22 19 true (.call (.fn 196) [(tP 20), (tP 21)]),
 gP 23 19 true (.un .not (tP 22)),
 oP 24 (.pick (tP 19) (tP 23) (bP false)),
 oP 8 (.mv (tP 24))])
 (.ret))
def A165 : AFunc := { ntmps := 25, results := [.tmp 8], body := B165, coe := true, keep := 0 }
theorem tr165 : trFunc Tryz.prog M165 true Tryz.f165 = some A165 := by kernel_rfl
def M166 : Marks := { cut := fun _ => true, hd := fun | _ => [], ex := fun | _ => [], imm := fun | 3 => true | _ => false }
def B166 : ACode :=
 .seq (.region [oP 3 (.box true (tP 1)),
 oP 4 (.mv (bP false))])
 (.seq (.region [oP 5 (.mv (tP 0)),
 oP 6 (.addOff 0 (tP 3)),
 oP 7 (.load (some 6) (tP 6)),
 oP 8 (.call (.fn 184) [(tP 5), (tP 7)]),
 oP 9 (.mv (tP 8)),
 gP 10 9 true (.mv (tP 0)),
 gP 11 9 true (.addOff 6 (tP 3)),
 gP 12 9 true (.load (some 8) (tP 11)),
 gP 13 9 true (.call (.fn 129) [(tP 10), (tP 12)]),
 oP 14 (.pick (tP 9) (tP 13) (bP false)),
 oP 4 (.mv (tP 14))])
 (.ret))
def A166 : AFunc := { ntmps := 15, results := [.tmp 4], body := B166, coe := true, keep := 0 }
theorem tr166 : trFunc Tryz.prog M166 true Tryz.f166 = some A166 := by kernel_rfl
def M167 : Marks := { cut := fun _ => true, hd := fun | _ => [], ex := fun | _ => [], imm := fun | _ => false }
def B167 : ACode :=
 .seq (.region [oP 7 (.box false (tP 3)),
 oP 8 (.mv (bP false))])
 (.seq (.region [oP 9 (.mv (tP 0)),
 oP 10 (.len false (tP 9)),
 oP 11 (.mv (tP 1)),
 oP 12 (.bin .geq (tP 10) (tP 11)),
 oP 13 (.mv (tP 12)),
 gP 14 13 true (.mv (tP 0)),
 gP 15 13 true (.len false (tP 14)),
 gP 16 13 true (.mv (tP 2)),
 gP 17 13 true (.bin .leq (tP 15) (tP 16)),
 oP 18 (.pick (tP 13) (tP 17) (bP false)),
 oP 19 (.mv (tP 18)),
 gP 20 19 true (.mv (tP 0)),
 gP 21 19 true (.mkf (.func 199) [] [(tP 7)]),
 gP 22 19 true (.call (.fn 198) [(tP 20), (tP 21)]),
 gP 23 19 true (.un .not (tP 22)),
 oP 24 (.pick (tP 19) (tP 23) (bP false)),
 oP 8 (.mv (tP 24))])
 (.ret))
def A167 : AFunc := { ntmps := 25, results := [.tmp 8], body := B167, coe := true, keep := 0 }
theorem tr167 : trFunc Tryz.prog M167 true Tryz.f167 = some A167 := by kernel_rfl
abbrev S168R0 : List Bool := [false, false, true]
def M168 : Marks := { cut := fun _ => true, hd := fun | _ => [], ex := fun | _ => [], imm := fun | 2 => true | _ => false, sn := fun | 3 => [false, false, true] | _ => [] }
def N168R0 : ACode :=
 .region [oP 4 (.alloc [.ok (.str ⟨#[]⟩), .ok (.int .i64 0), .ok (.str ⟨#[]⟩), .error 3]),
 sP (.store 4 (tP 4) (tP 8))]
def B168R0 : ACode :=
 .block 1 (.seq (.region [oP 9 (.load none (tP 2)),
 oP 10 (.load (some 4) (tP 4)),
 oP 11 (.call (tP 9) [(tP 10)]),
 oP 12 (.un .not (tP 11))])
 (.cond (tP 12) (.ret) (.skip)))
def B168 : ACode :=
 .seq (.region [oP 2 (.box true (tP 0))])
 (.seq (.region [oP 5 (.load none (tP 1)),
 oP 6 (.call (.fn 169) [(tP 5)])])
 (.block 0 (.rangeFn (tP 6) [7, 8] [false, false, true] N168R0 B168R0)))
def A168 : AFunc := { ntmps := 13, results := [], body := B168, coe := true, keep := 0 }
theorem tr168 : trFunc Tryz.prog M168 true Tryz.f168 = some A168 := by kernel_rfl
def M169 : Marks := { cut := fun _ => true, hd := fun | _ => [], ex := fun | _ => [], imm := fun | 1 => true | _ => false }
def B169 : ACode :=
 .seq (.region [oP 1 (.box true (tP 0)),
 oP 2 (.mv (.con (.nilf)))])
 (.seq (.region [oP 3 (.mkf (.func 200) [] [(tP 1)]),
 oP 2 (.mv (tP 3))])
 (.ret))
def A169 : AFunc := { ntmps := 4, results := [.tmp 2], body := B169, coe := true, keep := 0 }
theorem tr169 : trFunc Tryz.prog M169 true Tryz.f169 = some A169 := by kernel_rfl
abbrev H170L2 : List Bool := [false, false, false, true, false, false, false, false, false, false, true, true, true]
abbrev X170L2 : List Bool := [false, false, false, false, true, true, true]
def M170 : Marks := { cut := fun _ => true, hd := fun | 2 => H170L2 | _ => [], ex := fun | 2 => X170L2 | _ => [], imm := fun | _ => false }
def B170L2 : ACode :=
 .seq (.region [oP 13 (.bin .lss (tP 12) (tP 11))])
 (.seq (.cond (tP 13) (.skip) (.exit 0))
 (.seq (.block 1 (.seq (.region [oP 14 (.mv (tP 12)),
 oP 15 (.idxAddr 4 (tP 10) (tP 12)),
 oP 16 (.load (some 4) (tP 15)),
 oP 8 (.alloc [.ok (.int .i64 0), .ok (.int .i64 0), .ok (.str ⟨#[]⟩), .error 2]),
 oP 7 (.mv (tP 14)),
 sP (.store 4 (tP 8) (tP 16))])
 (.seq (.region [oP 17 (.addOff 3 (tP 8)),
 oP 18 (.load none (tP 17)),
 oP 19 (.mkf (.func 201) [] [(tP 3)]),
 oP 20 (.call (.fn 116) [(tP 18), (tP 19)]),
 oP 9 (.mv (tP 20))])
 (.seq (.region [oP 21 (.mv (tP 9)),
 oP 22 (.bin .geq (tP 21) (iP 0))])
 (.cond (tP 22) (.seq (.region [oP 23 (.mv (tP 7)),
 oP 24 (.mv (tP 9)),
 oP 4 (.mv (tP 23)),
 oP 5 (.mv (tP 24)),
 oP 6 (.mv (bP true))])
 (.ret)) (.skip))))))
 (.region [oP 25 (.bin .add (tP 12) (iP 1)),
 oP 12 (.mv (tP 25))])))
def B170 : ACode :=
 .seq (.region [oP 3 (.box false (tP 1)),
 oP 4 (.mv (iP 0)),
 oP 5 (.mv (iP 0)),
 oP 6 (.mv (bP false))])
 (.seq (.seq (.region [oP 10 (.mv (tP 0)),
 oP 11 (.len false (tP 10)),
 oP 12 (.mv (iP 0))])
 (.block 0 (.loop true H170L2 X170L2 B170L2)))
 (.seq (.region [oP 4 (.mv (iP 0)),
 oP 5 (.mv (iP 0)),
 oP 6 (.mv (bP false))])
 (.ret)))
def A170 : AFunc := { ntmps := 26, results := [.tmp 4, .tmp 5, .tmp 6], body := B170, coe := true, keep := 0 }
theorem tr170 : trFunc Tryz.prog M170 true Tryz.f170 = some A170 := by kernel_rfl
abbrev H171L2 : List Bool := [true, false, true, false, false, false, false, false, false, false, true, true, true]
abbrev X171L2 : List Bool := [false, false, false, false, false, false, true]
def M171 : Marks := { cut := fun _ => true, hd := fun | 2 => H171L2 | _ => [], ex := fun | 2 => X171L2 | _ => [], imm := fun | _ => false }
def B171L2 : ACode :=
 .seq (.region [oP 13 (.bin .lss (tP 12) (tP 11))])
 (.seq (.cond (tP 13) (.skip) (.exit 0))
 (.seq (.block 1 (.seq (.region [oP 14 (.mv (tP 12)),
 oP 15 (.idxAddr 8 (tP 10) (tP 12)),
 oP 16 (.load (some 8) (tP 15)),
 oP 8 (.alloc [.ok (.int .i64 0), .ok (.int .i64 0), .ok (.int .i64 0), .ok (.int .i64 0), .error 1, .ok (.str ⟨#[]⟩), .error 8, .error 14]),
 oP 7 (.mv (tP 14)),
 sP (.store 8 (tP 8) (tP 16))])
 (.seq (.draw [oP 17 (.mv (tP 0)),
 oP 18 (.load (some 8) (tP 8)),
 oP 19 (.mv (tP 2)),
 oP 20 (.mv (tP 7)),
 oP 21 (.idxAddr 3 (tP 19) (tP 20)),
 oP 22 (.load (some 3) (tP 21)),
 oP 23 (.call (.fn 125) [(tP 17), (tP 18), (tP 22)]),
 oP 9 (.mv (tP 23))] [])
 (.seq (.region [oP 24 (.mv (tP 9)),
 oP 25 (.isnil 1 true (tP 24))])
 (.cond (tP 25) (.seq (.region [oP 26 (.mv (tP 9)),
 oP 6 (.mv (tP 26))])
 (.ret)) (.skip))))))
 (.region [oP 27 (.bin .add (tP 12) (iP 1)),
 oP 12 (.mv (tP 27))])))
def B171 : ACode :=
 .seq (.region [oP 6 (.mv (.con (.nili)))])
 (.seq (.seq (.region [oP 10 (.mv (tP 1)),
 oP 11 (.len false (tP 10)),
 oP 12 (.mv (iP 0))])
 (.block 0 (.loop true H171L2 X171L2 B171L2)))
 (.seq (.region [oP 6 (.mv (.con (.nili)))])
 (.ret)))
def A171 : AFunc := { ntmps := 28, results := [.tmp 6], body := B171, coe := true, keep := 0 }
theorem tr171 : trFunc Tryz.prog M171 true Tryz.f171 = some A171 := by kernel_rfl
def M172 : Marks := { cut := fun _ => true, hd := fun | _ => [], ex := fun | _ => [], imm := fun | 2 => true | _ => false }
def B172 : ACode :=
 .seq (.region [oP 2 (.box true (tP 0)),
 oP 3 (.mv (bP false))])
 (.seq (.region [oP 4 (.addOff 2 (tP 2)),
 oP 5 (.load none (tP 4)),
 oP 6 (.addOff 5 (tP 1)),
 oP 7 (.load none (tP 6)),
 oP 8 (.bin .eql (tP 5) (tP 7)),
 oP 3 (.mv (tP 8))])
 (.ret))
def A172 : AFunc := { ntmps := 9, results := [.tmp 3], body := B172, coe := true, keep := 0 }
theorem tr172 : trFunc Tryz.prog M172 true Tryz.f172 = some A172 := by kernel_rfl
def M173 : Marks := { cut := fun _ => true, hd := fun | _ => [], ex := fun | _ => [], imm := fun | _ => false }
def B173 : ACode :=
 .seq (.region [oP 6 (.alloc [.ok (.int .i64 0), .ok (.str ⟨#[]⟩), .error 3]),
 oP 7 (.mv (.con (.nili)))])
 (.seq (.region [oP 11 (.mv (tP 0)),
 oP 12 (.nilchk (tP 11)),
 oP 13 (.addOff 19 (tP 12)),
 oP 14 (.load none (tP 13)),
 oP 15 (.len false (tP 14)),
 oP 8 (.mv (tP 15))])
 (.seq (.region [oP 16 (.mv (tP 0)),
 oP 17 (.mv (tP 0)),
 oP 18 (.nilchk (tP 17)),
 oP 19 (.addOff 19 (tP 18)),
 oP 20 (.load none (tP 19)),
 oP 21 (.mv (tP 8)),
 oP 22 (.mv (tP 8)),
 oP 23 (.slc3 4 (tP 20) none (tP 21) (tP 22)),
 oP 24 (.mv (tP 1)),
 oP 25 (.app false 0 4 64 (tP 23) (tP 24)),
 oP 26 (.nilchk (tP 16)),
 oP 27 (.addOff 19 (tP 26)),
 sP (.store 1 (tP 27) (tP 25))])
 (.seq (.region [oP 29 (.mv (tP 2)),
 oP 30 (.call (tP 29) []),
 oP 28 (.mv (tP 30)),
 oP 31 (.ext 0 (tP 28)),
 oP 32 (.ext 1 (tP 28)),
 oP 9 (.alloc [.ok (.int .i64 0), .ok (.str ⟨#[]⟩), .error 3]),
 sP (.store 3 (tP 9) (tP 31)),
 oP 10 (.mv (tP 32))])
 (.seq (.region [oP 33 (.mv (tP 0)),
 oP 34 (.mv (tP 0)),
 oP 35 (.nilchk (tP 34)),
 oP 36 (.addOff 19 (tP 35)),
 oP 37 (.load none (tP 36)),
 oP 38 (.mv (tP 8)),
 oP 39 (.slc 4 (tP 37) none (some (tP 38))),
 oP 40 (.nilchk (tP 33)),
 oP 41 (.addOff 19 (tP 40)),
 sP (.store 1 (tP 41) (tP 39))])
 (.seq (.region [oP 42 (.load (some 3) (tP 9)),
 oP 43 (.mv (tP 10)),
 sP (.store 3 (tP 6) (tP 42)),
 oP 7 (.mv (tP 43))])
 (.ret))))))
def A173 : AFunc := { ntmps := 44, results := [.cell (some 3) 6, .tmp 7], body := B173, coe := true, keep := 0 }
theorem tr173 : trFunc Tryz.prog M173 true Tryz.f173 = some A173 := by kernel_rfl
def M174 : Marks := { cut := fun _ => true, hd := fun | _ => [], ex := fun | _ => [], imm := fun | _ => false }
def B174 : ACode :=
 .seq (.region [oP 2 (.alloc [.ok (.int .i64 0), .ok (.str ⟨#[]⟩), .error 3]),
 oP 3 (.mv (.con (.nili)))])
 (.seq (.region [oP 4 (.load none (tP 0)),
 oP 5 (.addOff 6 (tP 1)),
 oP 6 (.load (some 8) (tP 5)),
 oP 7 (.call (.fn 95) [(tP 4), (tP 6)]),
 oP 8 (.ext 0 (tP 7)),
 oP 9 (.ext 1 (tP 7)),
 sP (.store 3 (tP 2) (tP 8)),
 oP 3 (.mv (tP 9))])
 (.ret))
def A174 : AFunc := { ntmps := 10, results := [.cell (some 3) 2, .tmp 3], body := B174, coe := true, keep := 0 }
theorem tr174 : trFunc Tryz.prog M174 true Tryz.f174 = some A174 := by kernel_rfl
def M175 : Marks := { cut := fun _ => true, hd := fun | _ => [], ex := fun | _ => [], imm := fun | _ => false, alts := fun | 2 => [[1, 2, 3, 4, 5, 6, 7, 0, 8, 9]] | _ => [] }
def B175 : ACode :=
 .seq (.region [oP 3 (.alloc [.ok (.int .i64 0), .ok (.str ⟨#[]⟩), .error 3]),
 oP 4 (.mv (.con (.nili)))])
 (.seq (.seq (.region [oP 5 (.addOff 0 (tP 0)),
 oP 6 (.load none (tP 5)),
 oP 7 (.bin .eql (tP 6) (iP 10))])
 (.cond (tP 7) (.seq (.draw [oP 8 (.load (some 3) (tP 1)),
 oP 9 (.load none (tP 2)),
 oP 10 (.addOff 6 (tP 0)),
 oP 11 (.load none (tP 10)),
 oP 12 (.idxAddr 8 (tP 11) (iP 1)),
 oP 13 (.load (some 8) (tP 12)),
 oP 14 (.load (some 3) (tP 1)),
 oP 15 (.call (.fn 125) [(tP 9), (tP 13), (tP 14)]),
 sP (.store 3 (tP 3) (tP 8)),
 oP 4 (.mv (tP 15))] [[oP 9 (.load none (tP 2)), oP 10 (.addOff 6 (tP 0)), oP 11 (.load none (tP 10)), oP 12 (.idxAddr 8 (tP 11) (iP 1)), oP 13 (.load (some 8) (tP 12)), oP 14 (.load (some 3) (tP 1)), oP 15 (.call (.fn 125) [(tP 9), (tP 13), (tP 14)]), oP 8 (.load (some 3) (tP 1)), sP (.store 3 (tP 3) (tP 8)), oP 4 (.mv (tP 15))]])
 (.ret)) (.skip)))
 (.seq (.draw [oP 16 (.load none (tP 2)),
 oP 17 (.addOff 6 (tP 0)),
 oP 18 (.load none (tP 17)),
 oP 19 (.idxAddr 8 (tP 18) (iP 1)),
 oP 20 (.load (some 8) (tP 19)),
 oP 21 (.call (.fn 95) [(tP 16), (tP 20)]),
 oP 22 (.ext 0 (tP 21)),
 oP 23 (.ext 1 (tP 21)),
 sP (.store 3 (tP 3) (tP 22)),
 oP 4 (.mv (tP 23))] [])
 (.ret)))
def A175 : AFunc := { ntmps := 24, results := [.cell (some 3) 3, .tmp 4], body := B175, coe := true, keep := 0 }
theorem tr175 : trFunc Tryz.prog M175 true Tryz.f175 = some A175 := by kernel_rfl
def M180 : Marks := { cut := fun _ => true, hd := fun | _ => [], ex := fun | _ => [], imm := fun | 1 => true | _ => false }
def B180 : ACode :=
 .seq (.region [oP 1 (.box true (tP 0)),
 oP 2 (.mv (bP false))])
 (.seq (.region [oP 3 (.addOff 0 (tP 1)),
 oP 4 (.load none (tP 3)),
 oP 5 (.bin .eql (tP 4) (iP 0)),
 oP 6 (.mv (tP 5)),
 gP 7 6 false (.addOff 0 (tP 1)),
 gP 8 6 false (.load none (tP 7)),
 gP 9 6 false (.bin .eql (tP 8) (iP 1)),
 oP 10 (.pick (tP 6) (bP true) (tP 9)),
 oP 2 (.mv (tP 10))])
 (.ret))
def A180 : AFunc := { ntmps := 11, results := [.tmp 2], body := B180, coe := true, keep := 0 }
theorem tr180 : trFunc Tryz.prog M180 true Tryz.f180 = some A180 := by kernel_rfl
abbrev H181L12 : List Bool := [false, false, false, false, false, true, false, true, false, false, false, false, false, false, false, false, false, false, false, false, false, false, false, false, false, false, false, false, false, false, false, false, false, false, false, false, false, false, false, false, false, false, false, false, false, false, false, false, false, false, true, true, true]
abbrev X181L12 : List Bool := [false, false, false, false, false, false, false, true]
def M181 : Marks := { cut := fun _ => true, hd := fun | 12 => H181L12 | _ => [], ex := fun | 12 => X181L12 | _ => [], imm := fun | 2 => true | 4 => true | 66 => true | _ => false, alts := fun | 8 => [[0, 2, 3, 4, 5, 1, 6, 7, 8, 9]] | 11 => [[0, 2, 3, 4, 5, 6, 7, 1, 8, 9, 10, 11, 12]] | 14 => [[0, 1, 2, 3, 5, 6, 7, 4, 8, 9, 10, 11, 12], [0, 1, 3, 4, 5, 6, 7, 2, 8, 9, 10, 11, 12], [0, 1, 3, 5, 6, 7, 2, 4, 8, 9, 10, 11, 12]] | _ => [] }
def B181L12 : ACode :=
 .seq (.region [oP 53 (.bin .lss (tP 52) (tP 51))])
 (.seq (.cond (tP 53) (.skip) (.exit 1))
 (.seq (.block 2 (.seq (.region [oP 54 (.idxAddr 2 (tP 50) (tP 52)),
 oP 55 (.load (some 2) (tP 54)),
 oP 9 (.alloc [.ok (.str ⟨#[]⟩), .error 3]),
 sP (.store 2 (tP 9) (tP 55))])
 (.draw [oP 56 (.mv (tP 7)),
 oP 57 (.addOff 0 (tP 5)),
 oP 58 (.load (some 3) (tP 57)),
 oP 59 (.addOff 0 (tP 9)),
 oP 60 (.load none (tP 59)),
 oP 61 (.addOff 1 (tP 9)),
 oP 62 (.load none (tP 61)),
 oP 63 (.call (.fn 205) [(tP 62)]),
 oP 64 (.build [.int .i64 0, .str ⟨#[]⟩, .slice 3 [], .str ⟨#[]⟩, .slice 1 []] [(0, 3, (tP 58)), (3, 1, (tP 60)), (4, 1, (tP 63))]),
 oP 65 (.mki 300 (tP 64)),
 oP 66 (.lit true 0 1 1 [.nili] [(0, (tP 65))]),
 oP 67 (.app false 0 1 16 (tP 56) (tP 66)),
 oP 7 (.mv (tP 67))] [[oP 56 (.mv (tP 7)), oP 57 (.addOff 0 (tP 5)), oP 58 (.load (some 3) (tP 57)), oP 59 (.addOff 0 (tP 9)), oP 61 (.addOff 1 (tP 9)), oP 62 (.load none (tP 61)), oP 63 (.call (.fn 205) [(tP 62)]), oP 60 (.load none (tP 59)), oP 64 (.build [.int .i64 0, .str ⟨#[]⟩, .slice 3 [], .str ⟨#[]⟩, .slice 1 []] [(0, 3, (tP 58)), (3, 1, (tP 60)), (4, 1, (tP 63))]), oP 65 (.mki 300 (tP 64)), oP 66 (.lit true 0 1 1 [.nili] [(0, (tP 65))]), oP 67 (.app false 0 1 16 (tP 56) (tP 66)), oP 7 (.mv (tP 67))], [oP 56 (.mv (tP 7)), oP 57 (.addOff 0 (tP 5)), oP 59 (.addOff 0 (tP 9)), oP 60 (.load none (tP 59)), oP 61 (.addOff 1 (tP 9)), oP 62 (.load none (tP 61)), oP 63 (.call (.fn 205) [(tP 62)]), oP 58 (.load (some 3) (tP 57)), oP 64 (.build [.int .i64 0, .str ⟨#[]⟩, .slice 3 [], .str ⟨#[]⟩, .slice 1 []] [(0, 3, (tP 58)), (3, 1, (tP 60)), (4, 1, (tP 63))]), oP 65 (.mki 300 (tP 64)), oP 66 (.lit true 0 1 1 [.nili] [(0, (tP 65))]), oP 67 (.app false 0 1 16 (tP 56) (tP 66)), oP 7 (.mv (tP 67))], [oP 56 (.mv (tP 7)), oP 57 (.addOff 0 (tP 5)), oP 59 (.addOff 0 (tP 9)), oP 61 (.addOff 1 (tP 9)), oP 62 (.load none (tP 61)), oP 63 (.call (.fn 205) [(tP 62)]), oP 58 (.load (some 3) (tP 57)), oP 60 (.load none (tP 59)), oP 64 (.build [.int .i64 0, .str ⟨#[]⟩, .slice 3 [], .str ⟨#[]⟩, .slice 1 []] [(0, 3, (tP 58)), (3, 1, (tP 60)), (4, 1, (tP 63))]), oP 65 (.mki 300 (tP 64)), oP 66 (.lit true 0 1 1 [.nili] [(0, (tP 65))]), oP 67 (.app false 0 1 16 (tP 56) (tP 66)), oP 7 (.mv (tP 67))]])))
 (.region [oP 68 (.bin .add (tP 52) (iP 1)),
 oP 52 (.mv (tP 68))])))
def B181 : ACode :=
 .seq (.region [oP 2 (.box true (tP 0)),
 oP 4 (.mv (.con (.slice 1 [])))])
 (.seq (.region [oP 11 (.mv (tP 1)),
 oP 12 (.tass 222 true (.agg [.int .i64 0, .str ⟨#[]⟩, .slice 3 []]) (tP 11)),
 oP 10 (.mv (tP 12)),
 oP 13 (.ext 0 (tP 10)),
 oP 14 (.ext 1 (tP 10)),
 oP 5 (.alloc [.ok (.int .i64 0), .ok (.str ⟨#[]⟩), .error 3]),
 sP (.store 3 (tP 5) (tP 13)),
 oP 6 (.mv (tP 14))])
 (.seq (.seq (.region [oP 15 (.mv (tP 6)),
 oP 16 (.un .not (tP 15))])
 (.cond (tP 16) (.seq (.region [oP 17 (.mv (tP 1)),
 oP 18 (.lit false 0 1 1 [.nili] [(0, (tP 17))]),
 oP 4 (.mv (tP 18))])
 (.ret)) (.skip)))
 (.seq (.seq (.region [oP 19 (.addOff 0 (tP 5)),
 oP 20 (.addOff 0 (tP 19)),
 oP 21 (.load none (tP 20))])
 (.block 0 (.seq (.region [oP 23 (.bin .eql (tP 21) (iP 0)),
 oP 22 (.mv (tP 23))])
 (.cond (tP 22) (.seq (.region [oP 24 (.build [.slice 1 []] []),
 oP 25 (.mki 297 (tP 24)),
 oP 26 (.lit false 0 1 1 [.nili] [(0, (tP 25))]),
 oP 4 (.mv (tP 26))])
 (.ret)) (.seq (.region [oP 28 (.bin .eql (tP 21) (iP 3)),
 oP 27 (.mv (tP 28))])
 (.cond (tP 27) (.seq (.draw [oP 29 (.addOff 0 (tP 5)),
 oP 30 (.load (some 3) (tP 29)),
 oP 31 (.addOff 0 (tP 5)),
 oP 32 (.addOff 2 (tP 31)),
 oP 33 (.load none (tP 32)),
 oP 34 (.call (.fn 205) [(tP 33)]),
 oP 35 (.build [.int .i64 0, .str ⟨#[]⟩, .slice 3 [], .str ⟨#[]⟩, .slice 1 []] [(0, 3, (tP 30)), (3, 1, (.con (.str ⟨#[]⟩))), (4, 1, (tP 34))]),
 oP 36 (.mki 300 (tP 35)),
 oP 37 (.lit false 0 1 1 [.nili] [(0, (tP 36))]),
 oP 4 (.mv (tP 37))] [[oP 29 (.addOff 0 (tP 5)), oP 31 (.addOff 0 (tP 5)), oP 32 (.addOff 2 (tP 31)), oP 33 (.load none (tP 32)), oP 34 (.call (.fn 205) [(tP 33)]), oP 30 (.load (some 3) (tP 29)), oP 35 (.build [.int .i64 0, .str ⟨#[]⟩, .slice 3 [], .str ⟨#[]⟩, .slice 1 []] [(0, 3, (tP 30)), (3, 1, (.con (.str ⟨#[]⟩))), (4, 1, (tP 34))]), oP 36 (.mki 300 (tP 35)), oP 37 (.lit false 0 1 1 [.nili] [(0, (tP 36))]), oP 4 (.mv (tP 37))]])
 (.ret)) (.seq (.region [oP 39 (.bin .eql (tP 21) (iP 2)),
 oP 38 (.mv (tP 39))])
 (.cond (tP 38) (.seq (.region [oP 7 (.nilrow 1)])
 (.seq (.seq (.draw [oP 40 (.addOff 0 (tP 2)),
 oP 41 (.load none (tP 40)),
 oP 42 (.addOff 0 (tP 2)),
 oP 43 (.load none (tP 42)),
 oP 44 (.addOff 0 (tP 5)),
 oP 45 (.addOff 1 (tP 44)),
 oP 46 (.load none (tP 45)),
 oP 47 (.call (.fn 117) [(tP 43), (tP 46)]),
 oP 48 (.idxAddr 4 (tP 41) (tP 47)),
 oP 49 (.addOff 3 (tP 48)),
 oP 50 (.load none (tP 49)),
 oP 51 (.len false (tP 50)),
 oP 52 (.mv (iP 0))] [[oP 40 (.addOff 0 (tP 2)), oP 42 (.addOff 0 (tP 2)), oP 43 (.load none (tP 42)), oP 44 (.addOff 0 (tP 5)), oP 45 (.addOff 1 (tP 44)), oP 46 (.load none (tP 45)), oP 47 (.call (.fn 117) [(tP 43), (tP 46)]), oP 41 (.load none (tP 40)), oP 48 (.idxAddr 4 (tP 41) (tP 47)), oP 49 (.addOff 3 (tP 48)), oP 50 (.load none (tP 49)), oP 51 (.len false (tP 50)), oP 52 (.mv (iP 0))]])
 (.block 1 (.loop true H181L12 X181L12 B181L12)))
 (.seq (.region [oP 69 (.mv (tP 7)),
 oP 4 (.mv (tP 69))])
 (.ret)))) (.skip)))))))))
 (.seq (.region [oP 70 (.mv (tP 1)),
 oP 71 (.lit false 0 1 1 [.nili] [(0, (tP 70))]),
 oP 4 (.mv (tP 71))])
 (.ret)))))
def A181 : AFunc := { ntmps := 72, results := [.tmp 4], body := B181, coe := true, keep := 0 }
theorem tr181 : trFunc Tryz.prog M181 true Tryz.f181 = some A181 := by kernel_rfl
abbrev H182L16 : List Bool := [false, false, false, true, false, true, false, false, false, true, true, false, false, false, false, false, false, false, false, false, false, false, false, false, false, false, false, false, false, false, false, false, false, false, false, false, false, false, false, false, false, false, false, false, false, false, false, false, false, false, false, false, false, false, false, false, false, false, false, false, false, false, true, true]
abbrev X182L16 : List Bool := [false, false, false, false, false, false, true, false, false, true, true]
def M182 : Marks := { cut := fun _ => true, hd := fun | 16 => H182L16 | _ => [], ex := fun | 16 => X182L16 | _ => [], imm := fun | 3 => true | 5 => true | _ => false }
def B182L16 : ACode :=
 .seq (.region [oP 64 (.bin .lss (tP 63) (tP 62))])
 (.seq (.cond (tP 64) (.skip) (.exit 1))
 (.seq (.block 2 (.seq (.region [oP 65 (.mv (tP 63)),
 oP 11 (.mv (tP 65))])
 (.seq (.draw [oP 66 (.mv (tP 10)),
 oP 67 (.mv (tP 11)),
 oP 68 (.load (some 1) (tP 3)),
 oP 69 (.mv (tP 10)),
 oP 70 (.mv (tP 11)),
 oP 71 (.idxAddr 1 (tP 69) (tP 70)),
 oP 72 (.load none (tP 71)),
 oP 73 (.addOff 5 (tP 5)),
 oP 74 (.load none (tP 73)),
 oP 75 (.mv (tP 11)),
 oP 76 (.idxAddr 6 (tP 74) (tP 75)),
 oP 77 (.load (some 6) (tP 76)),
 oP 78 (.call (.fn 139) [(tP 68), (tP 72), (tP 77)]),
 oP 79 (.idxAddr 1 (tP 66) (tP 67)),
 sP (.store 1 (tP 79) (tP 78))] [])
 (.seq (.region [oP 80 (.mv (tP 10)),
 oP 81 (.mv (tP 11)),
 oP 82 (.idxAddr 1 (tP 80) (tP 81)),
 oP 83 (.load none (tP 82)),
 oP 84 (.isnil 1 false (tP 83))])
 (.cond (tP 84) (.seq (.region [oP 6 (.mv (.con (.nili)))])
 (.ret)) (.skip))))))
 (.region [oP 85 (.bin .add (tP 63) (iP 1)),
 oP 63 (.mv (tP 85))])))
def B182 : ACode :=
 .seq (.region [oP 3 (.box true (tP 0)),
 oP 5 (.box true (tP 2)),
 oP 6 (.mv (.con (.nili)))])
 (.seq (.seq (.region [oP 12 (.mv (tP 1))])
 (.block 0 (.seq (.region [oP 13 (.tass 297 true (.agg [.slice 1 []]) (tP 12)),
 oP 14 (.ext 1 (tP 13)),
 oP 15 (.ext 0 (tP 13))])
 (.cond (tP 14) (.seq (.region [oP 7 (.alloc [.error 1]),
 sP (.store 1 (tP 7) (tP 15))])
 (.seq (.region [oP 16 (.addOff 0 (tP 5)),
 oP 17 (.load none (tP 16)),
 oP 18 (.bin .eql (tP 17) (iP 2)),
 oP 19 (.mv (tP 18)),
 gP 20 19 true (.addOff 0 (tP 7)),
 gP 21 19 true (.load none (tP 20)),
 gP 22 19 true (.addOff 4 (tP 5)),
 gP 23 19 true (.load none (tP 22)),
 gP 24 19 true (.call (.fn 206) [(tP 21), (tP 23)]),
 gP 25 19 true (.un .not (tP 24)),
 oP 26 (.pick (tP 19) (tP 25) (bP false))])
 (.cond (tP 26) (.seq (.region [oP 27 (.addOff 4 (tP 5)),
 oP 28 (.load none (tP 27)),
 oP 29 (.call (.fn 207) [(tP 28)]),
 oP 6 (.mv (tP 29))])
 (.ret)) (.skip)))) (.seq (.region [oP 30 (.tass 304 true (.agg [.int .i64 0]) (tP 12)),
 oP 31 (.ext 1 (tP 30)),
 oP 32 (.ext 0 (tP 30))])
 (.cond (tP 31) (.seq (.region [oP 8 (.alloc [.ok (.int .i64 0)]),
 sP (.store 1 (tP 8) (tP 32))])
 (.seq (.region [oP 33 (.addOff 0 (tP 5)),
 oP 34 (.load none (tP 33)),
 oP 35 (.bin .eql (tP 34) (iP 2)),
 oP 36 (.mv (tP 35)),
 gP 37 36 true (.addOff 4 (tP 5)),
 gP 38 36 true (.load none (tP 37)),
 gP 39 36 true (.addOff 0 (tP 8)),
 gP 40 36 true (.load none (tP 39)),
 gP 41 36 true (.bin .eql (tP 38) (tP 40)),
 oP 42 (.pick (tP 36) (tP 41) (bP false))])
 (.cond (tP 42) (.seq (.region [oP 43 (.load (some 1) (tP 8)),
 oP 44 (.mki 304 (tP 43)),
 oP 6 (.mv (tP 44))])
 (.ret)) (.skip)))) (.seq (.region [oP 45 (.tass 300 true (.agg [.int .i64 0, .str ⟨#[]⟩, .slice 3 [], .str ⟨#[]⟩, .slice 1 []]) (tP 12)),
 oP 46 (.ext 1 (tP 45)),
 oP 47 (.ext 0 (tP 45))])
 (.cond (tP 46) (.seq (.region [oP 9 (.alloc [.ok (.int .i64 0), .ok (.str ⟨#[]⟩), .error 3, .ok (.str ⟨#[]⟩), .error 1]),
 sP (.store 5 (tP 9) (tP 47))])
 (.seq (.seq (.region [oP 48 (.addOff 3 (tP 5)),
 oP 49 (.load none (tP 48)),
 oP 50 (.addOff 3 (tP 9)),
 oP 51 (.load none (tP 50)),
 oP 52 (.bin .neq (tP 49) (tP 51)),
 oP 53 (.mv (tP 52)),
 gP 54 53 false (.addOff 0 (tP 5)),
 gP 55 53 false (.load none (tP 54)),
 gP 56 53 false (.bin .eql (tP 55) (iP 2)),
 oP 57 (.pick (tP 53) (bP true) (tP 56))])
 (.cond (tP 57) (.seq (.region [oP 6 (.mv (.con (.nili)))])
 (.ret)) (.skip)))
 (.seq (.region [oP 58 (.addOff 4 (tP 9)),
 oP 59 (.load none (tP 58)),
 oP 60 (.call (.fn 208) [(tP 59)]),
 oP 10 (.mv (tP 60))])
 (.seq (.seq (.region [oP 61 (.mv (tP 10)),
 oP 62 (.len false (tP 61)),
 oP 63 (.mv (iP 0))])
 (.block 1 (.loop true H182L16 X182L16 B182L16)))
 (.seq (.region [oP 86 (.addOff 0 (tP 9)),
 oP 87 (.load (some 3) (tP 86)),
 oP 88 (.addOff 3 (tP 9)),
 oP 89 (.load none (tP 88)),
 oP 90 (.mv (tP 10)),
 oP 91 (.build [.int .i64 0, .str ⟨#[]⟩, .slice 3 [], .str ⟨#[]⟩, .slice 1 []] [(0, 3, (tP 87)), (3, 1, (tP 89)), (4, 1, (tP 90))]),
 oP 92 (.mki 300 (tP 91)),
 oP 6 (.mv (tP 92))])
 (.ret)))))) (.skip)))))))))
 (.seq (.region [oP 6 (.mv (.con (.nili)))])
 (.ret)))
def A182 : AFunc := { ntmps := 93, results := [.tmp 6], body := B182, coe := true, keep := 0 }
theorem tr182 : trFunc Tryz.prog M182 true Tryz.f182 = some A182 := by kernel_rfl
abbrev H183L15 : List Bool := [false, false, false, true, false, true, false, false, true, true, true, true, true, false, false, false, false, false, false, false, false, false, false, false, false, false, false, false, false, false, false, false, false, false, false, false, false, false, false, false, false, false, false, false, true, true, true, false, false, false, false, false, false, false, false, false, false, false, true, true, true]
abbrev X183L15 : List Bool := [false, false, false, true, false, true, false, false, true, true, true, true, true, false, false, false, false, false, false, false, false, false, false, false, false, false, false, false, false, false, false, false, false, false, false, false, false, false, false, false, false, false, false, false, true, true, true]
abbrev H183L12 : List Bool := [false, false, false, true, false, true, false, false, true, true, true, false, false, false, false, false, false, false, false, false, false, false, false, false, false, false, false, false, false, false, false, false, false, false, false, false, false, false, false, false, false, false, false, false, true, true, true]
abbrev X183L12 : List Bool := [false, false, false, false, false, false, false, false, false, true]
def M183 : Marks := { cut := fun _ => true, hd := fun | 12 => H183L12 | 15 => H183L15 | _ => [], ex := fun | 12 => X183L12 | 15 => X183L15 | _ => [], imm := fun | 3 => true | 5 => true | 6 => true | 32 => true | 78 => true | _ => false, alts := fun | 6 => [[0, 1, 3, 4, 2, 5, 6, 7, 8, 9, 10]] | _ => [] }
def B183L15 : ACode :=
 .seq (.region [oP 61 (.bin .lss (tP 60) (tP 59))])
 (.seq (.cond (tP 61) (.skip) (.exit 3))
 (.seq (.block 4 (.seq (.region [oP 62 (.idxAddr 1 (tP 58) (tP 60)),
 oP 63 (.load none (tP 62)),
 oP 14 (.mv (tP 63))])
 (.seq (.region [oP 64 (.mv (tP 10)),
 oP 65 (.call (.fn 208) [(tP 64)]),
 oP 15 (.mv (tP 65))])
 (.seq (.region [oP 66 (.mv (tP 15)),
 oP 67 (.mv (tP 11)),
 oP 68 (.mv (tP 14)),
 oP 69 (.idxAddr 1 (tP 66) (tP 67)),
 sP (.store 1 (tP 69) (tP 68))])
 (.region [oP 70 (.mv (tP 9)),
 oP 71 (.addOff 0 (tP 8)),
 oP 72 (.load (some 3) (tP 71)),
 oP 73 (.addOff 3 (tP 8)),
 oP 74 (.load none (tP 73)),
 oP 75 (.mv (tP 15)),
 oP 76 (.build [.int .i64 0, .str ⟨#[]⟩, .slice 3 [], .str ⟨#[]⟩, .slice 1 []] [(0, 3, (tP 72)), (3, 1, (tP 74)), (4, 1, (tP 75))]),
 oP 77 (.mki 300 (tP 76)),
 oP 78 (.lit true 0 1 1 [.nili] [(0, (tP 77))]),
 oP 79 (.app false 0 1 16 (tP 70) (tP 78)),
 oP 9 (.mv (tP 79))])))))
 (.region [oP 80 (.bin .add (tP 60) (iP 1)),
 oP 60 (.mv (tP 80))])))
def B183L12 : ACode :=
 .seq (.region [oP 47 (.bin .lss (tP 46) (tP 45))])
 (.seq (.cond (tP 47) (.skip) (.exit 1))
 (.seq (.block 2 (.seq (.region [oP 48 (.mv (tP 46)),
 oP 49 (.idxAddr 1 (tP 44) (tP 46)),
 oP 50 (.load none (tP 49)),
 oP 11 (.mv (tP 48)),
 oP 12 (.mv (tP 50))])
 (.seq (.seq (.draw [oP 51 (.load (some 1) (tP 3)),
 oP 52 (.mv (tP 12)),
 oP 53 (.addOff 5 (tP 5)),
 oP 54 (.load none (tP 53)),
 oP 55 (.mv (tP 11)),
 oP 56 (.idxAddr 6 (tP 54) (tP 55)),
 oP 57 (.load (some 6) (tP 56)),
 oP 58 (.call (.fn 140) [(tP 51), (tP 52), (tP 57)]),
 oP 59 (.len false (tP 58)),
 oP 60 (.mv (iP 0))] [])
 (.block 3 (.loop true H183L15 X183L15 B183L15)))
 (.draw [oP 81 (.mv (tP 10)),
 oP 82 (.mv (tP 11)),
 oP 83 (.load (some 1) (tP 3)),
 oP 84 (.mv (tP 12)),
 oP 85 (.addOff 5 (tP 5)),
 oP 86 (.load none (tP 85)),
 oP 87 (.mv (tP 11)),
 oP 88 (.idxAddr 6 (tP 86) (tP 87)),
 oP 89 (.load (some 6) (tP 88)),
 oP 90 (.call (.fn 139) [(tP 83), (tP 84), (tP 89)]),
 oP 91 (.idxAddr 1 (tP 81) (tP 82)),
 sP (.store 1 (tP 91) (tP 90))] []))))
 (.region [oP 92 (.bin .add (tP 46) (iP 1)),
 oP 46 (.mv (tP 92))])))
def B183 : ACode :=
 .seq (.region [oP 3 (.box true (tP 0)),
 oP 5 (.box true (tP 2)),
 oP 6 (.mv (.con (.slice 1 [])))])
 (.seq (.seq (.region [oP 16 (.load (some 1) (tP 3)),
 oP 17 (.mv (tP 1)),
 oP 18 (.load (some 6) (tP 5)),
 oP 19 (.call (.fn 182) [(tP 16), (tP 17), (tP 18)]),
 oP 20 (.isnil 1 false (tP 19))])
 (.cond (tP 20) (.seq (.region [oP 21 (.mv (tP 1)),
 oP 22 (.lit false 0 1 1 [.nili] [(0, (tP 21))]),
 oP 6 (.mv (tP 22))])
 (.ret)) (.skip)))
 (.seq (.seq (.region [oP 23 (.mv (tP 1))])
 (.block 0 (.seq (.region [oP 24 (.tass 297 true (.agg [.slice 1 []]) (tP 23)),
 oP 25 (.ext 1 (tP 24)),
 oP 26 (.ext 0 (tP 24))])
 (.cond (tP 25) (.seq (.region [oP 7 (.alloc [.error 1]),
 sP (.store 1 (tP 7) (tP 26))])
 (.seq (.draw [oP 27 (.addOff 0 (tP 7)),
 oP 28 (.load none (tP 27)),
 oP 29 (.call (.fn 209) [(tP 28)]),
 oP 30 (.addOff 4 (tP 5)),
 oP 31 (.load none (tP 30)),
 oP 32 (.lit true 0 1 1 [.int .i64 0] [(0, (tP 31))]),
 oP 33 (.app false 0 1 8 (tP 29) (tP 32)),
 oP 34 (.build [.slice 1 []] [(0, 1, (tP 33))]),
 oP 35 (.mki 297 (tP 34)),
 oP 36 (.lit false 0 1 1 [.nili] [(0, (tP 35))]),
 oP 6 (.mv (tP 36))] [[oP 27 (.addOff 0 (tP 7)), oP 28 (.load none (tP 27)), oP 30 (.addOff 4 (tP 5)), oP 31 (.load none (tP 30)), oP 29 (.call (.fn 209) [(tP 28)]), oP 32 (.lit true 0 1 1 [.int .i64 0] [(0, (tP 31))]), oP 33 (.app false 0 1 8 (tP 29) (tP 32)), oP 34 (.build [.slice 1 []] [(0, 1, (tP 33))]), oP 35 (.mki 297 (tP 34)), oP 36 (.lit false 0 1 1 [.nili] [(0, (tP 35))]), oP 6 (.mv (tP 36))]])
 (.ret))) (.seq (.region [oP 37 (.tass 300 true (.agg [.int .i64 0, .str ⟨#[]⟩, .slice 3 [], .str ⟨#[]⟩, .slice 1 []]) (tP 23)),
 oP 38 (.ext 1 (tP 37)),
 oP 39 (.ext 0 (tP 37))])
 (.cond (tP 38) (.seq (.region [oP 8 (.alloc [.ok (.int .i64 0), .ok (.str ⟨#[]⟩), .error 3, .ok (.str ⟨#[]⟩), .error 1]),
 sP (.store 5 (tP 8) (tP 39))])
 (.seq (.region [oP 9 (.nilrow 1)])
 (.seq (.region [oP 40 (.addOff 4 (tP 8)),
 oP 41 (.load none (tP 40)),
 oP 42 (.call (.fn 208) [(tP 41)]),
 oP 10 (.mv (tP 42))])
 (.seq (.seq (.region [oP 43 (.addOff 4 (tP 8)),
 oP 44 (.load none (tP 43)),
 oP 45 (.len false (tP 44)),
 oP 46 (.mv (iP 0))])
 (.block 1 (.loop true H183L12 X183L12 B183L12)))
 (.seq (.region [oP 93 (.mv (tP 9)),
 oP 6 (.mv (tP 93))])
 (.ret)))))) (.skip)))))))
 (.seq (.region [oP 6 (.mv (.con (.slice 1 [])))])
 (.ret))))
def A183 : AFunc := { ntmps := 94, results := [.tmp 6], body := B183, coe := true, keep := 0 }
theorem tr183 : trFunc Tryz.prog M183 true Tryz.f183 = some A183 := by kernel_rfl
def M184 : Marks := { cut := fun _ => true, hd := fun | _ => [], ex := fun | _ => [], imm := fun | 3 => true | _ => false }
def B184 : ACode :=
 .seq (.region [oP 3 (.box true (tP 1)),
 oP 4 (.mv (bP false))])
 (.seq (.seq (.region [oP 8 (.mv (tP 0)),
 oP 9 (.bin .lss (tP 8) (iP 1)),
 oP 10 (.mv (tP 9)),
 gP 11 10 false (.addOff 4 (tP 3)),
 gP 12 10 false (.load none (tP 11)),
 gP 13 10 false (.bin .neq (tP 12) (iP 0)),
 gP 14 10 false (.mv (tP 13)),
 gP 15 14 true (.addOff 0 (tP 3)),
 gP 16 14 true (.load none (tP 15)),
 gP 17 14 true (.bin .neq (tP 16) (iP 2)),
 gP 18 10 false (.pick (tP 14) (tP 17) (bP false)),
 oP 19 (.pick (tP 10) (bP true) (tP 18))])
 (.cond (tP 19) (.seq (.region [oP 4 (.mv (bP false))])
 (.ret)) (.skip)))
 (.seq (.region [oP 5 (.mv (iP 0)),
 oP 6 (.mv (iP 0))])
 (.seq (.region [oP 20 (.addOff 3 (tP 3)),
 oP 21 (.load none (tP 20)),
 oP 22 (.bin .eql (tP 21) (.con (.str ⟨#[]⟩))),
 oP 7 (.mv (tP 22))])
 (.seq (.seq (.region [oP 23 (.addOff 0 (tP 3)),
 oP 24 (.load none (tP 23))])
 (.block 0 (.seq (.region [oP 26 (.bin .eql (tP 24) (iP 0)),
 oP 25 (.mv (tP 26))])
 (.cond (tP 25) (.skip) (.seq (.region [oP 28 (.bin .eql (tP 24) (iP 1)),
 oP 27 (.mv (tP 28))])
 (.cond (tP 27) (.region [oP 29 (.addOff 3 (tP 3)),
 oP 30 (.load none (tP 29)),
 oP 31 (.call (.fn 155) [(tP 30)]),
 oP 7 (.mv (tP 31))]) (.seq (.region [oP 33 (.bin .eql (tP 24) (iP 2)),
 oP 32 (.mv (tP 33))])
 (.cond (tP 32) (.region [oP 34 (.mv (tP 7)),
 oP 35 (.mv (tP 34)),
 gP 36 35 true (.addOff 4 (tP 3)),
 gP 37 35 true (.load none (tP 36)),
 gP 38 35 true (.call (.fn 194) [(tP 37)]),
 oP 39 (.pick (tP 35) (tP 38) (bP false)),
 oP 7 (.mv (tP 39))]) (.seq (.region [oP 41 (.bin .eql (tP 24) (iP 3)),
 oP 40 (.mv (tP 41))])
 (.cond (tP 40) (.region [oP 42 (.addOff 3 (tP 3)),
 oP 43 (.load none (tP 42)),
 oP 44 (.call (.fn 190) [(tP 43)]),
 oP 7 (.mv (tP 44)),
 oP 6 (.mv (iP 6))]) (.seq (.region [oP 46 (.bin .eql (tP 24) (iP 4)),
 oP 45 (.mv (tP 46))])
 (.cond (tP 45) (.region [oP 5 (.mv (iP 2)),
 oP 6 (.mv (iP 6))]) (.seq (.region [oP 4 (.mv (bP false))])
 (.ret))))))))))))))
 (.seq (.region [oP 47 (.mv (tP 7)),
 oP 48 (.mv (tP 47)),
 gP 49 48 true (.addOff 5 (tP 3)),
 gP 50 48 true (.load none (tP 49)),
 gP 51 48 true (.mv (tP 5)),
 gP 52 48 true (.mv (tP 6)),
 gP 53 48 true (.mv (tP 0)),
 gP 54 48 true (.bin .sub (tP 53) (iP 1)),
 gP 55 48 true (.mkf (.func 184) [(tP 54)] []),
 gP 56 48 true (.call (.fn 210) [(tP 50), (tP 51), (tP 52), (tP 55)]),
 oP 57 (.pick (tP 48) (tP 56) (bP false)),
 oP 4 (.mv (tP 57))])
 (.ret))))))
def A184 : AFunc := { ntmps := 58, results := [.tmp 4], body := B184, coe := true, keep := 0 }
theorem tr184 : trFunc Tryz.prog M184 true Tryz.f184 = some A184 := by kernel_rfl
def M185 : Marks := { cut := fun _ => true, hd := fun | _ => [], ex := fun | _ => [], imm := fun | _ => false }
def B185 : ACode :=
 .seq (.region [oP 4 (.mv (bP false))])
 (.seq (.region [oP 5 (.mv (tP 0)),
 oP 6 (.mv (tP 1)),
 oP 7 (.call (.fn 211) [(tP 5), (tP 6)]),
 oP 8 (.bin .geq (tP 7) (iP 0)),
 oP 4 (.mv (tP 8))])
 (.ret))
def A185 : AFunc := { ntmps := 9, results := [.tmp 4], body := B185, coe := true, keep := 0 }
theorem tr185 : trFunc Tryz.prog M185 true Tryz.f185 = some A185 := by kernel_rfl
def M186 : Marks := { cut := fun _ => true, hd := fun | _ => [], ex := fun | _ => [], imm := fun | 2 => true | _ => false }
def B186 : ACode :=
 .seq (.region [oP 2 (.box true (tP 0)),
 oP 3 (.mv (bP false))])
 (.seq (.region [oP 4 (.addOff 0 (tP 2)),
 oP 5 (.load none (tP 4)),
 oP 6 (.addOff 3 (tP 1)),
 oP 7 (.load none (tP 6)),
 oP 8 (.bin .eql (tP 5) (tP 7)),
 oP 3 (.mv (tP 8))])
 (.ret))
def A186 : AFunc := { ntmps := 9, results := [.tmp 3], body := B186, coe := true, keep := 0 }
theorem tr186 : trFunc Tryz.prog M186 true Tryz.f186 = some A186 := by kernel_rfl
abbrev H187L4 : List Bool := [false, true, true, false, false, false, false, false, false, false, false, false, false, false, false, true, true, true]
abbrev X187L4 : List Bool := [false, false, false, false, false, false, true]
def M187 : Marks := { cut := fun _ => true, hd := fun | 4 => H187L4 | _ => [], ex := fun | 4 => X187L4 | _ => [], imm := fun | _ => false }
def B187L4 : ACode :=
 .seq (.region [oP 18 (.bin .lss (tP 17) (tP 16))])
 (.seq (.cond (tP 18) (.skip) (.exit 0))
 (.seq (.block 1 (.seq (.region [oP 19 (.mv (tP 17)),
 oP 20 (.idxAddr 6 (tP 15) (tP 17)),
 oP 21 (.load (some 6) (tP 20)),
 oP 8 (.alloc [.ok (.int .i64 0), .ok (.int .i64 0), .ok (.int .i64 0), .ok (.str ⟨#[]⟩), .ok (.int .i64 0), .error 6]),
 oP 7 (.mv (tP 19)),
 sP (.store 6 (tP 8) (tP 21))])
 (.seq (.region [oP 22 (.mv (tP 1)),
 oP 23 (.mv (tP 7)),
 oP 24 (.idxAddr 5 (tP 22) (tP 23)),
 oP 25 (.load (some 5) (tP 24)),
 oP 9 (.alloc [.ok (.int .i64 0), .ok (.int .i64 0), .error 1, .ok (.str ⟨#[]⟩), .error 5]),
 sP (.store 5 (tP 9) (tP 25))])
 (.seq (.region [oP 26 (.mv (tP 2)),
 oP 27 (.load (some 6) (tP 8)),
 oP 28 (.load (some 5) (tP 9)),
 oP 29 (.call (tP 26) [(tP 27), (tP 28)]),
 oP 30 (.un .not (tP 29))])
 (.cond (tP 30) (.seq (.region [oP 6 (.mv (bP false))])
 (.ret)) (.skip))))))
 (.region [oP 31 (.bin .add (tP 17) (iP 1)),
 oP 17 (.mv (tP 31))])))
def B187 : ACode :=
 .seq (.region [oP 6 (.mv (bP false))])
 (.seq (.seq (.region [oP 10 (.mv (tP 0)),
 oP 11 (.len false (tP 10)),
 oP 12 (.mv (tP 1)),
 oP 13 (.len false (tP 12)),
 oP 14 (.bin .neq (tP 11) (tP 13))])
 (.cond (tP 14) (.seq (.region [oP 6 (.mv (bP false))])
 (.ret)) (.skip)))
 (.seq (.seq (.region [oP 15 (.mv (tP 0)),
 oP 16 (.len false (tP 15)),
 oP 17 (.mv (iP 0))])
 (.block 0 (.loop true H187L4 X187L4 B187L4)))
 (.seq (.region [oP 6 (.mv (bP true))])
 (.ret))))
def A187 : AFunc := { ntmps := 32, results := [.tmp 6], body := B187, coe := true, keep := 0 }
theorem tr187 : trFunc Tryz.prog M187 true Tryz.f187 = some A187 := by kernel_rfl
def M188 : Marks := { cut := fun _ => true, hd := fun | _ => [], ex := fun | _ => [], imm := fun | _ => false }
def B188 : ACode :=
 .seq (.region [oP 7 (.box false (tP 3)),
 oP 8 (.mv (bP false))])
 (.seq (.region [oP 9 (.mv (tP 0)),
 oP 10 (.len false (tP 9)),
 oP 11 (.mv (tP 1)),
 oP 12 (.bin .geq (tP 10) (tP 11)),
 oP 13 (.mv (tP 12)),
 gP 14 13 true (.mv (tP 0)),
 gP 15 13 true (.len false (tP 14)),
 gP 16 13 true (.mv (tP 2)),
 gP 17 13 true (.bin .leq (tP 15) (tP 16)),
 oP 18 (.pick (tP 13) (tP 17) (bP false)),
 oP 19 (.mv (tP 18)),
 gP 20 19 true (.mv (tP 0)),
 gP 21 19 true (.mkf (.func 212) [] [(tP 7)]),
 gP 22 19 true (.call (.fn 118) [(tP 20), (tP 21)]),
 gP 23 19 true (.un .not (tP 22)),
 oP 24 (.pick (tP 19) (tP 23) (bP false)),
 oP 8 (.mv (tP 24))])
 (.ret))
def A188 : AFunc := { ntmps := 25, results := [.tmp 8], body := B188, coe := true, keep := 0 }
theorem tr188 : trFunc Tryz.prog M188 true Tryz.f188 = some A188 := by kernel_rfl
def M189 : Marks := { cut := fun _ => true, hd := fun | _ => [], ex := fun | _ => [], imm := fun | 2 => true | _ => false }
def B189 : ACode :=
 .seq (.region [oP 2 (.box true (tP 0)),
 oP 3 (.mv (bP false))])
 (.seq (.region [oP 4 (.load none (tP 1)),
 oP 5 (.load (some 2) (tP 2)),
 oP 6 (.call (tP 4) [(tP 5)]),
 oP 7 (.un .not (tP 6)),
 oP 3 (.mv (tP 7))])
 (.ret))
def A189 : AFunc := { ntmps := 8, results := [.tmp 3], body := B189, coe := true, keep := 0 }
theorem tr189 : trFunc Tryz.prog M189 true Tryz.f189 = some A189 := by kernel_rfl
def M190 : Marks := { cut := fun _ => true, hd := fun | _ => [], ex := fun | _ => [], imm := fun | _ => false }
def B190 : ACode :=
 .seq (.region [oP 2 (.mv (bP false))])
 (.seq (.region [oP 3 (.mv (tP 0)),
 oP 4 (.call (.fn 192) [(tP 3), (bP true)]),
 oP 2 (.mv (tP 4))])
 (.ret))
def A190 : AFunc := { ntmps := 5, results := [.tmp 2], body := B190, coe := true, keep := 0 }
theorem tr190 : trFunc Tryz.prog M190 true Tryz.f190 = some A190 := by kernel_rfl
def M191 : Marks := { cut := fun _ => true, hd := fun | _ => [], ex := fun | _ => [], imm := fun | 2 => true | _ => false }
def B191 : ACode :=
 .seq (.region [oP 2 (.box true (tP 0)),
 oP 3 (.mv (bP false))])
 (.seq (.region [oP 4 (.load none (tP 1)),
 oP 5 (.load (some 4) (tP 2)),
 oP 6 (.call (tP 4) [(tP 5)]),
 oP 7 (.un .not (tP 6)),
 oP 3 (.mv (tP 7))])
 (.ret))
def A191 : AFunc := { ntmps := 8, results := [.tmp 3], body := B191, coe := true, keep := 0 }
theorem tr191 : trFunc Tryz.prog M191 true Tryz.f191 = some A191 := by kernel_rfl
abbrev H192L4 : List Bool := [false, true, false, false, false, false, false, false, false, false, false, false, false, false, false, false, false, false, false, false, false, false, false, false, true]
abbrev X192L4 : List Bool := [false, false, false, false, true]
def M192 : Marks := { cut := fun _ => true, hd := fun | 4 => H192L4 | _ => [], ex := fun | 4 => X192L4 | _ => [], imm := fun | _ => false }
def B192L4 : ACode :=
 .seq (.region [oP 25 (.next (tP 24)),
 oP 26 (.ext 0 (tP 25))])
 (.seq (.cond (tP 26) (.skip) (.exit 0))
 (.block 1 (.seq (.region [oP 27 (.ext 1 (tP 25)),
 oP 28 (.ext 2 (tP 25)),
 oP 5 (.mv (tP 27)),
 oP 6 (.mv (tP 28))])
 (.seq (.region [oP 29 (.mv (tP 6)),
 oP 30 (.call (.fn 216) [(tP 29)]),
 oP 31 (.un .not (tP 30)),
 oP 32 (.mv (tP 31)),
 gP 33 32 false (.mv (tP 5)),
 gP 34 32 false (.bin .eql (tP 33) (iP 0)),
 gP 35 32 false (.mv (tP 34)),
 gP 36 35 true (.mv (tP 1)),
 gP 37 35 true (.mv (tP 36)),
 gP 38 37 true (.mv (tP 6)),
 gP 39 37 true (.call (.fn 217) [(tP 38)]),
 gP 40 37 true (.un .not (tP 39)),
 gP 41 35 true (.pick (tP 37) (tP 40) (bP false)),
 gP 42 35 true (.mv (tP 41)),
 gP 43 42 false (.mv (tP 1)),
 gP 44 42 false (.un .not (tP 43)),
 gP 45 42 false (.mv (tP 44)),
 gP 46 45 true (.mv (tP 6)),
 gP 47 45 true (.call (.fn 218) [(tP 46)]),
 gP 48 45 true (.un .not (tP 47)),
 gP 49 42 false (.pick (tP 45) (tP 48) (bP false)),
 gP 50 35 true (.pick (tP 42) (bP true) (tP 49)),
 gP 51 32 false (.pick (tP 35) (tP 50) (bP false)),
 oP 52 (.pick (tP 32) (bP true) (tP 51))])
 (.cond (tP 52) (.seq (.region [oP 4 (.mv (bP false))])
 (.ret)) (.skip))))))
def B192 : ACode :=
 .seq (.region [oP 4 (.mv (bP false))])
 (.seq (.seq (.region [oP 7 (.mv (tP 0)),
 oP 8 (.bin .eql (tP 7) (.con (.str ⟨#[]⟩))),
 oP 9 (.mv (tP 8)),
 gP 10 9 false (.mv (tP 0)),
 gP 11 9 false (.call (.fn 213) [(tP 10)]),
 oP 12 (.pick (tP 9) (bP true) (tP 11)),
 oP 13 (.mv (tP 12)),
 gP 14 13 false (.mv (tP 0)),
 gP 15 13 false (.call (.fn 214) [(tP 14)]),
 gP 16 13 false (.un .not (tP 15)),
 oP 17 (.pick (tP 13) (bP true) (tP 16)),
 oP 18 (.mv (tP 17)),
 gP 19 18 false (.mv (tP 0)),
 gP 20 18 false (.call (.fn 215) [(tP 19)]),
 gP 21 18 false (.bin .gtr (tP 20) (iP 24)),
 oP 22 (.pick (tP 18) (bP true) (tP 21))])
 (.cond (tP 22) (.seq (.region [oP 4 (.mv (bP false))])
 (.ret)) (.skip)))
 (.seq (.seq (.region [oP 23 (.mv (tP 0)),
 oP 24 (.rng (tP 23))])
 (.block 0 (.loop true H192L4 X192L4 B192L4)))
 (.seq (.region [oP 4 (.mv (bP true))])
 (.ret))))
def A192 : AFunc := { ntmps := 53, results := [.tmp 4], body := B192, coe := true, keep := 0 }
theorem tr192 : trFunc Tryz.prog M192 true Tryz.f192 = some A192 := by kernel_rfl
abbrev H193L4 : List Bool := [false, true, true, false, false, false, false, false, false, false, false, false, false, false, false, true, true, true]
abbrev X193L4 : List Bool := [false, false, false, false, false, false, true]
def M193 : Marks := { cut := fun _ => true, hd := fun | 4 => H193L4 | _ => [], ex := fun | 4 => X193L4 | _ => [], imm := fun | _ => false }
def B193L4 : ACode :=
 .seq (.region [oP 18 (.bin .lss (tP 17) (tP 16))])
 (.seq (.cond (tP 18) (.skip) (.exit 0))
 (.seq (.block 1 (.seq (.region [oP 19 (.mv (tP 17)),
 oP 20 (.idxAddr 3 (tP 15) (tP 17)),
 oP 21 (.load (some 3) (tP 20)),
 oP 8 (.alloc [.ok (.int .i64 0), .ok (.str ⟨#[]⟩), .error 3]),
 oP 7 (.mv (tP 19)),
 sP (.store 3 (tP 8) (tP 21))])
 (.seq (.region [oP 22 (.mv (tP 1)),
 oP 23 (.mv (tP 7)),
 oP 24 (.idxAddr 3 (tP 22) (tP 23)),
 oP 25 (.load (some 3) (tP 24)),
 oP 9 (.alloc [.ok (.int .i64 0), .ok (.str ⟨#[]⟩), .error 3]),
 sP (.store 3 (tP 9) (tP 25))])
 (.seq (.region [oP 26 (.mv (tP 2)),
 oP 27 (.load (some 3) (tP 8)),
 oP 28 (.load (some 3) (tP 9)),
 oP 29 (.call (tP 26) [(tP 27), (tP 28)]),
 oP 30 (.un .not (tP 29))])
 (.cond (tP 30) (.seq (.region [oP 6 (.mv (bP false))])
 (.ret)) (.skip))))))
 (.region [oP 31 (.bin .add (tP 17) (iP 1)),
 oP 17 (.mv (tP 31))])))
def B193 : ACode :=
 .seq (.region [oP 6 (.mv (bP false))])
 (.seq (.seq (.region [oP 10 (.mv (tP 0)),
 oP 11 (.len false (tP 10)),
 oP 12 (.mv (tP 1)),
 oP 13 (.len false (tP 12)),
 oP 14 (.bin .neq (tP 11) (tP 13))])
 (.cond (tP 14) (.seq (.region [oP 6 (.mv (bP false))])
 (.ret)) (.skip)))
 (.seq (.seq (.region [oP 15 (.mv (tP 0)),
 oP 16 (.len false (tP 15)),
 oP 17 (.mv (iP 0))])
 (.block 0 (.loop true H193L4 X193L4 B193L4)))
 (.seq (.region [oP 6 (.mv (bP true))])
 (.ret))))
def A193 : AFunc := { ntmps := 32, results := [.tmp 6], body := B193, coe := true, keep := 0 }
theorem tr193 : trFunc Tryz.prog M193 true Tryz.f193 = some A193 := by kernel_rfl
def M194 : Marks := { cut := fun _ => true, hd := fun | _ => [], ex := fun | _ => [], imm := fun | _ => false }
def B194 : ACode :=
 .seq (.region [oP 2 (.mv (bP false))])
 (.seq (.region [oP 3 (.mv (tP 0)),
 oP 4 (.bin .leq (tP 3) (iP 4611686018427387903)),
 oP 5 (.mv (tP 4)),
 gP 6 5 true (.mv (tP 0)),
 gP 7 5 true (.bin .geq (tP 6) (iP (-4611686018427387903))),
 oP 8 (.pick (tP 5) (tP 7) (bP false)),
 oP 2 (.mv (tP 8))])
 (.ret))
def A194 : AFunc := { ntmps := 9, results := [.tmp 2], body := B194, coe := true, keep := 0 }
theorem tr194 : trFunc Tryz.prog M194 true Tryz.f194 = some A194 := by kernel_rfl
def M195 : Marks := { cut := fun _ => true, hd := fun | _ => [], ex := fun | _ => [], imm := fun | _ => false }
def B195 : ACode :=
 .seq (.region [oP 2 (.mv (iP 0))])
 (.seq (.seq (.region [oP 3 (.mv (tP 0))])
 (.block 0 (.seq (.region [oP 5 (.bin .eql (tP 3) (iP 8)),
 oP 4 (.mv (tP 5))])
 (.cond (tP 4) (.seq (.region [oP 2 (.mv (iP 1))])
 (.ret)) (.seq (.region [oP 7 (.bin .eql (tP 3) (iP 11)),
 oP 6 (.mv (tP 7))])
 (.cond (tP 6) (.seq (.region [oP 2 (.mv (iP 3))])
 (.ret)) (.skip)))))))
 (.seq (.region [oP 2 (.mv (iP 2))])
 (.ret)))
def A195 : AFunc := { ntmps := 8, results := [.tmp 2], body := B195, coe := true, keep := 0 }
theorem tr195 : trFunc Tryz.prog M195 true Tryz.f195 = some A195 := by kernel_rfl
def M196 : Marks := { cut := fun _ => true, hd := fun | _ => [], ex := fun | _ => [], imm := fun | _ => false }
def B196 : ACode :=
 .seq (.region [oP 4 (.mv (bP false))])
 (.seq (.region [oP 5 (.mv (tP 0)),
 oP 6 (.mv (tP 1)),
 oP 7 (.call (.fn 219) [(tP 5), (tP 6)]),
 oP 8 (.bin .geq (tP 7) (iP 0)),
 oP 4 (.mv (tP 8))])
 (.ret))
def A196 : AFunc := { ntmps := 9, results := [.tmp 4], body := B196, coe := true, keep := 0 }
theorem tr196 : trFunc Tryz.prog M196 true Tryz.f196 = some A196 := by kernel_rfl
def M197 : Marks := { cut := fun _ => true, hd := fun | _ => [], ex := fun | _ => [], imm := fun | 2 => true | _ => false }
def B197 : ACode :=
 .seq (.region [oP 2 (.box true (tP 0)),
 oP 3 (.mv (bP false))])
 (.seq (.region [oP 4 (.load none (tP 1)),
 oP 5 (.load (some 14) (tP 2)),
 oP 6 (.call (tP 4) [(tP 5)]),
 oP 7 (.un .not (tP 6)),
 oP 3 (.mv (tP 7))])
 (.ret))
def A197 : AFunc := { ntmps := 8, results := [.tmp 3], body := B197, coe := true, keep := 0 }
theorem tr197 : trFunc Tryz.prog M197 true Tryz.f197 = some A197 := by kernel_rfl
def M198 : Marks := { cut := fun _ => true, hd := fun | _ => [], ex := fun | _ => [], imm := fun | _ => false }
def B198 : ACode :=
 .seq (.region [oP 4 (.mv (bP false))])
 (.seq (.region [oP 5 (.mv (tP 0)),
 oP 6 (.mv (tP 1)),
 oP 7 (.call (.fn 220) [(tP 5), (tP 6)]),
 oP 8 (.bin .geq (tP 7) (iP 0)),
 oP 4 (.mv (tP 8))])
 (.ret))
def A198 : AFunc := { ntmps := 9, results := [.tmp 4], body := B198, coe := true, keep := 0 }
theorem tr198 : trFunc Tryz.prog M198 true Tryz.f198 = some A198 := by kernel_rfl
def M199 : Marks := { cut := fun _ => true, hd := fun | _ => [], ex := fun | _ => [], imm := fun | 2 => true | _ => false }
def B199 : ACode :=
 .seq (.region [oP 2 (.box true (tP 0)),
 oP 3 (.mv (bP false))])
 (.seq (.region [oP 4 (.load none (tP 1)),
 oP 5 (.load (some 8) (tP 2)),
 oP 6 (.call (tP 4) [(tP 5)]),
 oP 7 (.un .not (tP 6)),
 oP 3 (.mv (tP 7))])
 (.ret))
def A199 : AFunc := { ntmps := 8, results := [.tmp 3], body := B199, coe := true, keep := 0 }
theorem tr199 : trFunc Tryz.prog M199 true Tryz.f199 = some A199 := by kernel_rfl
abbrev H200L1 : List Bool := [true, true, false, true]
abbrev X200L1 : List Bool := []
def M200 : Marks := { cut := fun _ => true, hd := fun | 1 => H200L1 | _ => [], ex := fun | 1 => X200L1 | _ => [], imm := fun | _ => false }
def B200L1 : ACode :=
 .seq (.seq (.region [oP 7 (.mv (tP 3)),
 oP 8 (.bin .geq (tP 7) (iP 0))])
 (.cond (tP 8) (.skip) (.exit 0)))
 (.seq (.block 1 (.seq (.region [oP 11 (.mv (tP 0)),
 oP 12 (.mv (tP 3)),
 oP 13 (.load none (tP 1)),
 oP 14 (.mv (tP 3)),
 oP 15 (.idxAddr 4 (tP 13) (tP 14)),
 oP 16 (.load (some 4) (tP 15)),
 oP 17 (.call (tP 11) [(tP 12), (tP 16)]),
 oP 18 (.un .not (tP 17))])
 (.cond (tP 18) (.ret) (.skip))))
 (.region [oP 9 (.mv (tP 3)),
 oP 10 (.bin .sub (tP 9) (iP 1)),
 oP 3 (.mv (tP 10))]))
def B200 : ACode :=
 .seq (.region [oP 4 (.load none (tP 1)),
 oP 5 (.len false (tP 4)),
 oP 6 (.bin .sub (tP 5) (iP 1)),
 oP 3 (.mv (tP 6))])
 (.block 0 (.loop true H200L1 X200L1 B200L1))
def A200 : AFunc := { ntmps := 19, results := [], body := B200, coe := true, keep := 0 }
theorem tr200 : trFunc Tryz.prog M200 true Tryz.f200 = some A200 := by kernel_rfl
def M201 : Marks := { cut := fun _ => true, hd := fun | _ => [], ex := fun | _ => [], imm := fun | 2 => true | _ => false }
def B201 : ACode :=
 .seq (.region [oP 2 (.box true (tP 0)),
 oP 3 (.mv (bP false))])
 (.seq (.region [oP 4 (.addOff 0 (tP 2)),
 oP 5 (.load none (tP 4)),
 oP 6 (.load none (tP 1)),
 oP 7 (.bin .eql (tP 5) (tP 6)),
 oP 3 (.mv (tP 7))])
 (.ret))
def A201 : AFunc := { ntmps := 8, results := [.tmp 3], body := B201, coe := true, keep := 0 }
theorem tr201 : trFunc Tryz.prog M201 true Tryz.f201 = some A201 := by kernel_rfl
abbrev H205L3 : List Bool := [false, false, false, true, false, false, true, true, true]
abbrev X205L3 : List Bool := [false, false, false, true]
def M205 : Marks := { cut := fun _ => true, hd := fun | 3 => H205L3 | _ => [], ex := fun | 3 => X205L3 | _ => [], imm := fun | 2 => true | 16 => true | _ => false }
def B205L3 : ACode :=
 .seq (.region [oP 9 (.bin .lss (tP 8) (tP 7))])
 (.seq (.cond (tP 9) (.skip) (.exit 0))
 (.seq (.block 1 (.seq (.region [oP 10 (.idxAddr 3 (tP 6) (tP 8)),
 oP 11 (.load (some 3) (tP 10)),
 oP 5 (.alloc [.ok (.int .i64 0), .ok (.str ⟨#[]⟩), .error 3]),
 sP (.store 3 (tP 5) (tP 11))])
 (.region [oP 12 (.mv (tP 3)),
 oP 13 (.load (some 3) (tP 5)),
 oP 14 (.build [.int .i64 0, .str ⟨#[]⟩, .slice 3 []] [(0, 3, (tP 13))]),
 oP 15 (.mki 222 (tP 14)),
 oP 16 (.lit true 0 1 1 [.nili] [(0, (tP 15))]),
 oP 17 (.app false 0 1 16 (tP 12) (tP 16)),
 oP 3 (.mv (tP 17))])))
 (.region [oP 18 (.bin .add (tP 8) (iP 1)),
 oP 8 (.mv (tP 18))])))
def B205 : ACode :=
 .seq (.region [oP 2 (.mv (.con (.slice 1 [])))])
 (.seq (.region [oP 3 (.nilrow 1)])
 (.seq (.seq (.region [oP 6 (.mv (tP 0)),
 oP 7 (.len false (tP 6)),
 oP 8 (.mv (iP 0))])
 (.block 0 (.loop true H205L3 X205L3 B205L3)))
 (.seq (.region [oP 19 (.mv (tP 3)),
 oP 2 (.mv (tP 19))])
 (.ret))))
def A205 : AFunc := { ntmps := 20, results := [.tmp 2], body := B205, coe := true, keep := 0 }
theorem tr205 : trFunc Tryz.prog M205 true Tryz.f205 = some A205 := by kernel_rfl
def M206 : Marks := { cut := fun _ => true, hd := fun | _ => [], ex := fun | _ => [], imm := fun | _ => false }
def B206 : ACode :=
 .seq (.region [oP 4 (.mv (bP false))])
 (.seq (.region [oP 5 (.mv (tP 0)),
 oP 6 (.mv (tP 1)),
 oP 7 (.call (.fn 221) [(tP 5), (tP 6)]),
 oP 8 (.bin .geq (tP 7) (iP 0)),
 oP 4 (.mv (tP 8))])
 (.ret))
def A206 : AFunc := { ntmps := 9, results := [.tmp 4], body := B206, coe := true, keep := 0 }
theorem tr206 : trFunc Tryz.prog M206 true Tryz.f206 = some A206 := by kernel_rfl
def M207 : Marks := { cut := fun _ => true, hd := fun | _ => [], ex := fun | _ => [], imm := fun | _ => false }
def B207 : ACode :=
 .seq (.region [oP 2 (.mv (.con (.nili)))])
 (.seq (.region [oP 3 (.mv (tP 0)),
 oP 4 (.build [.int .i64 0] [(0, 1, (tP 3))]),
 oP 5 (.mki 304 (tP 4)),
 oP 2 (.mv (tP 5))])
 (.ret))
def A207 : AFunc := { ntmps := 6, results := [.tmp 2], body := B207, coe := true, keep := 0 }
theorem tr207 : trFunc Tryz.prog M207 true Tryz.f207 = some A207 := by kernel_rfl
def M208 : Marks := { cut := fun _ => true, hd := fun | _ => [], ex := fun | _ => [], imm := fun | 2 => true | _ => false }
def B208 : ACode :=
 .seq (.region [oP 2 (.mv (.con (.slice 1 [])))])
 (.seq (.seq (.region [oP 3 (.mv (tP 0)),
 oP 4 (.isnil 3 false (tP 3))])
 (.cond (tP 4) (.seq (.region [oP 2 (.mv (.con (.slice 1 [])))])
 (.ret)) (.skip)))
 (.seq (.region [oP 5 (.lit false 0 1 0 [.nili] []),
 oP 6 (.mv (tP 0)),
 oP 7 (.app false 0 1 16 (tP 5) (tP 6)),
 oP 2 (.mv (tP 7))])
 (.ret)))
def A208 : AFunc := { ntmps := 8, results := [.tmp 2], body := B208, coe := true, keep := 0 }
theorem tr208 : trFunc Tryz.prog M208 true Tryz.f208 = some A208 := by kernel_rfl
def M209 : Marks := { cut := fun _ => true, hd := fun | _ => [], ex := fun | _ => [], imm := fun | 2 => true | _ => false }
def B209 : ACode :=
 .seq (.region [oP 2 (.mv (.con (.slice 1 [])))])
 (.seq (.seq (.region [oP 3 (.mv (tP 0)),
 oP 4 (.isnil 3 false (tP 3))])
 (.cond (tP 4) (.seq (.region [oP 2 (.mv (.con (.slice 1 [])))])
 (.ret)) (.skip)))
 (.seq (.region [oP 5 (.lit false 0 1 0 [.int .i64 0] []),
 oP 6 (.mv (tP 0)),
 oP 7 (.app false 0 1 8 (tP 5) (tP 6)),
 oP 2 (.mv (tP 7))])
 (.ret)))
def A209 : AFunc := { ntmps := 8, results := [.tmp 2], body := B209, coe := true, keep := 0 }
theorem tr209 : trFunc Tryz.prog M209 true Tryz.f209 = some A209 := by kernel_rfl
def M210 : Marks := { cut := fun _ => true, hd := fun | _ => [], ex := fun | _ => [], imm := fun | _ => false }
def B210 : ACode :=
 .seq (.region [oP 7 (.box false (tP 3)),
 oP 8 (.mv (bP false))])
 (.seq (.region [oP 9 (.mv (tP 0)),
 oP 10 (.len false (tP 9)),
 oP 11 (.mv (tP 1)),
 oP 12 (.bin .geq (tP 10) (tP 11)),
 oP 13 (.mv (tP 12)),
 gP 14 13 true (.mv (tP 0)),
 gP 15 13 true (.len false (tP 14)),
 gP 16 13 true (.mv (tP 2)),
 gP 17 13 true (.bin .leq (tP 15) (tP 16)),
 oP 18 (.pick (tP 13) (tP 17) (bP false)),
 oP 19 (.mv (tP 18)),
 gP 20 19 true (.mv (tP 0)),
 gP 21 19 true (.mkf (.func 223) [] [(tP 7)]),
 gP 22 19 true (.call (.fn 222) [(tP 20), (tP 21)]),
 gP 23 19 true (.un .not (tP 22)),
 oP 24 (.pick (tP 19) (tP 23) (bP false)),
 oP 8 (.mv (tP 24))])
 (.ret))
def A210 : AFunc := { ntmps := 25, results := [.tmp 8], body := B210, coe := true, keep := 0 }
theorem tr210 : trFunc Tryz.prog M210 true Tryz.f210 = some A210 := by kernel_rfl
abbrev H211L2 : List Bool := [true, true, false, false, false, false, false, true, true]
abbrev X211L2 : List Bool := [false, false, false, false, true]
def M211 : Marks := { cut := fun _ => true, hd := fun | 2 => H211L2 | _ => [], ex := fun | 2 => X211L2 | _ => [], imm := fun | _ => false }
def B211L2 : ACode :=
 .seq (.region [oP 9 (.bin .lss (tP 8) (tP 7))])
 (.seq (.cond (tP 9) (.skip) (.exit 0))
 (.seq (.block 1 (.seq (.region [oP 10 (.mv (tP 8)),
 oP 5 (.mv (tP 10))])
 (.seq (.region [oP 11 (.mv (tP 1)),
 oP 12 (.mv (tP 0)),
 oP 13 (.mv (tP 5)),
 oP 14 (.idxAddr 4 (tP 12) (tP 13)),
 oP 15 (.load (some 4) (tP 14)),
 oP 16 (.call (tP 11) [(tP 15)])])
 (.cond (tP 16) (.seq (.region [oP 17 (.mv (tP 5)),
 oP 4 (.mv (tP 17))])
 (.ret)) (.skip)))))
 (.region [oP 18 (.bin .add (tP 8) (iP 1)),
 oP 8 (.mv (tP 18))])))
def B211 : ACode :=
 .seq (.region [oP 4 (.mv (iP 0))])
 (.seq (.seq (.region [oP 6 (.mv (tP 0)),
 oP 7 (.len false (tP 6)),
 oP 8 (.mv (iP 0))])
 (.block 0 (.loop true H211L2 X211L2 B211L2)))
 (.seq (.region [oP 4 (.mv (iP (-1)))])
 (.ret)))
def A211 : AFunc := { ntmps := 19, results := [.tmp 4], body := B211, coe := true, keep := 0 }
theorem tr211 : trFunc Tryz.prog M211 true Tryz.f211 = some A211 := by kernel_rfl
def M212 : Marks := { cut := fun _ => true, hd := fun | _ => [], ex := fun | _ => [], imm := fun | 2 => true | _ => false }
def B212 : ACode :=
 .seq (.region [oP 2 (.box true (tP 0)),
 oP 3 (.mv (bP false))])
 (.seq (.region [oP 4 (.load none (tP 1)),
 oP 5 (.load (some 3) (tP 2)),
 oP 6 (.call (tP 4) [(tP 5)]),
 oP 7 (.un .not (tP 6)),
 oP 3 (.mv (tP 7))])
 (.ret))
def A212 : AFunc := { ntmps := 8, results := [.tmp 3], body := B212, coe := true, keep := 0 }
theorem tr212 : trFunc Tryz.prog M212 true Tryz.f212 = some A212 := by kernel_rfl
def M213 : Marks := { cut := fun _ => true, hd := fun | _ => [], ex := fun | _ => [], imm := fun | _ => false }
def B213 : ACode :=
 .seq (.region [oP 2 (.mv (bP false))])
 (.seq (.seq (.region [oP 3 (.mv (tP 0))])
 (.block 0 (.seq (.seq (.region [oP 5 (.bin .eql (tP 3) (.con (.str ⟨#[99, 97, 112]⟩))),
 oP 4 (.mv (tP 5))])
 (.cond (tP 4) (.skip) (.seq (.region [oP 6 (.bin .eql (tP 3) (.con (.str ⟨#[100, 111]⟩))),
 oP 4 (.mv (tP 6))])
 (.cond (tP 4) (.skip) (.seq (.region [oP 7 (.bin .eql (tP 3) (.con (.str ⟨#[101, 108, 115, 101]⟩))),
 oP 4 (.mv (tP 7))])
 (.cond (tP 4) (.skip) (.seq (.region [oP 8 (.bin .eql (tP 3) (.con (.str ⟨#[101, 110, 100]⟩))),
 oP 4 (.mv (tP 8))])
 (.cond (tP 4) (.skip) (.seq (.region [oP 9 (.bin .eql (tP 3) (.con (.str ⟨#[102, 111, 114]⟩))),
 oP 4 (.mv (tP 9))])
 (.cond (tP 4) (.skip) (.seq (.region [oP 10 (.bin .eql (tP 3) (.con (.str ⟨#[102, 117, 110]⟩))),
 oP 4 (.mv (tP 10))])
 (.cond (tP 4) (.skip) (.seq (.region [oP 11 (.bin .eql (tP 3) (.con (.str ⟨#[105, 102]⟩))),
 oP 4 (.mv (tP 11))])
 (.cond (tP 4) (.skip) (.seq (.region [oP 12 (.bin .eql (tP 3) (.con (.str ⟨#[105, 110]⟩))),
 oP 4 (.mv (tP 12))])
 (.cond (tP 4) (.skip) (.seq (.region [oP 13 (.bin .eql (tP 3) (.con (.str ⟨#[108, 101, 116]⟩))),
 oP 4 (.mv (tP 13))])
 (.cond (tP 4) (.skip) (.seq (.region [oP 14 (.bin .eql (tP 3) (.con (.str ⟨#[109, 97, 116, 99, 104]⟩))),
 oP 4 (.mv (tP 14))])
 (.cond (tP 4) (.skip) (.seq (.region [oP 15 (.bin .eql (tP 3) (.con (.str ⟨#[111, 102]⟩))),
 oP 4 (.mv (tP 15))])
 (.cond (tP 4) (.skip) (.seq (.region [oP 16 (.bin .eql (tP 3) (.con (.str ⟨#[111, 110]⟩))),
 oP 4 (.mv (tP 16))])
 (.cond (tP 4) (.skip) (.seq (.region [oP 17 (.bin .eql (tP 3) (.con (.str ⟨#[113, 117, 101, 117, 101]⟩))),
 oP 4 (.mv (tP 17))])
 (.cond (tP 4) (.skip) (.seq (.region [oP 18 (.bin .eql (tP 3) (.con (.str ⟨#[115, 116, 97, 116, 101]⟩))),
 oP 4 (.mv (tP 18))])
 (.cond (tP 4) (.skip) (.seq (.region [oP 19 (.bin .eql (tP 3) (.con (.str ⟨#[116, 104, 101, 110]⟩))),
 oP 4 (.mv (tP 19))])
 (.cond (tP 4) (.skip) (.seq (.region [oP 20 (.bin .eql (tP 3) (.con (.str ⟨#[116, 105, 109, 101, 114, 115]⟩))),
 oP 4 (.mv (tP 20))])
 (.cond (tP 4) (.skip) (.seq (.region [oP 21 (.bin .eql (tP 3) (.con (.str ⟨#[116, 121, 112, 101]⟩))),
 oP 4 (.mv (tP 21))])
 (.cond (tP 4) (.skip) (.region [oP 22 (.bin .eql (tP 3) (.con (.str ⟨#[119, 105, 116, 104]⟩))),
 oP 4 (.mv (tP 22))])))))))))))))))))))))))))))))))))))
 (.cond (tP 4) (.seq (.region [oP 2 (.mv (bP true))])
 (.ret)) (.skip)))))
 (.seq (.region [oP 2 (.mv (bP false))])
 (.ret)))
def A213 : AFunc := { ntmps := 23, results := [.tmp 2], body := B213, coe := true, keep := 0 }
theorem tr213 : trFunc Tryz.prog M213 true Tryz.f213 = some A213 := by kernel_rfl
abbrev H215L2 : List Bool := [false, false, true, false, true]
abbrev X215L2 : List Bool := [false, false, true]
def M215 : Marks := { cut := fun _ => true, hd := fun | 2 => H215L2 | _ => [], ex := fun | 2 => X215L2 | _ => [], imm := fun | _ => false }
def B215L2 : ACode :=
 .seq (.region [oP 5 (.next (tP 4)),
 oP 6 (.ext 0 (tP 5))])
 (.seq (.cond (tP 6) (.skip) (.exit 0))
 (.block 1 (.region [oP 7 (.mv (tP 2)),
 oP 8 (.bin .add (tP 7) (iP 1)),
 oP 2 (.mv (tP 8))])))
def B215 : ACode :=
 .seq (.region [oP 2 (.mv (iP 0))])
 (.seq (.seq (.region [oP 3 (.mv (tP 0)),
 oP 4 (.rng (tP 3))])
 (.block 0 (.loop true H215L2 X215L2 B215L2)))
 (.seq (.region [oP 9 (.mv (tP 2)),
 oP 2 (.mv (tP 9))])
 (.ret)))
def A215 : AFunc := { ntmps := 10, results := [.tmp 2], body := B215, coe := true, keep := 0 }
theorem tr215 : trFunc Tryz.prog M215 true Tryz.f215 = some A215 := by kernel_rfl
def M216 : Marks := { cut := fun _ => true, hd := fun | _ => [], ex := fun | _ => [], imm := fun | _ => false }
def B216 : ACode :=
 .seq (.region [oP 2 (.mv (bP false))])
 (.seq (.region [oP 3 (.mv (tP 0)),
 oP 4 (.call (.fn 218) [(tP 3)]),
 oP 5 (.mv (tP 4)),
 gP 6 5 false (.mv (tP 0)),
 gP 7 5 false (.call (.fn 217) [(tP 6)]),
 oP 8 (.pick (tP 5) (bP true) (tP 7)),
 oP 9 (.mv (tP 8)),
 gP 10 9 false (.mv (tP 0)),
 gP 11 9 false (.call (.fn 225) [(tP 10)]),
 oP 12 (.pick (tP 9) (bP true) (tP 11)),
 oP 13 (.mv (tP 12)),
 gP 14 13 false (.mv (tP 0)),
 gP 15 13 false (.bin .eql (tP 14) (.con (.int .i32 95))),
 oP 16 (.pick (tP 13) (bP true) (tP 15)),
 oP 2 (.mv (tP 16))])
 (.ret))
def A216 : AFunc := { ntmps := 17, results := [.tmp 2], body := B216, coe := true, keep := 0 }
theorem tr216 : trFunc Tryz.prog M216 true Tryz.f216 = some A216 := by kernel_rfl
def M217 : Marks := { cut := fun _ => true, hd := fun | _ => [], ex := fun | _ => [], imm := fun | _ => false }
def B217 : ACode :=
 .seq (.region [oP 2 (.mv (bP false))])
 (.seq (.region [oP 3 (.mv (tP 0)),
 oP 4 (.bin .geq (tP 3) (.con (.int .i32 65))),
 oP 5 (.mv (tP 4)),
 gP 6 5 true (.mv (tP 0)),
 gP 7 5 true (.bin .leq (tP 6) (.con (.int .i32 90))),
 oP 8 (.pick (tP 5) (tP 7) (bP false)),
 oP 2 (.mv (tP 8))])
 (.ret))
def A217 : AFunc := { ntmps := 9, results := [.tmp 2], body := B217, coe := true, keep := 0 }
theorem tr217 : trFunc Tryz.prog M217 true Tryz.f217 = some A217 := by kernel_rfl
def M218 : Marks := { cut := fun _ => true, hd := fun | _ => [], ex := fun | _ => [], imm := fun | _ => false }
def B218 : ACode :=
 .seq (.region [oP 2 (.mv (bP false))])
 (.seq (.region [oP 3 (.mv (tP 0)),
 oP 4 (.bin .geq (tP 3) (.con (.int .i32 97))),
 oP 5 (.mv (tP 4)),
 gP 6 5 true (.mv (tP 0)),
 gP 7 5 true (.bin .leq (tP 6) (.con (.int .i32 122))),
 oP 8 (.pick (tP 5) (tP 7) (bP false)),
 oP 9 (.mv (tP 8)),
 gP 10 9 false (.mv (tP 0)),
 gP 11 9 false (.bin .geq (tP 10) (.con (.int .i32 128))),
 gP 12 9 false (.mv (tP 11)),
 gP 13 12 true (.mv (tP 0)),
 gP 14 12 true (.call (.fn 226) [(tP 13)]),
 gP 15 9 false (.pick (tP 12) (tP 14) (bP false)),
 oP 16 (.pick (tP 9) (bP true) (tP 15)),
 oP 2 (.mv (tP 16))])
 (.ret))
def A218 : AFunc := { ntmps := 17, results := [.tmp 2], body := B218, coe := true, keep := 0 }
theorem tr218 : trFunc Tryz.prog M218 true Tryz.f218 = some A218 := by kernel_rfl
abbrev H219L2 : List Bool := [true, true, false, false, false, false, false, true, true]
abbrev X219L2 : List Bool := [false, false, false, false, true]
def M219 : Marks := { cut := fun _ => true, hd := fun | 2 => H219L2 | _ => [], ex := fun | 2 => X219L2 | _ => [], imm := fun | _ => false }
def B219L2 : ACode :=
 .seq (.region [oP 9 (.bin .lss (tP 8) (tP 7))])
 (.seq (.cond (tP 9) (.skip) (.exit 0))
 (.seq (.block 1 (.seq (.region [oP 10 (.mv (tP 8)),
 oP 5 (.mv (tP 10))])
 (.seq (.region [oP 11 (.mv (tP 1)),
 oP 12 (.mv (tP 0)),
 oP 13 (.mv (tP 5)),
 oP 14 (.idxAddr 14 (tP 12) (tP 13)),
 oP 15 (.load (some 14) (tP 14)),
 oP 16 (.call (tP 11) [(tP 15)])])
 (.cond (tP 16) (.seq (.region [oP 17 (.mv (tP 5)),
 oP 4 (.mv (tP 17))])
 (.ret)) (.skip)))))
 (.region [oP 18 (.bin .add (tP 8) (iP 1)),
 oP 8 (.mv (tP 18))])))
def B219 : ACode :=
 .seq (.region [oP 4 (.mv (iP 0))])
 (.seq (.seq (.region [oP 6 (.mv (tP 0)),
 oP 7 (.len false (tP 6)),
 oP 8 (.mv (iP 0))])
 (.block 0 (.loop true H219L2 X219L2 B219L2)))
 (.seq (.region [oP 4 (.mv (iP (-1)))])
 (.ret)))
def A219 : AFunc := { ntmps := 19, results := [.tmp 4], body := B219, coe := true, keep := 0 }
theorem tr219 : trFunc Tryz.prog M219 true Tryz.f219 = some A219 := by kernel_rfl
abbrev H220L2 : List Bool := [true, true, false, false, false, false, false, true, true]
abbrev X220L2 : List Bool := [false, false, false, false, true]
def M220 : Marks := { cut := fun _ => true, hd := fun | 2 => H220L2 | _ => [], ex := fun | 2 => X220L2 | _ => [], imm := fun | _ => false }
def B220L2 : ACode :=
 .seq (.region [oP 9 (.bin .lss (tP 8) (tP 7))])
 (.seq (.cond (tP 9) (.skip) (.exit 0))
 (.seq (.block 1 (.seq (.region [oP 10 (.mv (tP 8)),
 oP 5 (.mv (tP 10))])
 (.seq (.region [oP 11 (.mv (tP 1)),
 oP 12 (.mv (tP 0)),
 oP 13 (.mv (tP 5)),
 oP 14 (.idxAddr 8 (tP 12) (tP 13)),
 oP 15 (.load (some 8) (tP 14)),
 oP 16 (.call (tP 11) [(tP 15)])])
 (.cond (tP 16) (.seq (.region [oP 17 (.mv (tP 5)),
 oP 4 (.mv (tP 17))])
 (.ret)) (.skip)))))
 (.region [oP 18 (.bin .add (tP 8) (iP 1)),
 oP 8 (.mv (tP 18))])))
def B220 : ACode :=
 .seq (.region [oP 4 (.mv (iP 0))])
 (.seq (.seq (.region [oP 6 (.mv (tP 0)),
 oP 7 (.len false (tP 6)),
 oP 8 (.mv (iP 0))])
 (.block 0 (.loop true H220L2 X220L2 B220L2)))
 (.seq (.region [oP 4 (.mv (iP (-1)))])
 (.ret)))
def A220 : AFunc := { ntmps := 19, results := [.tmp 4], body := B220, coe := true, keep := 0 }
theorem tr220 : trFunc Tryz.prog M220 true Tryz.f220 = some A220 := by kernel_rfl
abbrev H221L2 : List Bool := [true, true, false, false, false, false, false, true, true]
abbrev X221L2 : List Bool := [false, false, false, false, true]
def M221 : Marks := { cut := fun _ => true, hd := fun | 2 => H221L2 | _ => [], ex := fun | 2 => X221L2 | _ => [], imm := fun | _ => false }
def B221L2 : ACode :=
 .seq (.region [oP 9 (.bin .lss (tP 8) (tP 7))])
 (.seq (.cond (tP 9) (.skip) (.exit 0))
 (.seq (.block 1 (.seq (.region [oP 10 (.mv (tP 8)),
 oP 5 (.mv (tP 10))])
 (.seq (.region [oP 11 (.mv (tP 1)),
 oP 12 (.mv (tP 0)),
 oP 13 (.mv (tP 5)),
 oP 14 (.idxAddr 1 (tP 12) (tP 13)),
 oP 15 (.load none (tP 14)),
 oP 16 (.bin .eql (tP 11) (tP 15))])
 (.cond (tP 16) (.seq (.region [oP 17 (.mv (tP 5)),
 oP 4 (.mv (tP 17))])
 (.ret)) (.skip)))))
 (.region [oP 18 (.bin .add (tP 8) (iP 1)),
 oP 8 (.mv (tP 18))])))
def B221 : ACode :=
 .seq (.region [oP 4 (.mv (iP 0))])
 (.seq (.seq (.region [oP 6 (.mv (tP 0)),
 oP 7 (.len false (tP 6)),
 oP 8 (.mv (iP 0))])
 (.block 0 (.loop true H221L2 X221L2 B221L2)))
 (.seq (.region [oP 4 (.mv (iP (-1)))])
 (.ret)))
def A221 : AFunc := { ntmps := 19, results := [.tmp 4], body := B221, coe := true, keep := 0 }
theorem tr221 : trFunc Tryz.prog M221 true Tryz.f221 = some A221 := by kernel_rfl
def M222 : Marks := { cut := fun _ => true, hd := fun | _ => [], ex := fun | _ => [], imm := fun | _ => false }
def B222 : ACode :=
 .seq (.region [oP 4 (.mv (bP false))])
 (.seq (.region [oP 5 (.mv (tP 0)),
 oP 6 (.mv (tP 1)),
 oP 7 (.call (.fn 227) [(tP 5), (tP 6)]),
 oP 8 (.bin .geq (tP 7) (iP 0)),
 oP 4 (.mv (tP 8))])
 (.ret))
def A222 : AFunc := { ntmps := 9, results := [.tmp 4], body := B222, coe := true, keep := 0 }
theorem tr222 : trFunc Tryz.prog M222 true Tryz.f222 = some A222 := by kernel_rfl
def M223 : Marks := { cut := fun _ => true, hd := fun | _ => [], ex := fun | _ => [], imm := fun | 2 => true | _ => false }
def B223 : ACode :=
 .seq (.region [oP 2 (.box true (tP 0)),
 oP 3 (.mv (bP false))])
 (.seq (.region [oP 4 (.load none (tP 1)),
 oP 5 (.load (some 6) (tP 2)),
 oP 6 (.call (tP 4) [(tP 5)]),
 oP 7 (.un .not (tP 6)),
 oP 3 (.mv (tP 7))])
 (.ret))
def A223 : AFunc := { ntmps := 8, results := [.tmp 3], body := B223, coe := true, keep := 0 }
theorem tr223 : trFunc Tryz.prog M223 true Tryz.f223 = some A223 := by kernel_rfl
def M224 : Marks := { cut := fun _ => true, hd := fun | _ => [], ex := fun | _ => [], imm := fun | _ => false }
def B224 : ACode :=
 .seq (.region [oP 2 (.mv (.con (.int .u64 0)))])
 (.seq (.cond (bP false) (.seq (.draw [oP 3 (.mv (tP 0)),
 oP 4 (.idxStr (tP 3) (iP 0)),
 oP 5 (.cvt .u64 (tP 4)),
 oP 6 (.mv (tP 0)),
 oP 7 (.idxStr (tP 6) (iP 1)),
 oP 8 (.cvt .u64 (tP 7)),
 oP 9 (.bin .shl (tP 8) (.con (.int .u64 8))),
 oP 10 (.bin .or (tP 5) (tP 9)),
 oP 11 (.mv (tP 0)),
 oP 12 (.idxStr (tP 11) (iP 2)),
 oP 13 (.cvt .u64 (tP 12)),
 oP 14 (.bin .shl (tP 13) (.con (.int .u64 16))),
 oP 15 (.bin .or (tP 10) (tP 14)),
 oP 16 (.mv (tP 0)),
 oP 17 (.idxStr (tP 16) (iP 3)),
 oP 18 (.cvt .u64 (tP 17)),
 oP 19 (.bin .shl (tP 18) (.con (.int .u64 24))),
 oP 20 (.bin .or (tP 15) (tP 19)),
 oP 2 (.mv (tP 20))] [])
 (.ret)) (.skip))
 (.seq (.draw [oP 21 (.mv (tP 0)),
 oP 22 (.idxStr (tP 21) (iP 0)),
 oP 23 (.cvt .u64 (tP 22)),
 oP 24 (.mv (tP 0)),
 oP 25 (.idxStr (tP 24) (iP 1)),
 oP 26 (.cvt .u64 (tP 25)),
 oP 27 (.bin .shl (tP 26) (.con (.int .u64 8))),
 oP 28 (.bin .or (tP 23) (tP 27)),
 oP 29 (.mv (tP 0)),
 oP 30 (.idxStr (tP 29) (iP 2)),
 oP 31 (.cvt .u64 (tP 30)),
 oP 32 (.bin .shl (tP 31) (.con (.int .u64 16))),
 oP 33 (.bin .or (tP 28) (tP 32)),
 oP 34 (.mv (tP 0)),
 oP 35 (.idxStr (tP 34) (iP 3)),
 oP 36 (.cvt .u64 (tP 35)),
 oP 37 (.bin .shl (tP 36) (.con (.int .u64 24))),
 oP 38 (.bin .or (tP 33) (tP 37)),
 oP 39 (.mv (tP 0)),
 oP 40 (.idxStr (tP 39) (iP 4)),
 oP 41 (.cvt .u64 (tP 40)),
 oP 42 (.bin .shl (tP 41) (.con (.int .u64 32))),
 oP 43 (.bin .or (tP 38) (tP 42)),
 oP 44 (.mv (tP 0)),
 oP 45 (.idxStr (tP 44) (iP 5)),
 oP 46 (.cvt .u64 (tP 45)),
 oP 47 (.bin .shl (tP 46) (.con (.int .u64 40))),
 oP 48 (.bin .or (tP 43) (tP 47)),
 oP 49 (.mv (tP 0)),
 oP 50 (.idxStr (tP 49) (iP 6)),
 oP 51 (.cvt .u64 (tP 50)),
 oP 52 (.bin .shl (tP 51) (.con (.int .u64 48))),
 oP 53 (.bin .or (tP 48) (tP 52)),
 oP 54 (.mv (tP 0)),
 oP 55 (.idxStr (tP 54) (iP 7)),
 oP 56 (.cvt .u64 (tP 55)),
 oP 57 (.bin .shl (tP 56) (.con (.int .u64 56))),
 oP 58 (.bin .or (tP 53) (tP 57)),
 oP 2 (.mv (tP 58))] [])
 (.ret)))
def A224 : AFunc := { ntmps := 59, results := [.tmp 2], body := B224, coe := true, keep := 0 }
theorem tr224 : trFunc Tryz.prog M224 true Tryz.f224 = some A224 := by kernel_rfl
def M225 : Marks := { cut := fun _ => true, hd := fun | _ => [], ex := fun | _ => [], imm := fun | _ => false }
def B225 : ACode :=
 .seq (.region [oP 2 (.mv (bP false))])
 (.seq (.region [oP 3 (.mv (tP 0)),
 oP 4 (.bin .geq (tP 3) (.con (.int .i32 48))),
 oP 5 (.mv (tP 4)),
 gP 6 5 true (.mv (tP 0)),
 gP 7 5 true (.bin .leq (tP 6) (.con (.int .i32 57))),
 oP 8 (.pick (tP 5) (tP 7) (bP false)),
 oP 2 (.mv (tP 8))])
 (.ret))
def A225 : AFunc := { ntmps := 9, results := [.tmp 2], body := B225, coe := true, keep := 0 }
theorem tr225 : trFunc Tryz.prog M225 true Tryz.f225 = some A225 := by kernel_rfl
def M226 : Marks := { cut := fun _ => true, hd := fun | _ => [], ex := fun | _ => [], imm := fun | _ => false }
def B226 : ACode :=
 .seq (.region [oP 2 (.mv (bP false))])
 (.seq (.block 0 (.seq (.region [oP 4 (.mv (tP 0)),
 oP 5 (.bin .leq (.con (.int .i32 0)) (tP 4)),
 oP 6 (.mv (tP 5)),
 gP 7 6 true (.mv (tP 0)),
 gP 8 6 true (.bin .lss (tP 7) (.con (.int .i32 55296))),
 oP 9 (.pick (tP 6) (tP 8) (bP false)),
 oP 3 (.mv (tP 9))])
 (.cond (tP 3) (.seq (.region [oP 2 (.mv (bP true))])
 (.ret)) (.seq (.region [oP 11 (.mv (tP 0)),
 oP 12 (.bin .lss (.con (.int .i32 57343)) (tP 11)),
 oP 13 (.mv (tP 12)),
 gP 14 13 true (.mv (tP 0)),
 gP 15 13 true (.bin .leq (tP 14) (.con (.int .i32 1114111))),
 oP 16 (.pick (tP 13) (tP 15) (bP false)),
 oP 10 (.mv (tP 16))])
 (.cond (tP 10) (.seq (.region [oP 2 (.mv (bP true))])
 (.ret)) (.skip))))))
 (.seq (.region [oP 2 (.mv (bP false))])
 (.ret)))
def A226 : AFunc := { ntmps := 17, results := [.tmp 2], body := B226, coe := true, keep := 0 }
theorem tr226 : trFunc Tryz.prog M226 true Tryz.f226 = some A226 := by kernel_rfl
abbrev H227L2 : List Bool := [true, true, false, false, false, false, false, true, true]
abbrev X227L2 : List Bool := [false, false, false, false, true]
def M227 : Marks := { cut := fun _ => true, hd := fun | 2 => H227L2 | _ => [], ex := fun | 2 => X227L2 | _ => [], imm := fun | _ => false }
def B227L2 : ACode :=
 .seq (.region [oP 9 (.bin .lss (tP 8) (tP 7))])
 (.seq (.cond (tP 9) (.skip) (.exit 0))
 (.seq (.block 1 (.seq (.region [oP 10 (.mv (tP 8)),
 oP 5 (.mv (tP 10))])
 (.seq (.region [oP 11 (.mv (tP 1)),
 oP 12 (.mv (tP 0)),
 oP 13 (.mv (tP 5)),
 oP 14 (.idxAddr 6 (tP 12) (tP 13)),
 oP 15 (.load (some 6) (tP 14)),
 oP 16 (.call (tP 11) [(tP 15)])])
 (.cond (tP 16) (.seq (.region [oP 17 (.mv (tP 5)),
 oP 4 (.mv (tP 17))])
 (.ret)) (.skip)))))
 (.region [oP 18 (.bin .add (tP 8) (iP 1)),
 oP 8 (.mv (tP 18))])))
def B227 : ACode :=
 .seq (.region [oP 4 (.mv (iP 0))])
 (.seq (.seq (.region [oP 6 (.mv (tP 0)),
 oP 7 (.len false (tP 6)),
 oP 8 (.mv (iP 0))])
 (.block 0 (.loop true H227L2 X227L2 B227L2)))
 (.seq (.region [oP 4 (.mv (iP (-1)))])
 (.ret)))
def A227 : AFunc := { ntmps := 19, results := [.tmp 4], body := B227, coe := true, keep := 0 }
theorem tr227 : trFunc Tryz.prog M227 true Tryz.f227 = some A227 := by kernel_rfl
def ext : FuncId → Option (List DV → List Res → Option DOut) := fun | 20 => some (xClone 1 1) | _ => none
def af0 : FuncId → Option AFunc := fun | 3 => some A3 | 4 => some A4 | 5 => some A5 | 6 => some A6 | 7 => some A7 | 8 => some A8 | 9 => some A9 | 10 => some A10 | 11 => some A11 | 12 => some A12 | 13 => some A13 | 14 => some A14 | 15 => some A15 | 16 => some A16 | 17 => some A17 | 18 => some A18 | 19 => some A19 | 20 => some A20 | 21 => some A21 | 22 => some A22 | 23 => some A23 | 24 => some A24 | 25 => some A25 | 26 => some A26 | 27 => some A27 | 28 => some A28 | 29 => some A29 | 30 => some A30 | 31 => some A31 | 32 => some A32 | 33 => some A33 | 34 => some A34 | 35 => some A35 | 36 => some A36 | 37 => some A37 | 38 => some A38 | 39 => some A39 | 40 => some A40 | 41 => some A41 | 42 => some A42 | 43 => some A43 | 44 => some A44 | 45 => some A45 | 46 => some A46 | 47 => some A47 | 48 => some A48 | 49 => some A49 | 50 => some A50 | 51 => some A51 | 52 => some A52 | 53 => some A53 | 54 => some A54 | 55 => some A55 | 56 => some A56 | 57 => some A57 | 58 => some A58 | 59 => some A59 | 60 => some A60 | 61 => some A61 | 62 => some A62 | _ => none
def af1 : FuncId → Option AFunc := fun | 63 => some A63 | 64 => some A64 | 65 => some A65 | 66 => some A66 | 67 => some A67 | 68 => some A68 | 69 => some A69 | 70 => some A70 | 71 => some A71 | 72 => some A72 | 73 => some A73 | 74 => some A74 | 75 => some A75 | 76 => some A76 | 77 => some A77 | 78 => some A78 | 79 => some A79 | 80 => some A80 | 81 => some A81 | 82 => some A82 | 83 => some A83 | 84 => some A84 | 85 => some A85 | 86 => some A86 | 87 => some A87 | 88 => some A88 | 89 => some A89 | 90 => some A90 | 91 => some A91 | 92 => some A92 | 93 => some A93 | 94 => some A94 | 95 => some A95 | 96 => some A96 | 97 => some A97 | 98 => some A98 | 99 => some A99 | 100 => some A100 | 102 => some A102 | 103 => some A103 | 104 => some A104 | 105 => some A105 | 106 => some A106 | 107 => some A107 | 108 => some A108 | 109 => some A109 | 110 => some A110 | 111 => some A111 | 112 => some A112 | 113 => some A113 | 114 => some A114 | 115 => some A115 | 116 => some A116 | 117 => some A117 | 118 => some A118 | 119 => some A119 | 120 => some A120 | 121 => some A121 | 122 => some A122 | 123 => some A123 | _ => none
def af2 : FuncId → Option AFunc := fun | 124 => some A124 | 125 => some A125 | 126 => some A126 | 127 => some A127 | 128 => some A128 | 129 => some A129 | 130 => some A130 | 131 => some A131 | 132 => some A132 | 133 => some A133 | 134 => some A134 | 135 => some A135 | 136 => some A136 | 137 => some A137 | 139 => some A139 | 140 => some A140 | 141 => some A141 | 142 => some A142 | 143 => some A143 | 144 => some A144 | 145 => some A145 | 146 => some A146 | 147 => some A147 | 148 => some A148 | 149 => some A149 | 150 => some A150 | 151 => some A151 | 152 => some A152 | 153 => some A153 | 154 => some A154 | 155 => some A155 | 156 => some A156 | 157 => some A157 | 158 => some A158 | 159 => some A159 | 160 => some A160 | 161 => some A161 | 162 => some A162 | 163 => some A163 | 164 => some A164 | 165 => some A165 | 166 => some A166 | 167 => some A167 | 168 => some A168 | 169 => some A169 | 170 => some A170 | 171 => some A171 | 172 => some A172 | 173 => some A173 | 174 => some A174 | 175 => some A175 | 180 => some A180 | 181 => some A181 | 182 => some A182 | 183 => some A183 | 184 => some A184 | 185 => some A185 | 186 => some A186 | 187 => some A187 | 188 => some A188 | _ => none
def af3 : FuncId → Option AFunc := fun | 189 => some A189 | 190 => some A190 | 191 => some A191 | 192 => some A192 | 193 => some A193 | 194 => some A194 | 195 => some A195 | 196 => some A196 | 197 => some A197 | 198 => some A198 | 199 => some A199 | 200 => some A200 | 201 => some A201 | 205 => some A205 | 206 => some A206 | 207 => some A207 | 208 => some A208 | 209 => some A209 | 210 => some A210 | 211 => some A211 | 212 => some A212 | 213 => some A213 | 215 => some A215 | 216 => some A216 | 217 => some A217 | 218 => some A218 | 219 => some A219 | 220 => some A220 | 221 => some A221 | 222 => some A222 | 223 => some A223 | 224 => some A224 | 225 => some A225 | 226 => some A226 | 227 => some A227 | _ => none
def env : Env := { af := fun g => match af0 g with | some F => some F | none => (match af1 g with | some F => some F | none => (match af2 g with | some F => some F | none => (match af3 g with | some F => some F | none => none))), ext := ext }
abbrev AfOk (g : FuncId) (F : AFunc) : Prop := ∃ fn M co, (Tryz.prog).funcs[g]? = some fn ∧ (fn.name == "runtime.NumGoroutine") = false ∧ (trFunc Tryz.prog M co fn = some F ∨ ∃ Mc, trFuncG Tryz.prog M Mc co fn = some F)
theorem af0_ok {g : FuncId} {F : AFunc} (h : af0 g = some F) : AfOk g F := by
  unfold af0 at h
  split at h
  · cases h; exact ⟨Tryz.f3, M3, true, by kernel_rfl, by kernel_rfl, .inl tr3⟩
  · cases h; exact ⟨Tryz.f4, M4, true, by kernel_rfl, by kernel_rfl, .inl tr4⟩
  · cases h; exact ⟨Tryz.f5, M5, true, by kernel_rfl, by kernel_rfl, .inl tr5⟩
  · cases h; exact ⟨Tryz.f6, M6, true, by kernel_rfl, by kernel_rfl, .inl tr6⟩
  · cases h; exact ⟨Tryz.f7, M7, true, by kernel_rfl, by kernel_rfl, .inl tr7⟩
  · cases h; exact ⟨Tryz.f8, M8, true, by kernel_rfl, by kernel_rfl, .inl tr8⟩
  · cases h; exact ⟨Tryz.f9, M9, true, by kernel_rfl, by kernel_rfl, .inl tr9⟩
  · cases h; exact ⟨Tryz.f10, M10, true, by kernel_rfl, by kernel_rfl, .inl tr10⟩
  · cases h; exact ⟨Tryz.f11, M11, true, by kernel_rfl, by kernel_rfl, .inl tr11⟩
  · cases h; exact ⟨Tryz.f12, M12, true, by kernel_rfl, by kernel_rfl, .inl tr12⟩
  · cases h; exact ⟨Tryz.f13, M13, true, by kernel_rfl, by kernel_rfl, .inl tr13⟩
  · cases h; exact ⟨Tryz.f14, M14, true, by kernel_rfl, by kernel_rfl, .inl tr14⟩
  · cases h; exact ⟨Tryz.f15, M15, true, by kernel_rfl, by kernel_rfl, .inl tr15⟩
  · cases h; exact ⟨Tryz.f16, M16, true, by kernel_rfl, by kernel_rfl, .inl tr16⟩
  · cases h; exact ⟨Tryz.f17, M17, true, by kernel_rfl, by kernel_rfl, .inl tr17⟩
  · cases h; exact ⟨Tryz.f18, M18, true, by kernel_rfl, by kernel_rfl, .inl tr18⟩
  · cases h; exact ⟨Tryz.f19, M19, true, by kernel_rfl, by kernel_rfl, .inl tr19⟩
  · cases h; exact ⟨Tryz.f20, M20, true, by kernel_rfl, by kernel_rfl, .inl tr20⟩
  · cases h; exact ⟨Tryz.f21, M21, true, by kernel_rfl, by kernel_rfl, .inl tr21⟩
  · cases h; exact ⟨Tryz.f22, M22, true, by kernel_rfl, by kernel_rfl, .inl tr22⟩
  · cases h; exact ⟨Tryz.f23, M23, true, by kernel_rfl, by kernel_rfl, .inl tr23⟩
  · cases h; exact ⟨Tryz.f24, M24, true, by kernel_rfl, by kernel_rfl, .inl tr24⟩
  · cases h; exact ⟨Tryz.f25, M25, true, by kernel_rfl, by kernel_rfl, .inl tr25⟩
  · cases h; exact ⟨Tryz.f26, M26, true, by kernel_rfl, by kernel_rfl, .inl tr26⟩
  · cases h; exact ⟨Tryz.f27, M27, true, by kernel_rfl, by kernel_rfl, .inl tr27⟩
  · cases h; exact ⟨Tryz.f28, M28, true, by kernel_rfl, by kernel_rfl, .inl tr28⟩
  · cases h; exact ⟨Tryz.f29, M29, true, by kernel_rfl, by kernel_rfl, .inl tr29⟩
  · cases h; exact ⟨Tryz.f30, M30, true, by kernel_rfl, by kernel_rfl, .inl tr30⟩
  · cases h; exact ⟨Tryz.f31, M31, true, by kernel_rfl, by kernel_rfl, .inr ⟨K31, tr31⟩⟩
  · cases h; exact ⟨Tryz.f32, M32, true, by kernel_rfl, by kernel_rfl, .inl tr32⟩
  · cases h; exact ⟨Tryz.f33, M33, false, by kernel_rfl, by kernel_rfl, .inl tr33⟩
  · cases h; exact ⟨Tryz.f34, M34, true, by kernel_rfl, by kernel_rfl, .inl tr34⟩
  · cases h; exact ⟨Tryz.f35, M35, true, by kernel_rfl, by kernel_rfl, .inl tr35⟩
  · cases h; exact ⟨Tryz.f36, M36, true, by kernel_rfl, by kernel_rfl, .inl tr36⟩
  · cases h; exact ⟨Tryz.f37, M37, true, by kernel_rfl, by kernel_rfl, .inl tr37⟩
  · cases h; exact ⟨Tryz.f38, M38, true, by kernel_rfl, by kernel_rfl, .inl tr38⟩
  · cases h; exact ⟨Tryz.f39, M39, true, by kernel_rfl, by kernel_rfl, .inl tr39⟩
  · cases h; exact ⟨Tryz.f40, M40, true, by kernel_rfl, by kernel_rfl, .inl tr40⟩
  · cases h; exact ⟨Tryz.f41, M41, true, by kernel_rfl, by kernel_rfl, .inl tr41⟩
  · cases h; exact ⟨Tryz.f42, M42, true, by kernel_rfl, by kernel_rfl, .inl tr42⟩
  · cases h; exact ⟨Tryz.f43, M43, true, by kernel_rfl, by kernel_rfl, .inl tr43⟩
  · cases h; exact ⟨Tryz.f44, M44, true, by kernel_rfl, by kernel_rfl, .inl tr44⟩
  · cases h; exact ⟨Tryz.f45, M45, true, by kernel_rfl, by kernel_rfl, .inl tr45⟩
  · cases h; exact ⟨Tryz.f46, M46, true, by kernel_rfl, by kernel_rfl, .inl tr46⟩
  · cases h; exact ⟨Tryz.f47, M47, true, by kernel_rfl, by kernel_rfl, .inl tr47⟩
  · cases h; exact ⟨Tryz.f48, M48, true, by kernel_rfl, by kernel_rfl, .inl tr48⟩
  · cases h; exact ⟨Tryz.f49, M49, true, by kernel_rfl, by kernel_rfl, .inl tr49⟩
  · cases h; exact ⟨Tryz.f50, M50, true, by kernel_rfl, by kernel_rfl, .inl tr50⟩
  · cases h; exact ⟨Tryz.f51, M51, true, by kernel_rfl, by kernel_rfl, .inl tr51⟩
  · cases h; exact ⟨Tryz.f52, M52, true, by kernel_rfl, by kernel_rfl, .inl tr52⟩
  · cases h; exact ⟨Tryz.f53, M53, true, by kernel_rfl, by kernel_rfl, .inl tr53⟩
  · cases h; exact ⟨Tryz.f54, M54, true, by kernel_rfl, by kernel_rfl, .inl tr54⟩
  · cases h; exact ⟨Tryz.f55, M55, true, by kernel_rfl, by kernel_rfl, .inl tr55⟩
  · cases h; exact ⟨Tryz.f56, M56, true, by kernel_rfl, by kernel_rfl, .inl tr56⟩
  · cases h; exact ⟨Tryz.f57, M57, true, by kernel_rfl, by kernel_rfl, .inl tr57⟩
  · cases h; exact ⟨Tryz.f58, M58, true, by kernel_rfl, by kernel_rfl, .inl tr58⟩
  · cases h; exact ⟨Tryz.f59, M59, true, by kernel_rfl, by kernel_rfl, .inl tr59⟩
  · cases h; exact ⟨Tryz.f60, M60, true, by kernel_rfl, by kernel_rfl, .inl tr60⟩
  · cases h; exact ⟨Tryz.f61, M61, true, by kernel_rfl, by kernel_rfl, .inl tr61⟩
  · cases h; exact ⟨Tryz.f62, M62, true, by kernel_rfl, by kernel_rfl, .inl tr62⟩
  · cases h
theorem af1_ok {g : FuncId} {F : AFunc} (h : af1 g = some F) : AfOk g F := by
  unfold af1 at h
  split at h
  · cases h; exact ⟨Tryz.f63, M63, true, by kernel_rfl, by kernel_rfl, .inl tr63⟩
  · cases h; exact ⟨Tryz.f64, M64, true, by kernel_rfl, by kernel_rfl, .inl tr64⟩
  · cases h; exact ⟨Tryz.f65, M65, true, by kernel_rfl, by kernel_rfl, .inl tr65⟩
  · cases h; exact ⟨Tryz.f66, M66, true, by kernel_rfl, by kernel_rfl, .inl tr66⟩
  · cases h; exact ⟨Tryz.f67, M67, true, by kernel_rfl, by kernel_rfl, .inl tr67⟩
  · cases h; exact ⟨Tryz.f68, M68, true, by kernel_rfl, by kernel_rfl, .inl tr68⟩
  · cases h; exact ⟨Tryz.f69, M69, true, by kernel_rfl, by kernel_rfl, .inl tr69⟩
  · cases h; exact ⟨Tryz.f70, M70, true, by kernel_rfl, by kernel_rfl, .inl tr70⟩
  · cases h; exact ⟨Tryz.f71, M71, true, by kernel_rfl, by kernel_rfl, .inl tr71⟩
  · cases h; exact ⟨Tryz.f72, M72, true, by kernel_rfl, by kernel_rfl, .inl tr72⟩
  · cases h; exact ⟨Tryz.f73, M73, true, by kernel_rfl, by kernel_rfl, .inl tr73⟩
  · cases h; exact ⟨Tryz.f74, M74, true, by kernel_rfl, by kernel_rfl, .inl tr74⟩
  · cases h; exact ⟨Tryz.f75, M75, true, by kernel_rfl, by kernel_rfl, .inl tr75⟩
  · cases h; exact ⟨Tryz.f76, M76, true, by kernel_rfl, by kernel_rfl, .inl tr76⟩
  · cases h; exact ⟨Tryz.f77, M77, true, by kernel_rfl, by kernel_rfl, .inl tr77⟩
  · cases h; exact ⟨Tryz.f78, M78, true, by kernel_rfl, by kernel_rfl, .inl tr78⟩
  · cases h; exact ⟨Tryz.f79, M79, true, by kernel_rfl, by kernel_rfl, .inl tr79⟩
  · cases h; exact ⟨Tryz.f80, M80, true, by kernel_rfl, by kernel_rfl, .inl tr80⟩
  · cases h; exact ⟨Tryz.f81, M81, true, by kernel_rfl, by kernel_rfl, .inl tr81⟩
  · cases h; exact ⟨Tryz.f82, M82, true, by kernel_rfl, by kernel_rfl, .inl tr82⟩
  · cases h; exact ⟨Tryz.f83, M83, true, by kernel_rfl, by kernel_rfl, .inl tr83⟩
  · cases h; exact ⟨Tryz.f84, M84, true, by kernel_rfl, by kernel_rfl, .inl tr84⟩
  · cases h; exact ⟨Tryz.f85, M85, true, by kernel_rfl, by kernel_rfl, .inl tr85⟩
  · cases h; exact ⟨Tryz.f86, M86, true, by kernel_rfl, by kernel_rfl, .inl tr86⟩
  · cases h; exact ⟨Tryz.f87, M87, true, by kernel_rfl, by kernel_rfl, .inl tr87⟩
  · cases h; exact ⟨Tryz.f88, M88, true, by kernel_rfl, by kernel_rfl, .inl tr88⟩
  · cases h; exact ⟨Tryz.f89, M89, true, by kernel_rfl, by kernel_rfl, .inl tr89⟩
  · cases h; exact ⟨Tryz.f90, M90, true, by kernel_rfl, by kernel_rfl, .inl tr90⟩
  · cases h; exact ⟨Tryz.f91, M91, true, by kernel_rfl, by kernel_rfl, .inl tr91⟩
  · cases h; exact ⟨Tryz.f92, M92, true, by kernel_rfl, by kernel_rfl, .inl tr92⟩
  · cases h; exact ⟨Tryz.f93, M93, true, by kernel_rfl, by kernel_rfl, .inl tr93⟩
  · cases h; exact ⟨Tryz.f94, M94, true, by kernel_rfl, by kernel_rfl, .inl tr94⟩
  · cases h; exact ⟨Tryz.f95, M95, true, by kernel_rfl, by kernel_rfl, .inl tr95⟩
  · cases h; exact ⟨Tryz.f96, M96, true, by kernel_rfl, by kernel_rfl, .inl tr96⟩
  · cases h; exact ⟨Tryz.f97, M97, true, by kernel_rfl, by kernel_rfl, .inl tr97⟩
  · cases h; exact ⟨Tryz.f98, M98, true, by kernel_rfl, by kernel_rfl, .inl tr98⟩
  · cases h; exact ⟨Tryz.f99, M99, true, by kernel_rfl, by kernel_rfl, .inl tr99⟩
  · cases h; exact ⟨Tryz.f100, M100, true, by kernel_rfl, by kernel_rfl, .inl tr100⟩
  · cases h; exact ⟨Tryz.f102, M102, true, by kernel_rfl, by kernel_rfl, .inl tr102⟩
  · cases h; exact ⟨Tryz.f103, M103, true, by kernel_rfl, by kernel_rfl, .inl tr103⟩
  · cases h; exact ⟨Tryz.f104, M104, true, by kernel_rfl, by kernel_rfl, .inl tr104⟩
  · cases h; exact ⟨Tryz.f105, M105, true, by kernel_rfl, by kernel_rfl, .inl tr105⟩
  · cases h; exact ⟨Tryz.f106, M106, true, by kernel_rfl, by kernel_rfl, .inl tr106⟩
  · cases h; exact ⟨Tryz.f107, M107, true, by kernel_rfl, by kernel_rfl, .inl tr107⟩
  · cases h; exact ⟨Tryz.f108, M108, false, by kernel_rfl, by kernel_rfl, .inl tr108⟩
  · cases h; exact ⟨Tryz.f109, M109, true, by kernel_rfl, by kernel_rfl, .inl tr109⟩
  · cases h; exact ⟨Tryz.f110, M110, true, by kernel_rfl, by kernel_rfl, .inl tr110⟩
  · cases h; exact ⟨Tryz.f111, M111, true, by kernel_rfl, by kernel_rfl, .inl tr111⟩
  · cases h; exact ⟨Tryz.f112, M112, true, by kernel_rfl, by kernel_rfl, .inl tr112⟩
  · cases h; exact ⟨Tryz.f113, M113, true, by kernel_rfl, by kernel_rfl, .inl tr113⟩
  · cases h; exact ⟨Tryz.f114, M114, true, by kernel_rfl, by kernel_rfl, .inl tr114⟩
  · cases h; exact ⟨Tryz.f115, M115, true, by kernel_rfl, by kernel_rfl, .inl tr115⟩
  · cases h; exact ⟨Tryz.f116, M116, true, by kernel_rfl, by kernel_rfl, .inl tr116⟩
  · cases h; exact ⟨Tryz.f117, M117, true, by kernel_rfl, by kernel_rfl, .inl tr117⟩
  · cases h; exact ⟨Tryz.f118, M118, true, by kernel_rfl, by kernel_rfl, .inl tr118⟩
  · cases h; exact ⟨Tryz.f119, M119, true, by kernel_rfl, by kernel_rfl, .inl tr119⟩
  · cases h; exact ⟨Tryz.f120, M120, true, by kernel_rfl, by kernel_rfl, .inl tr120⟩
  · cases h; exact ⟨Tryz.f121, M121, true, by kernel_rfl, by kernel_rfl, .inl tr121⟩
  · cases h; exact ⟨Tryz.f122, M122, true, by kernel_rfl, by kernel_rfl, .inl tr122⟩
  · cases h; exact ⟨Tryz.f123, M123, true, by kernel_rfl, by kernel_rfl, .inl tr123⟩
  · cases h
theorem af2_ok {g : FuncId} {F : AFunc} (h : af2 g = some F) : AfOk g F := by
  unfold af2 at h
  split at h
  · cases h; exact ⟨Tryz.f124, M124, true, by kernel_rfl, by kernel_rfl, .inl tr124⟩
  · cases h; exact ⟨Tryz.f125, M125, true, by kernel_rfl, by kernel_rfl, .inl tr125⟩
  · cases h; exact ⟨Tryz.f126, M126, true, by kernel_rfl, by kernel_rfl, .inl tr126⟩
  · cases h; exact ⟨Tryz.f127, M127, true, by kernel_rfl, by kernel_rfl, .inl tr127⟩
  · cases h; exact ⟨Tryz.f128, M128, true, by kernel_rfl, by kernel_rfl, .inl tr128⟩
  · cases h; exact ⟨Tryz.f129, M129, true, by kernel_rfl, by kernel_rfl, .inl tr129⟩
  · cases h; exact ⟨Tryz.f130, M130, true, by kernel_rfl, by kernel_rfl, .inl tr130⟩
  · cases h; exact ⟨Tryz.f131, M131, true, by kernel_rfl, by kernel_rfl, .inl tr131⟩
  · cases h; exact ⟨Tryz.f132, M132, true, by kernel_rfl, by kernel_rfl, .inl tr132⟩
  · cases h; exact ⟨Tryz.f133, M133, true, by kernel_rfl, by kernel_rfl, .inl tr133⟩
  · cases h; exact ⟨Tryz.f134, M134, true, by kernel_rfl, by kernel_rfl, .inl tr134⟩
  · cases h; exact ⟨Tryz.f135, M135, true, by kernel_rfl, by kernel_rfl, .inl tr135⟩
  · cases h; exact ⟨Tryz.f136, M136, true, by kernel_rfl, by kernel_rfl, .inl tr136⟩
  · cases h; exact ⟨Tryz.f137, M137, true, by kernel_rfl, by kernel_rfl, .inl tr137⟩
  · cases h; exact ⟨Tryz.f139, M139, true, by kernel_rfl, by kernel_rfl, .inl tr139⟩
  · cases h; exact ⟨Tryz.f140, M140, true, by kernel_rfl, by kernel_rfl, .inl tr140⟩
  · cases h; exact ⟨Tryz.f141, M141, true, by kernel_rfl, by kernel_rfl, .inl tr141⟩
  · cases h; exact ⟨Tryz.f142, M142, true, by kernel_rfl, by kernel_rfl, .inl tr142⟩
  · cases h; exact ⟨Tryz.f143, M143, true, by kernel_rfl, by kernel_rfl, .inl tr143⟩
  · cases h; exact ⟨Tryz.f144, M144, true, by kernel_rfl, by kernel_rfl, .inl tr144⟩
  · cases h; exact ⟨Tryz.f145, M145, true, by kernel_rfl, by kernel_rfl, .inl tr145⟩
  · cases h; exact ⟨Tryz.f146, M146, true, by kernel_rfl, by kernel_rfl, .inl tr146⟩
  · cases h; exact ⟨Tryz.f147, M147, true, by kernel_rfl, by kernel_rfl, .inl tr147⟩
  · cases h; exact ⟨Tryz.f148, M148, true, by kernel_rfl, by kernel_rfl, .inl tr148⟩
  · cases h; exact ⟨Tryz.f149, M149, true, by kernel_rfl, by kernel_rfl, .inl tr149⟩
  · cases h; exact ⟨Tryz.f150, M150, true, by kernel_rfl, by kernel_rfl, .inl tr150⟩
  · cases h; exact ⟨Tryz.f151, M151, true, by kernel_rfl, by kernel_rfl, .inl tr151⟩
  · cases h; exact ⟨Tryz.f152, M152, true, by kernel_rfl, by kernel_rfl, .inl tr152⟩
  · cases h; exact ⟨Tryz.f153, M153, true, by kernel_rfl, by kernel_rfl, .inl tr153⟩
  · cases h; exact ⟨Tryz.f154, M154, true, by kernel_rfl, by kernel_rfl, .inl tr154⟩
  · cases h; exact ⟨Tryz.f155, M155, true, by kernel_rfl, by kernel_rfl, .inl tr155⟩
  · cases h; exact ⟨Tryz.f156, M156, true, by kernel_rfl, by kernel_rfl, .inl tr156⟩
  · cases h; exact ⟨Tryz.f157, M157, true, by kernel_rfl, by kernel_rfl, .inl tr157⟩
  · cases h; exact ⟨Tryz.f158, M158, true, by kernel_rfl, by kernel_rfl, .inl tr158⟩
  · cases h; exact ⟨Tryz.f159, M159, true, by kernel_rfl, by kernel_rfl, .inl tr159⟩
  · cases h; exact ⟨Tryz.f160, M160, true, by kernel_rfl, by kernel_rfl, .inl tr160⟩
  · cases h; exact ⟨Tryz.f161, M161, true, by kernel_rfl, by kernel_rfl, .inl tr161⟩
  · cases h; exact ⟨Tryz.f162, M162, true, by kernel_rfl, by kernel_rfl, .inl tr162⟩
  · cases h; exact ⟨Tryz.f163, M163, true, by kernel_rfl, by kernel_rfl, .inl tr163⟩
  · cases h; exact ⟨Tryz.f164, M164, true, by kernel_rfl, by kernel_rfl, .inl tr164⟩
  · cases h; exact ⟨Tryz.f165, M165, true, by kernel_rfl, by kernel_rfl, .inl tr165⟩
  · cases h; exact ⟨Tryz.f166, M166, true, by kernel_rfl, by kernel_rfl, .inl tr166⟩
  · cases h; exact ⟨Tryz.f167, M167, true, by kernel_rfl, by kernel_rfl, .inl tr167⟩
  · cases h; exact ⟨Tryz.f168, M168, true, by kernel_rfl, by kernel_rfl, .inl tr168⟩
  · cases h; exact ⟨Tryz.f169, M169, true, by kernel_rfl, by kernel_rfl, .inl tr169⟩
  · cases h; exact ⟨Tryz.f170, M170, true, by kernel_rfl, by kernel_rfl, .inl tr170⟩
  · cases h; exact ⟨Tryz.f171, M171, true, by kernel_rfl, by kernel_rfl, .inl tr171⟩
  · cases h; exact ⟨Tryz.f172, M172, true, by kernel_rfl, by kernel_rfl, .inl tr172⟩
  · cases h; exact ⟨Tryz.f173, M173, true, by kernel_rfl, by kernel_rfl, .inl tr173⟩
  · cases h; exact ⟨Tryz.f174, M174, true, by kernel_rfl, by kernel_rfl, .inl tr174⟩
  · cases h; exact ⟨Tryz.f175, M175, true, by kernel_rfl, by kernel_rfl, .inl tr175⟩
  · cases h; exact ⟨Tryz.f180, M180, true, by kernel_rfl, by kernel_rfl, .inl tr180⟩
  · cases h; exact ⟨Tryz.f181, M181, true, by kernel_rfl, by kernel_rfl, .inl tr181⟩
  · cases h; exact ⟨Tryz.f182, M182, true, by kernel_rfl, by kernel_rfl, .inl tr182⟩
  · cases h; exact ⟨Tryz.f183, M183, true, by kernel_rfl, by kernel_rfl, .inl tr183⟩
  · cases h; exact ⟨Tryz.f184, M184, true, by kernel_rfl, by kernel_rfl, .inl tr184⟩
  · cases h; exact ⟨Tryz.f185, M185, true, by kernel_rfl, by kernel_rfl, .inl tr185⟩
  · cases h; exact ⟨Tryz.f186, M186, true, by kernel_rfl, by kernel_rfl, .inl tr186⟩
  · cases h; exact ⟨Tryz.f187, M187, true, by kernel_rfl, by kernel_rfl, .inl tr187⟩
  · cases h; exact ⟨Tryz.f188, M188, true, by kernel_rfl, by kernel_rfl, .inl tr188⟩
  · cases h
theorem af3_ok {g : FuncId} {F : AFunc} (h : af3 g = some F) : AfOk g F := by
  unfold af3 at h
  split at h
  · cases h; exact ⟨Tryz.f189, M189, true, by kernel_rfl, by kernel_rfl, .inl tr189⟩
  · cases h; exact ⟨Tryz.f190, M190, true, by kernel_rfl, by kernel_rfl, .inl tr190⟩
  · cases h; exact ⟨Tryz.f191, M191, true, by kernel_rfl, by kernel_rfl, .inl tr191⟩
  · cases h; exact ⟨Tryz.f192, M192, true, by kernel_rfl, by kernel_rfl, .inl tr192⟩
  · cases h; exact ⟨Tryz.f193, M193, true, by kernel_rfl, by kernel_rfl, .inl tr193⟩
  · cases h; exact ⟨Tryz.f194, M194, true, by kernel_rfl, by kernel_rfl, .inl tr194⟩
  · cases h; exact ⟨Tryz.f195, M195, true, by kernel_rfl, by kernel_rfl, .inl tr195⟩
  · cases h; exact ⟨Tryz.f196, M196, true, by kernel_rfl, by kernel_rfl, .inl tr196⟩
  · cases h; exact ⟨Tryz.f197, M197, true, by kernel_rfl, by kernel_rfl, .inl tr197⟩
  · cases h; exact ⟨Tryz.f198, M198, true, by kernel_rfl, by kernel_rfl, .inl tr198⟩
  · cases h; exact ⟨Tryz.f199, M199, true, by kernel_rfl, by kernel_rfl, .inl tr199⟩
  · cases h; exact ⟨Tryz.f200, M200, true, by kernel_rfl, by kernel_rfl, .inl tr200⟩
  · cases h; exact ⟨Tryz.f201, M201, true, by kernel_rfl, by kernel_rfl, .inl tr201⟩
  · cases h; exact ⟨Tryz.f205, M205, true, by kernel_rfl, by kernel_rfl, .inl tr205⟩
  · cases h; exact ⟨Tryz.f206, M206, true, by kernel_rfl, by kernel_rfl, .inl tr206⟩
  · cases h; exact ⟨Tryz.f207, M207, true, by kernel_rfl, by kernel_rfl, .inl tr207⟩
  · cases h; exact ⟨Tryz.f208, M208, true, by kernel_rfl, by kernel_rfl, .inl tr208⟩
  · cases h; exact ⟨Tryz.f209, M209, true, by kernel_rfl, by kernel_rfl, .inl tr209⟩
  · cases h; exact ⟨Tryz.f210, M210, true, by kernel_rfl, by kernel_rfl, .inl tr210⟩
  · cases h; exact ⟨Tryz.f211, M211, true, by kernel_rfl, by kernel_rfl, .inl tr211⟩
  · cases h; exact ⟨Tryz.f212, M212, true, by kernel_rfl, by kernel_rfl, .inl tr212⟩
  · cases h; exact ⟨Tryz.f213, M213, true, by kernel_rfl, by kernel_rfl, .inl tr213⟩
  · cases h; exact ⟨Tryz.f215, M215, true, by kernel_rfl, by kernel_rfl, .inl tr215⟩
  · cases h; exact ⟨Tryz.f216, M216, true, by kernel_rfl, by kernel_rfl, .inl tr216⟩
  · cases h; exact ⟨Tryz.f217, M217, true, by kernel_rfl, by kernel_rfl, .inl tr217⟩
  · cases h; exact ⟨Tryz.f218, M218, true, by kernel_rfl, by kernel_rfl, .inl tr218⟩
  · cases h; exact ⟨Tryz.f219, M219, true, by kernel_rfl, by kernel_rfl, .inl tr219⟩
  · cases h; exact ⟨Tryz.f220, M220, true, by kernel_rfl, by kernel_rfl, .inl tr220⟩
  · cases h; exact ⟨Tryz.f221, M221, true, by kernel_rfl, by kernel_rfl, .inl tr221⟩
  · cases h; exact ⟨Tryz.f222, M222, true, by kernel_rfl, by kernel_rfl, .inl tr222⟩
  · cases h; exact ⟨Tryz.f223, M223, true, by kernel_rfl, by kernel_rfl, .inl tr223⟩
  · cases h; exact ⟨Tryz.f224, M224, true, by kernel_rfl, by kernel_rfl, .inl tr224⟩
  · cases h; exact ⟨Tryz.f225, M225, true, by kernel_rfl, by kernel_rfl, .inl tr225⟩
  · cases h; exact ⟨Tryz.f226, M226, true, by kernel_rfl, by kernel_rfl, .inl tr226⟩
  · cases h; exact ⟨Tryz.f227, M227, true, by kernel_rfl, by kernel_rfl, .inl tr227⟩
  · cases h
theorem env_ok {G : Glob} (hx : ExtOk Tryz.prog G ext) : EnvOk Tryz.prog G env where
  af := fun g F h => by
    simp only [env] at h
    split at h
    · rename_i F0 h0
      simp only [Option.some.injEq] at h
      subst h
      exact af0_ok h0
    split at h
    · rename_i F1 h1
      simp only [Option.some.injEq] at h
      subst h
      exact af1_ok h1
    split at h
    · rename_i F2 h2
      simp only [Option.some.injEq] at h
      subst h
      exact af2_ok h2
    split at h
    · rename_i F3 h3
      simp only [Option.some.injEq] at h
      subst h
      exact af3_ok h3
    cases h
  ext := hx
end Go.Proofs.YtnklhhmfmopdnaaGreatDoor.Codes
