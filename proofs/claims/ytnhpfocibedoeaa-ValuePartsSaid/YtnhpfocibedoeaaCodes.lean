/-
  The deep codes of functions, each with the fact that it is that of the function's code. Written by wip/gen/deep.py.
  Conditions: none.
-/
import Derived.Test.YtnhpfocibedoeaaPC
import Derived.Test.YtnhpfocibedoeaaProg
import Derived.KernelRfl
set_option maxRecDepth 100000
namespace Go.Proofs.Ytnhpfocibedoeaa.Codes
open Go.Deepv
abbrev H3L10 : List Bool := [true, false, false, false, false, true, true, false, false, true, false, true, false, false, false, false, false, false, false, false, false, false, false, false, false, false, false, false, false, false, false, false, false, false, false, false, false, false, false, false, false, false, false, false, false, false, false, false, true, true, true]
abbrev X3L10 : List Bool := [false, false, false, false, false, true, false, false, true, true, false, true]
def M3 : Marks := { cut := fun _ => true, hd := fun | 10 => H3L10 | _ => [], ex := fun | 10 => X3L10 | _ => [], imm := fun | 5 => true | 6 => true | _ => false, alts := fun | 3 => [[0, 2, 1, 3, 4, 5, 6, 7]] | _ => [] }
def B3L10 : ACode :=
 .seq (.region [oP 51 (.bin .lss (tP 50) (tP 49))])
 (.seq (.cond (tP 51) (.skip) (.exit 0))
 (.seq (.block 1 (.seq (.region [oP 52 (.mv (tP 50)),
 oP 53 (.idxAddr 5 (tP 48) (tP 50)),
 oP 54 (.load (some 5) (tP 53)),
 oP 13 (.alloc [.ok (.int .i64 0), .ok (.int .i64 0), .error 1, .ok (.str ⟨#[]⟩), .error 5]),
 oP 12 (.mv (tP 52)),
 sP (.store 5 (tP 13) (tP 54))])
 (.seq (.region [oP 55 (.mv (tP 11)),
 oP 56 (.load (some 5) (tP 13)),
 oP 57 (.call (.fn 8) [(tP 56), (iP 1048576)]),
 oP 58 (.bin .add (tP 55) (tP 57)),
 oP 11 (.mv (tP 58))])
 (.seq (.draw [oP 59 (.addOff 0 (tP 5)),
 oP 60 (.load none (tP 59)),
 oP 61 (.bin .eql (tP 60) (iP 3)),
 oP 62 (.mv (tP 61)),
 gP 63 62 true (.mv (tP 0)),
 gP 64 62 true (.load (some 5) (tP 13)),
 gP 65 62 true (.addOff 2 (tP 6)),
 gP 66 62 true (.load none (tP 65)),
 gP 67 62 true (.mv (tP 12)),
 gP 68 62 true (.idxAddr 3 (tP 66) (tP 67)),
 gP 69 62 true (.load (some 3) (tP 68)),
 gP 70 62 true (.call (.fn 9) [(tP 63), (tP 64), (tP 69)]),
 gP 71 62 true (.un .not (tP 70)),
 oP 72 (.pick (tP 62) (tP 71) (bP false))] [])
 (.cond (tP 72) (.seq (.region [oP 8 (.mv (bP false))])
 (.ret)) (.skip))))))
 (.region [oP 73 (.bin .add (tP 50) (iP 1)),
 oP 50 (.mv (tP 73))])))
def B3 : ACode :=
 .seq (.region [oP 5 (.box true (tP 1)),
 oP 6 (.box true (tP 2)),
 oP 8 (.mv (bP false))])
 (.seq (.seq (.region [oP 14 (.mv (tP 0)),
 oP 15 (.call (.fn 4) [(tP 14)]),
 oP 16 (.un .not (tP 15)),
 oP 17 (.mv (tP 16)),
 gP 18 17 false (.load (some 5) (tP 5)),
 gP 19 17 false (.call (.fn 5) [(tP 18), (iP 3000)]),
 gP 20 17 false (.bin .lss (tP 19) (iP 0)),
 oP 21 (.pick (tP 17) (bP true) (tP 20)),
 oP 22 (.mv (tP 21)),
 gP 23 22 false (.load (some 3) (tP 6)),
 gP 24 22 false (.call (.fn 6) [(tP 23), (iP 1000)]),
 gP 25 22 false (.bin .lss (tP 24) (iP 0)),
 oP 26 (.pick (tP 22) (bP true) (tP 25))])
 (.cond (tP 26) (.seq (.region [oP 27 (.call (.fn 7) []),
 oP 8 (.mv (tP 27))])
 (.ret)) (.skip)))
 (.seq (.draw [oP 28 (.load (some 5) (tP 5)),
 oP 29 (.call (.fn 8) [(tP 28), (iP 1048576)]),
 oP 30 (.load (some 5) (tP 5)),
 oP 31 (.mv (tP 3)),
 oP 32 (.cvt .i64 (tP 31)),
 oP 33 (.call (.fn 8) [(tP 30), (tP 32)]),
 oP 9 (.mv (tP 29)),
 oP 10 (.mv (tP 33))] [[oP 28 (.load (some 5) (tP 5)), oP 30 (.load (some 5) (tP 5)), oP 29 (.call (.fn 8) [(tP 28), (iP 1048576)]), oP 31 (.mv (tP 3)), oP 32 (.cvt .i64 (tP 31)), oP 33 (.call (.fn 8) [(tP 30), (tP 32)]), oP 9 (.mv (tP 29)), oP 10 (.mv (tP 33))]])
 (.seq (.seq (.region [oP 34 (.mv (tP 10)),
 oP 35 (.mv (tP 9)),
 oP 36 (.mv (tP 3)),
 oP 37 (.cvt .i64 (tP 36)),
 oP 38 (.bin .add (tP 37) (iP 1)),
 oP 39 (.mnmx false [(tP 35), (tP 38)]),
 oP 40 (.bin .neq (tP 34) (tP 39))])
 (.cond (tP 40) (.seq (.region [oP 8 (.mv (bP false))])
 (.ret)) (.skip)))
 (.seq (.seq (.region [oP 41 (.mv (tP 0)),
 oP 42 (.load (some 5) (tP 5)),
 oP 43 (.load (some 3) (tP 6)),
 oP 44 (.call (.fn 9) [(tP 41), (tP 42), (tP 43)]),
 oP 45 (.un .not (tP 44))])
 (.cond (tP 45) (.seq (.region [oP 46 (.call (.fn 7) []),
 oP 8 (.mv (tP 46))])
 (.ret)) (.skip)))
 (.seq (.region [oP 11 (.mv (iP 0))])
 (.seq (.seq (.region [oP 47 (.addOff 4 (tP 5)),
 oP 48 (.load none (tP 47)),
 oP 49 (.len false (tP 48)),
 oP 50 (.mv (iP 0))])
 (.block 0 (.loop true H3L10 X3L10 B3L10)))
 (.seq (.region [oP 74 (.addOff 4 (tP 5)),
 oP 75 (.load none (tP 74)),
 oP 76 (.len false (tP 75)),
 oP 77 (.bin .eql (tP 76) (iP 0)),
 oP 78 (.mv (tP 77)),
 gP 79 78 false (.mv (tP 11)),
 gP 80 78 false (.bin .add (tP 79) (iP 2)),
 gP 81 78 false (.addOff 4 (tP 5)),
 gP 82 78 false (.load none (tP 81)),
 gP 83 78 false (.len false (tP 82)),
 gP 84 78 false (.bin .add (tP 80) (tP 83)),
 gP 85 78 false (.mv (tP 9)),
 gP 86 78 false (.bin .eql (tP 84) (tP 85)),
 oP 87 (.pick (tP 78) (bP true) (tP 86)),
 oP 88 (.mv (tP 87)),
 gP 89 88 true (.call (.fn 7) []),
 oP 90 (.pick (tP 88) (tP 89) (bP false)),
 oP 8 (.mv (tP 90))])
 (.ret))))))))
def A3 : AFunc := { ntmps := 91, results := [.tmp 8], body := B3, coe := true, keep := 0 }
theorem tr3 : trFunc Try.prog M3 true Try.f3 = some A3 := by kernel_rfl
def M4 : Marks := { cut := fun _ => true, hd := fun | _ => [], ex := fun | _ => [], imm := fun | _ => false }
def B4 : ACode :=
 .seq (.region [oP 2 (.mv (bP false))])
 (.seq (.region [oP 3 (.mv (tP 0)),
 oP 4 (.len false (tP 3)),
 oP 5 (.bin .leq (tP 4) (iP 60)),
 oP 6 (.mv (tP 5)),
 gP 7 6 true (.mv (tP 0)),
 gP 8 6 true (.build [.slice 4 [], .slice 15 [], .int .i64 0, .int .i64 0, .int .i64 0, .str ⟨#[]⟩, .slice 3 [], .int .i64 0, .int .i64 0, .int .i64 0, .int .i64 0, .int .i64 0, .slice 1 [], .str ⟨#[]⟩, .slice 8 [], .slice 14 [], .slice 16 []] [(0, 1, (tP 7))]),
 gP 9 6 true (.call (.fn 10) [(tP 8), (iP 3000)]),
 gP 10 6 true (.bin .geq (tP 9) (iP 0)),
 oP 11 (.pick (tP 6) (tP 10) (bP false)),
 oP 2 (.mv (tP 11))])
 (.ret))
def A4 : AFunc := { ntmps := 12, results := [.tmp 2], body := B4, coe := true, keep := 0 }
theorem tr4 : trFunc Try.prog M4 true Try.f4 = some A4 := by kernel_rfl
abbrev H5L3 : List Bool := [false, true, true, false, false, true]
abbrev X5L3 : List Bool := [false, true]
def M5 : Marks := { cut := fun _ => true, hd := fun | 3 => H5L3 | _ => [], ex := fun | 3 => X5L3 | _ => [], imm := fun | 2 => true | _ => false }
def B5L3 : ACode :=
 .seq (.seq (.region [oP 18 (.mv (tP 5)),
 oP 19 (.addOff 4 (tP 2)),
 oP 20 (.load none (tP 19)),
 oP 21 (.len false (tP 20)),
 oP 22 (.bin .lss (tP 18) (tP 21)),
 oP 23 (.mv (tP 22)),
 gP 24 23 true (.mv (tP 1)),
 gP 25 23 true (.bin .geq (tP 24) (iP 0)),
 oP 26 (.pick (tP 23) (tP 25) (bP false))])
 (.cond (tP 26) (.skip) (.exit 0)))
 (.seq (.block 1 (.region [oP 29 (.addOff 4 (tP 2)),
 oP 30 (.load none (tP 29)),
 oP 31 (.mv (tP 5)),
 oP 32 (.idxAddr 5 (tP 30) (tP 31)),
 oP 33 (.load (some 5) (tP 32)),
 oP 34 (.mv (tP 1)),
 oP 35 (.call (.fn 5) [(tP 33), (tP 34)]),
 oP 1 (.mv (tP 35))]))
 (.region [oP 27 (.mv (tP 5)),
 oP 28 (.bin .add (tP 27) (iP 1)),
 oP 5 (.mv (tP 28))]))
def B5 : ACode :=
 .seq (.region [oP 2 (.box true (tP 0)),
 oP 4 (.mv (iP 0))])
 (.seq (.region [oP 6 (.mv (tP 1)),
 oP 7 (.bin .sub (tP 6) (iP 1)),
 oP 8 (.addOff 2 (tP 2)),
 oP 9 (.load none (tP 8)),
 oP 10 (.len false (tP 9)),
 oP 11 (.mnmx false [(tP 10), (iP 1048576)]),
 oP 12 (.bin .sub (tP 7) (tP 11)),
 oP 13 (.addOff 3 (tP 2)),
 oP 14 (.load none (tP 13)),
 oP 15 (.len true (tP 14)),
 oP 16 (.mnmx false [(tP 15), (iP 1048576)]),
 oP 17 (.bin .sub (tP 12) (tP 16)),
 oP 1 (.mv (tP 17))])
 (.seq (.seq (.region [oP 5 (.mv (iP 0))])
 (.block 0 (.loop true H5L3 X5L3 B5L3)))
 (.seq (.region [oP 36 (.mv (tP 1)),
 oP 4 (.mv (tP 36))])
 (.ret))))
def A5 : AFunc := { ntmps := 37, results := [.tmp 4], body := B5, coe := true, keep := 0 }
theorem tr5 : trFunc Try.prog M5 true Try.f5 = some A5 := by kernel_rfl
abbrev H6L3 : List Bool := [false, true, true, false, false, true]
abbrev X6L3 : List Bool := [false, true]
def M6 : Marks := { cut := fun _ => true, hd := fun | 3 => H6L3 | _ => [], ex := fun | 3 => X6L3 | _ => [], imm := fun | 2 => true | _ => false }
def B6L3 : ACode :=
 .seq (.seq (.region [oP 13 (.mv (tP 5)),
 oP 14 (.addOff 2 (tP 2)),
 oP 15 (.load none (tP 14)),
 oP 16 (.len false (tP 15)),
 oP 17 (.bin .lss (tP 13) (tP 16)),
 oP 18 (.mv (tP 17)),
 gP 19 18 true (.mv (tP 1)),
 gP 20 18 true (.bin .geq (tP 19) (iP 0)),
 oP 21 (.pick (tP 18) (tP 20) (bP false))])
 (.cond (tP 21) (.skip) (.exit 0)))
 (.seq (.block 1 (.region [oP 24 (.addOff 2 (tP 2)),
 oP 25 (.load none (tP 24)),
 oP 26 (.mv (tP 5)),
 oP 27 (.idxAddr 3 (tP 25) (tP 26)),
 oP 28 (.load (some 3) (tP 27)),
 oP 29 (.mv (tP 1)),
 oP 30 (.call (.fn 6) [(tP 28), (tP 29)]),
 oP 1 (.mv (tP 30))]))
 (.region [oP 22 (.mv (tP 5)),
 oP 23 (.bin .add (tP 22) (iP 1)),
 oP 5 (.mv (tP 23))]))
def B6 : ACode :=
 .seq (.region [oP 2 (.box true (tP 0)),
 oP 4 (.mv (iP 0))])
 (.seq (.region [oP 6 (.mv (tP 1)),
 oP 7 (.bin .sub (tP 6) (iP 1)),
 oP 8 (.addOff 1 (tP 2)),
 oP 9 (.load none (tP 8)),
 oP 10 (.len true (tP 9)),
 oP 11 (.mnmx false [(tP 10), (iP 1048576)]),
 oP 12 (.bin .sub (tP 7) (tP 11)),
 oP 1 (.mv (tP 12))])
 (.seq (.seq (.region [oP 5 (.mv (iP 0))])
 (.block 0 (.loop true H6L3 X6L3 B6L3)))
 (.seq (.region [oP 31 (.mv (tP 1)),
 oP 4 (.mv (tP 31))])
 (.ret))))
def A6 : AFunc := { ntmps := 32, results := [.tmp 4], body := B6, coe := true, keep := 0 }
theorem tr6 : trFunc Try.prog M6 true Try.f6 = some A6 := by kernel_rfl
def M7 : Marks := { cut := fun _ => true, hd := fun | _ => [], ex := fun | _ => [], imm := fun | 22 => true | _ => false }
def B7 : ACode :=
 .seq (.region [oP 0 (.mv (bP false))])
 (.seq (.region [oP 6 (.call (.fn 11) [(.con (.str ⟨#[67, 111, 110, 115, 40, 49, 44, 32, 78, 105, 108, 41]⟩))]),
 oP 5 (.mv (tP 6)),
 oP 7 (.ext 0 (tP 5)),
 oP 8 (.ext 1 (tP 5)),
 oP 1 (.alloc [.ok (.int .i64 0), .ok (.int .i64 0), .error 1, .ok (.str ⟨#[]⟩), .error 5]),
 oP 2 (.alloc [.ok (.int .i64 0), .ok (.int .i64 0), .ok (.int .i64 0)]),
 sP (.store 5 (tP 1) (tP 7)),
 sP (.store 3 (tP 2) (tP 8))])
 (.seq (.region [oP 10 (.call (.fn 11) [(.con (.str ⟨#[67, 111, 110, 115, 40, 49, 44, 32, 120, 41]⟩))]),
 oP 9 (.mv (tP 10)),
 oP 11 (.ext 0 (tP 9)),
 oP 12 (.ext 1 (tP 9)),
 oP 3 (.alloc [.ok (.int .i64 0), .ok (.int .i64 0), .error 1, .ok (.str ⟨#[]⟩), .error 5]),
 oP 4 (.alloc [.ok (.int .i64 0), .ok (.int .i64 0), .ok (.int .i64 0)]),
 sP (.store 5 (tP 3) (tP 11)),
 sP (.store 3 (tP 4) (tP 12))])
 (.seq (.region [oP 13 (.addOff 0 (tP 2)),
 oP 14 (.load none (tP 13)),
 oP 15 (.bin .eql (tP 14) (iP 0)),
 oP 16 (.mv (tP 15)),
 gP 17 16 true (.load (some 5) (tP 1)),
 gP 18 16 true (.call (.fn 8) [(tP 17), (iP 100)]),
 gP 19 16 true (.bin .eql (tP 18) (iP 4)),
 oP 20 (.pick (tP 16) (tP 19) (bP false)),
 oP 21 (.mv (tP 20)),
 gP 22 21 true (.vmake true 5 1 1 [.int .u8 0] (iP 9) (iP 9)),
 gP 23 21 true (.build [.int .i64 0, .int .i64 0, .slice 1 [], .str ⟨#[]⟩, .slice 5 []] [(0, 1, (iP 1)), (2, 1, (tP 22))]),
 gP 24 21 true (.call (.fn 8) [(tP 23), (iP 100)]),
 gP 25 21 true (.bin .eql (tP 24) (iP 4)),
 oP 26 (.pick (tP 21) (tP 25) (bP false)),
 oP 27 (.mv (tP 26)),
 gP 28 27 true (.load (some 3) (tP 4)),
 gP 29 27 true (.build [.int .i64 0, .int .i64 0] [(0, 1, (iP 1)), (1, 1, (iP 9))]),
 gP 30 27 true (.build [.int .i64 0, .int .i64 0, .int .i64 0] [(0, 1, (iP 19)), (1, 2, (tP 29))]),
 gP 31 27 true (.eqs false [0, 0, 0] (tP 28) (tP 30)),
 oP 32 (.pick (tP 27) (tP 31) (bP false)),
 oP 0 (.mv (tP 32))])
 (.ret))))
def A7 : AFunc := { ntmps := 33, results := [.tmp 0], body := B7, coe := true, keep := 0 }
theorem tr7 : trFunc Try.prog M7 true Try.f7 = some A7 := by kernel_rfl
abbrev S8R0 : List Bool := [false, false, false, true, true, true]
def M8 : Marks := { cut := fun _ => true, hd := fun | _ => [], ex := fun | _ => [], imm := fun | 2 => true | _ => false, sn := fun | 5 => [false, false, false, true, true, true] | _ => [] }
def N8R0 : ACode :=
 .region [oP 6 (.mv (tP 11))]
def B8R0 : ACode :=
 .block 1 (.seq (.seq (.region [oP 12 (.mv (tP 6)),
 oP 13 (.load none (tP 3)),
 oP 14 (.load none (tP 5)),
 oP 15 (.bin .sub (tP 13) (tP 14)),
 oP 16 (.bin .gtr (tP 12) (tP 15))])
 (.cond (tP 16) (.seq (.region [oP 17 (.load none (tP 3)),
 oP 18 (.bin .add (tP 17) (iP 1)),
 sP (.store 1 (tP 4) (tP 18))])
 (.ret)) (.skip)))
 (.region [oP 19 (.load none (tP 5)),
 oP 20 (.mv (tP 6)),
 oP 21 (.bin .add (tP 19) (tP 20)),
 sP (.store 1 (tP 5) (tP 21))]))
def B8 : ACode :=
 .seq (.region [oP 2 (.box true (tP 0)),
 oP 3 (.box false (tP 1)),
 oP 4 (.alloc [.ok (.int .i64 0)])])
 (.seq (.region [oP 7 (.load none (tP 3)),
 oP 8 (.mnmx true [(tP 7), (iP 0)]),
 sP (.store 1 (tP 3) (tP 8))])
 (.seq (.region [oP 5 (.alloc [.ok (.int .i64 0)]),
 sP (.store 1 (tP 5) (iP 0))])
 (.seq (.seq (.region [oP 9 (.load (some 5) (tP 2)),
 oP 10 (.call (.fn 12) [(tP 9)])])
 (.block 0 (.rangeFn (tP 10) [11] [false, false, false, true, true, true] N8R0 B8R0)))
 (.seq (.region [oP 22 (.load none (tP 5)),
 sP (.store 1 (tP 4) (tP 22))])
 (.ret)))))
def A8 : AFunc := { ntmps := 23, results := [.cell none 4], body := B8, coe := true, keep := 0 }
theorem tr8 : trFunc Try.prog M8 true Try.f8 = some A8 := by kernel_rfl
abbrev H9L9 : List Bool := [true, false, false, false, false, false, false, true, true, true, false, false, false, false, false, false, false, false, false, false, false, false, false, false, false, false, false, false, false, false, false, false, false, false, false, false, false, false, false, false, false, false, false, false, false, false, false, false, false, false, false, false, false, false, false, false, false, false, false, false, false, false, false, false, true, true, true]
abbrev X9L9 : List Bool := [true, false, false, false, false, false, false, true]
abbrev H9L2 : List Bool := [true, false, false, false, false, false, false, true]
abbrev X9L2 : List Bool := [false, false, false, false, false, false, true]
def M9 : Marks := { cut := fun _ => true, hd := fun | 2 => H9L2 | 9 => H9L9 | _ => [], ex := fun | 2 => X9L2 | 9 => X9L9 | _ => [], imm := fun | 4 => true | 5 => true | 81 => true | 1000016 => true | 1000082 => true | _ => false }
def B9L9 : ACode :=
 .seq (.region [oP 67 (.bin .lss (tP 66) (tP 65))])
 (.seq (.cond (tP 67) (.skip) (.exit 2))
 (.seq (.block 3 (.seq (.region [oP 68 (.mv (tP 66)),
 oP 69 (.idxAddr 5 (tP 64) (tP 66)),
 oP 70 (.load (some 5) (tP 69)),
 oP 12 (.alloc [.ok (.int .i64 0), .ok (.int .i64 0), .error 1, .ok (.str ⟨#[]⟩), .error 5]),
 oP 11 (.mv (tP 68)),
 sP (.store 5 (tP 12) (tP 70))])
 (.draw [oP 71 (.mv (tP 7)),
 oP 72 (.load (some 5) (tP 12)),
 oP 73 (.mv (tP 9)),
 oP 74 (.mv (tP 11)),
 oP 75 (.idxAddr 3 (tP 73) (tP 74)),
 oP 76 (.load (some 3) (tP 75)),
 oP 77 (.addOff 8 (tP 8)),
 oP 78 (.load none (tP 77)),
 oP 79 (.bin .sub (tP 78) (iP 1)),
 oP 80 (.build [.int .i64 0, .int .i64 0, .slice 1 [], .str ⟨#[]⟩, .slice 5 [], .int .i64 0, .str ⟨#[]⟩, .slice 3 [], .int .i64 0] [(0, 5, (tP 72)), (5, 3, (tP 76)), (8, 1, (tP 79))]),
 oP 81 (.lit true 0 9 1 [.int .i64 0, .int .i64 0, .slice 1 [], .str ⟨#[]⟩, .slice 5 [], .int .i64 0, .str ⟨#[]⟩, .slice 3 [], .int .i64 0] [(0, (tP 80))]),
 oP 82 (.vapp 0 9 136 (tP 71) (tP 81)),
 oP 7 (.mv (tP 82))] [])))
 (.region [oP 83 (.bin .add (tP 66) (iP 1)),
 oP 66 (.mv (tP 83))])))
def B9L2 : ACode :=
 .seq (.seq (.region [oP 17 (.mv (tP 7)),
 oP 18 (.len false (tP 17)),
 oP 19 (.bin .gtr (tP 18) (iP 0))])
 (.cond (tP 19) (.skip) (.exit 0)))
 (.block 1 (.seq (.region [oP 20 (.mv (tP 7)),
 oP 21 (.mv (tP 7)),
 oP 22 (.len false (tP 21)),
 oP 23 (.bin .sub (tP 22) (iP 1)),
 oP 24 (.idxAddr 9 (tP 20) (tP 23)),
 oP 25 (.load (some 9) (tP 24)),
 oP 8 (.alloc [.ok (.int .i64 0), .ok (.int .i64 0), .error 1, .ok (.str ⟨#[]⟩), .error 5, .ok (.int .i64 0), .ok (.str ⟨#[]⟩), .error 3, .ok (.int .i64 0)]),
 sP (.store 9 (tP 8) (tP 25))])
 (.seq (.region [oP 26 (.mv (tP 7)),
 oP 27 (.mv (tP 7)),
 oP 28 (.len false (tP 27)),
 oP 29 (.bin .sub (tP 28) (iP 1)),
 oP 30 (.slc 9 (tP 26) none (some (tP 29))),
 oP 7 (.mv (tP 30))])
 (.seq (.region [oP 32 (.mv (tP 0)),
 oP 33 (.addOff 0 (tP 8)),
 oP 34 (.load (some 5) (tP 33)),
 oP 35 (.addOff 5 (tP 8)),
 oP 36 (.load (some 3) (tP 35)),
 oP 37 (.call (.fn 13) [(tP 32), (tP 34), (tP 36)]),
 oP 31 (.mv (tP 37)),
 oP 38 (.ext 0 (tP 31)),
 oP 39 (.ext 1 (tP 31)),
 oP 9 (.mv (tP 38)),
 oP 10 (.mv (tP 39))])
 (.seq (.seq (.region [oP 40 (.mv (tP 10)),
 oP 41 (.un .not (tP 40)),
 oP 42 (.mv (tP 41)),
 gP 43 42 false (.addOff 8 (tP 8)),
 gP 44 42 false (.load none (tP 43)),
 gP 45 42 false (.bin .lss (tP 44) (iP 1)),
 oP 46 (.pick (tP 42) (bP true) (tP 45)),
 oP 47 (.mv (tP 46)),
 gP 48 47 false (.addOff 0 (tP 8)),
 gP 49 47 false (.load (some 5) (tP 48)),
 gP 50 47 false (.call (.fn 14) [(tP 49)]),
 gP 51 47 false (.un .not (tP 50)),
 oP 52 (.pick (tP 47) (bP true) (tP 51)),
 oP 53 (.mv (tP 52)),
 gP 54 53 false (.mv (tP 9)),
 gP 55 53 false (.len false (tP 54)),
 gP 56 53 false (.addOff 0 (tP 8)),
 gP 57 53 false (.addOff 4 (tP 56)),
 gP 58 53 false (.load none (tP 57)),
 gP 59 53 false (.len false (tP 58)),
 gP 60 53 false (.bin .neq (tP 55) (tP 59)),
 oP 61 (.pick (tP 53) (bP true) (tP 60))])
 (.cond (tP 61) (.seq (.region [oP 6 (.mv (bP false))])
 (.ret)) (.skip)))
 (.seq (.region [oP 62 (.addOff 0 (tP 8)),
 oP 63 (.addOff 4 (tP 62)),
 oP 64 (.load none (tP 63)),
 oP 65 (.len false (tP 64)),
 oP 66 (.mv (iP 0))])
 (.block 2 (.loop true H9L9 X9L9 B9L9))))))))
def B9 : ACode :=
 .seq (.region [oP 4 (.box true (tP 1)),
 oP 5 (.box true (tP 2)),
 oP 6 (.mv (bP false))])
 (.seq (.region [oP 13 (.load (some 5) (tP 4)),
 oP 14 (.load (some 3) (tP 5)),
 oP 15 (.build [.int .i64 0, .int .i64 0, .slice 1 [], .str ⟨#[]⟩, .slice 5 [], .int .i64 0, .str ⟨#[]⟩, .slice 3 [], .int .i64 0] [(0, 5, (tP 13)), (5, 3, (tP 14)), (8, 1, (iP 1000))]),
 oP 16 (.vlit 0 9 1 [.int .i64 0, .int .i64 0, .slice 1 [], .str ⟨#[]⟩, .slice 5 [], .int .i64 0, .str ⟨#[]⟩, .slice 3 [], .int .i64 0] [(0, (tP 15))]),
 oP 7 (.mv (tP 16))])
 (.seq (.block 0 (.loop true H9L2 X9L2 B9L2))
 (.seq (.region [oP 6 (.mv (bP true))])
 (.ret))))
def A9 : AFunc := { ntmps := 84, results := [.tmp 6], body := B9, coe := true, keep := 0 }
theorem tr9 : trFunc Try.prog M9 true Try.f9 = some A9 := by kernel_rfl
abbrev H10L7 : List Bool := [false, true, true, false, false, true, true]
abbrev X10L7 : List Bool := [false, true, true, false, false, true]
abbrev H10L3 : List Bool := [false, true, true, false, false, true]
abbrev X10L3 : List Bool := [false, true, true]
abbrev H10L16 : List Bool := [false, true, true, false, false, false, false, true, true, true]
abbrev X10L16 : List Bool := [false, true, true, false, false, false, false, true]
abbrev H10L11 : List Bool := [false, true, true, false, false, false, false, true]
abbrev X10L11 : List Bool := [false, true, true]
abbrev H10L20 : List Bool := [false, true, true, false, false, false, false, false, false, false, true]
abbrev X10L20 : List Bool := [false, true]
def M10 : Marks := { cut := fun _ => true, hd := fun | 3 => H10L3 | 7 => H10L7 | 11 => H10L11 | 16 => H10L16 | 20 => H10L20 | _ => [], ex := fun | 3 => X10L3 | 7 => X10L7 | 11 => X10L11 | 16 => X10L16 | 20 => X10L20 | _ => [], imm := fun | 2 => true | _ => false, alts := fun | 1 => [[0, 2, 3, 4, 5, 1, 6, 7]] | 14 => [[0, 2, 3, 4, 5, 6, 7, 8, 9, 10, 11, 1, 12, 13]] | 23 => [[0, 2, 3, 4, 5, 6, 7, 8, 9, 10, 11, 12, 13, 14, 15, 16, 17, 18, 1, 19, 20]] | _ => [] }
def B10L7 : ACode :=
 .seq (.seq (.region [oP 41 (.mv (tP 6)),
 oP 42 (.addOff 0 (tP 2)),
 oP 43 (.load none (tP 42)),
 oP 44 (.mv (tP 5)),
 oP 45 (.idxAddr 4 (tP 43) (tP 44)),
 oP 46 (.addOff 3 (tP 45)),
 oP 47 (.load none (tP 46)),
 oP 48 (.len false (tP 47)),
 oP 49 (.bin .lss (tP 41) (tP 48)),
 oP 50 (.mv (tP 49)),
 gP 51 50 true (.mv (tP 1)),
 gP 52 50 true (.bin .geq (tP 51) (iP 0)),
 oP 53 (.pick (tP 50) (tP 52) (bP false))])
 (.cond (tP 53) (.skip) (.exit 2)))
 (.seq (.block 3 (.draw [oP 56 (.addOff 0 (tP 2)),
 oP 57 (.load none (tP 56)),
 oP 58 (.mv (tP 5)),
 oP 59 (.idxAddr 4 (tP 57) (tP 58)),
 oP 60 (.addOff 3 (tP 59)),
 oP 61 (.load none (tP 60)),
 oP 62 (.mv (tP 6)),
 oP 63 (.idxAddr 2 (tP 61) (tP 62)),
 oP 64 (.addOff 0 (tP 63)),
 oP 65 (.load none (tP 64)),
 oP 66 (.addOff 0 (tP 2)),
 oP 67 (.load none (tP 66)),
 oP 68 (.mv (tP 5)),
 oP 69 (.idxAddr 4 (tP 67) (tP 68)),
 oP 70 (.addOff 3 (tP 69)),
 oP 71 (.load none (tP 70)),
 oP 72 (.mv (tP 6)),
 oP 73 (.idxAddr 2 (tP 71) (tP 72)),
 oP 74 (.addOff 1 (tP 73)),
 oP 75 (.load none (tP 74)),
 oP 76 (.build [.int .i64 0, .str ⟨#[]⟩, .slice 3 []] [(1, 1, (tP 65)), (2, 1, (tP 75))]),
 oP 77 (.mv (tP 1)),
 oP 78 (.call (.fn 6) [(tP 76), (tP 77)]),
 oP 1 (.mv (tP 78))] []))
 (.region [oP 54 (.mv (tP 6)),
 oP 55 (.bin .add (tP 54) (iP 1)),
 oP 6 (.mv (tP 55))]))
def B10L3 : ACode :=
 .seq (.seq (.region [oP 19 (.mv (tP 5)),
 oP 20 (.addOff 0 (tP 2)),
 oP 21 (.load none (tP 20)),
 oP 22 (.len false (tP 21)),
 oP 23 (.bin .lss (tP 19) (tP 22)),
 oP 24 (.mv (tP 23)),
 gP 25 24 true (.mv (tP 1)),
 gP 26 24 true (.bin .geq (tP 25) (iP 0)),
 oP 27 (.pick (tP 24) (tP 26) (bP false))])
 (.cond (tP 27) (.skip) (.exit 0)))
 (.seq (.block 1 (.seq (.region [oP 30 (.mv (tP 1)),
 oP 31 (.bin .sub (tP 30) (iP 1)),
 oP 32 (.addOff 0 (tP 2)),
 oP 33 (.load none (tP 32)),
 oP 34 (.mv (tP 5)),
 oP 35 (.idxAddr 4 (tP 33) (tP 34)),
 oP 36 (.addOff 2 (tP 35)),
 oP 37 (.load none (tP 36)),
 oP 38 (.len true (tP 37)),
 oP 39 (.mnmx false [(tP 38), (iP 1048576)]),
 oP 40 (.bin .sub (tP 31) (tP 39)),
 oP 1 (.mv (tP 40))])
 (.seq (.region [oP 6 (.mv (iP 0))])
 (.block 2 (.loop true H10L7 X10L7 B10L7)))))
 (.region [oP 28 (.mv (tP 5)),
 oP 29 (.bin .add (tP 28) (iP 1)),
 oP 5 (.mv (tP 29))]))
def B10L16 : ACode :=
 .seq (.seq (.region [oP 108 (.mv (tP 9)),
 oP 109 (.addOff 3 (tP 8)),
 oP 110 (.load none (tP 109)),
 oP 111 (.len false (tP 110)),
 oP 112 (.bin .lss (tP 108) (tP 111)),
 oP 113 (.mv (tP 112)),
 gP 114 113 true (.mv (tP 1)),
 gP 115 113 true (.bin .geq (tP 114) (iP 0)),
 oP 116 (.pick (tP 113) (tP 115) (bP false))])
 (.cond (tP 116) (.skip) (.exit 6)))
 (.seq (.block 7 (.draw [oP 119 (.addOff 3 (tP 8)),
 oP 120 (.load none (tP 119)),
 oP 121 (.mv (tP 9)),
 oP 122 (.idxAddr 4 (tP 120) (tP 121)),
 oP 123 (.addOff 1 (tP 122)),
 oP 124 (.load (some 3) (tP 123)),
 oP 125 (.mv (tP 1)),
 oP 126 (.addOff 3 (tP 8)),
 oP 127 (.load none (tP 126)),
 oP 128 (.mv (tP 9)),
 oP 129 (.idxAddr 4 (tP 127) (tP 128)),
 oP 130 (.addOff 0 (tP 129)),
 oP 131 (.load none (tP 130)),
 oP 132 (.len true (tP 131)),
 oP 133 (.mnmx false [(tP 132), (iP 1048576)]),
 oP 134 (.bin .sub (tP 125) (tP 133)),
 oP 135 (.call (.fn 6) [(tP 124), (tP 134)]),
 oP 1 (.mv (tP 135))] []))
 (.region [oP 117 (.mv (tP 9)),
 oP 118 (.bin .add (tP 117) (iP 1)),
 oP 9 (.mv (tP 118))]))
def B10L11 : ACode :=
 .seq (.seq (.region [oP 79 (.mv (tP 7)),
 oP 80 (.addOff 1 (tP 2)),
 oP 81 (.load none (tP 80)),
 oP 82 (.len false (tP 81)),
 oP 83 (.bin .lss (tP 79) (tP 82)),
 oP 84 (.mv (tP 83)),
 gP 85 84 true (.mv (tP 1)),
 gP 86 84 true (.bin .geq (tP 85) (iP 0)),
 oP 87 (.pick (tP 84) (tP 86) (bP false))])
 (.cond (tP 87) (.skip) (.exit 4)))
 (.seq (.block 5 (.seq (.region [oP 90 (.addOff 1 (tP 2)),
 oP 91 (.load none (tP 90)),
 oP 92 (.mv (tP 7)),
 oP 93 (.idxAddr 15 (tP 91) (tP 92)),
 oP 94 (.load (some 15) (tP 93)),
 oP 8 (.alloc [.ok (.int .i64 0), .ok (.int .i64 0), .ok (.str ⟨#[]⟩), .error 4, .ok (.int .i64 0), .ok (.str ⟨#[]⟩), .error 3, .ok (.int .i64 0), .ok (.int .i64 0), .ok (.int .i64 0), .ok (.int .i64 0), .error 1, .ok (.str ⟨#[]⟩), .error 8, .error 14]),
 sP (.store 15 (tP 8) (tP 94))])
 (.seq (.draw [oP 95 (.addOff 7 (tP 8)),
 oP 96 (.load (some 8) (tP 95)),
 oP 97 (.addOff 4 (tP 8)),
 oP 98 (.load (some 3) (tP 97)),
 oP 99 (.mv (tP 1)),
 oP 100 (.bin .sub (tP 99) (iP 1)),
 oP 101 (.addOff 2 (tP 8)),
 oP 102 (.load none (tP 101)),
 oP 103 (.len true (tP 102)),
 oP 104 (.mnmx false [(tP 103), (iP 1048576)]),
 oP 105 (.bin .sub (tP 100) (tP 104)),
 oP 106 (.call (.fn 6) [(tP 98), (tP 105)]),
 oP 107 (.call (.fn 15) [(tP 96), (tP 106)]),
 oP 1 (.mv (tP 107))] [[oP 95 (.addOff 7 (tP 8)), oP 97 (.addOff 4 (tP 8)), oP 98 (.load (some 3) (tP 97)), oP 99 (.mv (tP 1)), oP 100 (.bin .sub (tP 99) (iP 1)), oP 101 (.addOff 2 (tP 8)), oP 102 (.load none (tP 101)), oP 103 (.len true (tP 102)), oP 104 (.mnmx false [(tP 103), (iP 1048576)]), oP 105 (.bin .sub (tP 100) (tP 104)), oP 106 (.call (.fn 6) [(tP 98), (tP 105)]), oP 96 (.load (some 8) (tP 95)), oP 107 (.call (.fn 15) [(tP 96), (tP 106)]), oP 1 (.mv (tP 107))]])
 (.seq (.region [oP 9 (.mv (iP 0))])
 (.block 6 (.loop true H10L16 X10L16 B10L16))))))
 (.region [oP 88 (.mv (tP 7)),
 oP 89 (.bin .add (tP 88) (iP 1)),
 oP 7 (.mv (tP 89))]))
def B10L20 : ACode :=
 .seq (.seq (.region [oP 136 (.mv (tP 10)),
 oP 137 (.addOff 16 (tP 2)),
 oP 138 (.load none (tP 137)),
 oP 139 (.len false (tP 138)),
 oP 140 (.bin .lss (tP 136) (tP 139)),
 oP 141 (.mv (tP 140)),
 gP 142 141 true (.mv (tP 1)),
 gP 143 141 true (.bin .geq (tP 142) (iP 0)),
 oP 144 (.pick (tP 141) (tP 143) (bP false))])
 (.cond (tP 144) (.skip) (.exit 8)))
 (.seq (.block 9 (.seq (.region [oP 147 (.addOff 16 (tP 2)),
 oP 148 (.load none (tP 147)),
 oP 149 (.mv (tP 10)),
 oP 150 (.idxAddr 16 (tP 148) (tP 149)),
 oP 151 (.load (some 16) (tP 150)),
 oP 11 (.alloc [.ok (.int .i64 0), .ok (.int .i64 0), .ok (.str ⟨#[]⟩), .ok (.str ⟨#[]⟩), .ok (.int .i64 0), .ok (.str ⟨#[]⟩), .error 3, .ok (.int .i64 0), .ok (.int .i64 0), .ok (.int .i64 0), .ok (.int .i64 0), .ok (.int .i64 0), .error 1, .ok (.str ⟨#[]⟩), .error 8, .error 14]),
 sP (.store 16 (tP 11) (tP 151))])
 (.draw [oP 152 (.addOff 8 (tP 11)),
 oP 153 (.load (some 8) (tP 152)),
 oP 154 (.addOff 3 (tP 11)),
 oP 155 (.addOff 1 (tP 154)),
 oP 156 (.load (some 3) (tP 155)),
 oP 157 (.mv (tP 1)),
 oP 158 (.bin .sub (tP 157) (iP 1)),
 oP 159 (.addOff 2 (tP 11)),
 oP 160 (.load none (tP 159)),
 oP 161 (.len true (tP 160)),
 oP 162 (.mnmx false [(tP 161), (iP 1048576)]),
 oP 163 (.bin .sub (tP 158) (tP 162)),
 oP 164 (.addOff 3 (tP 11)),
 oP 165 (.addOff 0 (tP 164)),
 oP 166 (.load none (tP 165)),
 oP 167 (.len true (tP 166)),
 oP 168 (.mnmx false [(tP 167), (iP 1048576)]),
 oP 169 (.bin .sub (tP 163) (tP 168)),
 oP 170 (.call (.fn 6) [(tP 156), (tP 169)]),
 oP 171 (.call (.fn 15) [(tP 153), (tP 170)]),
 oP 1 (.mv (tP 171))] [[oP 152 (.addOff 8 (tP 11)), oP 154 (.addOff 3 (tP 11)), oP 155 (.addOff 1 (tP 154)), oP 156 (.load (some 3) (tP 155)), oP 157 (.mv (tP 1)), oP 158 (.bin .sub (tP 157) (iP 1)), oP 159 (.addOff 2 (tP 11)), oP 160 (.load none (tP 159)), oP 161 (.len true (tP 160)), oP 162 (.mnmx false [(tP 161), (iP 1048576)]), oP 163 (.bin .sub (tP 158) (tP 162)), oP 164 (.addOff 3 (tP 11)), oP 165 (.addOff 0 (tP 164)), oP 166 (.load none (tP 165)), oP 167 (.len true (tP 166)), oP 168 (.mnmx false [(tP 167), (iP 1048576)]), oP 169 (.bin .sub (tP 163) (tP 168)), oP 170 (.call (.fn 6) [(tP 156), (tP 169)]), oP 153 (.load (some 8) (tP 152)), oP 171 (.call (.fn 15) [(tP 153), (tP 170)]), oP 1 (.mv (tP 171))]])))
 (.region [oP 145 (.mv (tP 10)),
 oP 146 (.bin .add (tP 145) (iP 1)),
 oP 10 (.mv (tP 146))]))
def B10 : ACode :=
 .seq (.region [oP 2 (.box true (tP 0)),
 oP 4 (.mv (iP 0))])
 (.seq (.draw [oP 12 (.addOff 8 (tP 2)),
 oP 13 (.load (some 8) (tP 12)),
 oP 14 (.addOff 4 (tP 2)),
 oP 15 (.load (some 3) (tP 14)),
 oP 16 (.mv (tP 1)),
 oP 17 (.call (.fn 6) [(tP 15), (tP 16)]),
 oP 18 (.call (.fn 15) [(tP 13), (tP 17)]),
 oP 1 (.mv (tP 18))] [[oP 12 (.addOff 8 (tP 2)), oP 14 (.addOff 4 (tP 2)), oP 15 (.load (some 3) (tP 14)), oP 16 (.mv (tP 1)), oP 17 (.call (.fn 6) [(tP 15), (tP 16)]), oP 13 (.load (some 8) (tP 12)), oP 18 (.call (.fn 15) [(tP 13), (tP 17)]), oP 1 (.mv (tP 18))]])
 (.seq (.seq (.region [oP 5 (.mv (iP 0))])
 (.block 0 (.loop true H10L3 X10L3 B10L3)))
 (.seq (.seq (.region [oP 7 (.mv (iP 0))])
 (.block 4 (.loop true H10L11 X10L11 B10L11)))
 (.seq (.seq (.region [oP 10 (.mv (iP 0))])
 (.block 8 (.loop true H10L20 X10L20 B10L20)))
 (.seq (.region [oP 172 (.mv (tP 1)),
 oP 4 (.mv (tP 172))])
 (.ret))))))
def A10 : AFunc := { ntmps := 173, results := [.tmp 4], body := B10, coe := true, keep := 0 }
theorem tr10 : trFunc Try.prog M10 true Try.f10 = some A10 := by kernel_rfl
def M11 : Marks := { cut := fun _ => true, hd := fun | _ => [], ex := fun | _ => [], imm := fun | _ => false, alts := fun | 3 => [[0, 2, 1, 3]] | _ => [] }
def B11 : ACode :=
 .seq (.region [oP 2 (.alloc [.ok (.int .i64 0), .ok (.int .i64 0), .error 1, .ok (.str ⟨#[]⟩), .error 5]),
 oP 3 (.alloc [.ok (.int .i64 0), .ok (.int .i64 0), .ok (.int .i64 0)])])
 (.seq (.region [oP 7 (.mv (tP 0)),
 oP 8 (.call (.fn 16) [(tP 7)]),
 oP 6 (.mv (tP 8)),
 oP 9 (.ext 0 (tP 6)),
 oP 10 (.ext 1 (tP 6)),
 oP 4 (.alloc [.ok (.int .i64 0), .ok (.int .i64 0), .ok (.int .i64 0), .ok (.int .i64 0), .error 1, .ok (.str ⟨#[]⟩), .error 8, .error 14]),
 oP 5 (.alloc [.ok (.int .i64 0), .ok (.int .i64 0), .ok (.int .i64 0)]),
 sP (.store 8 (tP 4) (tP 9)),
 sP (.store 3 (tP 5) (tP 10))])
 (.seq (.seq (.region [oP 11 (.addOff 0 (tP 5)),
 oP 12 (.load none (tP 11)),
 oP 13 (.bin .neq (tP 12) (iP 0))])
 (.cond (tP 13) (.seq (.draw [oP 14 (.build [.int .i64 0, .int .i64 0, .slice 1 [], .str ⟨#[]⟩, .slice 5 []] []),
 oP 15 (.load (some 3) (tP 5)),
 sP (.store 5 (tP 2) (tP 14)),
 sP (.store 3 (tP 3) (tP 15))] [[oP 14 (.build [.int .i64 0, .int .i64 0, .slice 1 [], .str ⟨#[]⟩, .slice 5 []] []), sP (.store 5 (tP 2) (tP 14)), oP 15 (.load (some 3) (tP 5)), sP (.store 3 (tP 3) (tP 15))]])
 (.ret)) (.skip)))
 (.seq (.region [oP 16 (.load (some 8) (tP 4)),
 oP 17 (.call (.fn 17) [(tP 16)]),
 oP 18 (.ext 0 (tP 17)),
 oP 19 (.ext 1 (tP 17)),
 sP (.store 5 (tP 2) (tP 18)),
 sP (.store 3 (tP 3) (tP 19))])
 (.ret))))
def A11 : AFunc := { ntmps := 20, results := [.cell (some 5) 2, .cell (some 3) 3], body := B11, coe := true, keep := 0 }
theorem tr11 : trFunc Try.prog M11 true Try.f11 = some A11 := by kernel_rfl
def M12 : Marks := { cut := fun _ => true, hd := fun | _ => [], ex := fun | _ => [], imm := fun | 1 => true | _ => false }
def B12 : ACode :=
 .seq (.region [oP 1 (.box true (tP 0)),
 oP 2 (.mv (.con (.nilf)))])
 (.seq (.region [oP 3 (.mkf (.func 18) [] [(tP 1)]),
 oP 2 (.mv (tP 3))])
 (.ret))
def A12 : AFunc := { ntmps := 4, results := [.tmp 2], body := B12, coe := true, keep := 0 }
theorem tr12 : trFunc Try.prog M12 true Try.f12 = some A12 := by kernel_rfl
def M13 : Marks := { cut := fun _ => true, hd := fun | _ => [], ex := fun | _ => [], imm := fun | 4 => true | 5 => true | 6 => true | _ => false }
def B13 : ACode :=
 .seq (.region [oP 4 (.box true (tP 1)),
 oP 5 (.box true (tP 2)),
 oP 6 (.mv (.con (.slice 3 []))),
 oP 7 (.mv (bP false))])
 (.seq (.block 0 (.seq (.region [oP 11 (.addOff 0 (tP 4)),
 oP 12 (.load none (tP 11)),
 oP 13 (.bin .eql (tP 12) (iP 0)),
 oP 14 (.mv (tP 13)),
 gP 15 14 true (.addOff 0 (tP 5)),
 gP 16 14 true (.load none (tP 15)),
 gP 17 14 true (.bin .eql (tP 16) (iP 0)),
 oP 18 (.pick (tP 14) (tP 17) (bP false)),
 oP 10 (.mv (tP 18))])
 (.cond (tP 10) (.seq (.draw [oP 19 (.addOff 1 (tP 4)),
 oP 20 (.load none (tP 19)),
 oP 21 (.bin .geq (tP 20) (iP (-4611686018427387904))),
 oP 22 (.mv (tP 21)),
 gP 23 22 true (.addOff 1 (tP 4)),
 gP 24 22 true (.load none (tP 23)),
 gP 25 22 true (.bin .lss (tP 24) (iP 4611686018427387904)),
 oP 26 (.pick (tP 22) (tP 25) (bP false)),
 oP 6 (.mv (.con (.slice 3 []))),
 oP 7 (.mv (tP 26))] [])
 (.ret)) (.seq (.region [oP 28 (.addOff 0 (tP 4)),
 oP 29 (.load none (tP 28)),
 oP 30 (.bin .eql (tP 29) (iP 1)),
 oP 31 (.mv (tP 30)),
 gP 32 31 true (.addOff 0 (tP 5)),
 gP 33 31 true (.load none (tP 32)),
 gP 34 31 true (.bin .eql (tP 33) (iP 1)),
 oP 35 (.pick (tP 31) (tP 34) (bP false)),
 oP 27 (.mv (tP 35))])
 (.cond (tP 27) (.seq (.draw [oP 36 (.addOff 2 (tP 4)),
 oP 37 (.load none (tP 36)),
 oP 38 (.len false (tP 37)),
 oP 39 (.bin .leq (tP 38) (iP 64)),
 oP 6 (.mv (.con (.slice 3 []))),
 oP 7 (.mv (tP 39))] [])
 (.ret)) (.seq (.region [oP 41 (.addOff 0 (tP 4)),
 oP 42 (.load none (tP 41)),
 oP 43 (.bin .eql (tP 42) (iP 3)),
 oP 44 (.mv (tP 43)),
 gP 45 44 true (.addOff 0 (tP 5)),
 gP 46 44 true (.load none (tP 45)),
 gP 47 44 true (.bin .eql (tP 46) (iP 3)),
 oP 48 (.pick (tP 44) (tP 47) (bP false)),
 oP 40 (.mv (tP 48))])
 (.cond (tP 40) (.seq (.region [oP 49 (.addOff 2 (tP 5)),
 oP 50 (.load none (tP 49)),
 oP 6 (.mv (tP 50)),
 oP 7 (.mv (bP true))])
 (.ret)) (.seq (.region [oP 52 (.addOff 0 (tP 4)),
 oP 53 (.load none (tP 52)),
 oP 54 (.bin .eql (tP 53) (iP 2)),
 oP 55 (.mv (tP 54)),
 gP 56 55 true (.addOff 0 (tP 5)),
 gP 57 55 true (.load none (tP 56)),
 gP 58 55 true (.bin .eql (tP 57) (iP 2)),
 oP 59 (.pick (tP 55) (tP 58) (bP false)),
 oP 51 (.mv (tP 59))])
 (.cond (tP 51) (.seq (.region [oP 60 (.mv (tP 0)),
 oP 61 (.addOff 1 (tP 5)),
 oP 62 (.load none (tP 61)),
 oP 63 (.call (.fn 20) [(tP 60), (tP 62)]),
 oP 8 (.mv (tP 63))])
 (.seq (.seq (.region [oP 64 (.mv (tP 8)),
 oP 65 (.bin .lss (tP 64) (iP 0))])
 (.cond (tP 65) (.seq (.region [oP 6 (.mv (.con (.slice 3 []))),
 oP 7 (.mv (bP false))])
 (.ret)) (.skip)))
 (.seq (.region [oP 66 (.mv (tP 0)),
 oP 67 (.mv (tP 8)),
 oP 68 (.idxAddr 4 (tP 66) (tP 67)),
 oP 69 (.addOff 3 (tP 68)),
 oP 70 (.load none (tP 69)),
 oP 71 (.mkf (.func 22) [] [(tP 4)]),
 oP 72 (.call (.fn 21) [(tP 70), (tP 71)]),
 oP 9 (.mv (tP 72))])
 (.seq (.seq (.region [oP 73 (.mv (tP 9)),
 oP 74 (.bin .lss (tP 73) (iP 0))])
 (.cond (tP 74) (.seq (.region [oP 6 (.mv (.con (.slice 3 []))),
 oP 7 (.mv (bP false))])
 (.ret)) (.skip)))
 (.seq (.region [oP 75 (.mv (tP 0)),
 oP 76 (.mv (tP 8)),
 oP 77 (.idxAddr 4 (tP 75) (tP 76)),
 oP 78 (.addOff 3 (tP 77)),
 oP 79 (.load none (tP 78)),
 oP 80 (.mv (tP 9)),
 oP 81 (.idxAddr 2 (tP 79) (tP 80)),
 oP 82 (.addOff 1 (tP 81)),
 oP 83 (.load none (tP 82)),
 oP 6 (.mv (tP 83)),
 oP 7 (.mv (bP true))])
 (.ret)))))) (.skip))))))))))
 (.seq (.region [oP 6 (.mv (.con (.slice 3 []))),
 oP 7 (.mv (bP false))])
 (.ret)))
def A13 : AFunc := { ntmps := 84, results := [.tmp 6, .tmp 7], body := B13, coe := true, keep := 0 }
theorem tr13 : trFunc Try.prog M13 true Try.f13 = some A13 := by kernel_rfl
def M14 : Marks := { cut := fun _ => true, hd := fun | _ => [], ex := fun | _ => [], imm := fun | 1 => true | _ => false }
def B14 : ACode :=
 .seq (.region [oP 1 (.box true (tP 0)),
 oP 2 (.mv (bP false))])
 (.seq (.region [oP 3 (.addOff 0 (tP 1)),
 oP 4 (.load none (tP 3)),
 oP 5 (.bin .eql (tP 4) (iP 0)),
 oP 6 (.mv (tP 5)),
 gP 7 6 false (.addOff 1 (tP 1)),
 gP 8 6 false (.load none (tP 7)),
 gP 9 6 false (.bin .eql (tP 8) (iP 0)),
 oP 10 (.pick (tP 6) (bP true) (tP 9)),
 oP 11 (.mv (tP 10)),
 gP 12 11 true (.addOff 0 (tP 1)),
 gP 13 11 true (.load none (tP 12)),
 gP 14 11 true (.bin .eql (tP 13) (iP 1)),
 gP 15 11 true (.mv (tP 14)),
 gP 16 15 false (.addOff 2 (tP 1)),
 gP 17 15 false (.load none (tP 16)),
 gP 18 15 false (.len false (tP 17)),
 gP 19 15 false (.bin .eql (tP 18) (iP 0)),
 gP 20 11 true (.pick (tP 15) (bP true) (tP 19)),
 oP 21 (.pick (tP 11) (tP 20) (bP false)),
 oP 22 (.mv (tP 21)),
 gP 23 22 true (.addOff 0 (tP 1)),
 gP 24 22 true (.load none (tP 23)),
 gP 25 22 true (.bin .eql (tP 24) (iP 2)),
 gP 26 22 true (.mv (tP 25)),
 gP 27 26 false (.addOff 3 (tP 1)),
 gP 28 26 false (.load none (tP 27)),
 gP 29 26 false (.bin .eql (tP 28) (.con (.str ⟨#[]⟩))),
 gP 30 22 true (.pick (tP 26) (bP true) (tP 29)),
 oP 31 (.pick (tP 22) (tP 30) (bP false)),
 oP 2 (.mv (tP 31))])
 (.ret))
def A14 : AFunc := { ntmps := 32, results := [.tmp 2], body := B14, coe := true, keep := 0 }
theorem tr14 : trFunc Try.prog M14 true Try.f14 = some A14 := by kernel_rfl
abbrev H15L3 : List Bool := [false, true, true, false, false, true]
abbrev X15L3 : List Bool := [false, true, true]
abbrev H15L7 : List Bool := [false, true, true, false, false, false, true]
abbrev X15L7 : List Bool := [false, true]
def M15 : Marks := { cut := fun _ => true, hd := fun | 3 => H15L3 | 7 => H15L7 | _ => [], ex := fun | 3 => X15L3 | 7 => X15L7 | _ => [], imm := fun | 2 => true | _ => false, alts := fun | 9 => [[0, 1, 2, 3, 4, 6, 7, 8, 9, 10, 11, 12, 13, 5, 14, 15], [0, 2, 6, 7, 8, 9, 10, 11, 12, 13, 1, 3, 4, 5, 14, 15]] | _ => [] }
def B15L3 : ACode :=
 .seq (.seq (.region [oP 19 (.mv (tP 5)),
 oP 20 (.addOff 6 (tP 2)),
 oP 21 (.load none (tP 20)),
 oP 22 (.len false (tP 21)),
 oP 23 (.bin .lss (tP 19) (tP 22)),
 oP 24 (.mv (tP 23)),
 gP 25 24 true (.mv (tP 1)),
 gP 26 24 true (.bin .geq (tP 25) (iP 0)),
 oP 27 (.pick (tP 24) (tP 26) (bP false))])
 (.cond (tP 27) (.skip) (.exit 0)))
 (.seq (.block 1 (.region [oP 30 (.addOff 6 (tP 2)),
 oP 31 (.load none (tP 30)),
 oP 32 (.mv (tP 5)),
 oP 33 (.idxAddr 8 (tP 31) (tP 32)),
 oP 34 (.load (some 8) (tP 33)),
 oP 35 (.mv (tP 1)),
 oP 36 (.call (.fn 15) [(tP 34), (tP 35)]),
 oP 1 (.mv (tP 36))]))
 (.region [oP 28 (.mv (tP 5)),
 oP 29 (.bin .add (tP 28) (iP 1)),
 oP 5 (.mv (tP 29))]))
def B15L7 : ACode :=
 .seq (.seq (.region [oP 37 (.mv (tP 6)),
 oP 38 (.addOff 7 (tP 2)),
 oP 39 (.load none (tP 38)),
 oP 40 (.len false (tP 39)),
 oP 41 (.bin .lss (tP 37) (tP 40)),
 oP 42 (.mv (tP 41)),
 gP 43 42 true (.mv (tP 1)),
 gP 44 42 true (.bin .geq (tP 43) (iP 0)),
 oP 45 (.pick (tP 42) (tP 44) (bP false))])
 (.cond (tP 45) (.skip) (.exit 2)))
 (.seq (.block 3 (.draw [oP 48 (.addOff 7 (tP 2)),
 oP 49 (.load none (tP 48)),
 oP 50 (.mv (tP 6)),
 oP 51 (.idxAddr 14 (tP 49) (tP 50)),
 oP 52 (.addOff 6 (tP 51)),
 oP 53 (.load (some 8) (tP 52)),
 oP 54 (.addOff 7 (tP 2)),
 oP 55 (.load none (tP 54)),
 oP 56 (.mv (tP 6)),
 oP 57 (.idxAddr 14 (tP 55) (tP 56)),
 oP 58 (.addOff 0 (tP 57)),
 oP 59 (.load (some 6) (tP 58)),
 oP 60 (.mv (tP 1)),
 oP 61 (.call (.fn 23) [(tP 59), (tP 60)]),
 oP 62 (.call (.fn 15) [(tP 53), (tP 61)]),
 oP 1 (.mv (tP 62))] [[oP 48 (.addOff 7 (tP 2)), oP 49 (.load none (tP 48)), oP 50 (.mv (tP 6)), oP 51 (.idxAddr 14 (tP 49) (tP 50)), oP 52 (.addOff 6 (tP 51)), oP 54 (.addOff 7 (tP 2)), oP 55 (.load none (tP 54)), oP 56 (.mv (tP 6)), oP 57 (.idxAddr 14 (tP 55) (tP 56)), oP 58 (.addOff 0 (tP 57)), oP 59 (.load (some 6) (tP 58)), oP 60 (.mv (tP 1)), oP 61 (.call (.fn 23) [(tP 59), (tP 60)]), oP 53 (.load (some 8) (tP 52)), oP 62 (.call (.fn 15) [(tP 53), (tP 61)]), oP 1 (.mv (tP 62))], [oP 48 (.addOff 7 (tP 2)), oP 50 (.mv (tP 6)), oP 54 (.addOff 7 (tP 2)), oP 55 (.load none (tP 54)), oP 56 (.mv (tP 6)), oP 57 (.idxAddr 14 (tP 55) (tP 56)), oP 58 (.addOff 0 (tP 57)), oP 59 (.load (some 6) (tP 58)), oP 60 (.mv (tP 1)), oP 61 (.call (.fn 23) [(tP 59), (tP 60)]), oP 49 (.load none (tP 48)), oP 51 (.idxAddr 14 (tP 49) (tP 50)), oP 52 (.addOff 6 (tP 51)), oP 53 (.load (some 8) (tP 52)), oP 62 (.call (.fn 15) [(tP 53), (tP 61)]), oP 1 (.mv (tP 62))]]))
 (.region [oP 46 (.mv (tP 6)),
 oP 47 (.bin .add (tP 46) (iP 1)),
 oP 6 (.mv (tP 47))]))
def B15 : ACode :=
 .seq (.region [oP 2 (.box true (tP 0)),
 oP 4 (.mv (iP 0))])
 (.seq (.region [oP 7 (.mv (tP 1)),
 oP 8 (.bin .sub (tP 7) (iP 1)),
 oP 9 (.addOff 4 (tP 2)),
 oP 10 (.load none (tP 9)),
 oP 11 (.len false (tP 10)),
 oP 12 (.mnmx false [(tP 11), (iP 1048576)]),
 oP 13 (.bin .sub (tP 8) (tP 12)),
 oP 14 (.addOff 5 (tP 2)),
 oP 15 (.load none (tP 14)),
 oP 16 (.len true (tP 15)),
 oP 17 (.mnmx false [(tP 16), (iP 1048576)]),
 oP 18 (.bin .sub (tP 13) (tP 17)),
 oP 1 (.mv (tP 18))])
 (.seq (.seq (.region [oP 5 (.mv (iP 0))])
 (.block 0 (.loop true H15L3 X15L3 B15L3)))
 (.seq (.seq (.region [oP 6 (.mv (iP 0))])
 (.block 2 (.loop true H15L7 X15L7 B15L7)))
 (.seq (.region [oP 63 (.mv (tP 1)),
 oP 4 (.mv (tP 63))])
 (.ret)))))
def A15 : AFunc := { ntmps := 64, results := [.tmp 4], body := B15, coe := true, keep := 0 }
theorem tr15 : trFunc Try.prog M15 true Try.f15 = some A15 := by kernel_rfl
def M16 : Marks := { cut := fun _ => true, hd := fun | _ => [], ex := fun | _ => [], imm := fun | _ => false, alts := fun | 4 => [[0, 2, 1, 3]] | 5 => [[0, 2, 1, 3]] | _ => [] }
def B16 : ACode :=
 .seq (.region [oP 2 (.alloc [.ok (.int .i64 0), .ok (.int .i64 0), .ok (.int .i64 0), .ok (.int .i64 0), .error 1, .ok (.str ⟨#[]⟩), .error 8, .error 14]),
 oP 3 (.alloc [.ok (.int .i64 0), .ok (.int .i64 0), .ok (.int .i64 0)])])
 (.seq (.region [oP 4 (.alloc [.ok (.int .i64 0), .ok (.int .i64 0), .ok (.int .i64 0), .ok (.int .i64 0), .error 1, .ok (.str ⟨#[]⟩), .error 8, .error 14])])
 (.seq (.region [oP 6 (.mv (tP 0)),
 oP 7 (.mkf (.func 25) [] [(tP 4)]),
 oP 8 (.call (.fn 24) [(tP 6), (tP 7)]),
 oP 5 (.alloc [.ok (.int .i64 0), .ok (.int .i64 0), .ok (.int .i64 0)]),
 sP (.store 3 (tP 5) (tP 8))])
 (.seq (.seq (.region [oP 9 (.addOff 0 (tP 5)),
 oP 10 (.load none (tP 9)),
 oP 11 (.bin .neq (tP 10) (iP 0))])
 (.cond (tP 11) (.seq (.draw [oP 12 (.build [.int .i64 0, .int .i64 0, .int .i64 0, .int .i64 0, .slice 1 [], .str ⟨#[]⟩, .slice 8 [], .slice 14 []] []),
 oP 13 (.load (some 3) (tP 5)),
 sP (.store 8 (tP 2) (tP 12)),
 sP (.store 3 (tP 3) (tP 13))] [[oP 12 (.build [.int .i64 0, .int .i64 0, .int .i64 0, .int .i64 0, .slice 1 [], .str ⟨#[]⟩, .slice 8 [], .slice 14 []] []), sP (.store 8 (tP 2) (tP 12)), oP 13 (.load (some 3) (tP 5)), sP (.store 3 (tP 3) (tP 13))]])
 (.ret)) (.skip)))
 (.seq (.draw [oP 14 (.load (some 8) (tP 4)),
 oP 15 (.load (some 3) (tP 5)),
 sP (.store 8 (tP 2) (tP 14)),
 sP (.store 3 (tP 3) (tP 15))] [[oP 14 (.load (some 8) (tP 4)), sP (.store 8 (tP 2) (tP 14)), oP 15 (.load (some 3) (tP 5)), sP (.store 3 (tP 3) (tP 15))]])
 (.ret)))))
def A16 : AFunc := { ntmps := 16, results := [.cell (some 8) 2, .cell (some 3) 3], body := B16, coe := true, keep := 0 }
theorem tr16 : trFunc Try.prog M16 true Try.f16 = some A16 := by kernel_rfl
abbrev H17L12 : List Bool := [false, false, true, true, true, false, false, false, false, false, false, false, false, false, false, false, false, false, false, false, false, false, false, false, false, false, false, false, false, false, false, false, false, false, true, true, true]
abbrev X17L12 : List Bool := [false, false, true, true, true]
def M17 : Marks := { cut := fun _ => true, hd := fun | 12 => H17L12 | _ => [], ex := fun | 12 => X17L12 | _ => [], imm := fun | 1 => true | 15 => true | 18 => true | 21 => true | 39 => true | 41 => true | 48 => true | 52 => true | 53 => true | 57 => true | 58 => true | 3000000 => true | _ => false, alts := fun | 3 => [[0, 1, 4, 2, 3, 5]] | 16 => [[0, 2, 1, 3]] | _ => [] }
def B17L12 : ACode :=
 .seq (.region [oP 37 (.bin .lss (tP 36) (tP 35))])
 (.seq (.cond (tP 37) (.skip) (.exit 1))
 (.seq (.block 2 (.seq (.region [oP 38 (.idxAddr 8 (tP 34) (tP 36)),
 oP 39 (.loadk (some 8) (tP 38)),
 oP 6 (.alloc [.ok (.int .i64 0), .ok (.int .i64 0), .ok (.int .i64 0), .ok (.int .i64 0), .error 1, .ok (.str ⟨#[]⟩), .error 8, .error 14]),
 sP (.storen 8 (tP 6) (tP 39))])
 (.seq (.region [oP 41 (.loadk (some 8) (tP 6)),
 oP 42 (.call (.fn 17) [(tP 41)]),
 oP 40 (.mv (tP 42)),
 oP 43 (.ext 0 (tP 40)),
 oP 44 (.ext 1 (tP 40)),
 oP 7 (.alloc [.ok (.int .i64 0), .ok (.int .i64 0), .error 1, .ok (.str ⟨#[]⟩), .error 5]),
 oP 8 (.alloc [.ok (.int .i64 0), .ok (.int .i64 0), .ok (.int .i64 0)]),
 sP (.store 5 (tP 7) (tP 43)),
 sP (.store 3 (tP 8) (tP 44))])
 (.seq (.seq (.region [oP 45 (.addOff 0 (tP 8)),
 oP 46 (.load none (tP 45)),
 oP 47 (.bin .neq (tP 46) (iP 0))])
 (.cond (tP 47) (.seq (.draw [oP 48 (.build [.int .i64 0, .int .i64 0, .nils 1, .str ⟨#[]⟩, .nils 5] []),
 oP 49 (.load (some 3) (tP 8)),
 sP (.storen 5 (tP 2) (tP 48)),
 sP (.store 3 (tP 3) (tP 49))] [[oP 48 (.build [.int .i64 0, .int .i64 0, .nils 1, .str ⟨#[]⟩, .nils 5] []), sP (.storen 5 (tP 2) (tP 48)), oP 49 (.load (some 3) (tP 8)), sP (.store 3 (tP 3) (tP 49))]])
 (.ret)) (.skip)))
 (.region [oP 50 (.addOff 4 (tP 4)),
 oP 51 (.load none (tP 50)),
 oP 52 (.loadk (some 5) (tP 7)),
 oP 53 (.lit true 0 5 1 [.int .i64 0, .int .i64 0, .slice 1 [], .str ⟨#[]⟩, .slice 5 []] [(0, (tP 52))]),
 oP 54 (.app false 0 5 80 (tP 51) (tP 53)),
 oP 55 (.addOff 4 (tP 4)),
 sP (.store 1 (tP 55) (tP 54))])))))
 (.region [oP 56 (.bin .add (tP 36) (iP 1)),
 oP 36 (.mv (tP 56))])))
def B17 : ACode :=
 .seq (.region [oP 1 (.box true (tP 0)),
 oP 2 (.alloc [.ok (.int .i64 0), .ok (.int .i64 0), .error 1, .ok (.str ⟨#[]⟩), .error 5]),
 oP 3 (.alloc [.ok (.int .i64 0), .ok (.int .i64 0), .ok (.int .i64 0)])])
 (.seq (.region [oP 9 (.addOff 3 (tP 1)),
 oP 10 (.load none (tP 9)),
 oP 11 (.addOff 4 (tP 1)),
 oP 12 (.load none (tP 11)),
 oP 13 (.addOff 5 (tP 1)),
 oP 14 (.load none (tP 13)),
 oP 15 (.build [.int .i64 0, .int .i64 0, .nils 1, .str ⟨#[]⟩, .nils 5] [(1, 1, (tP 10)), (2, 1, (tP 12)), (3, 1, (tP 14))]),
 oP 4 (.alloc [.ok (.int .i64 0), .ok (.int .i64 0), .error 1, .ok (.str ⟨#[]⟩), .error 5]),
 sP (.storen 5 (tP 4) (tP 15))])
 (.seq (.seq (.region [oP 16 (.addOff 0 (tP 1)),
 oP 17 (.load none (tP 16))])
 (.block 0 (.seq (.region [oP 23 (.bin .eql (tP 17) (iP 0)),
 oP 22 (.mv (tP 23))])
 (.cond (tP 22) (.skip) (.seq (.region [oP 25 (.bin .eql (tP 17) (iP 1)),
 oP 24 (.mv (tP 25))])
 (.cond (tP 24) (.region [oP 26 (.addOff 0 (tP 4)),
 sP (.store 1 (tP 26) (iP 1))]) (.seq (.region [oP 28 (.bin .eql (tP 17) (iP 3)),
 oP 27 (.mv (tP 28))])
 (.cond (tP 27) (.region [oP 29 (.addOff 0 (tP 4)),
 sP (.store 1 (tP 29) (iP 2))]) (.seq (.region [oP 31 (.bin .eql (tP 17) (iP 4)),
 oP 30 (.mv (tP 31))])
 (.cond (tP 30) (.region [oP 32 (.addOff 0 (tP 4)),
 sP (.store 1 (tP 32) (iP 3))]) (.seq (.draw [oP 18 (.build [.int .i64 0, .int .i64 0, .nils 1, .str ⟨#[]⟩, .nils 5] []),
 oP 19 (.addOff 1 (tP 1)),
 oP 20 (.load (some 2) (tP 19)),
 oP 21 (.build [.int .i64 0, .int .i64 0, .int .i64 0] [(0, 1, (iP 19)), (1, 2, (tP 20))]),
 sP (.storen 5 (tP 2) (tP 18)),
 sP (.storen 3 (tP 3) (tP 21))] [[oP 18 (.build [.int .i64 0, .int .i64 0, .nils 1, .str ⟨#[]⟩, .nils 5] []), oP 19 (.addOff 1 (tP 1)), sP (.storen 5 (tP 2) (tP 18)), oP 20 (.load (some 2) (tP 19)), oP 21 (.build [.int .i64 0, .int .i64 0, .int .i64 0] [(0, 1, (iP 19)), (1, 2, (tP 20))]), sP (.storen 3 (tP 3) (tP 21))]])
 (.ret))))))))))))
 (.seq (.seq (.region [oP 33 (.addOff 6 (tP 1)),
 oP 34 (.load none (tP 33)),
 oP 35 (.len false (tP 34)),
 oP 36 (.mv (iP 0))])
 (.block 1 (.loop true H17L12 X17L12 B17L12)))
 (.seq (.region [oP 57 (.loadk (some 5) (tP 4)),
 oP 58 (.build [.int .i64 0, .int .i64 0, .int .i64 0] []),
 sP (.storen 5 (tP 2) (tP 57)),
 sP (.storen 3 (tP 3) (tP 58))])
 (.ret)))))
def A17 : AFunc := { ntmps := 59, results := [.cellk (some 5) 2, .cellk (some 3) 3], body := B17, coe := true, keep := 0 }
theorem tr17 : trFunc Try.prog M17 true Try.f17 = some A17 := by kernel_rfl
def M18 : Marks := { cut := fun _ => true, hd := fun | _ => [], ex := fun | _ => [], imm := fun | _ => false }
def B18 : ACode :=
 .region [oP 3 (.load (some 5) (tP 1)),
 oP 4 (.mv (tP 0)),
 oP 5 (.call (.fn 19) [(tP 3), (tP 4)])]
def A18 : AFunc := { ntmps := 6, results := [], body := B18, coe := true, keep := 0 }
theorem tr18 : trFunc Try.prog M18 true Try.f18 = some A18 := by kernel_rfl
abbrev H19L6 : List Bool := [false, true, false, false, false, false, false, false, false, false, false, false, false, false, false, false, false, false, false, false, true, true, true]
abbrev X19L6 : List Bool := [false, false, false, false, true]
def M19 : Marks := { cut := fun _ => true, hd := fun | 6 => H19L6 | _ => [], ex := fun | 6 => X19L6 | _ => [], imm := fun | 2 => true | _ => false }
def B19L6 : ACode :=
 .seq (.region [oP 23 (.bin .lss (tP 22) (tP 21))])
 (.seq (.cond (tP 23) (.skip) (.exit 0))
 (.seq (.block 1 (.seq (.region [oP 24 (.idxAddr 5 (tP 20) (tP 22)),
 oP 25 (.load (some 5) (tP 24)),
 oP 8 (.alloc [.ok (.int .i64 0), .ok (.int .i64 0), .error 1, .ok (.str ⟨#[]⟩), .error 5]),
 sP (.store 5 (tP 8) (tP 25))])
 (.seq (.region [oP 26 (.load (some 5) (tP 8)),
 oP 27 (.mv (tP 1)),
 oP 28 (.call (.fn 19) [(tP 26), (tP 27)]),
 oP 29 (.un .not (tP 28))])
 (.cond (tP 29) (.seq (.region [oP 4 (.mv (bP false))])
 (.ret)) (.skip)))))
 (.region [oP 30 (.bin .add (tP 22) (iP 1)),
 oP 22 (.mv (tP 30))])))
def B19 : ACode :=
 .seq (.region [oP 2 (.box true (tP 0)),
 oP 4 (.mv (bP false))])
 (.seq (.region [oP 10 (.load (some 5) (tP 2)),
 oP 11 (.call (.fn 28) [(tP 10)]),
 oP 9 (.mv (tP 11)),
 oP 12 (.ext 0 (tP 9)),
 oP 13 (.ext 1 (tP 9)),
 oP 5 (.mv (tP 12)),
 oP 6 (.mv (tP 13))])
 (.seq (.seq (.region [oP 14 (.mv (tP 1)),
 oP 15 (.mv (tP 5)),
 oP 16 (.call (tP 14) [(tP 15)]),
 oP 17 (.un .not (tP 16))])
 (.cond (tP 17) (.seq (.region [oP 4 (.mv (bP false))])
 (.ret)) (.skip)))
 (.seq (.seq (.region [oP 18 (.mv (tP 6))])
 (.cond (tP 18) (.seq (.region [oP 19 (.addOff 4 (tP 2)),
 oP 20 (.load none (tP 19)),
 oP 21 (.len false (tP 20)),
 oP 22 (.mv (iP 0))])
 (.block 0 (.loop true H19L6 X19L6 B19L6))) (.skip)))
 (.seq (.region [oP 4 (.mv (bP true))])
 (.ret)))))
def A19 : AFunc := { ntmps := 31, results := [.tmp 4], body := B19, coe := true, keep := 0 }
theorem tr19 : trFunc Try.prog M19 true Try.f19 = some A19 := by kernel_rfl
def M20 : Marks := { cut := fun _ => true, hd := fun | _ => [], ex := fun | _ => [], imm := fun | 3 => true | _ => false }
def B20 : ACode :=
 .seq (.region [oP 3 (.box true (tP 1)),
 oP 4 (.mv (iP 0))])
 (.seq (.region [oP 5 (.mv (tP 0)),
 oP 6 (.mkf (.func 30) [] [(tP 3)]),
 oP 7 (.call (.fn 29) [(tP 5), (tP 6)]),
 oP 4 (.mv (tP 7))])
 (.ret))
def A20 : AFunc := { ntmps := 8, results := [.tmp 4], body := B20, coe := true, keep := 0 }
theorem tr20 : trFunc Try.prog M20 true Try.f20 = some A20 := by kernel_rfl
abbrev H21L2 : List Bool := [true, true, false, false, false, false, false, true, true]
abbrev X21L2 : List Bool := [false, false, false, false, true]
def M21 : Marks := { cut := fun _ => true, hd := fun | 2 => H21L2 | _ => [], ex := fun | 2 => X21L2 | _ => [], imm := fun | _ => false }
def B21L2 : ACode :=
 .seq (.region [oP 9 (.bin .lss (tP 8) (tP 7))])
 (.seq (.cond (tP 9) (.skip) (.exit 0))
 (.seq (.block 1 (.seq (.region [oP 10 (.mv (tP 8)),
 oP 5 (.mv (tP 10))])
 (.seq (.region [oP 11 (.mv (tP 1)),
 oP 12 (.mv (tP 0)),
 oP 13 (.mv (tP 5)),
 oP 14 (.idxAddr 2 (tP 12) (tP 13)),
 oP 15 (.load (some 2) (tP 14)),
 oP 16 (.call (tP 11) [(tP 15)])])
 (.cond (tP 16) (.seq (.region [oP 17 (.mv (tP 5)),
 oP 4 (.mv (tP 17))])
 (.ret)) (.skip)))))
 (.region [oP 18 (.bin .add (tP 8) (iP 1)),
 oP 8 (.mv (tP 18))])))
def B21 : ACode :=
 .seq (.region [oP 4 (.mv (iP 0))])
 (.seq (.seq (.region [oP 6 (.mv (tP 0)),
 oP 7 (.len false (tP 6)),
 oP 8 (.mv (iP 0))])
 (.block 0 (.loop true H21L2 X21L2 B21L2)))
 (.seq (.region [oP 4 (.mv (iP (-1)))])
 (.ret)))
def A21 : AFunc := { ntmps := 19, results := [.tmp 4], body := B21, coe := true, keep := 0 }
theorem tr21 : trFunc Try.prog M21 true Try.f21 = some A21 := by kernel_rfl
def M22 : Marks := { cut := fun _ => true, hd := fun | _ => [], ex := fun | _ => [], imm := fun | 2 => true | _ => false }
def B22 : ACode :=
 .seq (.region [oP 2 (.box true (tP 0)),
 oP 3 (.mv (bP false))])
 (.seq (.region [oP 4 (.addOff 0 (tP 2)),
 oP 5 (.load none (tP 4)),
 oP 6 (.addOff 3 (tP 1)),
 oP 7 (.load none (tP 6)),
 oP 8 (.bin .eql (tP 5) (tP 7)),
 oP 3 (.mv (tP 8))])
 (.ret))
def A22 : AFunc := { ntmps := 9, results := [.tmp 3], body := B22, coe := true, keep := 0 }
theorem tr22 : trFunc Try.prog M22 true Try.f22 = some A22 := by kernel_rfl
abbrev H23L3 : List Bool := [false, true, true, false, false, true]
abbrev X23L3 : List Bool := [false, true]
def M23 : Marks := { cut := fun _ => true, hd := fun | 3 => H23L3 | _ => [], ex := fun | 3 => X23L3 | _ => [], imm := fun | 2 => true | _ => false }
def B23L3 : ACode :=
 .seq (.seq (.region [oP 13 (.mv (tP 5)),
 oP 14 (.addOff 5 (tP 2)),
 oP 15 (.load none (tP 14)),
 oP 16 (.len false (tP 15)),
 oP 17 (.bin .lss (tP 13) (tP 16)),
 oP 18 (.mv (tP 17)),
 gP 19 18 true (.mv (tP 1)),
 gP 20 18 true (.bin .geq (tP 19) (iP 0)),
 oP 21 (.pick (tP 18) (tP 20) (bP false))])
 (.cond (tP 21) (.skip) (.exit 0)))
 (.seq (.block 1 (.region [oP 24 (.addOff 5 (tP 2)),
 oP 25 (.load none (tP 24)),
 oP 26 (.mv (tP 5)),
 oP 27 (.idxAddr 6 (tP 25) (tP 26)),
 oP 28 (.load (some 6) (tP 27)),
 oP 29 (.mv (tP 1)),
 oP 30 (.call (.fn 23) [(tP 28), (tP 29)]),
 oP 1 (.mv (tP 30))]))
 (.region [oP 22 (.mv (tP 5)),
 oP 23 (.bin .add (tP 22) (iP 1)),
 oP 5 (.mv (tP 23))]))
def B23 : ACode :=
 .seq (.region [oP 2 (.box true (tP 0)),
 oP 4 (.mv (iP 0))])
 (.seq (.region [oP 6 (.mv (tP 1)),
 oP 7 (.bin .sub (tP 6) (iP 1)),
 oP 8 (.addOff 3 (tP 2)),
 oP 9 (.load none (tP 8)),
 oP 10 (.len true (tP 9)),
 oP 11 (.mnmx false [(tP 10), (iP 1048576)]),
 oP 12 (.bin .sub (tP 7) (tP 11)),
 oP 1 (.mv (tP 12))])
 (.seq (.seq (.region [oP 5 (.mv (iP 0))])
 (.block 0 (.loop true H23L3 X23L3 B23L3)))
 (.seq (.region [oP 31 (.mv (tP 1)),
 oP 4 (.mv (tP 31))])
 (.ret))))
def A23 : AFunc := { ntmps := 32, results := [.tmp 4], body := B23, coe := true, keep := 0 }
theorem tr23 : trFunc Try.prog M23 true Try.f23 = some A23 := by kernel_rfl
def M24 : Marks := { cut := fun _ => true, hd := fun | _ => [], ex := fun | _ => [], imm := fun | _ => false }
def B24 : ACode :=
 .seq (.region [oP 16 (.mv (tP 1)),
 oP 17 (.mv (tP 5)),
 oP 18 (.build [.slice 6 []] [(0, 1, (tP 17))]),
 oP 19 (.box false (tP 18)),
 oP 20 (.call (tP 16) [(tP 19)])])
 (.seq (.region [oP 21 (.build [.int .i64 0, .int .i64 0, .int .i64 0] []),
 sP (.store 3 (tP 4) (tP 21))])
 (.ret))
def K24 : Marks := { cut := fun _ => true, hd := fun | _ => [], ex := fun | _ => [], imm := fun | _ => false }
def C24 : ACode :=
 .seq (.region [⟨some 5, .mv (.tmp 1), none⟩,
 ⟨some 6, .isnil 1 true (.tmp 5), none⟩])
 (.cond (.tmp 6) (.seq (.region [⟨some 8, .mv (.tmp 1), none⟩,
 ⟨some 9, .tass 105 true (.agg [.int .i64 0, .int .i64 0, .int .i64 0]) (.tmp 8), none⟩,
 ⟨some 7, .mv (.tmp 9), none⟩,
 ⟨some 10, .ext 0 (.tmp 7), none⟩,
 ⟨some 11, .ext 1 (.tmp 7), none⟩,
 ⟨some 2, .alloc [.ok (.int .i64 0), .ok (.int .i64 0), .ok (.int .i64 0)], none⟩,
 ⟨none, .store 3 (.tmp 2) (.tmp 10), none⟩,
 ⟨some 3, .mv (.tmp 11), none⟩])
 (.seq (.seq (.region [⟨some 12, .mv (.tmp 3), none⟩,
 ⟨some 13, .un .not (.tmp 12), none⟩])
 (.cond (.tmp 13) (.region [⟨some 14, .mv (.tmp 1), none⟩,
 ⟨none, .panic (.tmp 14), none⟩]) (.skip)))
 (.region [⟨some 15, .addOff 0 (.tmp 2), none⟩,
 ⟨some 16, .load (some 3) (.tmp 15), none⟩,
 ⟨none, .store 3 (.tmp 0) (.tmp 16), none⟩]))) (.skip))
def P24 : List ACode :=
 [.region [⟨some 4, .alloc [.ok (.int .i64 0), .ok (.int .i64 0), .ok (.int .i64 0)], none⟩],
 .region [⟨some 7, .mv (.tmp 0), none⟩,
 ⟨some 8, .call (.fn 31) [(.tmp 7)], none⟩,
 ⟨some 6, .mv (.tmp 8), none⟩,
 ⟨some 9, .ext 0 (.tmp 6), none⟩,
 ⟨some 10, .ext 1 (.tmp 6), none⟩,
 ⟨some 5, .mv (.tmp 9), none⟩,
 ⟨none, .store 3 (.tmp 4) (.tmp 10), none⟩],
 .seq (.region [⟨some 11, .addOff 0 (.tmp 4), none⟩,
 ⟨some 12, .load none (.tmp 11), none⟩,
 ⟨some 13, .bin .neq (.tmp 12) (.con (.int .i64 0)), none⟩])
 (.cond (.tmp 13) (.seq (.region [⟨some 14, .load (some 3) (.tmp 4), none⟩,
 ⟨none, .store 3 (.tmp 4) (.tmp 14), none⟩])
 (.ret)) (.skip))]
def A24 : AFunc := { ntmps := 22, results := [.cell (some 3) 4], body := B24, coe := true, keep := 0, guard := some { pre := P24, caps := [(.tmp 4)], slot := 15, dst := 4, ops := [(1, (.tmp 4))], code := C24, ntmps := 17 } }
theorem tr24 : trFuncG Try.prog M24 K24 true Try.f24 = some A24 := by kernel_rfl
def M25 : Marks := { cut := fun _ => true, hd := fun | _ => [], ex := fun | _ => [], imm := fun | _ => false }
def B25 : ACode :=
 .seq (.region [oP 3 (.mv (tP 0)),
 oP 4 (.call (.fn 26) [(tP 3)]),
 oP 5 (.fld (some 8) 0 (tP 4)),
 sP (.store 8 (tP 1) (tP 5))])
 (.region [oP 6 (.mv (tP 0)),
 oP 7 (.call (.fn 27) [(tP 6), (iP 0)])])
def A25 : AFunc := { ntmps := 8, results := [], body := B25, coe := true, keep := 0 }
theorem tr25 : trFunc Try.prog M25 true Try.f25 = some A25 := by kernel_rfl
def M26 : Marks := { cut := fun _ => true, hd := fun | _ => [], ex := fun | _ => [], imm := fun | 17 => true | 36 => true | 51 => true | 52 => true | 53 => true | 56 => true | 64 => true | 3000000 => true | _ => false, alts := fun | 16 => [[0, 1, 3, 4, 2, 5, 6, 7], [0, 2, 3, 4, 1, 5, 6, 7], [0, 3, 4, 1, 2, 5, 6, 7], [1, 2, 3, 4, 0, 5, 6, 7], [1, 3, 4, 0, 2, 5, 6, 7], [2, 3, 4, 0, 1, 5, 6, 7], [3, 4, 0, 1, 2, 5, 6, 7]] | _ => [] }
def B26 : ACode :=
 .seq (.region [oP 2 (.alloc [.ok (.int .i64 0), .ok (.int .i64 0), .ok (.int .i64 0), .ok (.int .i64 0), .error 1, .ok (.str ⟨#[]⟩), .error 8, .error 14, .ok (.int .i64 0)])])
 (.seq (.region [oP 6 (.mv (tP 0)),
 oP 7 (.call (.fn 33) [(tP 6), (iP 6)]),
 oP 3 (.alloc [.ok (.int .i64 0), .ok (.int .i64 0), .ok (.int .i64 0), .ok (.int .i64 0), .error 1, .ok (.str ⟨#[]⟩), .error 8, .error 14, .ok (.int .i64 0)]),
 sP (.store 9 (tP 3) (tP 7))])
 (.seq (.block 0 (.seq (.region [oP 9 (.mv (tP 0)),
 oP 10 (.call (.fn 34) [(tP 9), (.con (.str ⟨#[108, 101, 116]⟩))]),
 oP 8 (.mv (tP 10))])
 (.cond (tP 8) (.seq (.region [oP 11 (.mv (tP 0)),
 oP 12 (.call (.fn 27) [(tP 11), (iP 1)]),
 oP 13 (.fld none 1 (tP 12)),
 oP 14 (.addOff 0 (tP 3)),
 oP 15 (.addOff 5 (tP 14)),
 sP (.store 1 (tP 15) (tP 13))])
 (.seq (.region [oP 16 (.mv (tP 0)),
 oP 17 (.loadk (some 9) (tP 3)),
 oP 18 (.call (.fn 35) [(tP 16), (tP 17), (.con (.str ⟨#[105, 110]⟩))]),
 sP (.store 9 (tP 2) (tP 18))])
 (.ret))) (.seq (.region [oP 20 (.mv (tP 0)),
 oP 21 (.call (.fn 34) [(tP 20), (.con (.str ⟨#[102, 111, 114]⟩))]),
 oP 19 (.mv (tP 21))])
 (.cond (tP 19) (.seq (.region [oP 22 (.mv (tP 0)),
 oP 23 (.call (.fn 36) [(tP 22), (iP 0), (iP 1000)]),
 oP 24 (.addOff 0 (tP 3)),
 oP 25 (.addOff 0 (tP 24)),
 sP (.store 1 (tP 25) (iP 10)),
 oP 26 (.addOff 0 (tP 3)),
 oP 27 (.addOff 3 (tP 26)),
 sP (.store 1 (tP 27) (tP 23))])
 (.seq (.region [oP 28 (.mv (tP 0)),
 oP 29 (.call (.fn 37) [(tP 28), (.con (.str ⟨#[119, 105, 116, 104]⟩))])])
 (.seq (.region [oP 30 (.mv (tP 0)),
 oP 31 (.call (.fn 27) [(tP 30), (iP 1)]),
 oP 32 (.fld none 1 (tP 31)),
 oP 33 (.addOff 0 (tP 3)),
 oP 34 (.addOff 5 (tP 33)),
 sP (.store 1 (tP 34) (tP 32))])
 (.seq (.region [oP 35 (.mv (tP 0)),
 oP 36 (.loadk (some 9) (tP 3)),
 oP 37 (.call (.fn 35) [(tP 35), (tP 36), (.con (.str ⟨#[100, 111]⟩))]),
 sP (.store 9 (tP 2) (tP 37))])
 (.ret))))) (.seq (.region [oP 39 (.mv (tP 0)),
 oP 40 (.call (.fn 34) [(tP 39), (.con (.str ⟨#[105, 102]⟩))]),
 oP 38 (.mv (tP 40))])
 (.cond (tP 38) (.seq (.region [oP 41 (.addOff 0 (tP 3)),
 oP 42 (.addOff 0 (tP 41)),
 sP (.store 1 (tP 42) (iP 7))])
 (.seq (.region [oP 43 (.mv (tP 0)),
 oP 44 (.call (.fn 26) [(tP 43)]),
 oP 4 (.alloc [.ok (.int .i64 0), .ok (.int .i64 0), .ok (.int .i64 0), .ok (.int .i64 0), .error 1, .ok (.str ⟨#[]⟩), .error 8, .error 14, .ok (.int .i64 0)]),
 sP (.store 9 (tP 4) (tP 44))])
 (.seq (.region [oP 45 (.mv (tP 0)),
 oP 46 (.call (.fn 37) [(tP 45), (.con (.str ⟨#[116, 104, 101, 110]⟩))])])
 (.seq (.region [oP 47 (.mv (tP 0)),
 oP 48 (.call (.fn 26) [(tP 47)]),
 oP 5 (.alloc [.ok (.int .i64 0), .ok (.int .i64 0), .ok (.int .i64 0), .ok (.int .i64 0), .error 1, .ok (.str ⟨#[]⟩), .error 8, .error 14, .ok (.int .i64 0)]),
 sP (.store 9 (tP 5) (tP 48))])
 (.seq (.region [oP 49 (.mv (tP 0)),
 oP 50 (.call (.fn 37) [(tP 49), (.con (.str ⟨#[101, 108, 115, 101]⟩))])])
 (.seq (.draw [oP 51 (.loadk (some 9) (tP 3)),
 oP 52 (.loadk (some 9) (tP 4)),
 oP 53 (.loadk (some 9) (tP 5)),
 oP 54 (.mv (tP 0)),
 oP 55 (.call (.fn 26) [(tP 54)]),
 oP 56 (.lit true 0 9 3 [.int .i64 0, .int .i64 0, .int .i64 0, .int .i64 0, .slice 1 [], .str ⟨#[]⟩, .slice 8 [], .slice 14 [], .int .i64 0] [(0, (tP 52)), (1, (tP 53)), (2, (tP 55))]),
 oP 57 (.call (.fn 38) [(tP 51), (tP 56)]),
 sP (.store 9 (tP 2) (tP 57))] [[oP 51 (.loadk (some 9) (tP 3)), oP 52 (.loadk (some 9) (tP 4)), oP 54 (.mv (tP 0)), oP 55 (.call (.fn 26) [(tP 54)]), oP 53 (.loadk (some 9) (tP 5)), oP 56 (.lit true 0 9 3 [.int .i64 0, .int .i64 0, .int .i64 0, .int .i64 0, .slice 1 [], .str ⟨#[]⟩, .slice 8 [], .slice 14 [], .int .i64 0] [(0, (tP 52)), (1, (tP 53)), (2, (tP 55))]), oP 57 (.call (.fn 38) [(tP 51), (tP 56)]), sP (.store 9 (tP 2) (tP 57))], [oP 51 (.loadk (some 9) (tP 3)), oP 53 (.loadk (some 9) (tP 5)), oP 54 (.mv (tP 0)), oP 55 (.call (.fn 26) [(tP 54)]), oP 52 (.loadk (some 9) (tP 4)), oP 56 (.lit true 0 9 3 [.int .i64 0, .int .i64 0, .int .i64 0, .int .i64 0, .slice 1 [], .str ⟨#[]⟩, .slice 8 [], .slice 14 [], .int .i64 0] [(0, (tP 52)), (1, (tP 53)), (2, (tP 55))]), oP 57 (.call (.fn 38) [(tP 51), (tP 56)]), sP (.store 9 (tP 2) (tP 57))], [oP 51 (.loadk (some 9) (tP 3)), oP 54 (.mv (tP 0)), oP 55 (.call (.fn 26) [(tP 54)]), oP 52 (.loadk (some 9) (tP 4)), oP 53 (.loadk (some 9) (tP 5)), oP 56 (.lit true 0 9 3 [.int .i64 0, .int .i64 0, .int .i64 0, .int .i64 0, .slice 1 [], .str ⟨#[]⟩, .slice 8 [], .slice 14 [], .int .i64 0] [(0, (tP 52)), (1, (tP 53)), (2, (tP 55))]), oP 57 (.call (.fn 38) [(tP 51), (tP 56)]), sP (.store 9 (tP 2) (tP 57))], [oP 52 (.loadk (some 9) (tP 4)), oP 53 (.loadk (some 9) (tP 5)), oP 54 (.mv (tP 0)), oP 55 (.call (.fn 26) [(tP 54)]), oP 51 (.loadk (some 9) (tP 3)), oP 56 (.lit true 0 9 3 [.int .i64 0, .int .i64 0, .int .i64 0, .int .i64 0, .slice 1 [], .str ⟨#[]⟩, .slice 8 [], .slice 14 [], .int .i64 0] [(0, (tP 52)), (1, (tP 53)), (2, (tP 55))]), oP 57 (.call (.fn 38) [(tP 51), (tP 56)]), sP (.store 9 (tP 2) (tP 57))], [oP 52 (.loadk (some 9) (tP 4)), oP 54 (.mv (tP 0)), oP 55 (.call (.fn 26) [(tP 54)]), oP 51 (.loadk (some 9) (tP 3)), oP 53 (.loadk (some 9) (tP 5)), oP 56 (.lit true 0 9 3 [.int .i64 0, .int .i64 0, .int .i64 0, .int .i64 0, .slice 1 [], .str ⟨#[]⟩, .slice 8 [], .slice 14 [], .int .i64 0] [(0, (tP 52)), (1, (tP 53)), (2, (tP 55))]), oP 57 (.call (.fn 38) [(tP 51), (tP 56)]), sP (.store 9 (tP 2) (tP 57))], [oP 53 (.loadk (some 9) (tP 5)), oP 54 (.mv (tP 0)), oP 55 (.call (.fn 26) [(tP 54)]), oP 51 (.loadk (some 9) (tP 3)), oP 52 (.loadk (some 9) (tP 4)), oP 56 (.lit true 0 9 3 [.int .i64 0, .int .i64 0, .int .i64 0, .int .i64 0, .slice 1 [], .str ⟨#[]⟩, .slice 8 [], .slice 14 [], .int .i64 0] [(0, (tP 52)), (1, (tP 53)), (2, (tP 55))]), oP 57 (.call (.fn 38) [(tP 51), (tP 56)]), sP (.store 9 (tP 2) (tP 57))], [oP 54 (.mv (tP 0)), oP 55 (.call (.fn 26) [(tP 54)]), oP 51 (.loadk (some 9) (tP 3)), oP 52 (.loadk (some 9) (tP 4)), oP 53 (.loadk (some 9) (tP 5)), oP 56 (.lit true 0 9 3 [.int .i64 0, .int .i64 0, .int .i64 0, .int .i64 0, .slice 1 [], .str ⟨#[]⟩, .slice 8 [], .slice 14 [], .int .i64 0] [(0, (tP 52)), (1, (tP 53)), (2, (tP 55))]), oP 57 (.call (.fn 38) [(tP 51), (tP 56)]), sP (.store 9 (tP 2) (tP 57))]])
 (.ret))))))) (.seq (.region [oP 59 (.mv (tP 0)),
 oP 60 (.call (.fn 34) [(tP 59), (.con (.str ⟨#[109, 97, 116, 99, 104]⟩))]),
 oP 58 (.mv (tP 60))])
 (.cond (tP 58) (.seq (.region [oP 61 (.addOff 0 (tP 3)),
 oP 62 (.addOff 0 (tP 61)),
 sP (.store 1 (tP 62) (iP 8))])
 (.seq (.region [oP 63 (.mv (tP 0)),
 oP 64 (.loadk (some 9) (tP 3)),
 oP 65 (.call (.fn 39) [(tP 63), (tP 64)]),
 sP (.store 9 (tP 2) (tP 65))])
 (.ret))) (.skip))))))))))
 (.seq (.region [oP 66 (.mv (tP 0)),
 oP 67 (.call (.fn 40) [(tP 66)]),
 sP (.store 9 (tP 2) (tP 67))])
 (.ret))))
def A26 : AFunc := { ntmps := 68, results := [.cellk (some 9) 2], body := B26, coe := true, keep := 0 }
theorem tr26 : trFunc Try.prog M26 true Try.f26 = some A26 := by kernel_rfl
def M27 : Marks := { cut := fun _ => true, hd := fun | _ => [], ex := fun | _ => [], imm := fun | _ => false }
def B27 : ACode :=
 .seq (.region [oP 4 (.alloc [.ok (.int .i64 0), .ok (.str ⟨#[]⟩), .ok (.int .i64 0), .error 1, .ok (.int .i64 0), .ok (.int .i64 0)])])
 (.seq (.region [oP 6 (.mv (tP 0)),
 oP 7 (.call (.fn 41) [(tP 6)]),
 oP 5 (.alloc [.ok (.int .i64 0), .ok (.str ⟨#[]⟩), .ok (.int .i64 0), .error 1, .ok (.int .i64 0), .ok (.int .i64 0)]),
 sP (.store 6 (tP 5) (tP 7))])
 (.seq (.seq (.region [oP 8 (.addOff 0 (tP 5)),
 oP 9 (.load none (tP 8)),
 oP 10 (.mv (tP 1)),
 oP 11 (.bin .neq (tP 9) (tP 10))])
 (.cond (tP 11) (.region [oP 12 (.mv (tP 0)),
 oP 13 (.call (.fn 42) [(tP 12)])]) (.skip)))
 (.seq (.seq (.region [oP 14 (.mv (tP 1)),
 oP 15 (.bin .neq (tP 14) (iP 0))])
 (.cond (tP 15) (.region [oP 16 (.mv (tP 0)),
 oP 17 (.mv (tP 0)),
 oP 18 (.nilchk (tP 17)),
 oP 19 (.addOff 0 (tP 18)),
 oP 20 (.load none (tP 19)),
 oP 21 (.slc 6 (tP 20) (some (iP 1)) none),
 oP 22 (.nilchk (tP 16)),
 oP 23 (.addOff 0 (tP 22)),
 sP (.store 1 (tP 23) (tP 21))]) (.skip)))
 (.seq (.region [oP 24 (.load (some 6) (tP 5)),
 sP (.store 6 (tP 4) (tP 24))])
 (.ret)))))
def A27 : AFunc := { ntmps := 25, results := [.cell (some 6) 4], body := B27, coe := true, keep := 0 }
theorem tr27 : trFunc Try.prog M27 true Try.f27 = some A27 := by kernel_rfl
def M28 : Marks := { cut := fun _ => true, hd := fun | _ => [], ex := fun | _ => [], imm := fun | 1 => true | _ => false }
def B28 : ACode :=
 .seq (.region [oP 1 (.box true (tP 0)),
 oP 2 (.mv (iP 0)),
 oP 3 (.mv (bP false))])
 (.seq (.block 0 (.seq (.seq (.region [oP 5 (.addOff 0 (tP 1)),
 oP 6 (.load none (tP 5)),
 oP 7 (.bin .eql (tP 6) (iP 0)),
 oP 4 (.mv (tP 7))])
 (.cond (tP 4) (.skip) (.region [oP 8 (.addOff 0 (tP 1)),
 oP 9 (.load none (tP 8)),
 oP 10 (.bin .eql (tP 9) (iP 2)),
 oP 11 (.mv (tP 10)),
 gP 12 11 true (.addOff 4 (tP 1)),
 gP 13 11 true (.load none (tP 12)),
 gP 14 11 true (.len false (tP 13)),
 gP 15 11 true (.bin .eql (tP 14) (iP 0)),
 oP 16 (.pick (tP 11) (tP 15) (bP false)),
 oP 4 (.mv (tP 16))])))
 (.cond (tP 4) (.seq (.region [oP 2 (.mv (iP 0)),
 oP 3 (.mv (bP false))])
 (.ret)) (.seq (.region [oP 18 (.addOff 0 (tP 1)),
 oP 19 (.load none (tP 18)),
 oP 20 (.bin .eql (tP 19) (iP 1)),
 oP 17 (.mv (tP 20))])
 (.cond (tP 17) (.seq (.region [oP 21 (.addOff 2 (tP 1)),
 oP 22 (.load none (tP 21)),
 oP 23 (.len false (tP 22)),
 oP 24 (.bin .add (tP 23) (iP 7)),
 oP 25 (.bin .shr (tP 24) (.con (.int .u64 3))),
 oP 26 (.bin .add (iP 2) (tP 25)),
 oP 2 (.mv (tP 26)),
 oP 3 (.mv (bP false))])
 (.ret)) (.skip))))))
 (.seq (.region [oP 27 (.addOff 4 (tP 1)),
 oP 28 (.load none (tP 27)),
 oP 29 (.len false (tP 28)),
 oP 30 (.bin .add (iP 2) (tP 29)),
 oP 2 (.mv (tP 30)),
 oP 3 (.mv (bP true))])
 (.ret)))
def A28 : AFunc := { ntmps := 31, results := [.tmp 2, .tmp 3], body := B28, coe := true, keep := 0 }
theorem tr28 : trFunc Try.prog M28 true Try.f28 = some A28 := by kernel_rfl
abbrev H29L2 : List Bool := [true, true, false, false, false, false, false, true, true]
abbrev X29L2 : List Bool := [false, false, false, false, true]
def M29 : Marks := { cut := fun _ => true, hd := fun | 2 => H29L2 | _ => [], ex := fun | 2 => X29L2 | _ => [], imm := fun | _ => false }
def B29L2 : ACode :=
 .seq (.region [oP 9 (.bin .lss (tP 8) (tP 7))])
 (.seq (.cond (tP 9) (.skip) (.exit 0))
 (.seq (.block 1 (.seq (.region [oP 10 (.mv (tP 8)),
 oP 5 (.mv (tP 10))])
 (.seq (.region [oP 11 (.mv (tP 1)),
 oP 12 (.mv (tP 0)),
 oP 13 (.mv (tP 5)),
 oP 14 (.idxAddr 4 (tP 12) (tP 13)),
 oP 15 (.load (some 4) (tP 14)),
 oP 16 (.call (tP 11) [(tP 15)])])
 (.cond (tP 16) (.seq (.region [oP 17 (.mv (tP 5)),
 oP 4 (.mv (tP 17))])
 (.ret)) (.skip)))))
 (.region [oP 18 (.bin .add (tP 8) (iP 1)),
 oP 8 (.mv (tP 18))])))
def B29 : ACode :=
 .seq (.region [oP 4 (.mv (iP 0))])
 (.seq (.seq (.region [oP 6 (.mv (tP 0)),
 oP 7 (.len false (tP 6)),
 oP 8 (.mv (iP 0))])
 (.block 0 (.loop true H29L2 X29L2 B29L2)))
 (.seq (.region [oP 4 (.mv (iP (-1)))])
 (.ret)))
def A29 : AFunc := { ntmps := 19, results := [.tmp 4], body := B29, coe := true, keep := 0 }
theorem tr29 : trFunc Try.prog M29 true Try.f29 = some A29 := by kernel_rfl
def M30 : Marks := { cut := fun _ => true, hd := fun | _ => [], ex := fun | _ => [], imm := fun | 2 => true | _ => false }
def B30 : ACode :=
 .seq (.region [oP 2 (.box true (tP 0)),
 oP 3 (.mv (bP false))])
 (.seq (.region [oP 4 (.addOff 2 (tP 2)),
 oP 5 (.load none (tP 4)),
 oP 6 (.load none (tP 1)),
 oP 7 (.bin .eql (tP 5) (tP 6)),
 oP 3 (.mv (tP 7))])
 (.ret))
def A30 : AFunc := { ntmps := 8, results := [.tmp 3], body := B30, coe := true, keep := 0 }
theorem tr30 : trFunc Try.prog M30 true Try.f30 = some A30 := by kernel_rfl
abbrev H31L7 : List Bool := [true, false, false, true, false, false, true, true]
abbrev X31L7 : List Bool := [true, false, true, true, false, false, false, true]
def M31 : Marks := { cut := fun _ => true, hd := fun | 7 => H31L7 | _ => [], ex := fun | 7 => X31L7 | _ => [], imm := fun | 2 => true | 50 => true | 65 => true | _ => false }
def B31L7 : ACode :=
 .seq (.seq (.region [oP 24 (.mv (tP 6)),
 oP 25 (.call (.fn 45) [(tP 24)]),
 oP 26 (.un .not (tP 25))])
 (.cond (tP 26) (.skip) (.exit 0)))
 (.seq (.block 1 (.seq (.region [oP 29 (.mv (tP 6)),
 oP 30 (.call (.fn 46) [(tP 29)]),
 oP 8 (.alloc [.ok (.int .i64 0), .ok (.str ⟨#[]⟩), .ok (.int .i64 0), .error 1, .ok (.int .i64 0), .ok (.int .i64 0)]),
 sP (.store 6 (tP 8) (tP 30))])
 (.seq (.seq (.region [oP 31 (.mv (tP 7)),
 oP 32 (.len false (tP 31)),
 oP 33 (.bin .eql (tP 32) (iP 4096))])
 (.cond (tP 33) (.region [oP 34 (.mv (tP 6)),
 oP 35 (.addOff 4 (tP 8)),
 oP 36 (.load (some 2) (tP 35)),
 oP 37 (.call (.fn 47) [(tP 34), (iP 27), (tP 36)])]) (.skip)))
 (.seq (.seq (.region [oP 38 (.mv (tP 6)),
 oP 39 (.nilchk (tP 38)),
 oP 40 (.addOff 2 (tP 39)),
 oP 41 (.addOff 0 (tP 40)),
 oP 42 (.load none (tP 41)),
 oP 43 (.bin .neq (tP 42) (iP 0))])
 (.cond (tP 43) (.seq (.draw [oP 44 (.mv (tP 6)),
 oP 45 (.nilchk (tP 44)),
 oP 46 (.addOff 2 (tP 45)),
 oP 47 (.load (some 3) (tP 46)),
 oP 2 (.mv (.con (.slice 6 []))),
 sP (.store 3 (tP 3) (tP 47))] [])
 (.ret)) (.skip)))
 (.region [oP 48 (.mv (tP 7)),
 oP 49 (.load (some 6) (tP 8)),
 oP 50 (.lit true 0 6 1 [.int .i64 0, .str ⟨#[]⟩, .int .i64 0, .slice 1 [], .int .i64 0, .int .i64 0] [(0, (tP 49))]),
 oP 51 (.app false 0 6 72 (tP 48) (tP 50)),
 oP 7 (.mv (tP 51))])))))
 (.region [oP 27 (.mv (tP 6)),
 oP 28 (.call (.fn 44) [(tP 27)])]))
def B31 : ACode :=
 .seq (.region [oP 2 (.mv (.con (.slice 6 []))),
 oP 3 (.alloc [.ok (.int .i64 0), .ok (.int .i64 0), .ok (.int .i64 0)])])
 (.seq (.region [oP 11 (.mv (tP 0)),
 oP 12 (.call (.fn 43) [(tP 11)]),
 oP 10 (.mv (tP 12)),
 oP 13 (.ext 0 (tP 10)),
 oP 14 (.ext 1 (tP 10)),
 oP 5 (.alloc [.ok (.int .i64 0), .ok (.int .i64 0), .ok (.int .i64 0)]),
 oP 4 (.mv (tP 13)),
 sP (.store 3 (tP 5) (tP 14))])
 (.seq (.seq (.region [oP 15 (.addOff 0 (tP 5)),
 oP 16 (.load none (tP 15)),
 oP 17 (.bin .neq (tP 16) (iP 0))])
 (.cond (tP 17) (.seq (.draw [oP 18 (.load (some 3) (tP 5)),
 oP 2 (.mv (.con (.slice 6 []))),
 sP (.store 3 (tP 3) (tP 18))] [])
 (.ret)) (.skip)))
 (.seq (.region [oP 19 (.mv (tP 4)),
 oP 20 (.build [.slice 4 [], .int .i64 0, .int .i64 0, .int .i64 0, .int .i64 0] [(0, 1, (tP 19))]),
 oP 21 (.box false (tP 20)),
 oP 6 (.mv (tP 21))])
 (.seq (.region [oP 7 (.nilrow 6)])
 (.seq (.seq (.region [oP 22 (.mv (tP 6)),
 oP 23 (.call (.fn 44) [(tP 22)])])
 (.block 0 (.loop true H31L7 X31L7 B31L7)))
 (.seq (.region [oP 52 (.mv (tP 0)),
 oP 53 (.mv (tP 0)),
 oP 54 (.len true (tP 53)),
 oP 55 (.call (.fn 48) [(tP 52), (tP 54)]),
 oP 56 (.build [.int .i64 0, .str ⟨#[]⟩, .int .i64 0, .slice 1 [], .int .i64 0, .int .i64 0] [(4, 2, (tP 55))]),
 oP 9 (.alloc [.ok (.int .i64 0), .ok (.str ⟨#[]⟩), .ok (.int .i64 0), .error 1, .ok (.int .i64 0), .ok (.int .i64 0)]),
 sP (.store 6 (tP 9) (tP 56))])
 (.seq (.seq (.region [oP 57 (.mv (tP 7)),
 oP 58 (.len false (tP 57)),
 oP 59 (.bin .eql (tP 58) (iP 4096))])
 (.cond (tP 59) (.seq (.draw [oP 60 (.addOff 4 (tP 9)),
 oP 61 (.load (some 2) (tP 60)),
 oP 62 (.build [.int .i64 0, .int .i64 0, .int .i64 0] [(0, 1, (iP 27)), (1, 2, (tP 61))]),
 oP 2 (.mv (.con (.slice 6 []))),
 sP (.store 3 (tP 3) (tP 62))] [])
 (.ret)) (.skip)))
 (.seq (.region [oP 63 (.mv (tP 7)),
 oP 64 (.load (some 6) (tP 9)),
 oP 65 (.lit true 0 6 1 [.int .i64 0, .str ⟨#[]⟩, .int .i64 0, .slice 1 [], .int .i64 0, .int .i64 0] [(0, (tP 64))]),
 oP 66 (.app false 0 6 72 (tP 63) (tP 65)),
 oP 67 (.build [.int .i64 0, .int .i64 0, .int .i64 0] []),
 oP 2 (.mv (tP 66)),
 sP (.store 3 (tP 3) (tP 67))])
 (.ret)))))))))
def A31 : AFunc := { ntmps := 68, results := [.tmp 2, .cell (some 3) 3], body := B31, coe := true, keep := 0 }
theorem tr31 : trFunc Try.prog M31 true Try.f31 = some A31 := by kernel_rfl
def M33 : Marks := { cut := fun _ => true, hd := fun | _ => [], ex := fun | _ => [], imm := fun | 9 => true | 10 => true | 3000000 => true | _ => false }
def B33 : ACode :=
 .seq (.region [oP 4 (.alloc [.ok (.int .i64 0), .ok (.int .i64 0), .ok (.int .i64 0), .ok (.int .i64 0), .error 1, .ok (.str ⟨#[]⟩), .error 8, .error 14, .ok (.int .i64 0)])])
 (.seq (.region [oP 5 (.mv (tP 1)),
 oP 6 (.mv (tP 0)),
 oP 7 (.call (.fn 41) [(tP 6)]),
 oP 8 (.fld (some 2) 4 (tP 7)),
 oP 9 (.build [.int .i64 0, .int .i64 0, .int .i64 0, .int .i64 0, .nils 1, .str ⟨#[]⟩, .nils 8, .nils 14] [(0, 1, (tP 5)), (1, 2, (tP 8))]),
 oP 10 (.build [.int .i64 0, .int .i64 0, .int .i64 0, .int .i64 0, .nils 1, .str ⟨#[]⟩, .nils 8, .nils 14, .int .i64 0] [(0, 8, (tP 9)), (8, 1, (iP 1))]),
 sP (.storen 9 (tP 4) (tP 10))])
 (.ret))
def A33 : AFunc := { ntmps := 11, results := [.cellk (some 9) 4], body := B33, coe := true, keep := 0 }
theorem tr33 : trFunc Try.prog M33 true Try.f33 = some A33 := by kernel_rfl
def M34 : Marks := { cut := fun _ => true, hd := fun | _ => [], ex := fun | _ => [], imm := fun | _ => false }
def B34 : ACode :=
 .seq (.region [oP 4 (.mv (bP false))])
 (.seq (.region [oP 6 (.mv (tP 0)),
 oP 7 (.mv (tP 1)),
 oP 8 (.call (.fn 49) [(tP 6), (tP 7)]),
 oP 5 (.mv (tP 8))])
 (.seq (.seq (.region [oP 9 (.mv (tP 5))])
 (.cond (tP 9) (.region [oP 10 (.mv (tP 0)),
 oP 11 (.mv (tP 0)),
 oP 12 (.nilchk (tP 11)),
 oP 13 (.addOff 0 (tP 12)),
 oP 14 (.load none (tP 13)),
 oP 15 (.slc 6 (tP 14) (some (iP 1)) none),
 oP 16 (.nilchk (tP 10)),
 oP 17 (.addOff 0 (tP 16)),
 sP (.store 1 (tP 17) (tP 15))]) (.skip)))
 (.seq (.region [oP 18 (.mv (tP 5)),
 oP 4 (.mv (tP 18))])
 (.ret))))
def A34 : AFunc := { ntmps := 19, results := [.tmp 4], body := B34, coe := true, keep := 0 }
theorem tr34 : trFunc Try.prog M34 true Try.f34 = some A34 := by kernel_rfl
def M35 : Marks := { cut := fun _ => true, hd := fun | _ => [], ex := fun | _ => [], imm := fun | 4 => true | 15 => true | 16 => true | 19 => true | 3000000 => true | _ => false, alts := fun | 4 => [[0, 2, 3, 1, 4, 5, 6], [1, 2, 3, 0, 4, 5, 6], [2, 3, 0, 1, 4, 5, 6]] | _ => [] }
def B35 : ACode :=
 .seq (.region [oP 4 (.box true (tP 1)),
 oP 6 (.alloc [.ok (.int .i64 0), .ok (.int .i64 0), .ok (.int .i64 0), .ok (.int .i64 0), .error 1, .ok (.str ⟨#[]⟩), .error 8, .error 14, .ok (.int .i64 0)])])
 (.seq (.region [oP 8 (.mv (tP 0)),
 oP 9 (.call (.fn 37) [(tP 8), (.con (.str ⟨#[61]⟩))])])
 (.seq (.region [oP 10 (.mv (tP 0)),
 oP 11 (.call (.fn 26) [(tP 10)]),
 oP 7 (.alloc [.ok (.int .i64 0), .ok (.int .i64 0), .ok (.int .i64 0), .ok (.int .i64 0), .error 1, .ok (.str ⟨#[]⟩), .error 8, .error 14, .ok (.int .i64 0)]),
 sP (.store 9 (tP 7) (tP 11))])
 (.seq (.region [oP 12 (.mv (tP 0)),
 oP 13 (.mv (tP 2)),
 oP 14 (.call (.fn 37) [(tP 12), (tP 13)])])
 (.seq (.draw [oP 15 (.loadk (some 9) (tP 4)),
 oP 16 (.loadk (some 9) (tP 7)),
 oP 17 (.mv (tP 0)),
 oP 18 (.call (.fn 26) [(tP 17)]),
 oP 19 (.lit true 0 9 2 [.int .i64 0, .int .i64 0, .int .i64 0, .int .i64 0, .slice 1 [], .str ⟨#[]⟩, .slice 8 [], .slice 14 [], .int .i64 0] [(0, (tP 16)), (1, (tP 18))]),
 oP 20 (.call (.fn 38) [(tP 15), (tP 19)]),
 sP (.store 9 (tP 6) (tP 20))] [[oP 15 (.loadk (some 9) (tP 4)), oP 17 (.mv (tP 0)), oP 18 (.call (.fn 26) [(tP 17)]), oP 16 (.loadk (some 9) (tP 7)), oP 19 (.lit true 0 9 2 [.int .i64 0, .int .i64 0, .int .i64 0, .int .i64 0, .slice 1 [], .str ⟨#[]⟩, .slice 8 [], .slice 14 [], .int .i64 0] [(0, (tP 16)), (1, (tP 18))]), oP 20 (.call (.fn 38) [(tP 15), (tP 19)]), sP (.store 9 (tP 6) (tP 20))], [oP 16 (.loadk (some 9) (tP 7)), oP 17 (.mv (tP 0)), oP 18 (.call (.fn 26) [(tP 17)]), oP 15 (.loadk (some 9) (tP 4)), oP 19 (.lit true 0 9 2 [.int .i64 0, .int .i64 0, .int .i64 0, .int .i64 0, .slice 1 [], .str ⟨#[]⟩, .slice 8 [], .slice 14 [], .int .i64 0] [(0, (tP 16)), (1, (tP 18))]), oP 20 (.call (.fn 38) [(tP 15), (tP 19)]), sP (.store 9 (tP 6) (tP 20))], [oP 17 (.mv (tP 0)), oP 18 (.call (.fn 26) [(tP 17)]), oP 15 (.loadk (some 9) (tP 4)), oP 16 (.loadk (some 9) (tP 7)), oP 19 (.lit true 0 9 2 [.int .i64 0, .int .i64 0, .int .i64 0, .int .i64 0, .slice 1 [], .str ⟨#[]⟩, .slice 8 [], .slice 14 [], .int .i64 0] [(0, (tP 16)), (1, (tP 18))]), oP 20 (.call (.fn 38) [(tP 15), (tP 19)]), sP (.store 9 (tP 6) (tP 20))]])
 (.ret)))))
def A35 : AFunc := { ntmps := 21, results := [.cellk (some 9) 6], body := B35, coe := true, keep := 0 }
theorem tr35 : trFunc Try.prog M35 true Try.f35 = some A35 := by kernel_rfl
def M36 : Marks := { cut := fun _ => true, hd := fun | _ => [], ex := fun | _ => [], imm := fun | _ => false }
def B36 : ACode :=
 .seq (.region [oP 6 (.mv (iP 0))])
 (.seq (.region [oP 8 (.mv (tP 0)),
 oP 9 (.call (.fn 27) [(tP 8), (iP 3)]),
 oP 7 (.alloc [.ok (.int .i64 0), .ok (.str ⟨#[]⟩), .ok (.int .i64 0), .error 1, .ok (.int .i64 0), .ok (.int .i64 0)]),
 sP (.store 6 (tP 7) (tP 9))])
 (.seq (.seq (.region [oP 10 (.addOff 2 (tP 7)),
 oP 11 (.load none (tP 10)),
 oP 12 (.mv (tP 1)),
 oP 13 (.bin .lss (tP 11) (tP 12)),
 oP 14 (.mv (tP 13)),
 gP 15 14 false (.addOff 2 (tP 7)),
 gP 16 14 false (.load none (tP 15)),
 gP 17 14 false (.mv (tP 2)),
 gP 18 14 false (.bin .gtr (tP 16) (tP 17)),
 oP 19 (.pick (tP 14) (bP true) (tP 18))])
 (.cond (tP 19) (.region [oP 20 (.addOff 4 (tP 7)),
 oP 21 (.load (some 2) (tP 20)),
 oP 22 (.call (.fn 50) [(iP 20), (tP 21)])]) (.skip)))
 (.seq (.region [oP 23 (.addOff 2 (tP 7)),
 oP 24 (.load none (tP 23)),
 oP 6 (.mv (tP 24))])
 (.ret))))
def A36 : AFunc := { ntmps := 25, results := [.tmp 6], body := B36, coe := true, keep := 0 }
theorem tr36 : trFunc Try.prog M36 true Try.f36 = some A36 := by kernel_rfl
def M37 : Marks := { cut := fun _ => true, hd := fun | _ => [], ex := fun | _ => [], imm := fun | _ => false }
def B37 : ACode :=
 .seq (.region [oP 4 (.mv (tP 0)),
 oP 5 (.mv (tP 1)),
 oP 6 (.call (.fn 34) [(tP 4), (tP 5)]),
 oP 7 (.un .not (tP 6))])
 (.cond (tP 7) (.region [oP 8 (.mv (tP 0)),
 oP 9 (.call (.fn 42) [(tP 8)])]) (.skip))
def A37 : AFunc := { ntmps := 10, results := [], body := B37, coe := true, keep := 0 }
theorem tr37 : trFunc Try.prog M37 true Try.f37 = some A37 := by kernel_rfl
abbrev H38L2 : List Bool := [false, false, true, false, true, false, false, true, true, true]
abbrev X38L2 : List Bool := [false, false, true, false, true]
def M38 : Marks := { cut := fun _ => true, hd := fun | 2 => H38L2 | _ => [], ex := fun | 2 => X38L2 | _ => [], imm := fun | 12 => true | 17 => true | 18 => true | 30 => true | 1000002 => true | 3000000 => true | _ => false, alts := fun | 4 => [[0, 1, 2, 3, 4, 5, 6, 7, 8, 9, 13, 14, 15, 10, 11, 12, 16, 17], [0, 1, 2, 3, 4, 5, 7, 9, 10, 6, 8, 11, 12, 13, 14, 15, 16, 17], [0, 1, 2, 3, 4, 5, 7, 8, 6, 9, 10, 11, 12, 13, 14, 15, 16, 17], [0, 1, 2, 3, 4, 5, 7, 8, 6, 9, 13, 14, 15, 10, 11, 12, 16, 17], [0, 1, 2, 3, 4, 5, 7, 8, 9, 10, 6, 11, 12, 13, 14, 15, 16, 17]] | _ => [] }
def B38L2 : ACode :=
 .seq (.region [oP 10 (.bin .lss (tP 9) (tP 8))])
 (.seq (.cond (tP 10) (.skip) (.exit 0))
 (.seq (.block 1 (.seq (.region [oP 11 (.idxAddr 9 (tP 7) (tP 9)),
 oP 12 (.loadk (some 9) (tP 11)),
 oP 6 (.alloc [.ok (.int .i64 0), .ok (.int .i64 0), .ok (.int .i64 0), .ok (.int .i64 0), .error 1, .ok (.str ⟨#[]⟩), .error 8, .error 14, .ok (.int .i64 0)]),
 sP (.storen 9 (tP 6) (tP 12))])
 (.draw [oP 13 (.addOff 0 (tP 2)),
 oP 14 (.addOff 6 (tP 13)),
 oP 15 (.load none (tP 14)),
 oP 16 (.addOff 0 (tP 6)),
 oP 17 (.loadk (some 8) (tP 16)),
 oP 18 (.lit true 0 8 1 [.int .i64 0, .int .i64 0, .int .i64 0, .int .i64 0, .slice 1 [], .str ⟨#[]⟩, .slice 8 [], .slice 14 []] [(0, (tP 17))]),
 oP 19 (.app false 0 8 120 (tP 15) (tP 18)),
 oP 20 (.addOff 8 (tP 2)),
 oP 21 (.load none (tP 20)),
 oP 22 (.addOff 8 (tP 6)),
 oP 23 (.load none (tP 22)),
 oP 24 (.bin .add (tP 23) (iP 1)),
 oP 25 (.mnmx true [(tP 21), (tP 24)]),
 oP 26 (.addOff 0 (tP 2)),
 oP 27 (.addOff 6 (tP 26)),
 sP (.store 1 (tP 27) (tP 19)),
 oP 28 (.addOff 8 (tP 2)),
 sP (.store 1 (tP 28) (tP 25))] [[oP 13 (.addOff 0 (tP 2)), oP 14 (.addOff 6 (tP 13)), oP 15 (.load none (tP 14)), oP 16 (.addOff 0 (tP 6)), oP 17 (.loadk (some 8) (tP 16)), oP 18 (.lit true 0 8 1 [.int .i64 0, .int .i64 0, .int .i64 0, .int .i64 0, .slice 1 [], .str ⟨#[]⟩, .slice 8 [], .slice 14 []] [(0, (tP 17))]), oP 19 (.app false 0 8 120 (tP 15) (tP 18)), oP 20 (.addOff 8 (tP 2)), oP 21 (.load none (tP 20)), oP 22 (.addOff 8 (tP 6)), oP 26 (.addOff 0 (tP 2)), oP 27 (.addOff 6 (tP 26)), sP (.store 1 (tP 27) (tP 19)), oP 23 (.load none (tP 22)), oP 24 (.bin .add (tP 23) (iP 1)), oP 25 (.mnmx true [(tP 21), (tP 24)]), oP 28 (.addOff 8 (tP 2)), sP (.store 1 (tP 28) (tP 25))], [oP 13 (.addOff 0 (tP 2)), oP 14 (.addOff 6 (tP 13)), oP 15 (.load none (tP 14)), oP 16 (.addOff 0 (tP 6)), oP 17 (.loadk (some 8) (tP 16)), oP 18 (.lit true 0 8 1 [.int .i64 0, .int .i64 0, .int .i64 0, .int .i64 0, .slice 1 [], .str ⟨#[]⟩, .slice 8 [], .slice 14 []] [(0, (tP 17))]), oP 20 (.addOff 8 (tP 2)), oP 22 (.addOff 8 (tP 6)), oP 23 (.load none (tP 22)), oP 19 (.app false 0 8 120 (tP 15) (tP 18)), oP 21 (.load none (tP 20)), oP 24 (.bin .add (tP 23) (iP 1)), oP 25 (.mnmx true [(tP 21), (tP 24)]), oP 26 (.addOff 0 (tP 2)), oP 27 (.addOff 6 (tP 26)), sP (.store 1 (tP 27) (tP 19)), oP 28 (.addOff 8 (tP 2)), sP (.store 1 (tP 28) (tP 25))], [oP 13 (.addOff 0 (tP 2)), oP 14 (.addOff 6 (tP 13)), oP 15 (.load none (tP 14)), oP 16 (.addOff 0 (tP 6)), oP 17 (.loadk (some 8) (tP 16)), oP 18 (.lit true 0 8 1 [.int .i64 0, .int .i64 0, .int .i64 0, .int .i64 0, .slice 1 [], .str ⟨#[]⟩, .slice 8 [], .slice 14 []] [(0, (tP 17))]), oP 20 (.addOff 8 (tP 2)), oP 21 (.load none (tP 20)), oP 19 (.app false 0 8 120 (tP 15) (tP 18)), oP 22 (.addOff 8 (tP 6)), oP 23 (.load none (tP 22)), oP 24 (.bin .add (tP 23) (iP 1)), oP 25 (.mnmx true [(tP 21), (tP 24)]), oP 26 (.addOff 0 (tP 2)), oP 27 (.addOff 6 (tP 26)), sP (.store 1 (tP 27) (tP 19)), oP 28 (.addOff 8 (tP 2)), sP (.store 1 (tP 28) (tP 25))], [oP 13 (.addOff 0 (tP 2)), oP 14 (.addOff 6 (tP 13)), oP 15 (.load none (tP 14)), oP 16 (.addOff 0 (tP 6)), oP 17 (.loadk (some 8) (tP 16)), oP 18 (.lit true 0 8 1 [.int .i64 0, .int .i64 0, .int .i64 0, .int .i64 0, .slice 1 [], .str ⟨#[]⟩, .slice 8 [], .slice 14 []] [(0, (tP 17))]), oP 20 (.addOff 8 (tP 2)), oP 21 (.load none (tP 20)), oP 19 (.app false 0 8 120 (tP 15) (tP 18)), oP 22 (.addOff 8 (tP 6)), oP 26 (.addOff 0 (tP 2)), oP 27 (.addOff 6 (tP 26)), sP (.store 1 (tP 27) (tP 19)), oP 23 (.load none (tP 22)), oP 24 (.bin .add (tP 23) (iP 1)), oP 25 (.mnmx true [(tP 21), (tP 24)]), oP 28 (.addOff 8 (tP 2)), sP (.store 1 (tP 28) (tP 25))], [oP 13 (.addOff 0 (tP 2)), oP 14 (.addOff 6 (tP 13)), oP 15 (.load none (tP 14)), oP 16 (.addOff 0 (tP 6)), oP 17 (.loadk (some 8) (tP 16)), oP 18 (.lit true 0 8 1 [.int .i64 0, .int .i64 0, .int .i64 0, .int .i64 0, .slice 1 [], .str ⟨#[]⟩, .slice 8 [], .slice 14 []] [(0, (tP 17))]), oP 20 (.addOff 8 (tP 2)), oP 21 (.load none (tP 20)), oP 22 (.addOff 8 (tP 6)), oP 23 (.load none (tP 22)), oP 19 (.app false 0 8 120 (tP 15) (tP 18)), oP 24 (.bin .add (tP 23) (iP 1)), oP 25 (.mnmx true [(tP 21), (tP 24)]), oP 26 (.addOff 0 (tP 2)), oP 27 (.addOff 6 (tP 26)), sP (.store 1 (tP 27) (tP 19)), oP 28 (.addOff 8 (tP 2)), sP (.store 1 (tP 28) (tP 25))]])))
 (.region [oP 29 (.bin .add (tP 9) (iP 1)),
 oP 9 (.mv (tP 29))])))
def B38 : ACode :=
 .seq (.region [oP 2 (.boxn (tP 0)),
 oP 4 (.alloc [.ok (.int .i64 0), .ok (.int .i64 0), .ok (.int .i64 0), .ok (.int .i64 0), .error 1, .ok (.str ⟨#[]⟩), .error 8, .error 14, .ok (.int .i64 0)])])
 (.seq (.seq (.region [oP 7 (.mv (tP 1)),
 oP 8 (.len false (tP 7)),
 oP 9 (.mv (iP 0))])
 (.block 0 (.loop true H38L2 X38L2 B38L2)))
 (.seq (.region [oP 30 (.loadk (some 9) (tP 2)),
 oP 31 (.call (.fn 51) [(tP 30)]),
 sP (.store 9 (tP 4) (tP 31))])
 (.ret)))
def A38 : AFunc := { ntmps := 32, results := [.cellk (some 9) 4], body := B38, coe := true, keep := 0 }
theorem tr38 : trFunc Try.prog M38 true Try.f38 = some A38 := by kernel_rfl
def M39 : Marks := { cut := fun _ => true, hd := fun | _ => [], ex := fun | _ => [], imm := fun | 23 => true | 24 => true | 25 => true | 1000003 => true | 3000000 => true | _ => false }
def B39 : ACode :=
 .seq (.region [oP 2 (.box false (tP 0)),
 oP 3 (.boxn (tP 1)),
 oP 4 (.alloc [.ok (.int .i64 0), .ok (.int .i64 0), .ok (.int .i64 0), .ok (.int .i64 0), .error 1, .ok (.str ⟨#[]⟩), .error 8, .error 14, .ok (.int .i64 0)])])
 (.seq (.region [oP 7 (.load none (tP 2)),
 oP 8 (.call (.fn 26) [(tP 7)]),
 oP 5 (.alloc [.ok (.int .i64 0), .ok (.int .i64 0), .ok (.int .i64 0), .ok (.int .i64 0), .error 1, .ok (.str ⟨#[]⟩), .error 8, .error 14, .ok (.int .i64 0)]),
 sP (.store 9 (tP 5) (tP 8))])
 (.seq (.region [oP 9 (.load none (tP 2)),
 oP 10 (.call (.fn 37) [(tP 9), (.con (.str ⟨#[119, 105, 116, 104]⟩))])])
 (.seq (.region [oP 11 (.load none (tP 2)),
 oP 12 (.call (.fn 34) [(tP 11), (.con (.str ⟨#[124]⟩))])])
 (.seq (.region [oP 6 (.alloc [.ok (.int .i64 0)]),
 sP (.store 1 (tP 6) (iP 0))])
 (.seq (.region [oP 13 (.load none (tP 2)),
 oP 14 (.mkf (.func 53) [] [(tP 2), (tP 6)]),
 oP 15 (.call (.fn 52) [(tP 13), (.con (.str ⟨#[124]⟩)), (iP 32), (tP 14)]),
 oP 16 (.addOff 0 (tP 3)),
 oP 17 (.addOff 7 (tP 16)),
 sP (.store 1 (tP 17) (tP 15))])
 (.seq (.region [oP 18 (.load none (tP 2)),
 oP 19 (.call (.fn 37) [(tP 18), (.con (.str ⟨#[101, 110, 100]⟩))])])
 (.seq (.region [oP 20 (.load none (tP 6)),
 oP 21 (.bin .add (tP 20) (iP 1)),
 oP 22 (.addOff 8 (tP 3)),
 sP (.store 1 (tP 22) (tP 21))])
 (.seq (.region [oP 23 (.loadk (some 9) (tP 3)),
 oP 24 (.loadk (some 9) (tP 5)),
 oP 25 (.lit true 0 9 1 [.int .i64 0, .int .i64 0, .int .i64 0, .int .i64 0, .slice 1 [], .str ⟨#[]⟩, .slice 8 [], .slice 14 [], .int .i64 0] [(0, (tP 24))]),
 oP 26 (.call (.fn 38) [(tP 23), (tP 25)]),
 sP (.store 9 (tP 4) (tP 26))])
 (.ret)))))))))
def A39 : AFunc := { ntmps := 27, results := [.cellk (some 9) 4], body := B39, coe := true, keep := 0 }
theorem tr39 : trFunc Try.prog M39 true Try.f39 = some A39 := by kernel_rfl
def M40 : Marks := { cut := fun _ => true, hd := fun | _ => [], ex := fun | _ => [], imm := fun | 16 => true | 30 => true | 31 => true | 34 => true | 3000000 => true | _ => false, alts := fun | 8 => [[0, 2, 3, 1, 4, 5, 6], [1, 2, 3, 0, 4, 5, 6], [2, 3, 0, 1, 4, 5, 6]] | _ => [] }
def B40 : ACode :=
 .seq (.region [oP 2 (.alloc [.ok (.int .i64 0), .ok (.int .i64 0), .ok (.int .i64 0), .ok (.int .i64 0), .error 1, .ok (.str ⟨#[]⟩), .error 8, .error 14, .ok (.int .i64 0)])])
 (.seq (.region [oP 7 (.mv (tP 0)),
 oP 8 (.call (.fn 55) [(tP 7), (iP 2)]),
 oP 3 (.alloc [.ok (.int .i64 0), .ok (.int .i64 0), .ok (.int .i64 0), .ok (.int .i64 0), .error 1, .ok (.str ⟨#[]⟩), .error 8, .error 14, .ok (.int .i64 0)]),
 sP (.store 9 (tP 3) (tP 8))])
 (.seq (.region [oP 10 (.mv (tP 0)),
 oP 11 (.call (.fn 56) [(tP 10)]),
 oP 9 (.mv (tP 11)),
 oP 12 (.ext 0 (tP 9)),
 oP 13 (.ext 1 (tP 9)),
 oP 4 (.mv (tP 12)),
 oP 5 (.mv (tP 13))])
 (.seq (.seq (.region [oP 14 (.mv (tP 5)),
 oP 15 (.bin .neq (tP 14) (iP 1))])
 (.cond (tP 15) (.seq (.region [oP 16 (.loadk (some 9) (tP 3)),
 sP (.storen 9 (tP 2) (tP 16))])
 (.ret)) (.skip)))
 (.seq (.region [oP 17 (.mv (tP 0)),
 oP 18 (.call (.fn 33) [(tP 17), (iP 9)]),
 oP 6 (.alloc [.ok (.int .i64 0), .ok (.int .i64 0), .ok (.int .i64 0), .ok (.int .i64 0), .error 1, .ok (.str ⟨#[]⟩), .error 8, .error 14, .ok (.int .i64 0)]),
 sP (.store 9 (tP 6) (tP 18))])
 (.seq (.region [oP 19 (.mv (tP 4)),
 oP 20 (.addOff 0 (tP 6)),
 oP 21 (.addOff 3 (tP 20)),
 sP (.store 1 (tP 21) (tP 19))])
 (.seq (.region [oP 22 (.mv (tP 0)),
 oP 23 (.mv (tP 0)),
 oP 24 (.nilchk (tP 23)),
 oP 25 (.addOff 0 (tP 24)),
 oP 26 (.load none (tP 25)),
 oP 27 (.slc 6 (tP 26) (some (iP 1)) none),
 oP 28 (.nilchk (tP 22)),
 oP 29 (.addOff 0 (tP 28)),
 sP (.store 1 (tP 29) (tP 27))])
 (.seq (.draw [oP 30 (.loadk (some 9) (tP 6)),
 oP 31 (.loadk (some 9) (tP 3)),
 oP 32 (.mv (tP 0)),
 oP 33 (.call (.fn 55) [(tP 32), (iP 2)]),
 oP 34 (.lit true 0 9 2 [.int .i64 0, .int .i64 0, .int .i64 0, .int .i64 0, .slice 1 [], .str ⟨#[]⟩, .slice 8 [], .slice 14 [], .int .i64 0] [(0, (tP 31)), (1, (tP 33))]),
 oP 35 (.call (.fn 38) [(tP 30), (tP 34)]),
 sP (.store 9 (tP 2) (tP 35))] [[oP 30 (.loadk (some 9) (tP 6)), oP 32 (.mv (tP 0)), oP 33 (.call (.fn 55) [(tP 32), (iP 2)]), oP 31 (.loadk (some 9) (tP 3)), oP 34 (.lit true 0 9 2 [.int .i64 0, .int .i64 0, .int .i64 0, .int .i64 0, .slice 1 [], .str ⟨#[]⟩, .slice 8 [], .slice 14 [], .int .i64 0] [(0, (tP 31)), (1, (tP 33))]), oP 35 (.call (.fn 38) [(tP 30), (tP 34)]), sP (.store 9 (tP 2) (tP 35))], [oP 31 (.loadk (some 9) (tP 3)), oP 32 (.mv (tP 0)), oP 33 (.call (.fn 55) [(tP 32), (iP 2)]), oP 30 (.loadk (some 9) (tP 6)), oP 34 (.lit true 0 9 2 [.int .i64 0, .int .i64 0, .int .i64 0, .int .i64 0, .slice 1 [], .str ⟨#[]⟩, .slice 8 [], .slice 14 [], .int .i64 0] [(0, (tP 31)), (1, (tP 33))]), oP 35 (.call (.fn 38) [(tP 30), (tP 34)]), sP (.store 9 (tP 2) (tP 35))], [oP 32 (.mv (tP 0)), oP 33 (.call (.fn 55) [(tP 32), (iP 2)]), oP 30 (.loadk (some 9) (tP 6)), oP 31 (.loadk (some 9) (tP 3)), oP 34 (.lit true 0 9 2 [.int .i64 0, .int .i64 0, .int .i64 0, .int .i64 0, .slice 1 [], .str ⟨#[]⟩, .slice 8 [], .slice 14 [], .int .i64 0] [(0, (tP 31)), (1, (tP 33))]), oP 35 (.call (.fn 38) [(tP 30), (tP 34)]), sP (.store 9 (tP 2) (tP 35))]])
 (.ret))))))))
def A40 : AFunc := { ntmps := 36, results := [.cellk (some 9) 2], body := B40, coe := true, keep := 0 }
theorem tr40 : trFunc Try.prog M40 true Try.f40 = some A40 := by kernel_rfl
def M41 : Marks := { cut := fun _ => true, hd := fun | _ => [], ex := fun | _ => [], imm := fun | _ => false }
def B41 : ACode :=
 .seq (.region [oP 2 (.alloc [.ok (.int .i64 0), .ok (.str ⟨#[]⟩), .ok (.int .i64 0), .error 1, .ok (.int .i64 0), .ok (.int .i64 0)])])
 (.seq (.region [oP 3 (.mv (tP 0)),
 oP 4 (.nilchk (tP 3)),
 oP 5 (.addOff 0 (tP 4)),
 oP 6 (.load none (tP 5)),
 oP 7 (.idxAddr 6 (tP 6) (iP 0)),
 oP 8 (.load (some 6) (tP 7)),
 sP (.store 6 (tP 2) (tP 8))])
 (.ret))
def A41 : AFunc := { ntmps := 9, results := [.cell (some 6) 2], body := B41, coe := true, keep := 0 }
theorem tr41 : trFunc Try.prog M41 true Try.f41 = some A41 := by kernel_rfl
def M42 : Marks := { cut := fun _ => true, hd := fun | _ => [], ex := fun | _ => [], imm := fun | _ => false }
def B42 : ACode :=
 .region [oP 2 (.mv (tP 0)),
 oP 3 (.call (.fn 41) [(tP 2)]),
 oP 4 (.fld (some 2) 4 (tP 3)),
 oP 5 (.call (.fn 50) [(iP 7), (tP 4)])]
def A42 : AFunc := { ntmps := 6, results := [], body := B42, coe := true, keep := 0 }
theorem tr42 : trFunc Try.prog M42 true Try.f42 = some A42 := by kernel_rfl
abbrev H43L6 : List Bool := [true, false, false, true, true, true, false, false, false, false, false, false, false, false, false, false, false, false, true]
abbrev X43L6 : List Bool := [false, false, true, true, false, true]
def M43 : Marks := { cut := fun _ => true, hd := fun | 6 => H43L6 | _ => [], ex := fun | 6 => X43L6 | _ => [], imm := fun | 2 => true | 45 => true | _ => false }
def B43L6 : ACode :=
 .seq (.region [oP 19 (.next (tP 18)),
 oP 20 (.ext 0 (tP 19))])
 (.seq (.cond (tP 20) (.skip) (.exit 0))
 (.block 1 (.seq (.region [oP 21 (.ext 1 (tP 19)),
 oP 22 (.ext 2 (tP 19)),
 oP 6 (.mv (tP 21)),
 oP 7 (.mv (tP 22))])
 (.seq (.seq (.region [oP 23 (.mv (tP 7)),
 oP 24 (.bin .eql (tP 23) (.con (.int .i32 65533))),
 oP 25 (.mv (tP 24)),
 gP 26 25 true (.mv (tP 0)),
 gP 27 25 true (.mv (tP 6)),
 gP 28 25 true (.slcStr (tP 26) (some (tP 27)) none),
 gP 29 25 true (.call (.fn 58) [(tP 28), (.con (.str ⟨#[239, 191, 189]⟩))]),
 gP 30 25 true (.un .not (tP 29)),
 oP 31 (.pick (tP 25) (tP 30) (bP false))])
 (.cond (tP 31) (.seq (.draw [oP 32 (.mv (tP 4)),
 oP 33 (.nilchk (tP 32)),
 oP 34 (.addOff 0 (tP 33)),
 oP 35 (.load (some 2) (tP 34)),
 oP 36 (.build [.int .i64 0, .int .i64 0, .int .i64 0] [(0, 1, (iP 1)), (1, 2, (tP 35))]),
 oP 2 (.mv (.con (.slice 4 []))),
 sP (.store 3 (tP 3) (tP 36))] [])
 (.ret)) (.skip)))
 (.seq (.region [oP 37 (.mv (tP 5)),
 oP 38 (.mv (tP 7)),
 oP 39 (.mv (tP 6)),
 oP 40 (.mv (tP 4)),
 oP 41 (.nilchk (tP 40)),
 oP 42 (.addOff 0 (tP 41)),
 oP 43 (.load (some 2) (tP 42)),
 oP 44 (.build [.int .i32 0, .int .i64 0, .int .i64 0, .int .i64 0] [(0, 1, (tP 38)), (1, 1, (tP 39)), (2, 2, (tP 43))]),
 oP 45 (.lit true 0 4 1 [.int .i32 0, .int .i64 0, .int .i64 0, .int .i64 0] [(0, (tP 44))]),
 oP 46 (.app false 0 4 32 (tP 37) (tP 45)),
 oP 5 (.mv (tP 46))])
 (.region [oP 47 (.mv (tP 4)),
 oP 48 (.mv (tP 7)),
 oP 49 (.call (.fn 59) [(tP 47), (tP 48)])]))))))
def B43 : ACode :=
 .seq (.region [oP 2 (.mv (.con (.slice 4 []))),
 oP 3 (.alloc [.ok (.int .i64 0), .ok (.int .i64 0), .ok (.int .i64 0)])])
 (.seq (.region [oP 8 (.call (.fn 57) []),
 oP 4 (.mv (tP 8))])
 (.seq (.seq (.region [oP 9 (.mv (tP 0)),
 oP 10 (.len true (tP 9)),
 oP 11 (.bin .gtr (tP 10) (iP 16384))])
 (.cond (tP 11) (.seq (.draw [oP 12 (.mv (tP 4)),
 oP 13 (.nilchk (tP 12)),
 oP 14 (.addOff 0 (tP 13)),
 oP 15 (.load (some 2) (tP 14)),
 oP 16 (.build [.int .i64 0, .int .i64 0, .int .i64 0] [(0, 1, (iP 5)), (1, 2, (tP 15))]),
 oP 2 (.mv (.con (.slice 4 []))),
 sP (.store 3 (tP 3) (tP 16))] [])
 (.ret)) (.skip)))
 (.seq (.region [oP 5 (.nilrow 4)])
 (.seq (.seq (.region [oP 17 (.mv (tP 0)),
 oP 18 (.rng (tP 17))])
 (.block 0 (.loop true H43L6 X43L6 B43L6)))
 (.seq (.region [oP 50 (.mv (tP 5)),
 oP 51 (.build [.int .i64 0, .int .i64 0, .int .i64 0] []),
 oP 2 (.mv (tP 50)),
 sP (.store 3 (tP 3) (tP 51))])
 (.ret))))))
def A43 : AFunc := { ntmps := 52, results := [.tmp 2, .cell (some 3) 3], body := B43, coe := true, keep := 0 }
theorem tr43 : trFunc Try.prog M43 true Try.f43 = some A43 := by kernel_rfl
abbrev S44R0 : List Bool := []
abbrev S44R1 : List Bool := []
abbrev H44L0 : List Bool := [true]
abbrev X44L0 : List Bool := []
def M44 : Marks := { cut := fun _ => true, hd := fun | 0 => H44L0 | _ => [], ex := fun | 0 => X44L0 | _ => [], imm := fun | _ => false, sn := fun | 0 => [] | _ => [] }
def N44R0 : ACode :=
 .skip
def B44R0 : ACode :=
 .block 3 (.skip)
def N44R1 : ACode :=
 .skip
def B44R1 : ACode :=
 .block 5 (.skip)
def B44L0 : ACode :=
 .block 1 (.seq (.seq (.region [oP 2 (.mv (tP 0)),
 oP 3 (.call (.fn 60) [(tP 2), (.fn 61)])])
 (.block 2 (.rangeFn (tP 3) [4] [] N44R0 B44R0)))
 (.seq (.seq (.region [oP 5 (.mv (tP 0)),
 oP 6 (.call (.fn 62) [(tP 5), (iP 0)]),
 oP 7 (.bin .neq (tP 6) (.con (.int .i32 35)))])
 (.cond (tP 7) (.ret) (.skip)))
 (.seq (.region [oP 8 (.mv (tP 0)),
 oP 9 (.call (.fn 60) [(tP 8), (.fn 63)])])
 (.block 4 (.rangeFn (tP 9) [10] [] N44R1 B44R1)))))
def B44 : ACode :=
 .block 0 (.loop true H44L0 X44L0 B44L0)
def A44 : AFunc := { ntmps := 11, results := [], body := B44, coe := true, keep := 0 }
theorem tr44 : trFunc Try.prog M44 true Try.f44 = some A44 := by kernel_rfl
def M45 : Marks := { cut := fun _ => true, hd := fun | _ => [], ex := fun | _ => [], imm := fun | _ => false }
def B45 : ACode :=
 .seq (.region [oP 2 (.mv (bP false))])
 (.seq (.draw [oP 3 (.mv (tP 0)),
 oP 4 (.nilchk (tP 3)),
 oP 5 (.addOff 1 (tP 4)),
 oP 6 (.load none (tP 5)),
 oP 7 (.mv (tP 0)),
 oP 8 (.nilchk (tP 7)),
 oP 9 (.addOff 0 (tP 8)),
 oP 10 (.load none (tP 9)),
 oP 11 (.len false (tP 10)),
 oP 12 (.bin .geq (tP 6) (tP 11)),
 oP 2 (.mv (tP 12))] [])
 (.ret))
def A45 : AFunc := { ntmps := 13, results := [.tmp 2], body := B45, coe := true, keep := 0 }
theorem tr45 : trFunc Try.prog M45 true Try.f45 = some A45 := by kernel_rfl
def M46 : Marks := { cut := fun _ => true, hd := fun | _ => [], ex := fun | _ => [], imm := fun | _ => false, alts := fun | 1 => [[0, 1, 2, 3, 4, 5, 6, 7, 8, 9, 12, 10, 11, 13], [0, 1, 2, 3, 4, 5, 6, 12, 7, 8, 9, 10, 11, 13], [0, 1, 2, 4, 5, 6, 7, 12, 3, 8, 9, 10, 11, 13], [0, 1, 2, 4, 5, 6, 12, 3, 7, 8, 9, 10, 11, 13]] | _ => [] }
def B46 : ACode :=
 .seq (.region [oP 2 (.alloc [.ok (.int .i64 0), .ok (.str ⟨#[]⟩), .ok (.int .i64 0), .error 1, .ok (.int .i64 0), .ok (.int .i64 0)])])
 (.seq (.draw [oP 5 (.mv (tP 0)),
 oP 6 (.nilchk (tP 5)),
 oP 7 (.addOff 0 (tP 6)),
 oP 8 (.load none (tP 7)),
 oP 9 (.mv (tP 0)),
 oP 10 (.nilchk (tP 9)),
 oP 11 (.addOff 1 (tP 10)),
 oP 12 (.load none (tP 11)),
 oP 13 (.idxAddr 4 (tP 8) (tP 12)),
 oP 14 (.addOff 2 (tP 13)),
 oP 15 (.load (some 2) (tP 14)),
 oP 16 (.build [.int .i64 0, .str ⟨#[]⟩, .int .i64 0, .slice 1 [], .int .i64 0, .int .i64 0] [(4, 2, (tP 15))]),
 oP 3 (.alloc [.ok (.int .i64 0), .ok (.str ⟨#[]⟩), .ok (.int .i64 0), .error 1, .ok (.int .i64 0), .ok (.int .i64 0)]),
 sP (.store 6 (tP 3) (tP 16))] [[oP 5 (.mv (tP 0)), oP 6 (.nilchk (tP 5)), oP 7 (.addOff 0 (tP 6)), oP 8 (.load none (tP 7)), oP 9 (.mv (tP 0)), oP 10 (.nilchk (tP 9)), oP 11 (.addOff 1 (tP 10)), oP 12 (.load none (tP 11)), oP 13 (.idxAddr 4 (tP 8) (tP 12)), oP 14 (.addOff 2 (tP 13)), oP 3 (.alloc [.ok (.int .i64 0), .ok (.str ⟨#[]⟩), .ok (.int .i64 0), .error 1, .ok (.int .i64 0), .ok (.int .i64 0)]), oP 15 (.load (some 2) (tP 14)), oP 16 (.build [.int .i64 0, .str ⟨#[]⟩, .int .i64 0, .slice 1 [], .int .i64 0, .int .i64 0] [(4, 2, (tP 15))]), sP (.store 6 (tP 3) (tP 16))], [oP 5 (.mv (tP 0)), oP 6 (.nilchk (tP 5)), oP 7 (.addOff 0 (tP 6)), oP 8 (.load none (tP 7)), oP 9 (.mv (tP 0)), oP 10 (.nilchk (tP 9)), oP 11 (.addOff 1 (tP 10)), oP 3 (.alloc [.ok (.int .i64 0), .ok (.str ⟨#[]⟩), .ok (.int .i64 0), .error 1, .ok (.int .i64 0), .ok (.int .i64 0)]), oP 12 (.load none (tP 11)), oP 13 (.idxAddr 4 (tP 8) (tP 12)), oP 14 (.addOff 2 (tP 13)), oP 15 (.load (some 2) (tP 14)), oP 16 (.build [.int .i64 0, .str ⟨#[]⟩, .int .i64 0, .slice 1 [], .int .i64 0, .int .i64 0] [(4, 2, (tP 15))]), sP (.store 6 (tP 3) (tP 16))], [oP 5 (.mv (tP 0)), oP 6 (.nilchk (tP 5)), oP 7 (.addOff 0 (tP 6)), oP 9 (.mv (tP 0)), oP 10 (.nilchk (tP 9)), oP 11 (.addOff 1 (tP 10)), oP 12 (.load none (tP 11)), oP 3 (.alloc [.ok (.int .i64 0), .ok (.str ⟨#[]⟩), .ok (.int .i64 0), .error 1, .ok (.int .i64 0), .ok (.int .i64 0)]), oP 8 (.load none (tP 7)), oP 13 (.idxAddr 4 (tP 8) (tP 12)), oP 14 (.addOff 2 (tP 13)), oP 15 (.load (some 2) (tP 14)), oP 16 (.build [.int .i64 0, .str ⟨#[]⟩, .int .i64 0, .slice 1 [], .int .i64 0, .int .i64 0] [(4, 2, (tP 15))]), sP (.store 6 (tP 3) (tP 16))], [oP 5 (.mv (tP 0)), oP 6 (.nilchk (tP 5)), oP 7 (.addOff 0 (tP 6)), oP 9 (.mv (tP 0)), oP 10 (.nilchk (tP 9)), oP 11 (.addOff 1 (tP 10)), oP 3 (.alloc [.ok (.int .i64 0), .ok (.str ⟨#[]⟩), .ok (.int .i64 0), .error 1, .ok (.int .i64 0), .ok (.int .i64 0)]), oP 8 (.load none (tP 7)), oP 12 (.load none (tP 11)), oP 13 (.idxAddr 4 (tP 8) (tP 12)), oP 14 (.addOff 2 (tP 13)), oP 15 (.load (some 2) (tP 14)), oP 16 (.build [.int .i64 0, .str ⟨#[]⟩, .int .i64 0, .slice 1 [], .int .i64 0, .int .i64 0] [(4, 2, (tP 15))]), sP (.store 6 (tP 3) (tP 16))]])
 (.seq (.seq (.region [oP 17 (.mv (tP 0)),
 oP 18 (.call (.fn 62) [(tP 17), (iP 0)]),
 oP 4 (.mv (tP 18))])
 (.block 0 (.seq (.region [oP 22 (.mv (tP 4)),
 oP 23 (.call (.fn 64) [(tP 22)]),
 oP 24 (.mv (tP 23)),
 gP 25 24 false (.mv (tP 4)),
 gP 26 24 false (.call (.fn 65) [(tP 25)]),
 oP 27 (.pick (tP 24) (bP true) (tP 26)),
 oP 21 (.mv (tP 27))])
 (.cond (tP 21) (.region [oP 28 (.mv (tP 0)),
 oP 29 (.call (.fn 66) [(tP 28), (tP 3)])]) (.seq (.region [oP 31 (.mv (tP 4)),
 oP 32 (.call (.fn 67) [(tP 31)]),
 oP 30 (.mv (tP 32))])
 (.cond (tP 30) (.region [oP 33 (.mv (tP 0)),
 oP 34 (.call (.fn 68) [(tP 33), (tP 3)])]) (.seq (.region [oP 36 (.mv (tP 4)),
 oP 37 (.bin .eql (tP 36) (.con (.int .i32 34))),
 oP 35 (.mv (tP 37))])
 (.cond (tP 35) (.region [oP 38 (.mv (tP 0)),
 oP 39 (.call (.fn 69) [(tP 38), (tP 3)])]) (.region [oP 19 (.mv (tP 0)),
 oP 20 (.call (.fn 70) [(tP 19), (tP 3)])])))))))))
 (.seq (.region [oP 40 (.load (some 6) (tP 3)),
 sP (.store 6 (tP 2) (tP 40))])
 (.ret))))
def A46 : AFunc := { ntmps := 41, results := [.cell (some 6) 2], body := B46, coe := true, keep := 0 }
theorem tr46 : trFunc Try.prog M46 true Try.f46 = some A46 := by kernel_rfl
def M47 : Marks := { cut := fun _ => true, hd := fun | _ => [], ex := fun | _ => [], imm := fun | 5 => true | _ => false }
def B47 : ACode :=
 .seq (.region [oP 5 (.box true (tP 2))])
 (.seq (.region [oP 6 (.mv (tP 0)),
 oP 7 (.nilchk (tP 6)),
 oP 8 (.addOff 2 (tP 7)),
 oP 9 (.addOff 0 (tP 8)),
 oP 10 (.load none (tP 9)),
 oP 11 (.bin .eql (tP 10) (iP 0))])
 (.cond (tP 11) (.region [oP 12 (.mv (tP 0)),
 oP 13 (.mv (tP 1)),
 oP 14 (.load (some 2) (tP 5)),
 oP 15 (.build [.int .i64 0, .int .i64 0, .int .i64 0] [(0, 1, (tP 13)), (1, 2, (tP 14))]),
 oP 16 (.nilchk (tP 12)),
 oP 17 (.addOff 2 (tP 16)),
 sP (.store 3 (tP 17) (tP 15))]) (.skip)))
def A47 : AFunc := { ntmps := 18, results := [], body := B47, coe := true, keep := 0 }
theorem tr47 : trFunc Try.prog M47 true Try.f47 = some A47 := by kernel_rfl
abbrev H48L6 : List Bool := [true, true, false, false, true, true, true, false, false, false, false, false, false, false, false, true]
abbrev X48L6 : List Bool := [true, true, false, false, true, true, true]
def M48 : Marks := { cut := fun _ => true, hd := fun | 6 => H48L6 | _ => [], ex := fun | 6 => X48L6 | _ => [], imm := fun | _ => false }
def B48L6 : ACode :=
 .seq (.region [oP 16 (.next (tP 15)),
 oP 17 (.ext 0 (tP 16))])
 (.seq (.cond (tP 17) (.skip) (.exit 0))
 (.block 1 (.seq (.region [oP 18 (.ext 1 (tP 16)),
 oP 19 (.ext 2 (tP 16)),
 oP 7 (.mv (tP 18)),
 oP 8 (.mv (tP 19))])
 (.seq (.seq (.region [oP 20 (.mv (tP 7)),
 oP 21 (.bin .gtr (tP 20) (iP 0))])
 (.cond (tP 21) (.seq (.seq (.region [oP 22 (.mv (tP 1)),
 oP 23 (.mv (tP 7)),
 oP 24 (.bin .lss (tP 22) (tP 23))])
 (.cond (tP 24) (.seq (.region [oP 25 (.mv (tP 5)),
 oP 26 (.nilchk (tP 25)),
 oP 27 (.addOff 0 (tP 26)),
 oP 28 (.load (some 2) (tP 27)),
 sP (.store 2 (tP 4) (tP 28))])
 (.ret)) (.skip)))
 (.region [oP 29 (.mv (tP 5)),
 oP 30 (.mv (tP 6)),
 oP 31 (.call (.fn 59) [(tP 29), (tP 30)])])) (.skip)))
 (.region [oP 32 (.mv (tP 8)),
 oP 6 (.mv (tP 32))])))))
def B48 : ACode :=
 .seq (.region [oP 4 (.alloc [.ok (.int .i64 0), .ok (.int .i64 0)])])
 (.seq (.seq (.region [oP 9 (.mv (tP 0)),
 oP 10 (.len true (tP 9)),
 oP 11 (.bin .gtr (tP 10) (iP 16384))])
 (.cond (tP 11) (.seq (.region [oP 12 (.build [.int .i64 0, .int .i64 0] []),
 sP (.store 2 (tP 4) (tP 12))])
 (.ret)) (.skip)))
 (.seq (.region [oP 13 (.call (.fn 57) []),
 oP 5 (.mv (tP 13))])
 (.seq (.region [oP 6 (.mv (.con (.int .i32 0)))])
 (.seq (.seq (.region [oP 14 (.mv (tP 0)),
 oP 15 (.rng (tP 14))])
 (.block 0 (.loop true H48L6 X48L6 B48L6)))
 (.seq (.seq (.region [oP 33 (.mv (tP 0)),
 oP 34 (.bin .neq (tP 33) (.con (.str ⟨#[]⟩))),
 oP 35 (.mv (tP 34)),
 gP 36 35 true (.mv (tP 1)),
 gP 37 35 true (.mv (tP 0)),
 gP 38 35 true (.len true (tP 37)),
 gP 39 35 true (.bin .geq (tP 36) (tP 38)),
 oP 40 (.pick (tP 35) (tP 39) (bP false))])
 (.cond (tP 40) (.region [oP 41 (.mv (tP 5)),
 oP 42 (.mv (tP 6)),
 oP 43 (.call (.fn 59) [(tP 41), (tP 42)])]) (.skip)))
 (.seq (.region [oP 44 (.mv (tP 5)),
 oP 45 (.nilchk (tP 44)),
 oP 46 (.addOff 0 (tP 45)),
 oP 47 (.load (some 2) (tP 46)),
 sP (.store 2 (tP 4) (tP 47))])
 (.ret)))))))
def A48 : AFunc := { ntmps := 48, results := [.cell (some 2) 4], body := B48, coe := true, keep := 0 }
theorem tr48 : trFunc Try.prog M48 true Try.f48 = some A48 := by kernel_rfl
def M49 : Marks := { cut := fun _ => true, hd := fun | _ => [], ex := fun | _ => [], imm := fun | _ => false }
def B49 : ACode :=
 .seq (.region [oP 4 (.mv (bP false))])
 (.seq (.region [oP 6 (.mv (tP 0)),
 oP 7 (.call (.fn 41) [(tP 6)]),
 oP 5 (.alloc [.ok (.int .i64 0), .ok (.str ⟨#[]⟩), .ok (.int .i64 0), .error 1, .ok (.int .i64 0), .ok (.int .i64 0)]),
 sP (.store 6 (tP 5) (tP 7))])
 (.seq (.region [oP 8 (.addOff 1 (tP 5)),
 oP 9 (.load none (tP 8)),
 oP 10 (.mv (tP 1)),
 oP 11 (.bin .eql (tP 9) (tP 10)),
 oP 12 (.mv (tP 11)),
 gP 13 12 true (.addOff 0 (tP 5)),
 gP 14 12 true (.load none (tP 13)),
 gP 15 12 true (.bin .eql (tP 14) (iP 5)),
 gP 16 12 true (.mv (tP 15)),
 gP 17 16 false (.addOff 0 (tP 5)),
 gP 18 16 false (.load none (tP 17)),
 gP 19 16 false (.bin .eql (tP 18) (iP 6)),
 gP 20 12 true (.pick (tP 16) (bP true) (tP 19)),
 oP 21 (.pick (tP 12) (tP 20) (bP false)),
 oP 4 (.mv (tP 21))])
 (.ret)))
def A49 : AFunc := { ntmps := 22, results := [.tmp 4], body := B49, coe := true, keep := 0 }
theorem tr49 : trFunc Try.prog M49 true Try.f49 = some A49 := by kernel_rfl
def M50 : Marks := { cut := fun _ => true, hd := fun | _ => [], ex := fun | _ => [], imm := fun | 3 => true | _ => false }
def B50 : ACode :=
 .seq (.region [oP 3 (.box true (tP 1))])
 (.region [oP 4 (.mv (tP 0)),
 oP 5 (.load (some 2) (tP 3)),
 oP 6 (.build [.int .i64 0, .int .i64 0, .int .i64 0] [(0, 1, (tP 4)), (1, 2, (tP 5))]),
 oP 7 (.build [.int .i64 0, .int .i64 0, .int .i64 0] [(0, 3, (tP 6))]),
 oP 8 (.mki 105 (tP 7)),
 sP (.panic (tP 8))])
def A50 : AFunc := { ntmps := 9, results := [], body := B50, coe := true, keep := 0 }
theorem tr50 : trFunc Try.prog M50 true Try.f50 = some A50 := by kernel_rfl
def M51 : Marks := { cut := fun _ => true, hd := fun | _ => [], ex := fun | _ => [], imm := fun | 1 => true | _ => false }
def B51 : ACode :=
 .seq (.region [oP 1 (.box true (tP 0)),
 oP 2 (.alloc [.ok (.int .i64 0), .ok (.int .i64 0), .ok (.int .i64 0), .ok (.int .i64 0), .error 1, .ok (.str ⟨#[]⟩), .error 8, .error 14, .ok (.int .i64 0)])])
 (.seq (.seq (.region [oP 3 (.addOff 8 (tP 1)),
 oP 4 (.load none (tP 3)),
 oP 5 (.bin .gtr (tP 4) (iP 64))])
 (.cond (tP 5) (.region [oP 6 (.addOff 0 (tP 1)),
 oP 7 (.addOff 1 (tP 6)),
 oP 8 (.load (some 2) (tP 7)),
 oP 9 (.call (.fn 50) [(iP 6), (tP 8)])]) (.skip)))
 (.seq (.region [oP 10 (.load (some 9) (tP 1)),
 sP (.store 9 (tP 2) (tP 10))])
 (.ret)))
def A51 : AFunc := { ntmps := 11, results := [.cell (some 9) 2], body := B51, coe := true, keep := 0 }
theorem tr51 : trFunc Try.prog M51 true Try.f51 = some A51 := by kernel_rfl
abbrev H52L2 : List Bool := [true, true, true, true, false, false, false, false, false, true]
abbrev X52L2 : List Bool := [false, false, false, false, false, false, false, false, true]
def M52 : Marks := { cut := fun _ => true, hd := fun | 2 => H52L2 | _ => [], ex := fun | 2 => X52L2 | _ => [], imm := fun | 8 => true | 21 => true | _ => false }
def B52L2 : ACode :=
 .block 1 (.seq (.seq (.region [oP 10 (.mv (tP 9)),
 oP 11 (.len false (tP 10)),
 oP 12 (.mv (tP 2)),
 oP 13 (.bin .eql (tP 11) (tP 12))])
 (.cond (tP 13) (.region [oP 14 (.mv (tP 0)),
 oP 15 (.call (.fn 41) [(tP 14)]),
 oP 16 (.fld (some 2) 4 (tP 15)),
 oP 17 (.call (.fn 50) [(iP 27), (tP 16)])]) (.skip)))
 (.seq (.region [oP 18 (.mv (tP 9)),
 oP 19 (.mv (tP 3)),
 oP 20 (.call (tP 19) []),
 oP 21 (.lit true 0 14 1 [.int .i64 0, .int .i64 0, .int .i64 0, .str ⟨#[]⟩, .int .i64 0, .slice 6 [], .int .i64 0, .int .i64 0, .int .i64 0, .int .i64 0, .slice 1 [], .str ⟨#[]⟩, .slice 8 [], .slice 14 []] [(0, (tP 20))]),
 oP 22 (.app false 0 14 192 (tP 18) (tP 21)),
 oP 9 (.mv (tP 22))])
 (.seq (.region [oP 23 (.mv (tP 0)),
 oP 24 (.mv (tP 1)),
 oP 25 (.call (.fn 34) [(tP 23), (tP 24)]),
 oP 26 (.un .not (tP 25))])
 (.cond (tP 26) (.seq (.region [oP 27 (.mv (tP 9)),
 oP 8 (.mv (tP 27))])
 (.ret)) (.skip)))))
def B52 : ACode :=
 .seq (.region [oP 8 (.mv (.con (.slice 14 [])))])
 (.seq (.region [oP 9 (.nilrow 14)])
 (.block 0 (.loop true H52L2 X52L2 B52L2)))
def A52 : AFunc := { ntmps := 28, results := [.tmp 8], body := B52, coe := true, keep := 0 }
theorem tr52 : trFunc Try.prog M52 true Try.f52 = some A52 := by kernel_rfl
def M53 : Marks := { cut := fun _ => true, hd := fun | _ => [], ex := fun | _ => [], imm := fun | _ => false }
def B53 : ACode :=
 .seq (.region [oP 2 (.alloc [.ok (.int .i64 0), .ok (.int .i64 0), .ok (.int .i64 0), .ok (.str ⟨#[]⟩), .ok (.int .i64 0), .error 6, .ok (.int .i64 0), .ok (.int .i64 0), .ok (.int .i64 0), .ok (.int .i64 0), .error 1, .ok (.str ⟨#[]⟩), .error 8, .error 14])])
 (.seq (.region [oP 5 (.load none (tP 0)),
 oP 6 (.call (.fn 54) [(tP 5)]),
 oP 3 (.alloc [.ok (.int .i64 0), .ok (.int .i64 0), .ok (.int .i64 0), .ok (.str ⟨#[]⟩), .ok (.int .i64 0), .error 6, .ok (.int .i64 0)]),
 sP (.store 7 (tP 3) (tP 6))])
 (.seq (.region [oP 7 (.load none (tP 0)),
 oP 8 (.call (.fn 37) [(tP 7), (.con (.str ⟨#[45, 62]⟩))])])
 (.seq (.region [oP 9 (.load none (tP 0)),
 oP 10 (.call (.fn 26) [(tP 9)]),
 oP 4 (.alloc [.ok (.int .i64 0), .ok (.int .i64 0), .ok (.int .i64 0), .ok (.int .i64 0), .error 1, .ok (.str ⟨#[]⟩), .error 8, .error 14, .ok (.int .i64 0)]),
 sP (.store 9 (tP 4) (tP 10))])
 (.seq (.region [oP 11 (.load none (tP 1)),
 oP 12 (.addOff 6 (tP 3)),
 oP 13 (.load none (tP 12)),
 oP 14 (.addOff 8 (tP 4)),
 oP 15 (.load none (tP 14)),
 oP 16 (.mnmx true [(tP 11), (tP 13), (tP 15)]),
 sP (.store 1 (tP 1) (tP 16))])
 (.seq (.region [oP 17 (.addOff 0 (tP 3)),
 oP 18 (.load (some 6) (tP 17)),
 oP 19 (.addOff 0 (tP 4)),
 oP 20 (.load (some 8) (tP 19)),
 oP 21 (.build [.int .i64 0, .int .i64 0, .int .i64 0, .str ⟨#[]⟩, .int .i64 0, .slice 6 [], .int .i64 0, .int .i64 0, .int .i64 0, .int .i64 0, .slice 1 [], .str ⟨#[]⟩, .slice 8 [], .slice 14 []] [(0, 6, (tP 18)), (6, 8, (tP 20))]),
 sP (.store 14 (tP 2) (tP 21))])
 (.ret))))))
def A53 : AFunc := { ntmps := 22, results := [.cell (some 14) 2], body := B53, coe := true, keep := 0 }
theorem tr53 : trFunc Try.prog M53 true Try.f53 = some A53 := by kernel_rfl
def M54 : Marks := { cut := fun _ => true, hd := fun | _ => [], ex := fun | _ => [], imm := fun | 12 => true | 13 => true | 25 => true | 55 => true | 73 => true | 76 => true | 79 => true | 3000000 => true | _ => false, alts := fun | 14 => [[1, 2, 3, 4, 0, 5, 6]] | _ => [] }
def B54 : ACode :=
 .seq (.region [oP 2 (.alloc [.ok (.int .i64 0), .ok (.int .i64 0), .ok (.int .i64 0), .ok (.str ⟨#[]⟩), .ok (.int .i64 0), .error 6, .ok (.int .i64 0)])])
 (.seq (.region [oP 8 (.mv (tP 0)),
 oP 9 (.call (.fn 41) [(tP 8)]),
 oP 3 (.alloc [.ok (.int .i64 0), .ok (.str ⟨#[]⟩), .ok (.int .i64 0), .error 1, .ok (.int .i64 0), .ok (.int .i64 0)]),
 sP (.store 6 (tP 3) (tP 9))])
 (.seq (.region [oP 10 (.addOff 4 (tP 3)),
 oP 11 (.load (some 2) (tP 10)),
 oP 12 (.build [.int .i64 0, .int .i64 0, .int .i64 0, .str ⟨#[]⟩, .int .i64 0, .nils 6] [(1, 2, (tP 11))]),
 oP 13 (.build [.int .i64 0, .int .i64 0, .int .i64 0, .str ⟨#[]⟩, .int .i64 0, .nils 6, .int .i64 0] [(0, 6, (tP 12)), (6, 1, (iP 1))]),
 oP 4 (.alloc [.ok (.int .i64 0), .ok (.int .i64 0), .ok (.int .i64 0), .ok (.str ⟨#[]⟩), .ok (.int .i64 0), .error 6, .ok (.int .i64 0)]),
 sP (.storen 7 (tP 4) (tP 13))])
 (.seq (.seq (.region [oP 15 (.mv (tP 0)),
 oP 16 (.call (.fn 71) [(tP 15)]),
 oP 14 (.mv (tP 16)),
 oP 17 (.ext 0 (tP 14)),
 oP 18 (.ext 1 (tP 14)),
 oP 5 (.mv (tP 17)),
 oP 6 (.mv (tP 18))])
 (.seq (.region [oP 19 (.mv (tP 6))])
 (.cond (tP 19) (.seq (.region [oP 20 (.mv (tP 5)),
 oP 21 (.addOff 0 (tP 4)),
 oP 22 (.addOff 0 (tP 21)),
 sP (.store 1 (tP 22) (iP 2)),
 oP 23 (.addOff 0 (tP 4)),
 oP 24 (.addOff 4 (tP 23)),
 sP (.store 1 (tP 24) (tP 20))])
 (.seq (.region [oP 25 (.loadk (some 7) (tP 4)),
 sP (.storen 7 (tP 2) (tP 25))])
 (.ret))) (.skip))))
 (.seq (.block 0 (.seq (.region [oP 29 (.mv (tP 0)),
 oP 30 (.call (.fn 34) [(tP 29), (.con (.str ⟨#[95]⟩))]),
 oP 28 (.mv (tP 30))])
 (.cond (tP 28) (.skip) (.seq (.region [oP 32 (.addOff 0 (tP 3)),
 oP 33 (.load none (tP 32)),
 oP 34 (.bin .eql (tP 33) (iP 1)),
 oP 31 (.mv (tP 34))])
 (.cond (tP 31) (.region [oP 35 (.mv (tP 0)),
 oP 36 (.call (.fn 27) [(tP 35), (iP 1)]),
 oP 37 (.fld none 1 (tP 36)),
 oP 38 (.addOff 0 (tP 4)),
 oP 39 (.addOff 0 (tP 38)),
 sP (.store 1 (tP 39) (iP 1)),
 oP 40 (.addOff 0 (tP 4)),
 oP 41 (.addOff 3 (tP 40)),
 sP (.store 1 (tP 41) (tP 37))]) (.seq (.region [oP 43 (.addOff 0 (tP 3)),
 oP 44 (.load none (tP 43)),
 oP 45 (.bin .eql (tP 44) (iP 2)),
 oP 42 (.mv (tP 45))])
 (.cond (tP 42) (.seq (.region [oP 46 (.mv (tP 0)),
 oP 47 (.call (.fn 27) [(tP 46), (iP 2)]),
 oP 48 (.fld none 1 (tP 47)),
 oP 49 (.addOff 0 (tP 4)),
 oP 50 (.addOff 0 (tP 49)),
 sP (.store 1 (tP 50) (iP 3)),
 oP 51 (.addOff 0 (tP 4)),
 oP 52 (.addOff 3 (tP 51)),
 sP (.store 1 (tP 52) (tP 48))])
 (.seq (.region [oP 53 (.mv (tP 0)),
 oP 54 (.call (.fn 34) [(tP 53), (.con (.str ⟨#[40]⟩))])])
 (.cond (tP 54) (.seq (.draw [oP 55 (.loadk (some 7) (tP 4)),
 oP 56 (.mv (tP 0)),
 oP 57 (.mv (tP 0)),
 oP 58 (.mkf (.func 54) [(tP 57)] []),
 oP 59 (.call (.fn 73) [(tP 56), (iP 6), (tP 58)]),
 oP 60 (.call (.fn 72) [(tP 55), (tP 59)]),
 sP (.store 7 (tP 2) (tP 60))] [[oP 56 (.mv (tP 0)), oP 57 (.mv (tP 0)), oP 58 (.mkf (.func 54) [(tP 57)] []), oP 59 (.call (.fn 73) [(tP 56), (iP 6), (tP 58)]), oP 55 (.loadk (some 7) (tP 4)), oP 60 (.call (.fn 72) [(tP 55), (tP 59)]), sP (.store 7 (tP 2) (tP 60))]])
 (.ret)) (.skip)))) (.seq (.region [oP 62 (.mv (tP 0)),
 oP 63 (.call (.fn 34) [(tP 62), (.con (.str ⟨#[40]⟩))]),
 oP 61 (.mv (tP 63))])
 (.cond (tP 61) (.seq (.region [oP 64 (.mv (tP 0)),
 oP 65 (.mv (tP 0)),
 oP 66 (.mkf (.func 54) [(tP 65)] []),
 oP 67 (.call (.fn 73) [(tP 64), (iP 6), (tP 66)]),
 oP 7 (.mv (tP 67))])
 (.seq (.seq (.region [oP 68 (.mv (tP 7)),
 oP 69 (.len false (tP 68)),
 oP 70 (.bin .eql (tP 69) (iP 1))])
 (.cond (tP 70) (.seq (.region [oP 71 (.mv (tP 7)),
 oP 72 (.idxAddr 7 (tP 71) (iP 0)),
 oP 73 (.loadk (some 7) (tP 72)),
 sP (.storen 7 (tP 2) (tP 73))])
 (.ret)) (.skip)))
 (.seq (.region [oP 74 (.addOff 0 (tP 4)),
 oP 75 (.addOff 0 (tP 74)),
 sP (.store 1 (tP 75) (iP 4))])
 (.seq (.region [oP 76 (.loadk (some 7) (tP 4)),
 oP 77 (.mv (tP 7)),
 oP 78 (.call (.fn 72) [(tP 76), (tP 77)]),
 sP (.store 7 (tP 2) (tP 78))])
 (.ret))))) (.region [oP 26 (.mv (tP 0)),
 oP 27 (.call (.fn 42) [(tP 26)])]))))))))))
 (.seq (.region [oP 79 (.loadk (some 7) (tP 4)),
 sP (.storen 7 (tP 2) (tP 79))])
 (.ret))))))
def A54 : AFunc := { ntmps := 80, results := [.cellk (some 7) 2], body := B54, coe := true, keep := 0 }
theorem tr54 : trFunc Try.prog M54 true Try.f54 = some A54 := by kernel_rfl
abbrev H55L2 : List Bool := [true, true, false, false, true, true]
abbrev X55L2 : List Bool := [false, false, false, false, true]
def M55 : Marks := { cut := fun _ => true, hd := fun | 2 => H55L2 | _ => [], ex := fun | 2 => X55L2 | _ => [], imm := fun | 23 => true | 37 => true | 38 => true | 43 => true | 3000000 => true | _ => false, alts := fun | 8 => [[0, 2, 3, 4, 5, 1, 6, 7, 8], [1, 2, 3, 4, 5, 0, 6, 7, 8], [2, 3, 4, 5, 0, 1, 6, 7, 8]] | _ => [] }
def B55L2 : ACode :=
 .block 1 (.seq (.region [oP 12 (.mv (tP 0)),
 oP 13 (.call (.fn 56) [(tP 12)]),
 oP 11 (.mv (tP 13)),
 oP 14 (.ext 0 (tP 11)),
 oP 15 (.ext 1 (tP 11)),
 oP 6 (.mv (tP 14)),
 oP 7 (.mv (tP 15))])
 (.seq (.seq (.region [oP 16 (.mv (tP 7)),
 oP 17 (.bin .eql (tP 16) (iP 0)),
 oP 18 (.mv (tP 17)),
 gP 19 18 false (.mv (tP 7)),
 gP 20 18 false (.mv (tP 1)),
 gP 21 18 false (.bin .lss (tP 19) (tP 20)),
 oP 22 (.pick (tP 18) (bP true) (tP 21))])
 (.cond (tP 22) (.seq (.region [oP 23 (.loadk (some 9) (tP 5)),
 sP (.storen 9 (tP 4) (tP 23))])
 (.ret)) (.skip)))
 (.seq (.region [oP 24 (.mv (tP 0)),
 oP 25 (.call (.fn 33) [(tP 24), (iP 9)]),
 oP 8 (.alloc [.ok (.int .i64 0), .ok (.int .i64 0), .ok (.int .i64 0), .ok (.int .i64 0), .error 1, .ok (.str ⟨#[]⟩), .error 8, .error 14, .ok (.int .i64 0)]),
 sP (.store 9 (tP 8) (tP 25))])
 (.seq (.region [oP 26 (.mv (tP 6)),
 oP 27 (.addOff 0 (tP 8)),
 oP 28 (.addOff 3 (tP 27)),
 sP (.store 1 (tP 28) (tP 26))])
 (.seq (.region [oP 29 (.mv (tP 0)),
 oP 30 (.mv (tP 0)),
 oP 31 (.nilchk (tP 30)),
 oP 32 (.addOff 0 (tP 31)),
 oP 33 (.load none (tP 32)),
 oP 34 (.slc 6 (tP 33) (some (iP 1)) none),
 oP 35 (.nilchk (tP 29)),
 oP 36 (.addOff 0 (tP 35)),
 sP (.store 1 (tP 36) (tP 34))])
 (.draw [oP 37 (.loadk (some 9) (tP 8)),
 oP 38 (.loadk (some 9) (tP 5)),
 oP 39 (.mv (tP 0)),
 oP 40 (.mv (tP 7)),
 oP 41 (.bin .add (tP 40) (iP 1)),
 oP 42 (.call (.fn 55) [(tP 39), (tP 41)]),
 oP 43 (.lit true 0 9 2 [.int .i64 0, .int .i64 0, .int .i64 0, .int .i64 0, .slice 1 [], .str ⟨#[]⟩, .slice 8 [], .slice 14 [], .int .i64 0] [(0, (tP 38)), (1, (tP 42))]),
 oP 44 (.call (.fn 38) [(tP 37), (tP 43)]),
 sP (.store 9 (tP 5) (tP 44))] [[oP 37 (.loadk (some 9) (tP 8)), oP 39 (.mv (tP 0)), oP 40 (.mv (tP 7)), oP 41 (.bin .add (tP 40) (iP 1)), oP 42 (.call (.fn 55) [(tP 39), (tP 41)]), oP 38 (.loadk (some 9) (tP 5)), oP 43 (.lit true 0 9 2 [.int .i64 0, .int .i64 0, .int .i64 0, .int .i64 0, .slice 1 [], .str ⟨#[]⟩, .slice 8 [], .slice 14 [], .int .i64 0] [(0, (tP 38)), (1, (tP 42))]), oP 44 (.call (.fn 38) [(tP 37), (tP 43)]), sP (.store 9 (tP 5) (tP 44))], [oP 38 (.loadk (some 9) (tP 5)), oP 39 (.mv (tP 0)), oP 40 (.mv (tP 7)), oP 41 (.bin .add (tP 40) (iP 1)), oP 42 (.call (.fn 55) [(tP 39), (tP 41)]), oP 37 (.loadk (some 9) (tP 8)), oP 43 (.lit true 0 9 2 [.int .i64 0, .int .i64 0, .int .i64 0, .int .i64 0, .slice 1 [], .str ⟨#[]⟩, .slice 8 [], .slice 14 [], .int .i64 0] [(0, (tP 38)), (1, (tP 42))]), oP 44 (.call (.fn 38) [(tP 37), (tP 43)]), sP (.store 9 (tP 5) (tP 44))], [oP 39 (.mv (tP 0)), oP 40 (.mv (tP 7)), oP 41 (.bin .add (tP 40) (iP 1)), oP 42 (.call (.fn 55) [(tP 39), (tP 41)]), oP 37 (.loadk (some 9) (tP 8)), oP 38 (.loadk (some 9) (tP 5)), oP 43 (.lit true 0 9 2 [.int .i64 0, .int .i64 0, .int .i64 0, .int .i64 0, .slice 1 [], .str ⟨#[]⟩, .slice 8 [], .slice 14 [], .int .i64 0] [(0, (tP 38)), (1, (tP 42))]), oP 44 (.call (.fn 38) [(tP 37), (tP 43)]), sP (.store 9 (tP 5) (tP 44))]]))))))
def B55 : ACode :=
 .seq (.region [oP 4 (.alloc [.ok (.int .i64 0), .ok (.int .i64 0), .ok (.int .i64 0), .ok (.int .i64 0), .error 1, .ok (.str ⟨#[]⟩), .error 8, .error 14, .ok (.int .i64 0)])])
 (.seq (.region [oP 9 (.mv (tP 0)),
 oP 10 (.call (.fn 74) [(tP 9)]),
 oP 5 (.alloc [.ok (.int .i64 0), .ok (.int .i64 0), .ok (.int .i64 0), .ok (.int .i64 0), .error 1, .ok (.str ⟨#[]⟩), .error 8, .error 14, .ok (.int .i64 0)]),
 sP (.store 9 (tP 5) (tP 10))])
 (.block 0 (.loop true H55L2 X55L2 B55L2)))
def A55 : AFunc := { ntmps := 45, results := [.cellk (some 9) 4], body := B55, coe := true, keep := 0 }
theorem tr55 : trFunc Try.prog M55 true Try.f55 = some A55 := by kernel_rfl
def M56 : Marks := { cut := fun _ => true, hd := fun | _ => [], ex := fun | _ => [], imm := fun | _ => false }
def B56 : ACode :=
 .seq (.region [oP 2 (.mv (iP 0)),
 oP 3 (.mv (iP 0))])
 (.seq (.region [oP 5 (.mv (tP 0)),
 oP 6 (.call (.fn 41) [(tP 5)]),
 oP 4 (.alloc [.ok (.int .i64 0), .ok (.str ⟨#[]⟩), .ok (.int .i64 0), .error 1, .ok (.int .i64 0), .ok (.int .i64 0)]),
 sP (.store 6 (tP 4) (tP 6))])
 (.seq (.seq (.region [oP 7 (.addOff 0 (tP 4)),
 oP 8 (.load none (tP 7)),
 oP 9 (.bin .neq (tP 8) (iP 6))])
 (.cond (tP 9) (.seq (.region [oP 2 (.mv (iP 0)),
 oP 3 (.mv (iP 0))])
 (.ret)) (.skip)))
 (.seq (.seq (.region [oP 10 (.addOff 1 (tP 4)),
 oP 11 (.load none (tP 10))])
 (.block 0 (.seq (.region [oP 13 (.bin .eql (tP 11) (.con (.str ⟨#[60]⟩))),
 oP 12 (.mv (tP 13))])
 (.cond (tP 12) (.seq (.region [oP 2 (.mv (iP 5)),
 oP 3 (.mv (iP 1))])
 (.ret)) (.seq (.region [oP 15 (.bin .eql (tP 11) (.con (.str ⟨#[60, 61]⟩))),
 oP 14 (.mv (tP 15))])
 (.cond (tP 14) (.seq (.region [oP 2 (.mv (iP 6)),
 oP 3 (.mv (iP 1))])
 (.ret)) (.seq (.region [oP 17 (.bin .eql (tP 11) (.con (.str ⟨#[61, 61]⟩))),
 oP 16 (.mv (tP 17))])
 (.cond (tP 16) (.seq (.region [oP 2 (.mv (iP 7)),
 oP 3 (.mv (iP 1))])
 (.ret)) (.seq (.region [oP 19 (.bin .eql (tP 11) (.con (.str ⟨#[43]⟩))),
 oP 18 (.mv (tP 19))])
 (.cond (tP 18) (.seq (.region [oP 2 (.mv (iP 0)),
 oP 3 (.mv (iP 2))])
 (.ret)) (.seq (.region [oP 21 (.bin .eql (tP 11) (.con (.str ⟨#[45]⟩))),
 oP 20 (.mv (tP 21))])
 (.cond (tP 20) (.seq (.region [oP 2 (.mv (iP 1)),
 oP 3 (.mv (iP 2))])
 (.ret)) (.seq (.region [oP 23 (.bin .eql (tP 11) (.con (.str ⟨#[42]⟩))),
 oP 22 (.mv (tP 23))])
 (.cond (tP 22) (.seq (.region [oP 2 (.mv (iP 2)),
 oP 3 (.mv (iP 3))])
 (.ret)) (.seq (.region [oP 25 (.bin .eql (tP 11) (.con (.str ⟨#[47]⟩))),
 oP 24 (.mv (tP 25))])
 (.cond (tP 24) (.seq (.region [oP 2 (.mv (iP 3)),
 oP 3 (.mv (iP 3))])
 (.ret)) (.seq (.region [oP 27 (.bin .eql (tP 11) (.con (.str ⟨#[37]⟩))),
 oP 26 (.mv (tP 27))])
 (.cond (tP 26) (.seq (.region [oP 2 (.mv (iP 4)),
 oP 3 (.mv (iP 3))])
 (.ret)) (.skip)))))))))))))))))))
 (.seq (.region [oP 2 (.mv (iP 0)),
 oP 3 (.mv (iP 0))])
 (.ret)))))
def A56 : AFunc := { ntmps := 28, results := [.tmp 2, .tmp 3], body := B56, coe := true, keep := 0 }
theorem tr56 : trFunc Try.prog M56 true Try.f56 = some A56 := by kernel_rfl
def M57 : Marks := { cut := fun _ => true, hd := fun | _ => [], ex := fun | _ => [], imm := fun | _ => false, keep := 1 }
def B57 : ACode :=
 .seq (.region [oP 0 (.mv (.con (.nilp)))])
 (.seq (.region [oP 1 (.build [.int .i64 0, .int .i64 0] [(0, 1, (iP 1)), (1, 1, (iP 1))]),
 oP 2 (.build [.int .i64 0, .int .i64 0] [(0, 2, (tP 1))]),
 oP 3 (.box false (tP 2)),
 oP 0 (.mv (tP 3))])
 (.ret))
def A57 : AFunc := { ntmps := 4, results := [.tmp 0], body := B57, coe := true, keep := 1 }
theorem tr57 : trFunc Try.prog M57 true Try.f57 = some A57 := by kernel_rfl
def M58 : Marks := { cut := fun _ => true, hd := fun | _ => [], ex := fun | _ => [], imm := fun | _ => false }
def B58 : ACode :=
 .seq (.region [oP 4 (.mv (bP false))])
 (.seq (.region [oP 5 (.mv (tP 0)),
 oP 6 (.mv (tP 1)),
 oP 7 (.call (.fn 75) [(tP 5), (tP 6)]),
 oP 4 (.mv (tP 7))])
 (.ret))
def A58 : AFunc := { ntmps := 8, results := [.tmp 4], body := B58, coe := true, keep := 0 }
theorem tr58 : trFunc Try.prog M58 true Try.f58 = some A58 := by kernel_rfl
def M59 : Marks := { cut := fun _ => true, hd := fun | _ => [], ex := fun | _ => [], imm := fun | _ => false }
def B59 : ACode :=
 .seq (.region [oP 4 (.mv (tP 0)),
 oP 5 (.nilchk (tP 4)),
 oP 6 (.addOff 0 (tP 5)),
 oP 7 (.addOff 1 (tP 6)),
 oP 8 (.load none (tP 7)),
 oP 9 (.bin .add (tP 8) (iP 1)),
 oP 10 (.nilchk (tP 4)),
 oP 11 (.addOff 0 (tP 10)),
 oP 12 (.addOff 1 (tP 11)),
 sP (.store 1 (tP 12) (tP 9))])
 (.seq (.region [oP 13 (.mv (tP 1)),
 oP 14 (.bin .eql (tP 13) (.con (.int .i32 10)))])
 (.cond (tP 14) (.region [oP 15 (.mv (tP 0)),
 oP 16 (.mv (tP 0)),
 oP 17 (.mv (tP 0)),
 oP 18 (.nilchk (tP 17)),
 oP 19 (.addOff 0 (tP 18)),
 oP 20 (.addOff 0 (tP 19)),
 oP 21 (.load none (tP 20)),
 oP 22 (.bin .add (tP 21) (iP 1)),
 oP 23 (.nilchk (tP 15)),
 oP 24 (.addOff 0 (tP 23)),
 oP 25 (.addOff 0 (tP 24)),
 sP (.store 1 (tP 25) (tP 22)),
 oP 26 (.nilchk (tP 16)),
 oP 27 (.addOff 0 (tP 26)),
 oP 28 (.addOff 1 (tP 27)),
 sP (.store 1 (tP 28) (iP 1))]) (.skip)))
def A59 : AFunc := { ntmps := 29, results := [], body := B59, coe := true, keep := 0 }
theorem tr59 : trFunc Try.prog M59 true Try.f59 = some A59 := by kernel_rfl
def M60 : Marks := { cut := fun _ => true, hd := fun | _ => [], ex := fun | _ => [], imm := fun | _ => false, keep := 2 }
def B60 : ACode :=
 .seq (.region [oP 2 (.box false (tP 0)),
 oP 3 (.box false (tP 1)),
 oP 4 (.mv (.con (.nilf)))])
 (.seq (.region [oP 5 (.mkf (.func 76) [] [(tP 2), (tP 3)]),
 oP 4 (.mv (tP 5))])
 (.ret))
def A60 : AFunc := { ntmps := 6, results := [.tmp 4], body := B60, coe := true, keep := 2 }
theorem tr60 : trFunc Try.prog M60 true Try.f60 = some A60 := by kernel_rfl
def M61 : Marks := { cut := fun _ => true, hd := fun | _ => [], ex := fun | _ => [], imm := fun | _ => false }
def B61 : ACode :=
 .seq (.region [oP 2 (.mv (bP false))])
 (.seq (.seq (.region [oP 3 (.mv (tP 0))])
 (.block 0 (.seq (.seq (.region [oP 5 (.bin .eql (tP 3) (.con (.int .i32 9))),
 oP 4 (.mv (tP 5))])
 (.cond (tP 4) (.skip) (.seq (.region [oP 6 (.bin .eql (tP 3) (.con (.int .i32 10))),
 oP 4 (.mv (tP 6))])
 (.cond (tP 4) (.skip) (.seq (.region [oP 7 (.bin .eql (tP 3) (.con (.int .i32 13))),
 oP 4 (.mv (tP 7))])
 (.cond (tP 4) (.skip) (.region [oP 8 (.bin .eql (tP 3) (.con (.int .i32 32))),
 oP 4 (.mv (tP 8))])))))))
 (.cond (tP 4) (.seq (.region [oP 2 (.mv (bP true))])
 (.ret)) (.skip)))))
 (.seq (.region [oP 2 (.mv (bP false))])
 (.ret)))
def A61 : AFunc := { ntmps := 9, results := [.tmp 2], body := B61, coe := true, keep := 0 }
theorem tr61 : trFunc Try.prog M61 true Try.f61 = some A61 := by kernel_rfl
def M62 : Marks := { cut := fun _ => true, hd := fun | _ => [], ex := fun | _ => [], imm := fun | _ => false }
def B62 : ACode :=
 .seq (.region [oP 4 (.mv (.con (.int .i32 0)))])
 (.seq (.seq (.draw [oP 5 (.mv (tP 0)),
 oP 6 (.nilchk (tP 5)),
 oP 7 (.addOff 1 (tP 6)),
 oP 8 (.load none (tP 7)),
 oP 9 (.mv (tP 1)),
 oP 10 (.bin .add (tP 8) (tP 9)),
 oP 11 (.mv (tP 0)),
 oP 12 (.nilchk (tP 11)),
 oP 13 (.addOff 0 (tP 12)),
 oP 14 (.load none (tP 13)),
 oP 15 (.len false (tP 14)),
 oP 16 (.bin .geq (tP 10) (tP 15))] [])
 (.cond (tP 16) (.seq (.region [oP 4 (.mv (.con (.int .i32 (-1))))])
 (.ret)) (.skip)))
 (.seq (.draw [oP 17 (.mv (tP 0)),
 oP 18 (.nilchk (tP 17)),
 oP 19 (.addOff 0 (tP 18)),
 oP 20 (.load none (tP 19)),
 oP 21 (.mv (tP 0)),
 oP 22 (.nilchk (tP 21)),
 oP 23 (.addOff 1 (tP 22)),
 oP 24 (.load none (tP 23)),
 oP 25 (.mv (tP 1)),
 oP 26 (.bin .add (tP 24) (tP 25)),
 oP 27 (.idxAddr 4 (tP 20) (tP 26)),
 oP 28 (.addOff 0 (tP 27)),
 oP 29 (.load none (tP 28)),
 oP 4 (.mv (tP 29))] [])
 (.ret)))
def A62 : AFunc := { ntmps := 30, results := [.tmp 4], body := B62, coe := true, keep := 0 }
theorem tr62 : trFunc Try.prog M62 true Try.f62 = some A62 := by kernel_rfl
def M63 : Marks := { cut := fun _ => true, hd := fun | _ => [], ex := fun | _ => [], imm := fun | _ => false }
def B63 : ACode :=
 .seq (.region [oP 2 (.mv (bP false))])
 (.seq (.region [oP 3 (.mv (tP 0)),
 oP 4 (.bin .neq (tP 3) (.con (.int .i32 10))),
 oP 2 (.mv (tP 4))])
 (.ret))
def A63 : AFunc := { ntmps := 5, results := [.tmp 2], body := B63, coe := true, keep := 0 }
theorem tr63 : trFunc Try.prog M63 true Try.f63 = some A63 := by kernel_rfl
def M64 : Marks := { cut := fun _ => true, hd := fun | _ => [], ex := fun | _ => [], imm := fun | _ => false }
def B64 : ACode :=
 .seq (.region [oP 2 (.mv (bP false))])
 (.seq (.region [oP 3 (.mv (tP 0)),
 oP 4 (.bin .geq (tP 3) (.con (.int .i32 97))),
 oP 5 (.mv (tP 4)),
 gP 6 5 true (.mv (tP 0)),
 gP 7 5 true (.bin .leq (tP 6) (.con (.int .i32 122))),
 oP 8 (.pick (tP 5) (tP 7) (bP false)),
 oP 9 (.mv (tP 8)),
 gP 10 9 false (.mv (tP 0)),
 gP 11 9 false (.bin .geq (tP 10) (.con (.int .i32 128))),
 gP 12 9 false (.mv (tP 11)),
 gP 13 12 true (.mv (tP 0)),
 gP 14 12 true (.call (.fn 77) [(tP 13)]),
 gP 15 9 false (.pick (tP 12) (tP 14) (bP false)),
 oP 16 (.pick (tP 9) (bP true) (tP 15)),
 oP 2 (.mv (tP 16))])
 (.ret))
def A64 : AFunc := { ntmps := 17, results := [.tmp 2], body := B64, coe := true, keep := 0 }
theorem tr64 : trFunc Try.prog M64 true Try.f64 = some A64 := by kernel_rfl
def M65 : Marks := { cut := fun _ => true, hd := fun | _ => [], ex := fun | _ => [], imm := fun | _ => false }
def B65 : ACode :=
 .seq (.region [oP 2 (.mv (bP false))])
 (.seq (.region [oP 3 (.mv (tP 0)),
 oP 4 (.bin .geq (tP 3) (.con (.int .i32 65))),
 oP 5 (.mv (tP 4)),
 gP 6 5 true (.mv (tP 0)),
 gP 7 5 true (.bin .leq (tP 6) (.con (.int .i32 90))),
 oP 8 (.pick (tP 5) (tP 7) (bP false)),
 oP 2 (.mv (tP 8))])
 (.ret))
def A65 : AFunc := { ntmps := 9, results := [.tmp 2], body := B65, coe := true, keep := 0 }
theorem tr65 : trFunc Try.prog M65 true Try.f65 = some A65 := by kernel_rfl
abbrev S66R0 : List Bool := [false, false, false, false, true, true]
def M66 : Marks := { cut := fun _ => true, hd := fun | _ => [], ex := fun | _ => [], imm := fun | _ => false, sn := fun | 7 => [false, false, false, false, true, true] | _ => [] }
def N66R0 : ACode :=
 .region [oP 6 (.mv (tP 18))]
def B66R0 : ACode :=
 .block 1 (.seq (.region [oP 19 (.mv (tP 6)),
 oP 20 (.call (.fn 79) [(tP 4), (tP 19)])])
 (.region [oP 21 (.load none (tP 5)),
 oP 22 (.bin .add (tP 21) (iP 1)),
 sP (.store 1 (tP 5) (tP 22))]))
def B66 : ACode :=
 .seq (.region [oP 7 (.mv (tP 1)),
 oP 8 (.nilchk (tP 7)),
 oP 9 (.addOff 0 (tP 8)),
 sP (.store 1 (tP 9) (iP 1))])
 (.seq (.seq (.region [oP 10 (.mv (tP 0)),
 oP 11 (.call (.fn 62) [(tP 10), (iP 0)]),
 oP 12 (.call (.fn 65) [(tP 11)])])
 (.cond (tP 12) (.region [oP 13 (.mv (tP 1)),
 oP 14 (.nilchk (tP 13)),
 oP 15 (.addOff 0 (tP 14)),
 sP (.store 1 (tP 15) (iP 2))]) (.skip)))
 (.seq (.region [oP 4 (.alloc [.ok (.nilp), .error 1] 156)])
 (.seq (.region [oP 5 (.alloc [.ok (.int .i64 0)]),
 sP (.store 1 (tP 5) (iP 0))])
 (.seq (.seq (.region [oP 16 (.mv (tP 0)),
 oP 17 (.call (.fn 60) [(tP 16), (.fn 78)])])
 (.block 0 (.rangeFn (tP 17) [18] [false, false, false, false, true, true] N66R0 B66R0)))
 (.seq (.seq (.region [oP 23 (.mv (tP 1)),
 oP 24 (.call (.fn 80) [(tP 4)]),
 oP 25 (.nilchk (tP 23)),
 oP 26 (.addOff 1 (tP 25)),
 sP (.store 1 (tP 26) (tP 24))])
 (.seq (.region [oP 27 (.load none (tP 5)),
 oP 28 (.bin .gtr (tP 27) (iP 24))])
 (.cond (tP 28) (.region [oP 29 (.mv (tP 0)),
 oP 30 (.mv (tP 1)),
 oP 31 (.nilchk (tP 30)),
 oP 32 (.addOff 4 (tP 31)),
 oP 33 (.load (some 2) (tP 32)),
 oP 34 (.call (.fn 47) [(tP 29), (iP 5), (tP 33)])]) (.skip))))
 (.seq (.region [oP 35 (.mv (tP 1)),
 oP 36 (.nilchk (tP 35)),
 oP 37 (.addOff 1 (tP 36)),
 oP 38 (.load none (tP 37)),
 oP 39 (.call (.fn 81) [(tP 38)])])
 (.cond (tP 39) (.region [oP 40 (.mv (tP 1)),
 oP 41 (.nilchk (tP 40)),
 oP 42 (.addOff 0 (tP 41)),
 sP (.store 1 (tP 42) (iP 5))]) (.skip))))))))
def A66 : AFunc := { ntmps := 43, results := [], body := B66, coe := true, keep := 0 }
theorem tr66 : trFunc Try.prog M66 true Try.f66 = some A66 := by kernel_rfl
def M67 : Marks := { cut := fun _ => true, hd := fun | _ => [], ex := fun | _ => [], imm := fun | _ => false }
def B67 : ACode :=
 .seq (.region [oP 2 (.mv (bP false))])
 (.seq (.region [oP 3 (.mv (tP 0)),
 oP 4 (.bin .geq (tP 3) (.con (.int .i32 48))),
 oP 5 (.mv (tP 4)),
 gP 6 5 true (.mv (tP 0)),
 gP 7 5 true (.bin .leq (tP 6) (.con (.int .i32 57))),
 oP 8 (.pick (tP 5) (tP 7) (bP false)),
 oP 2 (.mv (tP 8))])
 (.ret))
def A67 : AFunc := { ntmps := 9, results := [.tmp 2], body := B67, coe := true, keep := 0 }
theorem tr67 : trFunc Try.prog M67 true Try.f67 = some A67 := by kernel_rfl
abbrev S68R0 : List Bool := [false, false, false, true, true]
def M68 : Marks := { cut := fun _ => true, hd := fun | _ => [], ex := fun | _ => [], imm := fun | _ => false, sn := fun | 5 => [false, false, false, true, true] | _ => [] }
def N68R0 : ACode :=
 .region [oP 5 (.mv (tP 12))]
def B68R0 : ACode :=
 .block 1 (.seq (.region [oP 13 (.mv (tP 5)),
 oP 14 (.bin .sub (tP 13) (.con (.int .i32 48))),
 oP 15 (.cvt .i64 (tP 14)),
 oP 6 (.mv (tP 15))])
 (.seq (.region [oP 16 (.load none (tP 4)),
 oP 17 (.mv (tP 16)),
 gP 18 17 false (.load none (tP 3)),
 gP 19 17 false (.nilchk (tP 18)),
 gP 20 17 false (.addOff 2 (tP 19)),
 gP 21 17 false (.load none (tP 20)),
 gP 22 17 false (.mv (tP 6)),
 gP 23 17 false (.bin .sub (iP 4611686018427387903) (tP 22)),
 gP 24 17 false (.bin .quo (tP 23) (iP 10)),
 gP 25 17 false (.bin .gtr (tP 21) (tP 24)),
 oP 26 (.pick (tP 17) (bP true) (tP 25)),
 sP (.store 1 (tP 4) (tP 26))])
 (.seq (.region [oP 27 (.load none (tP 4)),
 oP 28 (.un .not (tP 27))])
 (.cond (tP 28) (.draw [oP 29 (.load none (tP 3)),
 oP 30 (.load none (tP 3)),
 oP 31 (.nilchk (tP 30)),
 oP 32 (.addOff 2 (tP 31)),
 oP 33 (.load none (tP 32)),
 oP 34 (.bin .mul (tP 33) (iP 10)),
 oP 35 (.mv (tP 6)),
 oP 36 (.bin .add (tP 34) (tP 35)),
 oP 37 (.nilchk (tP 29)),
 oP 38 (.addOff 2 (tP 37)),
 sP (.store 1 (tP 38) (tP 36))] []) (.skip)))))
def B68 : ACode :=
 .seq (.region [oP 3 (.box false (tP 1))])
 (.seq (.region [oP 7 (.load none (tP 3)),
 oP 8 (.nilchk (tP 7)),
 oP 9 (.addOff 0 (tP 8)),
 sP (.store 1 (tP 9) (iP 3))])
 (.seq (.region [oP 4 (.alloc [.ok (.bool false)]),
 sP (.store 1 (tP 4) (bP false))])
 (.seq (.seq (.region [oP 10 (.mv (tP 0)),
 oP 11 (.call (.fn 60) [(tP 10), (.fn 67)])])
 (.block 0 (.rangeFn (tP 11) [12] [false, false, false, true, true] N68R0 B68R0)))
 (.seq (.region [oP 39 (.load none (tP 4))])
 (.cond (tP 39) (.region [oP 40 (.mv (tP 0)),
 oP 41 (.load none (tP 3)),
 oP 42 (.nilchk (tP 41)),
 oP 43 (.addOff 4 (tP 42)),
 oP 44 (.load (some 2) (tP 43)),
 oP 45 (.call (.fn 47) [(tP 40), (iP 3), (tP 44)])]) (.skip))))))
def A68 : AFunc := { ntmps := 46, results := [], body := B68, coe := true, keep := 0 }
theorem tr68 : trFunc Try.prog M68 true Try.f68 = some A68 := by kernel_rfl
abbrev H69L2 : List Bool := [true, true]
abbrev X69L2 : List Bool := []
def M69 : Marks := { cut := fun _ => true, hd := fun | 2 => H69L2 | _ => [], ex := fun | 2 => X69L2 | _ => [], imm := fun | 84 => true | _ => false, alts := fun | 7 => [[0, 1, 2, 3, 5, 6, 4, 7, 8, 9, 10]] | _ => [] }
def B69L2 : ACode :=
 .block 1 (.seq (.region [oP 17 (.mv (tP 0)),
 oP 18 (.call (.fn 62) [(tP 17), (iP 0)]),
 oP 4 (.mv (tP 18))])
 (.seq (.seq (.region [oP 19 (.mv (tP 4)),
 oP 20 (.bin .lss (tP 19) (.con (.int .i32 0))),
 oP 21 (.mv (tP 20)),
 gP 22 21 false (.mv (tP 4)),
 gP 23 21 false (.bin .eql (tP 22) (.con (.int .i32 10))),
 oP 24 (.pick (tP 21) (bP true) (tP 23))])
 (.cond (tP 24) (.seq (.region [oP 25 (.mv (tP 0)),
 oP 26 (.mv (tP 1)),
 oP 27 (.nilchk (tP 26)),
 oP 28 (.addOff 4 (tP 27)),
 oP 29 (.load (some 2) (tP 28)),
 oP 30 (.call (.fn 47) [(tP 25), (iP 4), (tP 29)])])
 (.ret)) (.skip)))
 (.seq (.region [oP 31 (.mv (tP 0)),
 oP 32 (.nilchk (tP 31)),
 oP 33 (.addOff 1 (tP 32)),
 oP 34 (.load none (tP 33)),
 oP 35 (.bin .add (tP 34) (iP 1)),
 oP 36 (.nilchk (tP 31)),
 oP 37 (.addOff 1 (tP 36)),
 sP (.store 1 (tP 37) (tP 35))])
 (.seq (.region [oP 38 (.mv (tP 4))])
 (.block 2 (.seq (.region [oP 50 (.bin .eql (tP 38) (.con (.int .i32 34))),
 oP 49 (.mv (tP 50))])
 (.cond (tP 49) (.seq (.seq (.region [oP 51 (.mv (tP 1)),
 oP 52 (.nilchk (tP 51)),
 oP 53 (.addOff 3 (tP 52)),
 oP 54 (.load none (tP 53)),
 oP 55 (.len false (tP 54)),
 oP 56 (.bin .gtr (tP 55) (iP 64))])
 (.cond (tP 56) (.region [oP 57 (.mv (tP 0)),
 oP 58 (.mv (tP 1)),
 oP 59 (.nilchk (tP 58)),
 oP 60 (.addOff 4 (tP 59)),
 oP 61 (.load (some 2) (tP 60)),
 oP 62 (.call (.fn 47) [(tP 57), (iP 5), (tP 61)])]) (.skip)))
 (.ret)) (.seq (.region [oP 64 (.bin .eql (tP 38) (.con (.int .i32 92))),
 oP 63 (.mv (tP 64))])
 (.cond (tP 63) (.seq (.region [oP 66 (.mv (tP 0)),
 oP 67 (.call (.fn 82) [(tP 66)]),
 oP 65 (.mv (tP 67)),
 oP 68 (.ext 0 (tP 65)),
 oP 69 (.ext 1 (tP 65)),
 oP 5 (.mv (tP 68)),
 oP 6 (.mv (tP 69))])
 (.seq (.seq (.region [oP 70 (.mv (tP 6)),
 oP 71 (.un .not (tP 70))])
 (.cond (tP 71) (.seq (.region [oP 72 (.mv (tP 0)),
 oP 73 (.mv (tP 1)),
 oP 74 (.nilchk (tP 73)),
 oP 75 (.addOff 4 (tP 74)),
 oP 76 (.load (some 2) (tP 75)),
 oP 77 (.call (.fn 47) [(tP 72), (iP 4), (tP 76)])])
 (.ret)) (.skip)))
 (.region [oP 78 (.mv (tP 1)),
 oP 79 (.mv (tP 1)),
 oP 80 (.nilchk (tP 79)),
 oP 81 (.addOff 3 (tP 80)),
 oP 82 (.load none (tP 81)),
 oP 83 (.mv (tP 5)),
 oP 84 (.lit true 5 1 1 [.int .u8 0] [(0, (tP 83))]),
 oP 85 (.app false 5 1 1 (tP 82) (tP 84)),
 oP 86 (.nilchk (tP 78)),
 oP 87 (.addOff 3 (tP 86)),
 sP (.store 1 (tP 87) (tP 85))]))) (.draw [oP 39 (.mv (tP 1)),
 oP 40 (.mv (tP 1)),
 oP 41 (.nilchk (tP 40)),
 oP 42 (.addOff 3 (tP 41)),
 oP 43 (.load none (tP 42)),
 oP 44 (.mv (tP 4)),
 oP 45 (.call (.fn 83) [(tP 44)]),
 oP 46 (.app false 5 1 1 (tP 43) (tP 45)),
 oP 47 (.nilchk (tP 39)),
 oP 48 (.addOff 3 (tP 47)),
 sP (.store 1 (tP 48) (tP 46))] [[oP 39 (.mv (tP 1)), oP 40 (.mv (tP 1)), oP 41 (.nilchk (tP 40)), oP 42 (.addOff 3 (tP 41)), oP 44 (.mv (tP 4)), oP 45 (.call (.fn 83) [(tP 44)]), oP 43 (.load none (tP 42)), oP 46 (.app false 5 1 1 (tP 43) (tP 45)), oP 47 (.nilchk (tP 39)), oP 48 (.addOff 3 (tP 47)), sP (.store 1 (tP 48) (tP 46))]]))))))))))
def B69 : ACode :=
 .seq (.region [oP 7 (.mv (tP 1)),
 oP 8 (.nilchk (tP 7)),
 oP 9 (.addOff 0 (tP 8)),
 sP (.store 1 (tP 9) (iP 4))])
 (.seq (.region [oP 10 (.mv (tP 0)),
 oP 11 (.nilchk (tP 10)),
 oP 12 (.addOff 1 (tP 11)),
 oP 13 (.load none (tP 12)),
 oP 14 (.bin .add (tP 13) (iP 1)),
 oP 15 (.nilchk (tP 10)),
 oP 16 (.addOff 1 (tP 15)),
 sP (.store 1 (tP 16) (tP 14))])
 (.block 0 (.loop true H69L2 X69L2 B69L2)))
def A69 : AFunc := { ntmps := 88, results := [], body := B69, coe := true, keep := 0 }
theorem tr69 : trFunc Try.prog M69 true Try.f69 = some A69 := by kernel_rfl
abbrev H70L10 : List Bool := [true, true, false, false, false, false, false, false, false, false, false, false, false, false, false, false, false, false, false, false, false, false, false, false, false, false, false, false, false, false, false, false, false, false, false, false, false, false, false, false, false, false, false, false, false, false, false, false, true, true]
abbrev X70L10 : List Bool := []
def M70 : Marks := { cut := fun _ => true, hd := fun | 10 => H70L10 | _ => [], ex := fun | 10 => X70L10 | _ => [], imm := fun | _ => false, alts := fun | 11 => [[0, 1, 2, 4, 5, 3, 6, 7, 8, 9, 10]] | _ => [] }
def B70L10 : ACode :=
 .seq (.region [oP 50 (.bin .lss (tP 49) (tP 48))])
 (.seq (.cond (tP 50) (.skip) (.exit 1))
 (.seq (.block 2 (.seq (.draw [oP 51 (.mv (tP 1)),
 oP 52 (.nilchk (tP 51)),
 oP 53 (.addOff 1 (tP 52)),
 oP 54 (.load none (tP 53)),
 oP 55 (.mv (tP 0)),
 oP 56 (.call (.fn 62) [(tP 55), (iP 0)]),
 oP 57 (.rstr (tP 56)),
 oP 58 (.bin .add (tP 54) (tP 57)),
 oP 59 (.nilchk (tP 51)),
 oP 60 (.addOff 1 (tP 59)),
 sP (.store 1 (tP 60) (tP 58))] [[oP 51 (.mv (tP 1)), oP 52 (.nilchk (tP 51)), oP 53 (.addOff 1 (tP 52)), oP 55 (.mv (tP 0)), oP 56 (.call (.fn 62) [(tP 55), (iP 0)]), oP 54 (.load none (tP 53)), oP 57 (.rstr (tP 56)), oP 58 (.bin .add (tP 54) (tP 57)), oP 59 (.nilchk (tP 51)), oP 60 (.addOff 1 (tP 59)), sP (.store 1 (tP 60) (tP 58))]])
 (.region [oP 61 (.mv (tP 0)),
 oP 62 (.nilchk (tP 61)),
 oP 63 (.addOff 1 (tP 62)),
 oP 64 (.load none (tP 63)),
 oP 65 (.bin .add (tP 64) (iP 1)),
 oP 66 (.nilchk (tP 61)),
 oP 67 (.addOff 1 (tP 66)),
 sP (.store 1 (tP 67) (tP 65))])))
 (.region [oP 68 (.bin .add (tP 49) (iP 1)),
 oP 49 (.mv (tP 68))])))
def B70 : ACode :=
 .seq (.region [oP 7 (.mv (tP 1)),
 oP 8 (.nilchk (tP 7)),
 oP 9 (.addOff 0 (tP 8)),
 sP (.store 1 (tP 9) (iP 6))])
 (.seq (.region [oP 10 (.mv (tP 0)),
 oP 11 (.call (.fn 62) [(tP 10), (iP 0)]),
 oP 12 (.mv (tP 0)),
 oP 13 (.call (.fn 62) [(tP 12), (iP 1)]),
 oP 4 (.mv (tP 11)),
 oP 5 (.mv (tP 13))])
 (.seq (.region [oP 6 (.mv (iP 1))])
 (.seq (.block 0 (.seq (.seq (.region [oP 15 (.mv (tP 4)),
 oP 16 (.bin .eql (tP 15) (.con (.int .i32 45))),
 oP 17 (.mv (tP 16)),
 gP 18 17 true (.mv (tP 5)),
 gP 19 17 true (.bin .eql (tP 18) (.con (.int .i32 62))),
 oP 20 (.pick (tP 17) (tP 19) (bP false)),
 oP 14 (.mv (tP 20))])
 (.cond (tP 14) (.skip) (.seq (.region [oP 21 (.mv (tP 4)),
 oP 22 (.bin .eql (tP 21) (.con (.int .i32 60))),
 oP 23 (.mv (tP 22)),
 gP 24 23 true (.mv (tP 5)),
 gP 25 23 true (.bin .eql (tP 24) (.con (.int .i32 61))),
 oP 26 (.pick (tP 23) (tP 25) (bP false)),
 oP 14 (.mv (tP 26))])
 (.cond (tP 14) (.skip) (.region [oP 27 (.mv (tP 4)),
 oP 28 (.bin .eql (tP 27) (.con (.int .i32 61))),
 oP 29 (.mv (tP 28)),
 gP 30 29 true (.mv (tP 5)),
 gP 31 29 true (.bin .eql (tP 30) (.con (.int .i32 61))),
 oP 32 (.pick (tP 29) (tP 31) (bP false)),
 oP 14 (.mv (tP 32))])))))
 (.cond (tP 14) (.region [oP 6 (.mv (iP 2))]) (.seq (.region [oP 34 (.mv (tP 4)),
 oP 35 (.bin .gtr (tP 34) (.con (.int .i32 126))),
 oP 36 (.mv (tP 35)),
 gP 37 36 false (.mv (tP 4)),
 gP 38 36 false (.cvt .u8 (tP 37)),
 gP 39 36 false (.call (.fn 84) [(.con (.str ⟨#[40, 41, 44, 124, 61, 58, 43, 45, 42, 47, 37, 60, 95, 126]⟩)), (tP 38)]),
 gP 40 36 false (.bin .lss (tP 39) (iP 0)),
 oP 41 (.pick (tP 36) (bP true) (tP 40)),
 oP 33 (.mv (tP 41))])
 (.cond (tP 33) (.seq (.region [oP 42 (.mv (tP 0)),
 oP 43 (.mv (tP 1)),
 oP 44 (.nilchk (tP 43)),
 oP 45 (.addOff 4 (tP 44)),
 oP 46 (.load (some 2) (tP 45)),
 oP 47 (.call (.fn 47) [(tP 42), (iP 2), (tP 46)])])
 (.ret)) (.skip))))))
 (.seq (.region [oP 48 (.mv (tP 6)),
 oP 49 (.mv (iP 0))])
 (.block 1 (.loop true H70L10 X70L10 B70L10))))))
def A70 : AFunc := { ntmps := 69, results := [], body := B70, coe := true, keep := 0 }
theorem tr70 : trFunc Try.prog M70 true Try.f70 = some A70 := by kernel_rfl
def M71 : Marks := { cut := fun _ => true, hd := fun | _ => [], ex := fun | _ => [], imm := fun | _ => false }
def B71 : ACode :=
 .seq (.region [oP 2 (.mv (iP 0)),
 oP 3 (.mv (bP false))])
 (.seq (.block 0 (.seq (.region [oP 5 (.mv (tP 0)),
 oP 6 (.call (.fn 34) [(tP 5), (.con (.str ⟨#[126]⟩))]),
 oP 4 (.mv (tP 6))])
 (.cond (tP 4) (.seq (.region [oP 7 (.mv (tP 0)),
 oP 8 (.call (.fn 27) [(tP 7), (iP 3)]),
 oP 9 (.fld none 2 (tP 8)),
 oP 10 (.un .neg (tP 9)),
 oP 2 (.mv (tP 10)),
 oP 3 (.mv (bP true))])
 (.ret)) (.seq (.region [oP 12 (.mv (tP 0)),
 oP 13 (.call (.fn 41) [(tP 12)]),
 oP 14 (.fld none 0 (tP 13)),
 oP 15 (.bin .eql (tP 14) (iP 3)),
 oP 11 (.mv (tP 15))])
 (.cond (tP 11) (.seq (.region [oP 16 (.mv (tP 0)),
 oP 17 (.call (.fn 27) [(tP 16), (iP 3)]),
 oP 18 (.fld none 2 (tP 17)),
 oP 2 (.mv (tP 18)),
 oP 3 (.mv (bP true))])
 (.ret)) (.skip))))))
 (.seq (.region [oP 2 (.mv (iP 0)),
 oP 3 (.mv (bP false))])
 (.ret)))
def A71 : AFunc := { ntmps := 19, results := [.tmp 2, .tmp 3], body := B71, coe := true, keep := 0 }
theorem tr71 : trFunc Try.prog M71 true Try.f71 = some A71 := by kernel_rfl
abbrev H72L2 : List Bool := [false, false, true, false, true, false, false, true, true, true]
abbrev X72L2 : List Bool := [false, false, true, false, true]
def M72 : Marks := { cut := fun _ => true, hd := fun | 2 => H72L2 | _ => [], ex := fun | 2 => X72L2 | _ => [], imm := fun | 12 => true | 17 => true | 18 => true | 37 => true | 1000002 => true | 3000000 => true | _ => false, alts := fun | 4 => [[0, 1, 2, 3, 4, 5, 6, 7, 8, 9, 13, 14, 15, 10, 11, 12, 16, 17], [0, 1, 2, 3, 4, 5, 7, 9, 10, 6, 8, 11, 12, 13, 14, 15, 16, 17], [0, 1, 2, 3, 4, 5, 7, 8, 6, 9, 10, 11, 12, 13, 14, 15, 16, 17], [0, 1, 2, 3, 4, 5, 7, 8, 6, 9, 13, 14, 15, 10, 11, 12, 16, 17], [0, 1, 2, 3, 4, 5, 7, 8, 9, 10, 6, 11, 12, 13, 14, 15, 16, 17]] | _ => [] }
def B72L2 : ACode :=
 .seq (.region [oP 10 (.bin .lss (tP 9) (tP 8))])
 (.seq (.cond (tP 10) (.skip) (.exit 0))
 (.seq (.block 1 (.seq (.region [oP 11 (.idxAddr 7 (tP 7) (tP 9)),
 oP 12 (.loadk (some 7) (tP 11)),
 oP 6 (.alloc [.ok (.int .i64 0), .ok (.int .i64 0), .ok (.int .i64 0), .ok (.str ⟨#[]⟩), .ok (.int .i64 0), .error 6, .ok (.int .i64 0)]),
 sP (.storen 7 (tP 6) (tP 12))])
 (.draw [oP 13 (.addOff 0 (tP 2)),
 oP 14 (.addOff 5 (tP 13)),
 oP 15 (.load none (tP 14)),
 oP 16 (.addOff 0 (tP 6)),
 oP 17 (.loadk (some 6) (tP 16)),
 oP 18 (.lit true 0 6 1 [.int .i64 0, .int .i64 0, .int .i64 0, .str ⟨#[]⟩, .int .i64 0, .slice 6 []] [(0, (tP 17))]),
 oP 19 (.app false 0 6 72 (tP 15) (tP 18)),
 oP 20 (.addOff 6 (tP 2)),
 oP 21 (.load none (tP 20)),
 oP 22 (.addOff 6 (tP 6)),
 oP 23 (.load none (tP 22)),
 oP 24 (.bin .add (tP 23) (iP 1)),
 oP 25 (.mnmx true [(tP 21), (tP 24)]),
 oP 26 (.addOff 0 (tP 2)),
 oP 27 (.addOff 5 (tP 26)),
 sP (.store 1 (tP 27) (tP 19)),
 oP 28 (.addOff 6 (tP 2)),
 sP (.store 1 (tP 28) (tP 25))] [[oP 13 (.addOff 0 (tP 2)), oP 14 (.addOff 5 (tP 13)), oP 15 (.load none (tP 14)), oP 16 (.addOff 0 (tP 6)), oP 17 (.loadk (some 6) (tP 16)), oP 18 (.lit true 0 6 1 [.int .i64 0, .int .i64 0, .int .i64 0, .str ⟨#[]⟩, .int .i64 0, .slice 6 []] [(0, (tP 17))]), oP 19 (.app false 0 6 72 (tP 15) (tP 18)), oP 20 (.addOff 6 (tP 2)), oP 21 (.load none (tP 20)), oP 22 (.addOff 6 (tP 6)), oP 26 (.addOff 0 (tP 2)), oP 27 (.addOff 5 (tP 26)), sP (.store 1 (tP 27) (tP 19)), oP 23 (.load none (tP 22)), oP 24 (.bin .add (tP 23) (iP 1)), oP 25 (.mnmx true [(tP 21), (tP 24)]), oP 28 (.addOff 6 (tP 2)), sP (.store 1 (tP 28) (tP 25))], [oP 13 (.addOff 0 (tP 2)), oP 14 (.addOff 5 (tP 13)), oP 15 (.load none (tP 14)), oP 16 (.addOff 0 (tP 6)), oP 17 (.loadk (some 6) (tP 16)), oP 18 (.lit true 0 6 1 [.int .i64 0, .int .i64 0, .int .i64 0, .str ⟨#[]⟩, .int .i64 0, .slice 6 []] [(0, (tP 17))]), oP 20 (.addOff 6 (tP 2)), oP 22 (.addOff 6 (tP 6)), oP 23 (.load none (tP 22)), oP 19 (.app false 0 6 72 (tP 15) (tP 18)), oP 21 (.load none (tP 20)), oP 24 (.bin .add (tP 23) (iP 1)), oP 25 (.mnmx true [(tP 21), (tP 24)]), oP 26 (.addOff 0 (tP 2)), oP 27 (.addOff 5 (tP 26)), sP (.store 1 (tP 27) (tP 19)), oP 28 (.addOff 6 (tP 2)), sP (.store 1 (tP 28) (tP 25))], [oP 13 (.addOff 0 (tP 2)), oP 14 (.addOff 5 (tP 13)), oP 15 (.load none (tP 14)), oP 16 (.addOff 0 (tP 6)), oP 17 (.loadk (some 6) (tP 16)), oP 18 (.lit true 0 6 1 [.int .i64 0, .int .i64 0, .int .i64 0, .str ⟨#[]⟩, .int .i64 0, .slice 6 []] [(0, (tP 17))]), oP 20 (.addOff 6 (tP 2)), oP 21 (.load none (tP 20)), oP 19 (.app false 0 6 72 (tP 15) (tP 18)), oP 22 (.addOff 6 (tP 6)), oP 23 (.load none (tP 22)), oP 24 (.bin .add (tP 23) (iP 1)), oP 25 (.mnmx true [(tP 21), (tP 24)]), oP 26 (.addOff 0 (tP 2)), oP 27 (.addOff 5 (tP 26)), sP (.store 1 (tP 27) (tP 19)), oP 28 (.addOff 6 (tP 2)), sP (.store 1 (tP 28) (tP 25))], [oP 13 (.addOff 0 (tP 2)), oP 14 (.addOff 5 (tP 13)), oP 15 (.load none (tP 14)), oP 16 (.addOff 0 (tP 6)), oP 17 (.loadk (some 6) (tP 16)), oP 18 (.lit true 0 6 1 [.int .i64 0, .int .i64 0, .int .i64 0, .str ⟨#[]⟩, .int .i64 0, .slice 6 []] [(0, (tP 17))]), oP 20 (.addOff 6 (tP 2)), oP 21 (.load none (tP 20)), oP 19 (.app false 0 6 72 (tP 15) (tP 18)), oP 22 (.addOff 6 (tP 6)), oP 26 (.addOff 0 (tP 2)), oP 27 (.addOff 5 (tP 26)), sP (.store 1 (tP 27) (tP 19)), oP 23 (.load none (tP 22)), oP 24 (.bin .add (tP 23) (iP 1)), oP 25 (.mnmx true [(tP 21), (tP 24)]), oP 28 (.addOff 6 (tP 2)), sP (.store 1 (tP 28) (tP 25))], [oP 13 (.addOff 0 (tP 2)), oP 14 (.addOff 5 (tP 13)), oP 15 (.load none (tP 14)), oP 16 (.addOff 0 (tP 6)), oP 17 (.loadk (some 6) (tP 16)), oP 18 (.lit true 0 6 1 [.int .i64 0, .int .i64 0, .int .i64 0, .str ⟨#[]⟩, .int .i64 0, .slice 6 []] [(0, (tP 17))]), oP 20 (.addOff 6 (tP 2)), oP 21 (.load none (tP 20)), oP 22 (.addOff 6 (tP 6)), oP 23 (.load none (tP 22)), oP 19 (.app false 0 6 72 (tP 15) (tP 18)), oP 24 (.bin .add (tP 23) (iP 1)), oP 25 (.mnmx true [(tP 21), (tP 24)]), oP 26 (.addOff 0 (tP 2)), oP 27 (.addOff 5 (tP 26)), sP (.store 1 (tP 27) (tP 19)), oP 28 (.addOff 6 (tP 2)), sP (.store 1 (tP 28) (tP 25))]])))
 (.region [oP 29 (.bin .add (tP 9) (iP 1)),
 oP 9 (.mv (tP 29))])))
def B72 : ACode :=
 .seq (.region [oP 2 (.boxn (tP 0)),
 oP 4 (.alloc [.ok (.int .i64 0), .ok (.int .i64 0), .ok (.int .i64 0), .ok (.str ⟨#[]⟩), .ok (.int .i64 0), .error 6, .ok (.int .i64 0)])])
 (.seq (.seq (.region [oP 7 (.mv (tP 1)),
 oP 8 (.len false (tP 7)),
 oP 9 (.mv (iP 0))])
 (.block 0 (.loop true H72L2 X72L2 B72L2)))
 (.seq (.seq (.region [oP 30 (.addOff 6 (tP 2)),
 oP 31 (.load none (tP 30)),
 oP 32 (.bin .gtr (tP 31) (iP 64))])
 (.cond (tP 32) (.region [oP 33 (.addOff 0 (tP 2)),
 oP 34 (.addOff 1 (tP 33)),
 oP 35 (.load (some 2) (tP 34)),
 oP 36 (.call (.fn 50) [(iP 6), (tP 35)])]) (.skip)))
 (.seq (.region [oP 37 (.loadk (some 7) (tP 2)),
 sP (.storen 7 (tP 4) (tP 37))])
 (.ret))))
def A72 : AFunc := { ntmps := 38, results := [.cellk (some 7) 4], body := B72, coe := true, keep := 0 }
theorem tr72 : trFunc Try.prog M72 true Try.f72 = some A72 := by kernel_rfl
def M73 : Marks := { cut := fun _ => true, hd := fun | _ => [], ex := fun | _ => [], imm := fun | 6 => true | _ => false }
def B73 : ACode :=
 .seq (.region [oP 6 (.mv (.con (.slice 7 [])))])
 (.seq (.region [oP 8 (.mv (tP 0)),
 oP 9 (.mv (tP 1)),
 oP 10 (.mv (tP 2)),
 oP 11 (.call (.fn 85) [(tP 8), (.con (.str ⟨#[44]⟩)), (tP 9), (tP 10)]),
 oP 7 (.mv (tP 11))])
 (.seq (.region [oP 12 (.mv (tP 0)),
 oP 13 (.call (.fn 37) [(tP 12), (.con (.str ⟨#[41]⟩))])])
 (.seq (.region [oP 14 (.mv (tP 7)),
 oP 6 (.mv (tP 14))])
 (.ret))))
def A73 : AFunc := { ntmps := 15, results := [.tmp 6], body := B73, coe := true, keep := 0 }
theorem tr73 : trFunc Try.prog M73 true Try.f73 = some A73 := by kernel_rfl
def M74 : Marks := { cut := fun _ => true, hd := fun | _ => [], ex := fun | _ => [], imm := fun | 19 => true | 61 => true | 79 => true | 82 => true | 85 => true | 3000000 => true | _ => false, alts := fun | 17 => [[1, 2, 3, 4, 0, 5, 6]] | _ => [] }
def B74 : ACode :=
 .seq (.region [oP 2 (.alloc [.ok (.int .i64 0), .ok (.int .i64 0), .ok (.int .i64 0), .ok (.int .i64 0), .error 1, .ok (.str ⟨#[]⟩), .error 8, .error 14, .ok (.int .i64 0)])])
 (.seq (.region [oP 8 (.mv (tP 0)),
 oP 9 (.call (.fn 33) [(tP 8), (iP 0)]),
 oP 3 (.alloc [.ok (.int .i64 0), .ok (.int .i64 0), .ok (.int .i64 0), .ok (.int .i64 0), .error 1, .ok (.str ⟨#[]⟩), .error 8, .error 14, .ok (.int .i64 0)]),
 sP (.store 9 (tP 3) (tP 9))])
 (.seq (.seq (.region [oP 11 (.mv (tP 0)),
 oP 12 (.call (.fn 71) [(tP 11)]),
 oP 10 (.mv (tP 12)),
 oP 13 (.ext 0 (tP 10)),
 oP 14 (.ext 1 (tP 10)),
 oP 4 (.mv (tP 13)),
 oP 5 (.mv (tP 14))])
 (.seq (.region [oP 15 (.mv (tP 5))])
 (.cond (tP 15) (.seq (.region [oP 16 (.mv (tP 4)),
 oP 17 (.addOff 0 (tP 3)),
 oP 18 (.addOff 3 (tP 17)),
 sP (.store 1 (tP 18) (tP 16))])
 (.seq (.region [oP 19 (.loadk (some 9) (tP 3)),
 sP (.storen 9 (tP 2) (tP 19))])
 (.ret))) (.skip))))
 (.seq (.seq (.region [oP 20 (.mv (tP 0)),
 oP 21 (.call (.fn 41) [(tP 20)]),
 oP 6 (.alloc [.ok (.int .i64 0), .ok (.str ⟨#[]⟩), .ok (.int .i64 0), .error 1, .ok (.int .i64 0), .ok (.int .i64 0)]),
 sP (.store 6 (tP 6) (tP 21))])
 (.block 0 (.seq (.region [oP 25 (.addOff 0 (tP 6)),
 oP 26 (.load none (tP 25)),
 oP 27 (.bin .eql (tP 26) (iP 4)),
 oP 24 (.mv (tP 27))])
 (.cond (tP 24) (.region [oP 28 (.mv (tP 0)),
 oP 29 (.call (.fn 27) [(tP 28), (iP 4)]),
 oP 30 (.fld none 3 (tP 29)),
 oP 31 (.addOff 0 (tP 3)),
 oP 32 (.addOff 0 (tP 31)),
 sP (.store 1 (tP 32) (iP 1)),
 oP 33 (.addOff 0 (tP 3)),
 oP 34 (.addOff 4 (tP 33)),
 sP (.store 1 (tP 34) (tP 30))]) (.seq (.region [oP 36 (.mv (tP 0)),
 oP 37 (.call (.fn 34) [(tP 36), (.con (.str ⟨#[115, 116, 97, 116, 101]⟩))]),
 oP 35 (.mv (tP 37))])
 (.cond (tP 35) (.region [oP 38 (.addOff 0 (tP 3)),
 oP 39 (.addOff 0 (tP 38)),
 sP (.store 1 (tP 39) (iP 2)),
 oP 40 (.addOff 0 (tP 3)),
 oP 41 (.addOff 5 (tP 40)),
 sP (.store 1 (tP 41) (.con (.str ⟨#[115, 116, 97, 116, 101]⟩)))]) (.seq (.region [oP 43 (.addOff 0 (tP 6)),
 oP 44 (.load none (tP 43)),
 oP 45 (.bin .eql (tP 44) (iP 1)),
 oP 42 (.mv (tP 45))])
 (.cond (tP 42) (.seq (.region [oP 46 (.mv (tP 0)),
 oP 47 (.call (.fn 86) [(tP 46)]),
 sP (.store 9 (tP 2) (tP 47))])
 (.ret)) (.seq (.region [oP 49 (.addOff 0 (tP 6)),
 oP 50 (.load none (tP 49)),
 oP 51 (.bin .eql (tP 50) (iP 2)),
 oP 48 (.mv (tP 51))])
 (.cond (tP 48) (.seq (.region [oP 52 (.mv (tP 0)),
 oP 53 (.call (.fn 27) [(tP 52), (iP 2)]),
 oP 54 (.fld none 1 (tP 53)),
 oP 55 (.addOff 0 (tP 3)),
 oP 56 (.addOff 0 (tP 55)),
 sP (.store 1 (tP 56) (iP 3)),
 oP 57 (.addOff 0 (tP 3)),
 oP 58 (.addOff 5 (tP 57)),
 sP (.store 1 (tP 58) (tP 54))])
 (.seq (.region [oP 59 (.mv (tP 0)),
 oP 60 (.call (.fn 34) [(tP 59), (.con (.str ⟨#[40]⟩))])])
 (.cond (tP 60) (.seq (.draw [oP 61 (.loadk (some 9) (tP 3)),
 oP 62 (.mv (tP 0)),
 oP 63 (.mv (tP 0)),
 oP 64 (.mkf (.func 26) [(tP 63)] []),
 oP 65 (.call (.fn 87) [(tP 62), (iP 6), (tP 64)]),
 oP 66 (.call (.fn 38) [(tP 61), (tP 65)]),
 sP (.store 9 (tP 2) (tP 66))] [[oP 62 (.mv (tP 0)), oP 63 (.mv (tP 0)), oP 64 (.mkf (.func 26) [(tP 63)] []), oP 65 (.call (.fn 87) [(tP 62), (iP 6), (tP 64)]), oP 61 (.loadk (some 9) (tP 3)), oP 66 (.call (.fn 38) [(tP 61), (tP 65)]), sP (.store 9 (tP 2) (tP 66))]])
 (.ret)) (.skip)))) (.seq (.region [oP 68 (.mv (tP 0)),
 oP 69 (.call (.fn 34) [(tP 68), (.con (.str ⟨#[40]⟩))]),
 oP 67 (.mv (tP 69))])
 (.cond (tP 67) (.seq (.region [oP 70 (.mv (tP 0)),
 oP 71 (.mv (tP 0)),
 oP 72 (.mkf (.func 26) [(tP 71)] []),
 oP 73 (.call (.fn 87) [(tP 70), (iP 6), (tP 72)]),
 oP 7 (.mv (tP 73))])
 (.seq (.seq (.region [oP 74 (.mv (tP 7)),
 oP 75 (.len false (tP 74)),
 oP 76 (.bin .eql (tP 75) (iP 1))])
 (.cond (tP 76) (.seq (.region [oP 77 (.mv (tP 7)),
 oP 78 (.idxAddr 9 (tP 77) (iP 0)),
 oP 79 (.loadk (some 9) (tP 78)),
 sP (.storen 9 (tP 2) (tP 79))])
 (.ret)) (.skip)))
 (.seq (.region [oP 80 (.addOff 0 (tP 3)),
 oP 81 (.addOff 0 (tP 80)),
 sP (.store 1 (tP 81) (iP 4))])
 (.seq (.region [oP 82 (.loadk (some 9) (tP 3)),
 oP 83 (.mv (tP 7)),
 oP 84 (.call (.fn 38) [(tP 82), (tP 83)]),
 sP (.store 9 (tP 2) (tP 84))])
 (.ret))))) (.region [oP 22 (.mv (tP 0)),
 oP 23 (.call (.fn 42) [(tP 22)])])))))))))))))
 (.seq (.region [oP 85 (.loadk (some 9) (tP 3)),
 sP (.storen 9 (tP 2) (tP 85))])
 (.ret)))))
def A74 : AFunc := { ntmps := 86, results := [.cellk (some 9) 2], body := B74, coe := true, keep := 0 }
theorem tr74 : trFunc Try.prog M74 true Try.f74 = some A74 := by kernel_rfl
def M75 : Marks := { cut := fun _ => true, hd := fun | _ => [], ex := fun | _ => [], imm := fun | _ => false }
def B75 : ACode :=
 .seq (.region [oP 4 (.mv (bP false))])
 (.seq (.region [oP 5 (.mv (tP 0)),
 oP 6 (.len true (tP 5)),
 oP 7 (.mv (tP 1)),
 oP 8 (.len true (tP 7)),
 oP 9 (.bin .geq (tP 6) (tP 8)),
 oP 10 (.mv (tP 9)),
 gP 11 10 true (.mv (tP 0)),
 gP 12 10 true (.mv (tP 1)),
 gP 13 10 true (.len true (tP 12)),
 gP 14 10 true (.slcStr (tP 11) none (some (tP 13))),
 gP 15 10 true (.mv (tP 1)),
 gP 16 10 true (.bin .eql (tP 14) (tP 15)),
 oP 17 (.pick (tP 10) (tP 16) (bP false)),
 oP 4 (.mv (tP 17))])
 (.ret))
def A75 : AFunc := { ntmps := 18, results := [.tmp 4], body := B75, coe := true, keep := 0 }
theorem tr75 : trFunc Try.prog M75 true Try.f75 = some A75 := by kernel_rfl
abbrev H76L0 : List Bool := [true, true, true]
abbrev X76L0 : List Bool := []
def M76 : Marks := { cut := fun _ => true, hd := fun | 0 => H76L0 | _ => [], ex := fun | 0 => X76L0 | _ => [], imm := fun | _ => false, alts := fun | 0 => [[0, 1, 2, 3, 5, 6, 4, 7, 8]] | _ => [] }
def B76L0 : ACode :=
 .seq (.seq (.draw [oP 5 (.load none (tP 1)),
 oP 6 (.call (.fn 45) [(tP 5)]),
 oP 7 (.un .not (tP 6)),
 oP 8 (.mv (tP 7)),
 gP 9 8 true (.load none (tP 2)),
 gP 10 8 true (.load none (tP 1)),
 gP 11 8 true (.call (.fn 62) [(tP 10), (iP 0)]),
 gP 12 8 true (.call (tP 9) [(tP 11)]),
 oP 13 (.pick (tP 8) (tP 12) (bP false))] [[oP 5 (.load none (tP 1)), oP 6 (.call (.fn 45) [(tP 5)]), oP 7 (.un .not (tP 6)), oP 8 (.mv (tP 7)), gP 10 8 true (.load none (tP 1)), gP 11 8 true (.call (.fn 62) [(tP 10), (iP 0)]), gP 9 8 true (.load none (tP 2)), gP 12 8 true (.call (tP 9) [(tP 11)]), oP 13 (.pick (tP 8) (tP 12) (bP false))]])
 (.cond (tP 13) (.skip) (.exit 0)))
 (.block 1 (.seq (.region [oP 14 (.load none (tP 1)),
 oP 15 (.call (.fn 62) [(tP 14), (iP 0)]),
 oP 4 (.mv (tP 15))])
 (.seq (.region [oP 16 (.load none (tP 1)),
 oP 17 (.nilchk (tP 16)),
 oP 18 (.addOff 1 (tP 17)),
 oP 19 (.load none (tP 18)),
 oP 20 (.bin .add (tP 19) (iP 1)),
 oP 21 (.nilchk (tP 16)),
 oP 22 (.addOff 1 (tP 21)),
 sP (.store 1 (tP 22) (tP 20))])
 (.seq (.region [oP 23 (.mv (tP 0)),
 oP 24 (.mv (tP 4)),
 oP 25 (.call (tP 23) [(tP 24)]),
 oP 26 (.un .not (tP 25))])
 (.cond (tP 26) (.ret) (.skip))))))
def B76 : ACode :=
 .block 0 (.loop true H76L0 X76L0 B76L0)
def A76 : AFunc := { ntmps := 27, results := [], body := B76, coe := true, keep := 0 }
theorem tr76 : trFunc Try.prog M76 true Try.f76 = some A76 := by kernel_rfl
def M77 : Marks := { cut := fun _ => true, hd := fun | _ => [], ex := fun | _ => [], imm := fun | _ => false }
def B77 : ACode :=
 .seq (.region [oP 2 (.mv (bP false))])
 (.seq (.block 0 (.seq (.region [oP 4 (.mv (tP 0)),
 oP 5 (.bin .leq (.con (.int .i32 0)) (tP 4)),
 oP 6 (.mv (tP 5)),
 gP 7 6 true (.mv (tP 0)),
 gP 8 6 true (.bin .lss (tP 7) (.con (.int .i32 55296))),
 oP 9 (.pick (tP 6) (tP 8) (bP false)),
 oP 3 (.mv (tP 9))])
 (.cond (tP 3) (.seq (.region [oP 2 (.mv (bP true))])
 (.ret)) (.seq (.region [oP 11 (.mv (tP 0)),
 oP 12 (.bin .lss (.con (.int .i32 57343)) (tP 11)),
 oP 13 (.mv (tP 12)),
 gP 14 13 true (.mv (tP 0)),
 gP 15 13 true (.bin .leq (tP 14) (.con (.int .i32 1114111))),
 oP 16 (.pick (tP 13) (tP 15) (bP false)),
 oP 10 (.mv (tP 16))])
 (.cond (tP 10) (.seq (.region [oP 2 (.mv (bP true))])
 (.ret)) (.skip))))))
 (.seq (.region [oP 2 (.mv (bP false))])
 (.ret)))
def A77 : AFunc := { ntmps := 17, results := [.tmp 2], body := B77, coe := true, keep := 0 }
theorem tr77 : trFunc Try.prog M77 true Try.f77 = some A77 := by kernel_rfl
def M78 : Marks := { cut := fun _ => true, hd := fun | _ => [], ex := fun | _ => [], imm := fun | _ => false }
def B78 : ACode :=
 .seq (.region [oP 2 (.mv (bP false))])
 (.seq (.region [oP 3 (.mv (tP 0)),
 oP 4 (.call (.fn 64) [(tP 3)]),
 oP 5 (.mv (tP 4)),
 gP 6 5 false (.mv (tP 0)),
 gP 7 5 false (.call (.fn 65) [(tP 6)]),
 oP 8 (.pick (tP 5) (bP true) (tP 7)),
 oP 9 (.mv (tP 8)),
 gP 10 9 false (.mv (tP 0)),
 gP 11 9 false (.call (.fn 67) [(tP 10)]),
 oP 12 (.pick (tP 9) (bP true) (tP 11)),
 oP 13 (.mv (tP 12)),
 gP 14 13 false (.mv (tP 0)),
 gP 15 13 false (.bin .eql (tP 14) (.con (.int .i32 95))),
 oP 16 (.pick (tP 13) (bP true) (tP 15)),
 oP 2 (.mv (tP 16))])
 (.ret))
def A78 : AFunc := { ntmps := 17, results := [.tmp 2], body := B78, coe := true, keep := 0 }
theorem tr78 : trFunc Try.prog M78 true Try.f78 = some A78 := by kernel_rfl
def M79 : Marks := { cut := fun _ => true, hd := fun | _ => [], ex := fun | _ => [], imm := fun | _ => false }
def B79 : ACode :=
 .seq (.region [oP 4 (.mv (iP 0)),
 oP 5 (.mv (.con (.nili)))])
 (.seq (.region [oP 7 (.mv (tP 0)),
 oP 8 (.call (.fn 88) [(tP 7)])])
 (.seq (.region [oP 9 (.mv (tP 0)),
 oP 10 (.nilchk (tP 9)),
 oP 11 (.addOff 1 (tP 10)),
 oP 12 (.load none (tP 11)),
 oP 13 (.len false (tP 12)),
 oP 6 (.mv (tP 13))])
 (.seq (.region [oP 14 (.mv (tP 0)),
 oP 15 (.mv (tP 0)),
 oP 16 (.nilchk (tP 15)),
 oP 17 (.addOff 1 (tP 16)),
 oP 18 (.load none (tP 17)),
 oP 19 (.mv (tP 1)),
 oP 20 (.call (.fn 89) [(tP 18), (tP 19)]),
 oP 21 (.nilchk (tP 14)),
 oP 22 (.addOff 1 (tP 21)),
 sP (.store 1 (tP 22) (tP 20))])
 (.seq (.region [oP 23 (.mv (tP 0)),
 oP 24 (.nilchk (tP 23)),
 oP 25 (.addOff 1 (tP 24)),
 oP 26 (.load none (tP 25)),
 oP 27 (.len false (tP 26)),
 oP 28 (.mv (tP 6)),
 oP 29 (.bin .sub (tP 27) (tP 28)),
 oP 4 (.mv (tP 29)),
 oP 5 (.mv (.con (.nili)))])
 (.ret)))))
def A79 : AFunc := { ntmps := 30, results := [.tmp 4, .tmp 5], body := B79, coe := true, keep := 0 }
theorem tr79 : trFunc Try.prog M79 true Try.f79 = some A79 := by kernel_rfl
def M80 : Marks := { cut := fun _ => true, hd := fun | _ => [], ex := fun | _ => [], imm := fun | _ => false, alts := fun | 1 => [[0, 1, 2, 3, 5, 6, 7, 8, 4, 9, 10, 11]] | _ => [] }
def B80 : ACode :=
 .seq (.region [oP 2 (.mv (.con (.str ⟨#[]⟩)))])
 (.seq (.draw [oP 3 (.mv (tP 0)),
 oP 4 (.nilchk (tP 3)),
 oP 5 (.addOff 1 (tP 4)),
 oP 6 (.load none (tP 5)),
 oP 7 (.usd (tP 6)),
 oP 8 (.mv (tP 0)),
 oP 9 (.nilchk (tP 8)),
 oP 10 (.addOff 1 (tP 9)),
 oP 11 (.load none (tP 10)),
 oP 12 (.len false (tP 11)),
 oP 13 (.ustr 5 (tP 7) (tP 12)),
 oP 2 (.mv (tP 13))] [[oP 3 (.mv (tP 0)), oP 4 (.nilchk (tP 3)), oP 5 (.addOff 1 (tP 4)), oP 6 (.load none (tP 5)), oP 8 (.mv (tP 0)), oP 9 (.nilchk (tP 8)), oP 10 (.addOff 1 (tP 9)), oP 11 (.load none (tP 10)), oP 7 (.usd (tP 6)), oP 12 (.len false (tP 11)), oP 13 (.ustr 5 (tP 7) (tP 12)), oP 2 (.mv (tP 13))]])
 (.ret))
def A80 : AFunc := { ntmps := 14, results := [.tmp 2], body := B80, coe := true, keep := 0 }
theorem tr80 : trFunc Try.prog M80 true Try.f80 = some A80 := by kernel_rfl
def M81 : Marks := { cut := fun _ => true, hd := fun | _ => [], ex := fun | _ => [], imm := fun | _ => false }
def B81 : ACode :=
 .seq (.region [oP 2 (.mv (bP false))])
 (.seq (.seq (.region [oP 3 (.mv (tP 0))])
 (.block 0 (.seq (.seq (.region [oP 5 (.bin .eql (tP 3) (.con (.str ⟨#[99, 97, 112]⟩))),
 oP 4 (.mv (tP 5))])
 (.cond (tP 4) (.skip) (.seq (.region [oP 6 (.bin .eql (tP 3) (.con (.str ⟨#[100, 111]⟩))),
 oP 4 (.mv (tP 6))])
 (.cond (tP 4) (.skip) (.seq (.region [oP 7 (.bin .eql (tP 3) (.con (.str ⟨#[101, 108, 115, 101]⟩))),
 oP 4 (.mv (tP 7))])
 (.cond (tP 4) (.skip) (.seq (.region [oP 8 (.bin .eql (tP 3) (.con (.str ⟨#[101, 110, 100]⟩))),
 oP 4 (.mv (tP 8))])
 (.cond (tP 4) (.skip) (.seq (.region [oP 9 (.bin .eql (tP 3) (.con (.str ⟨#[102, 111, 114]⟩))),
 oP 4 (.mv (tP 9))])
 (.cond (tP 4) (.skip) (.seq (.region [oP 10 (.bin .eql (tP 3) (.con (.str ⟨#[102, 117, 110]⟩))),
 oP 4 (.mv (tP 10))])
 (.cond (tP 4) (.skip) (.seq (.region [oP 11 (.bin .eql (tP 3) (.con (.str ⟨#[105, 102]⟩))),
 oP 4 (.mv (tP 11))])
 (.cond (tP 4) (.skip) (.seq (.region [oP 12 (.bin .eql (tP 3) (.con (.str ⟨#[105, 110]⟩))),
 oP 4 (.mv (tP 12))])
 (.cond (tP 4) (.skip) (.seq (.region [oP 13 (.bin .eql (tP 3) (.con (.str ⟨#[108, 101, 116]⟩))),
 oP 4 (.mv (tP 13))])
 (.cond (tP 4) (.skip) (.seq (.region [oP 14 (.bin .eql (tP 3) (.con (.str ⟨#[109, 97, 116, 99, 104]⟩))),
 oP 4 (.mv (tP 14))])
 (.cond (tP 4) (.skip) (.seq (.region [oP 15 (.bin .eql (tP 3) (.con (.str ⟨#[111, 102]⟩))),
 oP 4 (.mv (tP 15))])
 (.cond (tP 4) (.skip) (.seq (.region [oP 16 (.bin .eql (tP 3) (.con (.str ⟨#[111, 110]⟩))),
 oP 4 (.mv (tP 16))])
 (.cond (tP 4) (.skip) (.seq (.region [oP 17 (.bin .eql (tP 3) (.con (.str ⟨#[113, 117, 101, 117, 101]⟩))),
 oP 4 (.mv (tP 17))])
 (.cond (tP 4) (.skip) (.seq (.region [oP 18 (.bin .eql (tP 3) (.con (.str ⟨#[115, 116, 97, 116, 101]⟩))),
 oP 4 (.mv (tP 18))])
 (.cond (tP 4) (.skip) (.seq (.region [oP 19 (.bin .eql (tP 3) (.con (.str ⟨#[116, 104, 101, 110]⟩))),
 oP 4 (.mv (tP 19))])
 (.cond (tP 4) (.skip) (.seq (.region [oP 20 (.bin .eql (tP 3) (.con (.str ⟨#[116, 105, 109, 101, 114, 115]⟩))),
 oP 4 (.mv (tP 20))])
 (.cond (tP 4) (.skip) (.seq (.region [oP 21 (.bin .eql (tP 3) (.con (.str ⟨#[116, 121, 112, 101]⟩))),
 oP 4 (.mv (tP 21))])
 (.cond (tP 4) (.skip) (.region [oP 22 (.bin .eql (tP 3) (.con (.str ⟨#[119, 105, 116, 104]⟩))),
 oP 4 (.mv (tP 22))])))))))))))))))))))))))))))))))))))
 (.cond (tP 4) (.seq (.region [oP 2 (.mv (bP true))])
 (.ret)) (.skip)))))
 (.seq (.region [oP 2 (.mv (bP false))])
 (.ret)))
def A81 : AFunc := { ntmps := 23, results := [.tmp 2], body := B81, coe := true, keep := 0 }
theorem tr81 : trFunc Try.prog M81 true Try.f81 = some A81 := by kernel_rfl
def M82 : Marks := { cut := fun _ => true, hd := fun | _ => [], ex := fun | _ => [], imm := fun | _ => false }
def B82 : ACode :=
 .seq (.region [oP 2 (.mv (.con (.int .u8 0))),
 oP 3 (.mv (bP false))])
 (.seq (.region [oP 7 (.mv (tP 0)),
 oP 8 (.call (.fn 62) [(tP 7), (iP 0)]),
 oP 4 (.mv (tP 8))])
 (.seq (.region [oP 9 (.mv (tP 0)),
 oP 10 (.nilchk (tP 9)),
 oP 11 (.addOff 1 (tP 10)),
 oP 12 (.load none (tP 11)),
 oP 13 (.bin .add (tP 12) (iP 1)),
 oP 14 (.nilchk (tP 9)),
 oP 15 (.addOff 1 (tP 14)),
 sP (.store 1 (tP 15) (tP 13))])
 (.seq (.seq (.region [oP 16 (.mv (tP 4))])
 (.block 0 (.seq (.block 5 (.seq (.block 4 (.block 3 (.seq (.block 2 (.seq (.block 1 (.seq (.seq (.seq (.region [oP 18 (.bin .eql (tP 16) (.con (.int .i32 110))),
 oP 17 (.mv (tP 18))])
 (.cond (tP 17) (.exit 1) (.skip)))
 (.seq (.seq (.region [oP 20 (.bin .eql (tP 16) (.con (.int .i32 116))),
 oP 19 (.mv (tP 20))])
 (.cond (tP 19) (.exit 2) (.skip)))
 (.seq (.seq (.region [oP 22 (.bin .eql (tP 16) (.con (.int .i32 34))),
 oP 21 (.mv (tP 22))])
 (.cond (tP 21) (.exit 3) (.skip)))
 (.seq (.seq (.region [oP 24 (.bin .eql (tP 16) (.con (.int .i32 92))),
 oP 23 (.mv (tP 24))])
 (.cond (tP 23) (.exit 4) (.skip)))
 (.seq (.region [oP 26 (.bin .eql (tP 16) (.con (.int .i32 120))),
 oP 25 (.mv (tP 26))])
 (.cond (tP 25) (.exit 5) (.skip)))))))
 (.exit 0)))
 (.seq (.seq (.region [oP 2 (.mv (.con (.int .u8 10))),
 oP 3 (.mv (bP true))])
 (.ret))
 (.exit 0))))
 (.seq (.seq (.region [oP 2 (.mv (.con (.int .u8 9))),
 oP 3 (.mv (bP true))])
 (.ret))
 (.exit 0)))))
 (.seq (.seq (.region [oP 27 (.mv (tP 4)),
 oP 28 (.cvt .u8 (tP 27)),
 oP 2 (.mv (tP 28)),
 oP 3 (.mv (bP true))])
 (.ret))
 (.exit 0))))
 (.seq (.seq (.region [oP 29 (.mv (tP 0)),
 oP 30 (.call (.fn 62) [(tP 29), (iP 0)]),
 oP 31 (.call (.fn 90) [(.con (.str ⟨#[48, 49, 50, 51, 52, 53, 54, 55, 56, 57, 97, 98, 99, 100, 101, 102]⟩)), (tP 30)]),
 oP 32 (.mv (tP 0)),
 oP 33 (.call (.fn 62) [(tP 32), (iP 1)]),
 oP 34 (.call (.fn 90) [(.con (.str ⟨#[48, 49, 50, 51, 52, 53, 54, 55, 56, 57, 97, 98, 99, 100, 101, 102]⟩)), (tP 33)]),
 oP 5 (.mv (tP 31)),
 oP 6 (.mv (tP 34))])
 (.seq (.region [oP 35 (.mv (tP 0)),
 oP 36 (.nilchk (tP 35)),
 oP 37 (.addOff 1 (tP 36)),
 oP 38 (.load none (tP 37)),
 oP 39 (.bin .add (tP 38) (iP 2)),
 oP 40 (.nilchk (tP 35)),
 oP 41 (.addOff 1 (tP 40)),
 sP (.store 1 (tP 41) (tP 39))])
 (.seq (.region [oP 42 (.mv (tP 5)),
 oP 43 (.bin .shl (tP 42) (.con (.int .u64 4))),
 oP 44 (.mv (tP 6)),
 oP 45 (.bin .and (tP 44) (iP 15)),
 oP 46 (.bin .or (tP 43) (tP 45)),
 oP 47 (.cvt .u8 (tP 46)),
 oP 48 (.mv (tP 5)),
 oP 49 (.bin .geq (tP 48) (iP 0)),
 oP 50 (.mv (tP 49)),
 gP 51 50 true (.mv (tP 6)),
 gP 52 50 true (.bin .geq (tP 51) (iP 0)),
 oP 53 (.pick (tP 50) (tP 52) (bP false)),
 oP 2 (.mv (tP 47)),
 oP 3 (.mv (tP 53))])
 (.ret))))
 (.exit 0)))))
 (.seq (.region [oP 2 (.mv (.con (.int .u8 0))),
 oP 3 (.mv (bP false))])
 (.ret)))))
def A82 : AFunc := { ntmps := 54, results := [.tmp 2, .tmp 3], body := B82, coe := true, keep := 0 }
theorem tr82 : trFunc Try.prog M82 true Try.f82 = some A82 := by kernel_rfl
def M83 : Marks := { cut := fun _ => true, hd := fun | _ => [], ex := fun | _ => [], imm := fun | 2 => true | _ => false }
def B83 : ACode :=
 .seq (.region [oP 2 (.mv (.con (.slice 1 [])))])
 (.seq (.seq (.region [oP 3 (.mv (tP 0)),
 oP 4 (.call (.fn 77) [(tP 3)]),
 oP 5 (.un .not (tP 4))])
 (.cond (tP 5) (.seq (.region [oP 2 (.mv (.con (.slice 1 [])))])
 (.ret)) (.skip)))
 (.seq (.region [oP 6 (.mv (tP 0)),
 oP 7 (.calln 1 (.fn 89) [(tP 6)]),
 oP 2 (.mv (tP 7))])
 (.ret)))
def A83 : AFunc := { ntmps := 8, results := [.tmp 2], body := B83, coe := true, keep := 0 }
theorem tr83 : trFunc Try.prog M83 true Try.f83 = some A83 := by kernel_rfl
def M84 : Marks := { cut := fun _ => true, hd := fun | _ => [], ex := fun | _ => [], imm := fun | _ => false }
def B84 : ACode :=
 .seq (.region [oP 4 (.mv (iP 0))])
 (.seq (.region [oP 5 (.mv (tP 0)),
 oP 6 (.mv (tP 1)),
 oP 7 (.call (.fn 91) [(tP 5), (tP 6)]),
 oP 4 (.mv (tP 7))])
 (.ret))
def A84 : AFunc := { ntmps := 8, results := [.tmp 4], body := B84, coe := true, keep := 0 }
theorem tr84 : trFunc Try.prog M84 true Try.f84 = some A84 := by kernel_rfl
abbrev H85L2 : List Bool := [true, true, true, true, false, false, false, false, false, true]
abbrev X85L2 : List Bool := [false, false, false, false, false, false, false, false, true]
def M85 : Marks := { cut := fun _ => true, hd := fun | 2 => H85L2 | _ => [], ex := fun | 2 => X85L2 | _ => [], imm := fun | 8 => true | 21 => true | _ => false }
def B85L2 : ACode :=
 .block 1 (.seq (.seq (.region [oP 10 (.mv (tP 9)),
 oP 11 (.len false (tP 10)),
 oP 12 (.mv (tP 2)),
 oP 13 (.bin .eql (tP 11) (tP 12))])
 (.cond (tP 13) (.region [oP 14 (.mv (tP 0)),
 oP 15 (.call (.fn 41) [(tP 14)]),
 oP 16 (.fld (some 2) 4 (tP 15)),
 oP 17 (.call (.fn 50) [(iP 27), (tP 16)])]) (.skip)))
 (.seq (.region [oP 18 (.mv (tP 9)),
 oP 19 (.mv (tP 3)),
 oP 20 (.call (tP 19) []),
 oP 21 (.lit true 0 7 1 [.int .i64 0, .int .i64 0, .int .i64 0, .str ⟨#[]⟩, .int .i64 0, .slice 6 [], .int .i64 0] [(0, (tP 20))]),
 oP 22 (.app false 0 7 80 (tP 18) (tP 21)),
 oP 9 (.mv (tP 22))])
 (.seq (.region [oP 23 (.mv (tP 0)),
 oP 24 (.mv (tP 1)),
 oP 25 (.call (.fn 34) [(tP 23), (tP 24)]),
 oP 26 (.un .not (tP 25))])
 (.cond (tP 26) (.seq (.region [oP 27 (.mv (tP 9)),
 oP 8 (.mv (tP 27))])
 (.ret)) (.skip)))))
def B85 : ACode :=
 .seq (.region [oP 8 (.mv (.con (.slice 7 [])))])
 (.seq (.region [oP 9 (.nilrow 7)])
 (.block 0 (.loop true H85L2 X85L2 B85L2)))
def A85 : AFunc := { ntmps := 28, results := [.tmp 8], body := B85, coe := true, keep := 0 }
theorem tr85 : trFunc Try.prog M85 true Try.f85 = some A85 := by kernel_rfl
def M86 : Marks := { cut := fun _ => true, hd := fun | _ => [], ex := fun | _ => [], imm := fun | 18 => true | 51 => true | 69 => true | 3000000 => true | _ => false }
def B86 : ACode :=
 .seq (.region [oP 2 (.alloc [.ok (.int .i64 0), .ok (.int .i64 0), .ok (.int .i64 0), .ok (.int .i64 0), .error 1, .ok (.str ⟨#[]⟩), .error 8, .error 14, .ok (.int .i64 0)])])
 (.seq (.region [oP 8 (.mv (tP 0)),
 oP 9 (.call (.fn 33) [(tP 8), (iP 2)]),
 oP 3 (.alloc [.ok (.int .i64 0), .ok (.int .i64 0), .ok (.int .i64 0), .ok (.int .i64 0), .error 1, .ok (.str ⟨#[]⟩), .error 8, .error 14, .ok (.int .i64 0)]),
 sP (.store 9 (tP 3) (tP 9))])
 (.seq (.region [oP 10 (.mv (tP 0)),
 oP 11 (.call (.fn 27) [(tP 10), (iP 1)]),
 oP 12 (.fld none 1 (tP 11)),
 oP 13 (.addOff 0 (tP 3)),
 oP 14 (.addOff 5 (tP 13)),
 sP (.store 1 (tP 14) (tP 12))])
 (.seq (.seq (.region [oP 15 (.mv (tP 0)),
 oP 16 (.call (.fn 49) [(tP 15), (.con (.str ⟨#[40]⟩))]),
 oP 17 (.un .not (tP 16))])
 (.cond (tP 17) (.seq (.region [oP 18 (.loadk (some 9) (tP 3)),
 sP (.storen 9 (tP 2) (tP 18))])
 (.ret)) (.skip)))
 (.seq (.seq (.region [oP 19 (.addOff 0 (tP 3)),
 oP 20 (.addOff 5 (tP 19)),
 oP 21 (.load none (tP 20)),
 oP 22 (.bin .eql (tP 21) (.con (.str ⟨#[105, 110, 116]⟩))),
 oP 23 (.mv (tP 22)),
 gP 24 23 false (.addOff 0 (tP 3)),
 gP 25 23 false (.addOff 5 (tP 24)),
 gP 26 23 false (.load none (tP 25)),
 gP 27 23 false (.bin .eql (tP 26) (.con (.str ⟨#[98, 121, 116, 101, 115]⟩))),
 oP 28 (.pick (tP 23) (bP true) (tP 27))])
 (.cond (tP 28) (.region [oP 29 (.addOff 0 (tP 3)),
 oP 30 (.addOff 1 (tP 29)),
 oP 31 (.load (some 2) (tP 30)),
 oP 32 (.call (.fn 50) [(iP 8), (tP 31)])]) (.skip)))
 (.seq (.region [oP 33 (.mv (tP 0)),
 oP 34 (.call (.fn 37) [(tP 33), (.con (.str ⟨#[40]⟩))])])
 (.seq (.region [oP 35 (.mv (tP 0)),
 oP 36 (.mv (tP 0)),
 oP 37 (.mkf (.func 26) [(tP 36)] []),
 oP 38 (.call (.fn 87) [(tP 35), (iP 6), (tP 37)]),
 oP 4 (.mv (tP 38))])
 (.seq (.region [oP 40 (.addOff 0 (tP 3)),
 oP 41 (.addOff 5 (tP 40)),
 oP 42 (.load none (tP 41)),
 oP 43 (.call (.fn 92) [(tP 42)]),
 oP 39 (.mv (tP 43)),
 oP 44 (.ext 0 (tP 39)),
 oP 45 (.ext 1 (tP 39)),
 oP 46 (.ext 2 (tP 39)),
 oP 5 (.mv (tP 44)),
 oP 6 (.mv (tP 45)),
 oP 7 (.mv (tP 46))])
 (.seq (.seq (.region [oP 47 (.mv (tP 7)),
 oP 48 (.un .not (tP 47))])
 (.cond (tP 48) (.seq (.region [oP 49 (.addOff 0 (tP 3)),
 oP 50 (.addOff 0 (tP 49)),
 sP (.store 1 (tP 50) (iP 5))])
 (.seq (.region [oP 51 (.loadk (some 9) (tP 3)),
 oP 52 (.mv (tP 4)),
 oP 53 (.call (.fn 38) [(tP 51), (tP 52)]),
 sP (.store 9 (tP 2) (tP 53))])
 (.ret))) (.skip)))
 (.seq (.seq (.region [oP 54 (.mv (tP 4)),
 oP 55 (.len false (tP 54)),
 oP 56 (.mv (tP 6)),
 oP 57 (.bin .neq (tP 55) (tP 56))])
 (.cond (tP 57) (.region [oP 58 (.addOff 0 (tP 3)),
 oP 59 (.addOff 1 (tP 58)),
 oP 60 (.load (some 2) (tP 59)),
 oP 61 (.call (.fn 50) [(iP 11), (tP 60)])]) (.skip)))
 (.seq (.region [oP 62 (.mv (tP 5)),
 oP 63 (.addOff 0 (tP 3)),
 oP 64 (.addOff 0 (tP 63)),
 sP (.store 1 (tP 64) (iP 9)),
 oP 65 (.addOff 0 (tP 3)),
 oP 66 (.addOff 5 (tP 65)),
 sP (.store 1 (tP 66) (.con (.str ⟨#[]⟩))),
 oP 67 (.addOff 0 (tP 3)),
 oP 68 (.addOff 3 (tP 67)),
 sP (.store 1 (tP 68) (tP 62))])
 (.seq (.region [oP 69 (.loadk (some 9) (tP 3)),
 oP 70 (.mv (tP 4)),
 oP 71 (.call (.fn 38) [(tP 69), (tP 70)]),
 sP (.store 9 (tP 2) (tP 71))])
 (.ret))))))))))))
def A86 : AFunc := { ntmps := 72, results := [.cellk (some 9) 2], body := B86, coe := true, keep := 0 }
theorem tr86 : trFunc Try.prog M86 true Try.f86 = some A86 := by kernel_rfl
def M87 : Marks := { cut := fun _ => true, hd := fun | _ => [], ex := fun | _ => [], imm := fun | 6 => true | _ => false }
def B87 : ACode :=
 .seq (.region [oP 6 (.mv (.con (.slice 9 [])))])
 (.seq (.region [oP 8 (.mv (tP 0)),
 oP 9 (.mv (tP 1)),
 oP 10 (.mv (tP 2)),
 oP 11 (.call (.fn 93) [(tP 8), (.con (.str ⟨#[44]⟩)), (tP 9), (tP 10)]),
 oP 7 (.mv (tP 11))])
 (.seq (.region [oP 12 (.mv (tP 0)),
 oP 13 (.call (.fn 37) [(tP 12), (.con (.str ⟨#[41]⟩))])])
 (.seq (.region [oP 14 (.mv (tP 7)),
 oP 6 (.mv (tP 14))])
 (.ret))))
def A87 : AFunc := { ntmps := 15, results := [.tmp 6], body := B87, coe := true, keep := 0 }
theorem tr87 : trFunc Try.prog M87 true Try.f87 = some A87 := by kernel_rfl
def M89 : Marks := { cut := fun _ => true, hd := fun | _ => [], ex := fun | _ => [], imm := fun | 4 => true | 11 => true | _ => false }
def B89 : ACode :=
 .seq (.region [oP 4 (.mv (.con (.slice 1 [])))])
 (.seq (.seq (.region [oP 5 (.mv (tP 1)),
 oP 6 (.cvt .u32 (tP 5)),
 oP 7 (.bin .leq (tP 6) (.con (.int .u32 127)))])
 (.cond (tP 7) (.seq (.region [oP 8 (.mv (tP 0)),
 oP 9 (.mv (tP 1)),
 oP 10 (.cvt .u8 (tP 9)),
 oP 11 (.lit true 5 1 1 [.int .u8 0] [(0, (tP 10))]),
 oP 12 (.app false 5 1 1 (tP 8) (tP 11)),
 oP 4 (.mv (tP 12))])
 (.ret)) (.skip)))
 (.seq (.region [oP 13 (.mv (tP 0)),
 oP 14 (.mv (tP 1)),
 oP 15 (.call (.fn 95) [(tP 13), (tP 14)]),
 oP 4 (.mv (tP 15))])
 (.ret)))
def A89 : AFunc := { ntmps := 16, results := [.tmp 4], body := B89, coe := false, keep := 0 }
theorem tr89 : trFunc Try.prog M89 false Try.f89 = some A89 := by kernel_rfl
abbrev H90L38 : List Bool := [false, false, false, false, false, false, false, false, false, false, false, false, false, false, false, false, false, false, false, false, false, false, false, false, false, false, false, false, false, false, false, false, false, false, false, false, false, false, false, false, false, false, false, false, false, false, false, false, false, false, false, false, false, false, false, false, false, false, false, false, false, false, false, false, false, false, false, false, false, false, false, false, false, false, false, false, false, false, false, false, false, false, false, false, false, false, false, false, false, false, false, false, false, false, false, false, false, false, false, false, false, false, false, false, false, false, false, false, false, false, false, false, false, false, false, false, false, false, false, false, false, false, false, false, false, false, false, false, false, false, false, false, false, false, false, false, false, false, false, false, false, false, false, false, false, false, false, false, false, false, false, false, false, false, false, false, false, false, false, false, false, false, false, false, false, false, false, false, false, false, false, false, false, false, false, true]
abbrev X90L38 : List Bool := [false, false, false, false, true]
abbrev H90L12 : List Bool := [true, true, false, false, false, false, false, true, true, true, true, false, true]
abbrev X90L12 : List Bool := [true, true, false, false, false, false, false, true, true, true, true]
abbrev H90L5000000 : List Bool := [true, true, false, false, false, false, false, true, true, true, true]
abbrev X90L5000000 : List Bool := [true, true, false, false, false, false, false, true, true, true, true]
abbrev H90L5 : List Bool := [true, true, false, false, false, false, false, true, true, true, true]
abbrev X90L5 : List Bool := [true, true, false, false, true, false, false, true, true, true]
abbrev H90L29 : List Bool := [true, false, false, false, false, false, false, true, true, true, false, false, false, false, true, true, true]
abbrev X90L29 : List Bool := [true, false, false, false, false, false, false, true, true, true, false, false, false, false, true, true]
abbrev H90L25 : List Bool := [true, false, false, false, false, false, false, true, true, true, false, false, false, false, true, true]
abbrev X90L25 : List Bool := [false, false, false, false, true]
abbrev H90L5000002 : List Bool := [true, false, false, false, false, false, false, true, true, true, false, false, false, false, true, true]
abbrev X90L5000002 : List Bool := [false, false, false, false, true]
abbrev H90L5000001 : List Bool := [true, true, false, false, false, false, false, true, true, true]
abbrev X90L5000001 : List Bool := [false, false, false, false, true]
def M90 : Marks := { cut := fun _ => true, hd := fun | 5 => H90L5 | 12 => H90L12 | 25 => H90L25 | 29 => H90L29 | 38 => H90L38 | 5000000 => H90L5000000 | 5000001 => H90L5000001 | 5000002 => H90L5000002 | _ => [], ex := fun | 5 => X90L5 | 12 => X90L12 | 25 => X90L25 | 29 => X90L29 | 38 => X90L38 | 5000000 => X90L5000000 | 5000001 => X90L5000001 | 5000002 => X90L5000002 | _ => [], imm := fun | _ => false }
def B90L38 : ACode :=
 .seq (.region [oP 176 (.next (tP 175)),
 oP 177 (.ext 0 (tP 176))])
 (.seq (.cond (tP 177) (.skip) (.exit 9))
 (.block 10 (.seq (.region [oP 178 (.ext 1 (tP 176)),
 oP 179 (.ext 2 (tP 176)),
 oP 5 (.mv (tP 178)),
 oP 6 (.mv (tP 179))])
 (.seq (.region [oP 180 (.mv (tP 6)),
 oP 181 (.bin .eql (tP 180) (.con (.int .i32 65533)))])
 (.cond (tP 181) (.seq (.region [oP 182 (.mv (tP 5)),
 oP 4 (.mv (tP 182))])
 (.ret)) (.skip))))))
def B90L12 : ACode :=
 .seq (.seq (.region [oP 48 (.mv (tP 12)),
 oP 49 (.mv (tP 7)),
 oP 50 (.len true (tP 49)),
 oP 51 (.bin .lss (tP 48) (tP 50))])
 (.cond (tP 51) (.skip) (.exit 3)))
 (.seq (.block 4 (.seq (.draw [oP 54 (.mv (tP 0)),
 oP 55 (.mv (tP 9)),
 oP 56 (.mv (tP 12)),
 oP 57 (.bin .sub (tP 55) (tP 56)),
 oP 58 (.idxStr (tP 54) (tP 57)),
 oP 59 (.mv (tP 7)),
 oP 60 (.mv (tP 8)),
 oP 61 (.mv (tP 12)),
 oP 62 (.bin .sub (tP 60) (tP 61)),
 oP 63 (.idxStr (tP 59) (tP 62)),
 oP 64 (.bin .neq (tP 58) (tP 63))] [])
 (.cond (tP 64) (.exit 1000000) (.skip))))
 (.region [oP 52 (.mv (tP 12)),
 oP 53 (.bin .add (tP 52) (iP 1)),
 oP 12 (.mv (tP 53))]))
def B90L5000000 : ACode :=
 .block 1000000 (.seq (.seq (.skip)
 (.seq (.region [oP 68 (.mv (tP 10)),
 oP 69 (.bin .add (tP 68) (iP 1)),
 oP 10 (.mv (tP 69))])
 (.seq (.region [oP 70 (.mv (tP 9)),
 oP 71 (.bin .add (tP 70) (iP 1)),
 oP 9 (.mv (tP 71))])
 (.seq (.region [oP 72 (.mv (bP true)),
 gP 73 72 true (.mv (tP 10)),
 gP 74 72 true (.mv (tP 9)),
 gP 75 72 true (.call (.fn 96) [(tP 74)]),
 gP 76 72 true (.bin .gtr (tP 73) (tP 75)),
 oP 77 (.pick (tP 72) (tP 76) (bP false)),
 oP 78 (.mv (tP 77)),
 gP 79 78 true (.mv (tP 9)),
 gP 80 78 true (.mv (tP 0)),
 gP 81 78 true (.len true (tP 80)),
 gP 82 78 true (.bin .lss (tP 79) (tP 81)),
 oP 83 (.pick (tP 78) (tP 82) (bP false)),
 oP 84 (.mv (tP 83)),
 gP 85 84 false (.mv (bP false)),
 gP 86 85 true (.mv (tP 10)),
 gP 87 85 true (.mv (tP 9)),
 gP 88 85 true (.bin .shr (tP 87) (.con (.int .u64 4))),
 gP 89 85 true (.bin .add (iP 4) (tP 88)),
 gP 90 85 true (.bin .geq (tP 86) (tP 89)),
 gP 91 84 false (.pick (tP 85) (tP 90) (bP false)),
 gP 92 84 false (.mv (tP 91)),
 gP 93 92 true (.mv (tP 9)),
 gP 94 92 true (.mv (tP 0)),
 gP 95 92 true (.len true (tP 94)),
 gP 96 92 true (.bin .lss (tP 93) (tP 95)),
 gP 97 84 false (.pick (tP 92) (tP 96) (bP false)),
 oP 98 (.pick (tP 84) (bP true) (tP 97))])
 (.cond (tP 98) (.exit 1000001) (.skip))))))
 (.exit 2000000))
def B90L5 : ACode :=
 .seq (.seq (.region [oP 23 (.mv (tP 9)),
 oP 24 (.mv (tP 0)),
 oP 25 (.len true (tP 24)),
 oP 26 (.bin .lss (tP 23) (tP 25))])
 (.cond (tP 26) (.skip) (.exit 1)))
 (.block 2 (.block 2000000 (.seq (.block 1000000 (.seq (.seq (.seq (.draw [oP 27 (.mv (tP 0)),
 oP 28 (.mv (tP 9)),
 oP 29 (.idxStr (tP 27) (tP 28)),
 oP 30 (.mv (tP 7)),
 oP 31 (.mv (tP 8)),
 oP 32 (.idxStr (tP 30) (tP 31)),
 oP 33 (.bin .neq (tP 29) (tP 32))] [])
 (.cond (tP 33) (.seq (.draw [oP 34 (.mv (tP 0)),
 oP 35 (.mv (tP 9)),
 oP 36 (.bin .add (tP 35) (iP 1)),
 oP 37 (.slcStr (tP 34) (some (tP 36)) none),
 oP 38 (.mv (tP 7)),
 oP 39 (.mv (tP 8)),
 oP 40 (.idxStr (tP 38) (tP 39)),
 oP 41 (.call (.fn 84) [(tP 37), (tP 40)]),
 oP 11 (.mv (tP 41))] [])
 (.seq (.seq (.region [oP 42 (.mv (tP 11)),
 oP 43 (.bin .lss (tP 42) (iP 0))])
 (.cond (tP 43) (.seq (.region [oP 4 (.mv (iP (-1)))])
 (.ret)) (.skip)))
 (.region [oP 44 (.mv (tP 9)),
 oP 45 (.mv (tP 11)),
 oP 46 (.bin .add (tP 45) (iP 1)),
 oP 47 (.bin .add (tP 44) (tP 46)),
 oP 9 (.mv (tP 47))]))) (.skip)))
 (.seq (.seq (.region [oP 12 (.mv (iP 1))])
 (.block 3 (.loop true H90L12 X90L12 B90L12)))
 (.seq (.seq (.region [oP 65 (.mv (tP 9)),
 oP 66 (.mv (tP 8)),
 oP 67 (.bin .sub (tP 65) (tP 66)),
 oP 4 (.mv (tP 67))])
 (.ret))
 (.seq (.block 3000000 (.skip))
 (.seq (.region [oP 68 (.mv (tP 10)),
 oP 69 (.bin .add (tP 68) (iP 1)),
 oP 10 (.mv (tP 69))])
 (.seq (.region [oP 70 (.mv (tP 9)),
 oP 71 (.bin .add (tP 70) (iP 1)),
 oP 9 (.mv (tP 71))])
 (.seq (.region [oP 72 (.mv (bP true)),
 gP 73 72 true (.mv (tP 10)),
 gP 74 72 true (.mv (tP 9)),
 gP 75 72 true (.call (.fn 96) [(tP 74)]),
 gP 76 72 true (.bin .gtr (tP 73) (tP 75)),
 oP 77 (.pick (tP 72) (tP 76) (bP false)),
 oP 78 (.mv (tP 77)),
 gP 79 78 true (.mv (tP 9)),
 gP 80 78 true (.mv (tP 0)),
 gP 81 78 true (.len true (tP 80)),
 gP 82 78 true (.bin .lss (tP 79) (tP 81)),
 oP 83 (.pick (tP 78) (tP 82) (bP false)),
 oP 84 (.mv (tP 83)),
 gP 85 84 false (.mv (bP false)),
 gP 86 85 true (.mv (tP 10)),
 gP 87 85 true (.mv (tP 9)),
 gP 88 85 true (.bin .shr (tP 87) (.con (.int .u64 4))),
 gP 89 85 true (.bin .add (iP 4) (tP 88)),
 gP 90 85 true (.bin .geq (tP 86) (tP 89)),
 gP 91 84 false (.pick (tP 85) (tP 90) (bP false)),
 gP 92 84 false (.mv (tP 91)),
 gP 93 92 true (.mv (tP 9)),
 gP 94 92 true (.mv (tP 0)),
 gP 95 92 true (.len true (tP 94)),
 gP 96 92 true (.bin .lss (tP 93) (tP 95)),
 gP 97 84 false (.pick (tP 92) (tP 96) (bP false)),
 oP 98 (.pick (tP 84) (bP true) (tP 97))])
 (.cond (tP 98) (.exit 1000001) (.skip)))))))))
 (.exit 2000000))) (.loop true H90L5000000 X90L5000000 B90L5000000))))
def B90L29 : ACode :=
 .seq (.seq (.region [oP 140 (.mv (tP 16)),
 oP 141 (.mv (tP 7)),
 oP 142 (.len true (tP 141)),
 oP 143 (.bin .lss (tP 140) (tP 142))])
 (.cond (tP 143) (.skip) (.exit 7)))
 (.seq (.block 8 (.seq (.draw [oP 146 (.mv (tP 0)),
 oP 147 (.mv (tP 9)),
 oP 148 (.mv (tP 16)),
 oP 149 (.bin .sub (tP 147) (tP 148)),
 oP 150 (.idxStr (tP 146) (tP 149)),
 oP 151 (.mv (tP 7)),
 oP 152 (.mv (tP 8)),
 oP 153 (.mv (tP 16)),
 oP 154 (.bin .sub (tP 152) (tP 153)),
 oP 155 (.idxStr (tP 151) (tP 154)),
 oP 156 (.bin .neq (tP 150) (tP 155))] [])
 (.cond (tP 156) (.exit 6) (.skip))))
 (.region [oP 144 (.mv (tP 16)),
 oP 145 (.bin .add (tP 144) (iP 1)),
 oP 16 (.mv (tP 145))]))
def B90L25 : ACode :=
 .seq (.seq (.region [oP 121 (.mv (tP 9)),
 oP 122 (.mv (tP 0)),
 oP 123 (.len true (tP 122)),
 oP 124 (.bin .lss (tP 121) (tP 123))])
 (.cond (tP 124) (.skip) (.exit 5)))
 (.seq (.block 6 (.seq (.region [oP 127 (.mv (tP 0)),
 oP 128 (.mv (tP 9)),
 oP 129 (.idxStr (tP 127) (tP 128)),
 oP 130 (.mv (tP 14)),
 oP 131 (.bin .eql (tP 129) (tP 130)),
 oP 132 (.mv (tP 131)),
 gP 133 132 true (.mv (tP 0)),
 gP 134 132 true (.mv (tP 9)),
 gP 135 132 true (.bin .sub (tP 134) (iP 1)),
 gP 136 132 true (.idxStr (tP 133) (tP 135)),
 gP 137 132 true (.mv (tP 15)),
 gP 138 132 true (.bin .eql (tP 136) (tP 137)),
 oP 139 (.pick (tP 132) (tP 138) (bP false))])
 (.cond (tP 139) (.seq (.seq (.region [oP 16 (.mv (iP 2))])
 (.block 7 (.loop true H90L29 X90L29 B90L29)))
 (.seq (.region [oP 157 (.mv (tP 9)),
 oP 158 (.mv (tP 8)),
 oP 159 (.bin .sub (tP 157) (tP 158)),
 oP 4 (.mv (tP 159))])
 (.ret))) (.skip))))
 (.region [oP 125 (.mv (tP 9)),
 oP 126 (.bin .add (tP 125) (iP 1)),
 oP 9 (.mv (tP 126))]))
def B90L5000002 : ACode :=
 .block 1000002 (.seq (.seq (.skip)
 (.block 5 (.loop true H90L25 X90L25 B90L25)))
 (.exit 2000002))
def B90L5000001 : ACode :=
 .block 1000001 (.seq (.seq (.skip)
 (.seq (.cond (bP true) (.seq (.region [oP 99 (.mv (tP 0)),
 oP 100 (.mv (tP 9)),
 oP 101 (.mv (tP 8)),
 oP 102 (.bin .sub (tP 100) (tP 101)),
 oP 103 (.slcStr (tP 99) (some (tP 102)) none),
 oP 104 (.mv (tP 1)),
 oP 105 (.rstr (tP 104)),
 oP 106 (.call (.fn 97) [(tP 103), (tP 105)]),
 oP 13 (.mv (tP 106))])
 (.seq (.region [oP 107 (.mv (tP 13)),
 oP 108 (.bin .geq (tP 107) (iP 0))])
 (.cond (tP 108) (.seq (.region [oP 109 (.mv (tP 9)),
 oP 110 (.mv (tP 13)),
 oP 111 (.bin .add (tP 109) (tP 110)),
 oP 112 (.mv (tP 8)),
 oP 113 (.bin .sub (tP 111) (tP 112)),
 oP 4 (.mv (tP 113))])
 (.ret)) (.skip)))) (.block 2000002 (.seq (.block 1000002 (.seq (.seq (.region [oP 114 (.mv (tP 7)),
 oP 115 (.mv (tP 8)),
 oP 116 (.idxStr (tP 114) (tP 115)),
 oP 14 (.mv (tP 116))])
 (.seq (.region [oP 117 (.mv (tP 7)),
 oP 118 (.mv (tP 8)),
 oP 119 (.bin .sub (tP 118) (iP 1)),
 oP 120 (.idxStr (tP 117) (tP 119)),
 oP 15 (.mv (tP 120))])
 (.seq (.block 3000002 (.skip))
 (.block 5 (.loop true H90L25 X90L25 B90L25)))))
 (.exit 2000002))) (.loop true H90L5000002 X90L5000002 B90L5000002))))
 (.seq (.region [oP 4 (.mv (iP (-1)))])
 (.ret))))
 (.exit 2000001))
def B90 : ACode :=
 .seq (.region [oP 4 (.mv (iP 0))])
 (.block 0 (.seq (.region [oP 161 (.mv (tP 1)),
 oP 162 (.bin .leq (.con (.int .i32 0)) (tP 161)),
 oP 163 (.mv (tP 162)),
 gP 164 163 true (.mv (tP 1)),
 gP 165 163 true (.bin .lss (tP 164) (.con (.int .i32 128))),
 oP 166 (.pick (tP 163) (tP 165) (bP false)),
 oP 160 (.mv (tP 166))])
 (.cond (tP 160) (.seq (.region [oP 167 (.mv (tP 0)),
 oP 168 (.mv (tP 1)),
 oP 169 (.cvt .u8 (tP 168)),
 oP 170 (.call (.fn 84) [(tP 167), (tP 169)]),
 oP 4 (.mv (tP 170))])
 (.ret)) (.seq (.region [oP 172 (.mv (tP 1)),
 oP 173 (.bin .eql (tP 172) (.con (.int .i32 65533))),
 oP 171 (.mv (tP 173))])
 (.cond (tP 171) (.seq (.seq (.region [oP 174 (.mv (tP 0)),
 oP 175 (.rng (tP 174))])
 (.block 9 (.loop true H90L38 X90L38 B90L38)))
 (.seq (.region [oP 4 (.mv (iP (-1)))])
 (.ret))) (.seq (.region [oP 184 (.mv (tP 1)),
 oP 185 (.call (.fn 77) [(tP 184)]),
 oP 186 (.un .not (tP 185)),
 oP 183 (.mv (tP 186))])
 (.cond (tP 183) (.seq (.region [oP 4 (.mv (iP (-1)))])
 (.ret)) (.block 2000001 (.seq (.block 1000001 (.seq (.seq (.region [oP 17 (.mv (tP 1)),
 oP 18 (.rstr (tP 17)),
 oP 7 (.mv (tP 18))])
 (.seq (.region [oP 19 (.mv (tP 7)),
 oP 20 (.len true (tP 19)),
 oP 21 (.bin .sub (tP 20) (iP 1)),
 oP 8 (.mv (tP 21))])
 (.seq (.region [oP 22 (.mv (tP 8)),
 oP 9 (.mv (tP 22))])
 (.seq (.region [oP 10 (.mv (iP 0))])
 (.seq (.block 1 (.loop true H90L5 X90L5 B90L5))
 (.seq (.seq (.region [oP 4 (.mv (iP (-1)))])
 (.ret))
 (.seq (.block 3000001 (.skip))
 (.seq (.cond (bP true) (.seq (.region [oP 99 (.mv (tP 0)),
 oP 100 (.mv (tP 9)),
 oP 101 (.mv (tP 8)),
 oP 102 (.bin .sub (tP 100) (tP 101)),
 oP 103 (.slcStr (tP 99) (some (tP 102)) none),
 oP 104 (.mv (tP 1)),
 oP 105 (.rstr (tP 104)),
 oP 106 (.call (.fn 97) [(tP 103), (tP 105)]),
 oP 13 (.mv (tP 106))])
 (.seq (.region [oP 107 (.mv (tP 13)),
 oP 108 (.bin .geq (tP 107) (iP 0))])
 (.cond (tP 108) (.seq (.region [oP 109 (.mv (tP 9)),
 oP 110 (.mv (tP 13)),
 oP 111 (.bin .add (tP 109) (tP 110)),
 oP 112 (.mv (tP 8)),
 oP 113 (.bin .sub (tP 111) (tP 112)),
 oP 4 (.mv (tP 113))])
 (.ret)) (.skip)))) (.block 2000002 (.seq (.block 1000002 (.seq (.seq (.region [oP 114 (.mv (tP 7)),
 oP 115 (.mv (tP 8)),
 oP 116 (.idxStr (tP 114) (tP 115)),
 oP 14 (.mv (tP 116))])
 (.seq (.region [oP 117 (.mv (tP 7)),
 oP 118 (.mv (tP 8)),
 oP 119 (.bin .sub (tP 118) (iP 1)),
 oP 120 (.idxStr (tP 117) (tP 119)),
 oP 15 (.mv (tP 120))])
 (.seq (.block 3000002 (.skip))
 (.block 5 (.loop true H90L25 X90L25 B90L25)))))
 (.exit 2000002))) (.loop true H90L5000002 X90L5000002 B90L5000002))))
 (.seq (.region [oP 4 (.mv (iP (-1)))])
 (.ret))))))))))
 (.exit 2000001))) (.loop true H90L5000001 X90L5000001 B90L5000001))))))))))
def A90 : AFunc := { ntmps := 187, results := [.tmp 4], body := B90, coe := true, keep := 0 }
theorem tr90 : trFunc Try.prog M90 true Try.f90 = some A90 := by kernel_rfl
def M91 : Marks := { cut := fun _ => true, hd := fun | _ => [], ex := fun | _ => [], imm := fun | _ => false }
def B91 : ACode :=
 .seq (.region [oP 4 (.mv (iP 0))])
 (.seq (.region [oP 5 (.mv (tP 0)),
 oP 6 (.mv (tP 1)),
 oP 7 (.idxB (tP 5) (tP 6)),
 oP 4 (.mv (tP 7))])
 (.ret))
def A91 : AFunc := { ntmps := 8, results := [.tmp 4], body := B91, coe := true, keep := 0 }
theorem tr91 : trFunc Try.prog M91 true Try.f91 = some A91 := by kernel_rfl
def M92 : Marks := { cut := fun _ => true, hd := fun | _ => [], ex := fun | _ => [], imm := fun | _ => false }
def B92 : ACode :=
 .seq (.region [oP 2 (.mv (iP 0)),
 oP 3 (.mv (iP 0)),
 oP 4 (.mv (bP false))])
 (.seq (.seq (.region [oP 5 (.mv (tP 0))])
 (.block 0 (.seq (.region [oP 7 (.bin .eql (tP 5) (.con (.str ⟨#[108, 101, 110]⟩))),
 oP 6 (.mv (tP 7))])
 (.cond (tP 6) (.seq (.region [oP 2 (.mv (iP 8)),
 oP 3 (.mv (iP 1)),
 oP 4 (.mv (bP true))])
 (.ret)) (.seq (.region [oP 9 (.bin .eql (tP 5) (.con (.str ⟨#[97, 116]⟩))),
 oP 8 (.mv (tP 9))])
 (.cond (tP 8) (.seq (.region [oP 2 (.mv (iP 9)),
 oP 3 (.mv (iP 2)),
 oP 4 (.mv (bP true))])
 (.ret)) (.seq (.region [oP 11 (.bin .eql (tP 5) (.con (.str ⟨#[99, 97, 116]⟩))),
 oP 10 (.mv (tP 11))])
 (.cond (tP 10) (.seq (.region [oP 2 (.mv (iP 10)),
 oP 3 (.mv (iP 2)),
 oP 4 (.mv (bP true))])
 (.ret)) (.seq (.region [oP 13 (.bin .eql (tP 5) (.con (.str ⟨#[99, 117, 116]⟩))),
 oP 12 (.mv (tP 13))])
 (.cond (tP 12) (.seq (.region [oP 2 (.mv (iP 11)),
 oP 3 (.mv (iP 3)),
 oP 4 (.mv (bP true))])
 (.ret)) (.skip)))))))))))
 (.seq (.region [oP 2 (.mv (iP 0)),
 oP 3 (.mv (iP 0)),
 oP 4 (.mv (bP false))])
 (.ret)))
def A92 : AFunc := { ntmps := 14, results := [.tmp 2, .tmp 3, .tmp 4], body := B92, coe := true, keep := 0 }
theorem tr92 : trFunc Try.prog M92 true Try.f92 = some A92 := by kernel_rfl
abbrev H93L2 : List Bool := [true, true, true, true, false, false, false, false, false, true]
abbrev X93L2 : List Bool := [false, false, false, false, false, false, false, false, true]
def M93 : Marks := { cut := fun _ => true, hd := fun | 2 => H93L2 | _ => [], ex := fun | 2 => X93L2 | _ => [], imm := fun | 8 => true | 21 => true | _ => false }
def B93L2 : ACode :=
 .block 1 (.seq (.seq (.region [oP 10 (.mv (tP 9)),
 oP 11 (.len false (tP 10)),
 oP 12 (.mv (tP 2)),
 oP 13 (.bin .eql (tP 11) (tP 12))])
 (.cond (tP 13) (.region [oP 14 (.mv (tP 0)),
 oP 15 (.call (.fn 41) [(tP 14)]),
 oP 16 (.fld (some 2) 4 (tP 15)),
 oP 17 (.call (.fn 50) [(iP 27), (tP 16)])]) (.skip)))
 (.seq (.region [oP 18 (.mv (tP 9)),
 oP 19 (.mv (tP 3)),
 oP 20 (.call (tP 19) []),
 oP 21 (.lit true 0 9 1 [.int .i64 0, .int .i64 0, .int .i64 0, .int .i64 0, .slice 1 [], .str ⟨#[]⟩, .slice 8 [], .slice 14 [], .int .i64 0] [(0, (tP 20))]),
 oP 22 (.app false 0 9 128 (tP 18) (tP 21)),
 oP 9 (.mv (tP 22))])
 (.seq (.region [oP 23 (.mv (tP 0)),
 oP 24 (.mv (tP 1)),
 oP 25 (.call (.fn 34) [(tP 23), (tP 24)]),
 oP 26 (.un .not (tP 25))])
 (.cond (tP 26) (.seq (.region [oP 27 (.mv (tP 9)),
 oP 8 (.mv (tP 27))])
 (.ret)) (.skip)))))
def B93 : ACode :=
 .seq (.region [oP 8 (.mv (.con (.slice 9 [])))])
 (.seq (.region [oP 9 (.nilrow 9)])
 (.block 0 (.loop true H93L2 X93L2 B93L2)))
def A93 : AFunc := { ntmps := 28, results := [.tmp 8], body := B93, coe := true, keep := 0 }
theorem tr93 : trFunc Try.prog M93 true Try.f93 = some A93 := by kernel_rfl
def M95 : Marks := { cut := fun _ => true, hd := fun | _ => [], ex := fun | _ => [], imm := fun | 4 => true | 9 => true | 23 => true | 48 => true | 76 => true | _ => false }
def B95 : ACode :=
 .seq (.region [oP 4 (.mv (.con (.slice 1 [])))])
 (.seq (.region [oP 6 (.mv (tP 1)),
 oP 7 (.cvt .u32 (tP 6)),
 oP 5 (.mv (tP 7))])
 (.block 0 (.seq (.region [oP 12 (.mv (tP 5)),
 oP 13 (.bin .leq (tP 12) (.con (.int .u32 2047))),
 oP 11 (.mv (tP 13))])
 (.cond (tP 11) (.seq (.region [oP 14 (.mv (tP 0)),
 oP 15 (.mv (tP 1)),
 oP 16 (.bin .shr (tP 15) (.con (.int .u64 6))),
 oP 17 (.cvt .u8 (tP 16)),
 oP 18 (.bin .or (.con (.int .u8 192)) (tP 17)),
 oP 19 (.mv (tP 1)),
 oP 20 (.cvt .u8 (tP 19)),
 oP 21 (.bin .and (tP 20) (.con (.int .u8 63))),
 oP 22 (.bin .or (.con (.int .u8 128)) (tP 21)),
 oP 23 (.lit true 5 1 2 [.int .u8 0] [(0, (tP 18)), (1, (tP 22))]),
 oP 24 (.app false 5 1 1 (tP 14) (tP 23)),
 oP 4 (.mv (tP 24))])
 (.ret)) (.seq (.seq (.region [oP 26 (.mv (tP 5)),
 oP 27 (.bin .lss (tP 26) (.con (.int .u32 55296))),
 oP 25 (.mv (tP 27))])
 (.cond (tP 25) (.skip) (.region [oP 28 (.mv (tP 5)),
 oP 29 (.bin .lss (.con (.int .u32 57343)) (tP 28)),
 oP 30 (.mv (tP 29)),
 gP 31 30 true (.mv (tP 5)),
 gP 32 30 true (.bin .leq (tP 31) (.con (.int .u32 65535))),
 oP 33 (.pick (tP 30) (tP 32) (bP false)),
 oP 25 (.mv (tP 33))])))
 (.cond (tP 25) (.seq (.region [oP 34 (.mv (tP 0)),
 oP 35 (.mv (tP 1)),
 oP 36 (.bin .shr (tP 35) (.con (.int .u64 12))),
 oP 37 (.cvt .u8 (tP 36)),
 oP 38 (.bin .or (.con (.int .u8 224)) (tP 37)),
 oP 39 (.mv (tP 1)),
 oP 40 (.bin .shr (tP 39) (.con (.int .u64 6))),
 oP 41 (.cvt .u8 (tP 40)),
 oP 42 (.bin .and (tP 41) (.con (.int .u8 63))),
 oP 43 (.bin .or (.con (.int .u8 128)) (tP 42)),
 oP 44 (.mv (tP 1)),
 oP 45 (.cvt .u8 (tP 44)),
 oP 46 (.bin .and (tP 45) (.con (.int .u8 63))),
 oP 47 (.bin .or (.con (.int .u8 128)) (tP 46)),
 oP 48 (.lit true 5 1 3 [.int .u8 0] [(0, (tP 38)), (1, (tP 43)), (2, (tP 47))]),
 oP 49 (.app false 5 1 1 (tP 34) (tP 48)),
 oP 4 (.mv (tP 49))])
 (.ret)) (.seq (.region [oP 51 (.mv (tP 5)),
 oP 52 (.bin .gtr (tP 51) (.con (.int .u32 65535))),
 oP 53 (.mv (tP 52)),
 gP 54 53 true (.mv (tP 5)),
 gP 55 53 true (.bin .leq (tP 54) (.con (.int .u32 1114111))),
 oP 56 (.pick (tP 53) (tP 55) (bP false)),
 oP 50 (.mv (tP 56))])
 (.cond (tP 50) (.seq (.region [oP 57 (.mv (tP 0)),
 oP 58 (.mv (tP 1)),
 oP 59 (.bin .shr (tP 58) (.con (.int .u64 18))),
 oP 60 (.cvt .u8 (tP 59)),
 oP 61 (.bin .or (.con (.int .u8 240)) (tP 60)),
 oP 62 (.mv (tP 1)),
 oP 63 (.bin .shr (tP 62) (.con (.int .u64 12))),
 oP 64 (.cvt .u8 (tP 63)),
 oP 65 (.bin .and (tP 64) (.con (.int .u8 63))),
 oP 66 (.bin .or (.con (.int .u8 128)) (tP 65)),
 oP 67 (.mv (tP 1)),
 oP 68 (.bin .shr (tP 67) (.con (.int .u64 6))),
 oP 69 (.cvt .u8 (tP 68)),
 oP 70 (.bin .and (tP 69) (.con (.int .u8 63))),
 oP 71 (.bin .or (.con (.int .u8 128)) (tP 70)),
 oP 72 (.mv (tP 1)),
 oP 73 (.cvt .u8 (tP 72)),
 oP 74 (.bin .and (tP 73) (.con (.int .u8 63))),
 oP 75 (.bin .or (.con (.int .u8 128)) (tP 74)),
 oP 76 (.lit true 5 1 4 [.int .u8 0] [(0, (tP 61)), (1, (tP 66)), (2, (tP 71)), (3, (tP 75))]),
 oP 77 (.app false 5 1 1 (tP 57) (tP 76)),
 oP 4 (.mv (tP 77))])
 (.ret)) (.seq (.region [oP 8 (.mv (tP 0)),
 oP 9 (.lit true 5 1 3 [.int .u8 0] [(0, (.con (.int .u8 239))), (1, (.con (.int .u8 191))), (2, (.con (.int .u8 189)))]),
 oP 10 (.app false 5 1 1 (tP 8) (tP 9)),
 oP 4 (.mv (tP 10))])
 (.ret))))))))))
def A95 : AFunc := { ntmps := 78, results := [.tmp 4], body := B95, coe := false, keep := 0 }
theorem tr95 : trFunc Try.prog M95 false Try.f95 = some A95 := by kernel_rfl
def ext : FuncId → Option (List DV → List Res → Option DOut) := fun | 88 => some (xCopy 156) | _ => none
def af0 : FuncId → Option AFunc := fun | 3 => some A3 | 4 => some A4 | 5 => some A5 | 6 => some A6 | 7 => some A7 | 8 => some A8 | 9 => some A9 | 10 => some A10 | 11 => some A11 | 12 => some A12 | 13 => some A13 | 14 => some A14 | 15 => some A15 | 16 => some A16 | 17 => some A17 | 18 => some A18 | 19 => some A19 | 20 => some A20 | 21 => some A21 | 22 => some A22 | 23 => some A23 | 24 => some A24 | 25 => some A25 | 26 => some A26 | 27 => some A27 | 28 => some A28 | 29 => some A29 | 30 => some A30 | 31 => some A31 | 33 => some A33 | 34 => some A34 | 35 => some A35 | 36 => some A36 | 37 => some A37 | 38 => some A38 | 39 => some A39 | 40 => some A40 | 41 => some A41 | 42 => some A42 | 43 => some A43 | 44 => some A44 | 45 => some A45 | 46 => some A46 | 47 => some A47 | 48 => some A48 | 49 => some A49 | 50 => some A50 | 51 => some A51 | 52 => some A52 | 53 => some A53 | 54 => some A54 | 55 => some A55 | 56 => some A56 | 57 => some A57 | 58 => some A58 | 59 => some A59 | 60 => some A60 | 61 => some A61 | 62 => some A62 | 63 => some A63 | _ => none
def af1 : FuncId → Option AFunc := fun | 64 => some A64 | 65 => some A65 | 66 => some A66 | 67 => some A67 | 68 => some A68 | 69 => some A69 | 70 => some A70 | 71 => some A71 | 72 => some A72 | 73 => some A73 | 74 => some A74 | 75 => some A75 | 76 => some A76 | 77 => some A77 | 78 => some A78 | 79 => some A79 | 80 => some A80 | 81 => some A81 | 82 => some A82 | 83 => some A83 | 84 => some A84 | 85 => some A85 | 86 => some A86 | 87 => some A87 | 89 => some A89 | 90 => some A90 | 91 => some A91 | 92 => some A92 | 93 => some A93 | 95 => some A95 | _ => none
def env : Env := { af := fun g => match af0 g with | some F => some F | none => (match af1 g with | some F => some F | none => none), ext := ext }
abbrev AfOk (g : FuncId) (F : AFunc) : Prop := ∃ fn M co, (Try.prog).funcs[g]? = some fn ∧ (fn.name == "runtime.NumGoroutine") = false ∧ (trFunc Try.prog M co fn = some F ∨ ∃ Mc, trFuncG Try.prog M Mc co fn = some F)
theorem af0_ok {g : FuncId} {F : AFunc} (h : af0 g = some F) : AfOk g F := by
  unfold af0 at h
  split at h
  · cases h; exact ⟨Try.f3, M3, true, by kernel_rfl, by kernel_rfl, .inl tr3⟩
  · cases h; exact ⟨Try.f4, M4, true, by kernel_rfl, by kernel_rfl, .inl tr4⟩
  · cases h; exact ⟨Try.f5, M5, true, by kernel_rfl, by kernel_rfl, .inl tr5⟩
  · cases h; exact ⟨Try.f6, M6, true, by kernel_rfl, by kernel_rfl, .inl tr6⟩
  · cases h; exact ⟨Try.f7, M7, true, by kernel_rfl, by kernel_rfl, .inl tr7⟩
  · cases h; exact ⟨Try.f8, M8, true, by kernel_rfl, by kernel_rfl, .inl tr8⟩
  · cases h; exact ⟨Try.f9, M9, true, by kernel_rfl, by kernel_rfl, .inl tr9⟩
  · cases h; exact ⟨Try.f10, M10, true, by kernel_rfl, by kernel_rfl, .inl tr10⟩
  · cases h; exact ⟨Try.f11, M11, true, by kernel_rfl, by kernel_rfl, .inl tr11⟩
  · cases h; exact ⟨Try.f12, M12, true, by kernel_rfl, by kernel_rfl, .inl tr12⟩
  · cases h; exact ⟨Try.f13, M13, true, by kernel_rfl, by kernel_rfl, .inl tr13⟩
  · cases h; exact ⟨Try.f14, M14, true, by kernel_rfl, by kernel_rfl, .inl tr14⟩
  · cases h; exact ⟨Try.f15, M15, true, by kernel_rfl, by kernel_rfl, .inl tr15⟩
  · cases h; exact ⟨Try.f16, M16, true, by kernel_rfl, by kernel_rfl, .inl tr16⟩
  · cases h; exact ⟨Try.f17, M17, true, by kernel_rfl, by kernel_rfl, .inl tr17⟩
  · cases h; exact ⟨Try.f18, M18, true, by kernel_rfl, by kernel_rfl, .inl tr18⟩
  · cases h; exact ⟨Try.f19, M19, true, by kernel_rfl, by kernel_rfl, .inl tr19⟩
  · cases h; exact ⟨Try.f20, M20, true, by kernel_rfl, by kernel_rfl, .inl tr20⟩
  · cases h; exact ⟨Try.f21, M21, true, by kernel_rfl, by kernel_rfl, .inl tr21⟩
  · cases h; exact ⟨Try.f22, M22, true, by kernel_rfl, by kernel_rfl, .inl tr22⟩
  · cases h; exact ⟨Try.f23, M23, true, by kernel_rfl, by kernel_rfl, .inl tr23⟩
  · cases h; exact ⟨Try.f24, M24, true, by kernel_rfl, by kernel_rfl, .inr ⟨K24, tr24⟩⟩
  · cases h; exact ⟨Try.f25, M25, true, by kernel_rfl, by kernel_rfl, .inl tr25⟩
  · cases h; exact ⟨Try.f26, M26, true, by kernel_rfl, by kernel_rfl, .inl tr26⟩
  · cases h; exact ⟨Try.f27, M27, true, by kernel_rfl, by kernel_rfl, .inl tr27⟩
  · cases h; exact ⟨Try.f28, M28, true, by kernel_rfl, by kernel_rfl, .inl tr28⟩
  · cases h; exact ⟨Try.f29, M29, true, by kernel_rfl, by kernel_rfl, .inl tr29⟩
  · cases h; exact ⟨Try.f30, M30, true, by kernel_rfl, by kernel_rfl, .inl tr30⟩
  · cases h; exact ⟨Try.f31, M31, true, by kernel_rfl, by kernel_rfl, .inl tr31⟩
  · cases h; exact ⟨Try.f33, M33, true, by kernel_rfl, by kernel_rfl, .inl tr33⟩
  · cases h; exact ⟨Try.f34, M34, true, by kernel_rfl, by kernel_rfl, .inl tr34⟩
  · cases h; exact ⟨Try.f35, M35, true, by kernel_rfl, by kernel_rfl, .inl tr35⟩
  · cases h; exact ⟨Try.f36, M36, true, by kernel_rfl, by kernel_rfl, .inl tr36⟩
  · cases h; exact ⟨Try.f37, M37, true, by kernel_rfl, by kernel_rfl, .inl tr37⟩
  · cases h; exact ⟨Try.f38, M38, true, by kernel_rfl, by kernel_rfl, .inl tr38⟩
  · cases h; exact ⟨Try.f39, M39, true, by kernel_rfl, by kernel_rfl, .inl tr39⟩
  · cases h; exact ⟨Try.f40, M40, true, by kernel_rfl, by kernel_rfl, .inl tr40⟩
  · cases h; exact ⟨Try.f41, M41, true, by kernel_rfl, by kernel_rfl, .inl tr41⟩
  · cases h; exact ⟨Try.f42, M42, true, by kernel_rfl, by kernel_rfl, .inl tr42⟩
  · cases h; exact ⟨Try.f43, M43, true, by kernel_rfl, by kernel_rfl, .inl tr43⟩
  · cases h; exact ⟨Try.f44, M44, true, by kernel_rfl, by kernel_rfl, .inl tr44⟩
  · cases h; exact ⟨Try.f45, M45, true, by kernel_rfl, by kernel_rfl, .inl tr45⟩
  · cases h; exact ⟨Try.f46, M46, true, by kernel_rfl, by kernel_rfl, .inl tr46⟩
  · cases h; exact ⟨Try.f47, M47, true, by kernel_rfl, by kernel_rfl, .inl tr47⟩
  · cases h; exact ⟨Try.f48, M48, true, by kernel_rfl, by kernel_rfl, .inl tr48⟩
  · cases h; exact ⟨Try.f49, M49, true, by kernel_rfl, by kernel_rfl, .inl tr49⟩
  · cases h; exact ⟨Try.f50, M50, true, by kernel_rfl, by kernel_rfl, .inl tr50⟩
  · cases h; exact ⟨Try.f51, M51, true, by kernel_rfl, by kernel_rfl, .inl tr51⟩
  · cases h; exact ⟨Try.f52, M52, true, by kernel_rfl, by kernel_rfl, .inl tr52⟩
  · cases h; exact ⟨Try.f53, M53, true, by kernel_rfl, by kernel_rfl, .inl tr53⟩
  · cases h; exact ⟨Try.f54, M54, true, by kernel_rfl, by kernel_rfl, .inl tr54⟩
  · cases h; exact ⟨Try.f55, M55, true, by kernel_rfl, by kernel_rfl, .inl tr55⟩
  · cases h; exact ⟨Try.f56, M56, true, by kernel_rfl, by kernel_rfl, .inl tr56⟩
  · cases h; exact ⟨Try.f57, M57, true, by kernel_rfl, by kernel_rfl, .inl tr57⟩
  · cases h; exact ⟨Try.f58, M58, true, by kernel_rfl, by kernel_rfl, .inl tr58⟩
  · cases h; exact ⟨Try.f59, M59, true, by kernel_rfl, by kernel_rfl, .inl tr59⟩
  · cases h; exact ⟨Try.f60, M60, true, by kernel_rfl, by kernel_rfl, .inl tr60⟩
  · cases h; exact ⟨Try.f61, M61, true, by kernel_rfl, by kernel_rfl, .inl tr61⟩
  · cases h; exact ⟨Try.f62, M62, true, by kernel_rfl, by kernel_rfl, .inl tr62⟩
  · cases h; exact ⟨Try.f63, M63, true, by kernel_rfl, by kernel_rfl, .inl tr63⟩
  · cases h
theorem af1_ok {g : FuncId} {F : AFunc} (h : af1 g = some F) : AfOk g F := by
  unfold af1 at h
  split at h
  · cases h; exact ⟨Try.f64, M64, true, by kernel_rfl, by kernel_rfl, .inl tr64⟩
  · cases h; exact ⟨Try.f65, M65, true, by kernel_rfl, by kernel_rfl, .inl tr65⟩
  · cases h; exact ⟨Try.f66, M66, true, by kernel_rfl, by kernel_rfl, .inl tr66⟩
  · cases h; exact ⟨Try.f67, M67, true, by kernel_rfl, by kernel_rfl, .inl tr67⟩
  · cases h; exact ⟨Try.f68, M68, true, by kernel_rfl, by kernel_rfl, .inl tr68⟩
  · cases h; exact ⟨Try.f69, M69, true, by kernel_rfl, by kernel_rfl, .inl tr69⟩
  · cases h; exact ⟨Try.f70, M70, true, by kernel_rfl, by kernel_rfl, .inl tr70⟩
  · cases h; exact ⟨Try.f71, M71, true, by kernel_rfl, by kernel_rfl, .inl tr71⟩
  · cases h; exact ⟨Try.f72, M72, true, by kernel_rfl, by kernel_rfl, .inl tr72⟩
  · cases h; exact ⟨Try.f73, M73, true, by kernel_rfl, by kernel_rfl, .inl tr73⟩
  · cases h; exact ⟨Try.f74, M74, true, by kernel_rfl, by kernel_rfl, .inl tr74⟩
  · cases h; exact ⟨Try.f75, M75, true, by kernel_rfl, by kernel_rfl, .inl tr75⟩
  · cases h; exact ⟨Try.f76, M76, true, by kernel_rfl, by kernel_rfl, .inl tr76⟩
  · cases h; exact ⟨Try.f77, M77, true, by kernel_rfl, by kernel_rfl, .inl tr77⟩
  · cases h; exact ⟨Try.f78, M78, true, by kernel_rfl, by kernel_rfl, .inl tr78⟩
  · cases h; exact ⟨Try.f79, M79, true, by kernel_rfl, by kernel_rfl, .inl tr79⟩
  · cases h; exact ⟨Try.f80, M80, true, by kernel_rfl, by kernel_rfl, .inl tr80⟩
  · cases h; exact ⟨Try.f81, M81, true, by kernel_rfl, by kernel_rfl, .inl tr81⟩
  · cases h; exact ⟨Try.f82, M82, true, by kernel_rfl, by kernel_rfl, .inl tr82⟩
  · cases h; exact ⟨Try.f83, M83, true, by kernel_rfl, by kernel_rfl, .inl tr83⟩
  · cases h; exact ⟨Try.f84, M84, true, by kernel_rfl, by kernel_rfl, .inl tr84⟩
  · cases h; exact ⟨Try.f85, M85, true, by kernel_rfl, by kernel_rfl, .inl tr85⟩
  · cases h; exact ⟨Try.f86, M86, true, by kernel_rfl, by kernel_rfl, .inl tr86⟩
  · cases h; exact ⟨Try.f87, M87, true, by kernel_rfl, by kernel_rfl, .inl tr87⟩
  · cases h; exact ⟨Try.f89, M89, false, by kernel_rfl, by kernel_rfl, .inl tr89⟩
  · cases h; exact ⟨Try.f90, M90, true, by kernel_rfl, by kernel_rfl, .inl tr90⟩
  · cases h; exact ⟨Try.f91, M91, true, by kernel_rfl, by kernel_rfl, .inl tr91⟩
  · cases h; exact ⟨Try.f92, M92, true, by kernel_rfl, by kernel_rfl, .inl tr92⟩
  · cases h; exact ⟨Try.f93, M93, true, by kernel_rfl, by kernel_rfl, .inl tr93⟩
  · cases h; exact ⟨Try.f95, M95, false, by kernel_rfl, by kernel_rfl, .inl tr95⟩
  · cases h
theorem env_ok {G : Glob} (hx : ExtOk Try.prog G ext) : EnvOk Try.prog G env where
  af := fun g F h => by
    simp only [env] at h
    split at h
    · rename_i F0 h0
      simp only [Option.some.injEq] at h
      subst h
      exact af0_ok h0
    split at h
    · rename_i F1 h1
      simp only [Option.some.injEq] at h
      subst h
      exact af1_ok h1
    cases h
  ext := hx
end Go.Proofs.Ytnhpfocibedoeaa.Codes
