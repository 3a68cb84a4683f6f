/-
  The deep codes of functions, each with the fact that it is that of the function's code. Written by wip/gen/deep.py.
  Conditions: none.
-/
import Derived.Test.YtnklhhmfmopdnaaGreatDoorMF
import Derived.Test.YtnklhhmfmopdnaaGreatDoorProg
import Derived.KernelRfl
set_option maxRecDepth 100000
namespace Go.Proofs.YtnklhhmfmopdnaaGreatDoor.Codes
open Go.Deepv
def M3 : Marks := { cut := fun _ => true, hd := fun | _ => [], ex := fun | _ => [], imm := fun | _ => false }
def B3 : ACode :=
 .seq (.region [oP 4 (.mv (bP false))])
 (.seq (.seq (.region [oP 9 (.mv (tP 1)),
 oP 10 (.call (.fn 5) [(tP 9)]),
 oP 11 (.un .not (tP 10))])
 (.cond (tP 11) (.seq (.region [oP 12 (.call (.fn 6) []),
 oP 4 (.mv (tP 12))])
 (.ret)) (.skip)))
 (.seq (.region [oP 14 (.mv (tP 0)),
 oP 15 (.mv (tP 1)),
 oP 16 (.call (.fn 7) [(tP 14), (tP 15)]),
 oP 13 (.mv (tP 16)),
 oP 17 (.ext 0 (tP 13)),
 oP 18 (.ext 1 (tP 13)),
 oP 5 (.alloc [.ok (.int .i64 0), .ok (.int .i64 0), .error 1, .ok (.str ⟨#[]⟩), .error 5]),
 sP (.store 5 (tP 5) (tP 17)),
 oP 6 (.mv (tP 18))])
 (.seq (.region [oP 20 (.mv (tP 0)),
 oP 21 (.mv (tP 1)),
 oP 22 (.call (.fn 8) [(tP 20), (tP 21)]),
 oP 19 (.mv (tP 22)),
 oP 23 (.ext 0 (tP 19)),
 oP 24 (.ext 1 (tP 19)),
 oP 7 (.alloc [.ok (.int .i64 0), .ok (.int .i64 0), .error 1, .ok (.str ⟨#[]⟩), .error 5]),
 sP (.store 5 (tP 7) (tP 23)),
 oP 8 (.mv (tP 24))])
 (.seq (.region [oP 25 (.load (some 5) (tP 5)),
 oP 26 (.load (some 5) (tP 7)),
 oP 27 (.call (.fn 9) [(tP 25), (tP 26)]),
 oP 28 (.mv (tP 27)),
 gP 29 28 true (.mv (tP 6)),
 gP 30 28 true (.mv (tP 8)),
 gP 31 28 true (.eqb false (tP 29) (tP 30)),
 oP 32 (.pick (tP 28) (tP 31) (bP false)),
 oP 33 (.mv (tP 32)),
 gP 34 33 true (.call (.fn 6) []),
 oP 35 (.pick (tP 33) (tP 34) (bP false)),
 oP 4 (.mv (tP 35))])
 (.ret)))))
def A3 : AFunc := { ntmps := 36, results := [.tmp 4], body := B3, coe := true, keep := 0 }
theorem tr3 : trFunc Tryz.prog M3 true Tryz.f3 = some A3 := by kernel_rfl
def M4 : Marks := { cut := fun _ => true, hd := fun | _ => [], ex := fun | _ => [], imm := fun | 38 => true | 50 => true | 58 => true | 125 => true | _ => false }
def B4 : ACode :=
 .seq (.region [oP 8 (.mv (bP false))])
 (.seq (.seq (.region [oP 22 (.mv (tP 0)),
 oP 23 (.len false (tP 22)),
 oP 24 (.bin .gtr (tP 23) (iP 64)),
 oP 25 (.mv (tP 24)),
 gP 26 25 false (.mv (tP 1)),
 gP 27 25 false (.len false (tP 26)),
 gP 28 25 false (.bin .gtr (tP 27) (iP 64)),
 oP 29 (.pick (tP 25) (bP true) (tP 28))])
 (.cond (tP 29) (.seq (.region [oP 30 (.call (.fn 6) []),
 oP 8 (.mv (tP 30))])
 (.ret)) (.skip)))
 (.seq (.region [oP 9 (.mv (.fn 10))])
 (.seq (.region [oP 32 (.mv (tP 9)),
 oP 33 (.mv (tP 0)),
 oP 34 (.call (tP 32) [(tP 33)]),
 oP 35 (.mv (tP 9)),
 oP 36 (.mv (tP 1)),
 oP 37 (.call (tP 35) [(tP 36)]),
 oP 38 (.lit true 0 5 2 [.int .i64 0, .int .i64 0, .slice 1 [], .str ⟨#[]⟩, .slice 5 []] [(0, (tP 34)), (1, (tP 37))]),
 oP 39 (.call (.fn 7) [(iP 10), (tP 38)]),
 oP 31 (.mv (tP 39)),
 oP 40 (.ext 0 (tP 31)),
 oP 41 (.ext 1 (tP 31)),
 oP 10 (.alloc [.ok (.int .i64 0), .ok (.int .i64 0), .error 1, .ok (.str ⟨#[]⟩), .error 5]),
 sP (.store 5 (tP 10) (tP 40)),
 oP 11 (.mv (tP 41))])
 (.seq (.region [oP 43 (.mv (tP 9)),
 oP 44 (.mv (tP 0)),
 oP 45 (.call (tP 43) [(tP 44)]),
 oP 46 (.mv (tP 2)),
 oP 47 (.build [.int .i64 0, .int .i64 0, .slice 1 [], .str ⟨#[]⟩, .slice 5 []] [(1, 1, (tP 46))]),
 oP 48 (.mv (tP 3)),
 oP 49 (.build [.int .i64 0, .int .i64 0, .slice 1 [], .str ⟨#[]⟩, .slice 5 []] [(1, 1, (tP 48))]),
 oP 50 (.lit true 0 5 3 [.int .i64 0, .int .i64 0, .slice 1 [], .str ⟨#[]⟩, .slice 5 []] [(0, (tP 45)), (1, (tP 47)), (2, (tP 49))]),
 oP 51 (.call (.fn 7) [(iP 11), (tP 50)]),
 oP 42 (.mv (tP 51)),
 oP 52 (.ext 0 (tP 42)),
 oP 53 (.ext 1 (tP 42)),
 oP 12 (.alloc [.ok (.int .i64 0), .ok (.int .i64 0), .error 1, .ok (.str ⟨#[]⟩), .error 5]),
 sP (.store 5 (tP 12) (tP 52)),
 oP 13 (.mv (tP 53))])
 (.seq (.region [oP 55 (.mv (tP 9)),
 oP 56 (.mv (tP 0)),
 oP 57 (.call (tP 55) [(tP 56)]),
 oP 58 (.lit true 0 5 1 [.int .i64 0, .int .i64 0, .slice 1 [], .str ⟨#[]⟩, .slice 5 []] [(0, (tP 57))]),
 oP 59 (.call (.fn 7) [(iP 8), (tP 58)]),
 oP 54 (.mv (tP 59)),
 oP 60 (.ext 0 (tP 54)),
 oP 61 (.ext 1 (tP 54)),
 oP 14 (.alloc [.ok (.int .i64 0), .ok (.int .i64 0), .error 1, .ok (.str ⟨#[]⟩), .error 5]),
 sP (.store 5 (tP 14) (tP 60)),
 oP 15 (.mv (tP 61))])
 (.seq (.seq (.region [oP 62 (.mv (tP 11)),
 oP 63 (.un .not (tP 62)),
 oP 64 (.mv (tP 63)),
 gP 65 64 false (.mv (tP 13)),
 gP 66 64 false (.un .not (tP 65)),
 oP 67 (.pick (tP 64) (bP true) (tP 66)),
 oP 68 (.mv (tP 67)),
 gP 69 68 false (.mv (tP 15)),
 gP 70 68 false (.un .not (tP 69)),
 oP 71 (.pick (tP 68) (bP true) (tP 70)),
 oP 72 (.mv (tP 71)),
 gP 73 72 false (.addOff 1 (tP 14)),
 gP 74 72 false (.load none (tP 73)),
 gP 75 72 false (.mv (tP 0)),
 gP 76 72 false (.len false (tP 75)),
 gP 77 72 false (.bin .neq (tP 74) (tP 76)),
 oP 78 (.pick (tP 72) (bP true) (tP 77))])
 (.cond (tP 78) (.seq (.region [oP 8 (.mv (bP false))])
 (.ret)) (.skip)))
 (.seq (.region [oP 79 (.mv (tP 0)),
 oP 80 (.bstr (tP 79)),
 oP 81 (.mv (tP 1)),
 oP 82 (.bstr (tP 81)),
 oP 83 (.bin .add (tP 80) (tP 82)),
 oP 16 (.mv (tP 83))])
 (.seq (.seq (.draw [oP 84 (.addOff 2 (tP 10)),
 oP 85 (.load none (tP 84)),
 oP 86 (.bstr (tP 85)),
 oP 87 (.mv (tP 16)),
 oP 88 (.mv (tP 16)),
 oP 89 (.len true (tP 88)),
 oP 90 (.mnmx false [(tP 89), (iP 64)]),
 oP 91 (.slcStr (tP 87) none (some (tP 90))),
 oP 92 (.bin .neq (tP 86) (tP 91))] [])
 (.cond (tP 92) (.seq (.region [oP 8 (.mv (bP false))])
 (.ret)) (.skip)))
 (.seq (.region [oP 93 (.mv (tP 2)),
 oP 94 (.bin .shl (tP 93) (.con (.int .u64 1))),
 oP 95 (.bin .shr (tP 94) (.con (.int .u64 1))),
 oP 96 (.mv (tP 3)),
 oP 97 (.bin .shl (tP 96) (.con (.int .u64 1))),
 oP 98 (.bin .shr (tP 97) (.con (.int .u64 1))),
 oP 2 (.mv (tP 95)),
 oP 3 (.mv (tP 98))])
 (.seq (.region [oP 99 (.mv (tP 2)),
 oP 100 (.mnmx true [(tP 99), (iP 0)]),
 oP 101 (.mv (tP 0)),
 oP 102 (.len false (tP 101)),
 oP 103 (.mnmx false [(tP 100), (tP 102)]),
 oP 17 (.mv (tP 103))])
 (.seq (.region [oP 104 (.mv (tP 0)),
 oP 105 (.mv (tP 17)),
 oP 106 (.slc 1 (tP 104) (some (tP 105)) none),
 oP 107 (.bstr (tP 106)),
 oP 18 (.mv (tP 107))])
 (.seq (.seq (.draw [oP 108 (.addOff 2 (tP 12)),
 oP 109 (.load none (tP 108)),
 oP 110 (.bstr (tP 109)),
 oP 111 (.mv (tP 18)),
 oP 112 (.mv (tP 3)),
 oP 113 (.mnmx true [(tP 112), (iP 0)]),
 oP 114 (.mv (tP 18)),
 oP 115 (.len true (tP 114)),
 oP 116 (.mnmx false [(tP 113), (tP 115)]),
 oP 117 (.slcStr (tP 111) none (some (tP 116))),
 oP 118 (.bin .neq (tP 110) (tP 117))] [])
 (.cond (tP 118) (.seq (.region [oP 8 (.mv (bP false))])
 (.ret)) (.skip)))
 (.seq (.region [oP 120 (.mv (tP 9)),
 oP 121 (.mv (tP 0)),
 oP 122 (.call (tP 120) [(tP 121)]),
 oP 123 (.mv (tP 2)),
 oP 124 (.build [.int .i64 0, .int .i64 0, .slice 1 [], .str ⟨#[]⟩, .slice 5 []] [(1, 1, (tP 123))]),
 oP 125 (.lit true 0 5 2 [.int .i64 0, .int .i64 0, .slice 1 [], .str ⟨#[]⟩, .slice 5 []] [(0, (tP 122)), (1, (tP 124))]),
 oP 126 (.call (.fn 7) [(iP 9), (tP 125)]),
 oP 119 (.mv (tP 126)),
 oP 127 (.ext 0 (tP 119)),
 oP 128 (.ext 1 (tP 119)),
 oP 19 (.alloc [.ok (.int .i64 0), .ok (.int .i64 0), .error 1, .ok (.str ⟨#[]⟩), .error 5]),
 sP (.store 5 (tP 19) (tP 127)),
 oP 20 (.mv (tP 128))])
 (.seq (.region [oP 21 (.mv (iP (-1)))])
 (.seq (.seq (.region [oP 129 (.mv (tP 2)),
 oP 130 (.bin .geq (tP 129) (iP 0)),
 oP 131 (.mv (tP 130)),
 gP 132 131 true (.mv (tP 2)),
 gP 133 131 true (.mv (tP 0)),
 gP 134 131 true (.len false (tP 133)),
 gP 135 131 true (.bin .lss (tP 132) (tP 134)),
 oP 136 (.pick (tP 131) (tP 135) (bP false))])
 (.cond (tP 136) (.region [oP 137 (.mv (tP 0)),
 oP 138 (.mv (tP 2)),
 oP 139 (.idxAddr 1 (tP 137) (tP 138)),
 oP 140 (.load none (tP 139)),
 oP 141 (.cvt .i64 (tP 140)),
 oP 21 (.mv (tP 141))]) (.skip)))
 (.seq (.region [oP 142 (.mv (tP 20)),
 oP 143 (.mv (tP 142)),
 gP 144 143 true (.addOff 1 (tP 19)),
 gP 145 143 true (.load none (tP 144)),
 gP 146 143 true (.mv (tP 21)),
 gP 147 143 true (.bin .eql (tP 145) (tP 146)),
 oP 148 (.pick (tP 143) (tP 147) (bP false)),
 oP 149 (.mv (tP 148)),
 gP 150 149 true (.call (.fn 6) []),
 oP 151 (.pick (tP 149) (tP 150) (bP false)),
 oP 8 (.mv (tP 151))])
 (.ret)))))))))))))))))
def A4 : AFunc := { ntmps := 152, results := [.tmp 8], body := B4, coe := true, keep := 0 }
theorem tr4 : trFunc Tryz.prog M4 true Tryz.f4 = some A4 := by kernel_rfl
abbrev H5L3 : List Bool := [true, false, false, true, true]
abbrev X5L3 : List Bool := [true, false, false, true]
def M5 : Marks := { cut := fun _ => true, hd := fun | 3 => H5L3 | _ => [], ex := fun | 3 => X5L3 | _ => [], imm := fun | _ => false }
def B5L3 : ACode :=
 .seq (.seq (.region [oP 5 (.mv (tP 4)),
 oP 6 (.mv (tP 0)),
 oP 7 (.len false (tP 6)),
 oP 8 (.bin .lss (tP 5) (tP 7)),
 oP 9 (.mv (tP 8)),
 gP 10 9 true (.mv (tP 3)),
 gP 11 9 true (.bin .geq (tP 10) (iP 0)),
 oP 12 (.pick (tP 9) (tP 11) (bP false))])
 (.cond (tP 12) (.skip) (.exit 0)))
 (.seq (.block 1 (.region [oP 15 (.mv (tP 0)),
 oP 16 (.mv (tP 4)),
 oP 17 (.idxAddr 5 (tP 15) (tP 16)),
 oP 18 (.load (some 5) (tP 17)),
 oP 19 (.mv (tP 3)),
 oP 20 (.call (.fn 11) [(tP 18), (tP 19)]),
 oP 3 (.mv (tP 20))]))
 (.region [oP 13 (.mv (tP 4)),
 oP 14 (.bin .add (tP 13) (iP 1)),
 oP 4 (.mv (tP 14))]))
def B5 : ACode :=
 .seq (.region [oP 2 (.mv (bP false))])
 (.seq (.region [oP 3 (.mv (iP 3000))])
 (.seq (.seq (.region [oP 4 (.mv (iP 0))])
 (.block 0 (.loop true H5L3 X5L3 B5L3)))
 (.seq (.region [oP 21 (.mv (tP 3)),
 oP 22 (.bin .geq (tP 21) (iP 0)),
 oP 23 (.mv (tP 22)),
 gP 24 23 true (.mv (tP 0)),
 gP 25 23 true (.len false (tP 24)),
 gP 26 23 true (.bin .leq (tP 25) (iP 10)),
 oP 27 (.pick (tP 23) (tP 26) (bP false)),
 oP 2 (.mv (tP 27))])
 (.ret))))
def A5 : AFunc := { ntmps := 28, results := [.tmp 2], body := B5, coe := true, keep := 0 }
theorem tr5 : trFunc Tryz.prog M5 true Tryz.f5 = some A5 := by kernel_rfl
def M6 : Marks := { cut := fun _ => true, hd := fun | _ => [], ex := fun | _ => [], imm := fun | 12 => true | _ => false }
def B6 : ACode :=
 .seq (.region [oP 0 (.mv (bP false))])
 (.seq (.region [oP 8 (.lit false 5 1 2 [.int .u8 0] [(0, (.con (.int .u8 97))), (1, (.con (.int .u8 98)))]),
 oP 9 (.mark (tP 8)),
 oP 10 (.build [.int .i64 0, .int .i64 0, .slice 1 [], .str ⟨#[]⟩, .slice 5 []] [(0, 1, (iP 1)), (2, 1, (tP 9))]),
 oP 11 (.build [.int .i64 0, .int .i64 0, .slice 1 [], .str ⟨#[]⟩, .slice 5 []] [(1, 1, (iP 2))]),
 oP 12 (.lit true 0 5 2 [.int .i64 0, .int .i64 0, .slice 1 [], .str ⟨#[]⟩, .slice 5 []] [(0, (tP 10)), (1, (tP 11))]),
 oP 13 (.call (.fn 7) [(iP 9), (tP 12)]),
 oP 7 (.mv (tP 13)),
 oP 14 (.ext 0 (tP 7)),
 oP 15 (.ext 1 (tP 7)),
 oP 1 (.alloc [.ok (.int .i64 0), .ok (.int .i64 0), .error 1, .ok (.str ⟨#[]⟩), .error 5]),
 sP (.store 5 (tP 1) (tP 14)),
 oP 2 (.mv (tP 15))])
 (.seq (.region [oP 16 (.build [.int .i64 0, .int .i64 0, .int .i64 0, .int .i64 0, .slice 1 [], .str ⟨#[]⟩, .slice 8 [], .slice 14 []] [(3, 1, (iP 1))]),
 oP 17 (.build [.int .i64 0, .int .i64 0, .int .i64 0, .int .i64 0, .slice 1 [], .str ⟨#[]⟩, .slice 8 [], .slice 14 []] [(3, 1, (iP 2))]),
 oP 18 (.lit false 0 8 2 [.int .i64 0, .int .i64 0, .int .i64 0, .int .i64 0, .slice 1 [], .str ⟨#[]⟩, .slice 8 [], .slice 14 []] [(0, (tP 16)), (1, (tP 17))]),
 oP 19 (.build [.int .i64 0, .int .i64 0, .int .i64 0, .int .i64 0, .slice 1 [], .str ⟨#[]⟩, .slice 8 [], .slice 14 []] [(0, 1, (iP 9)), (6, 1, (tP 18))]),
 oP 20 (.build [.slice 4 [], .slice 15 [], .int .i64 0, .int .i64 0, .int .i64 0, .str ⟨#[]⟩, .slice 3 [], .int .i64 0, .int .i64 0, .int .i64 0, .int .i64 0, .int .i64 0, .slice 1 [], .str ⟨#[]⟩, .slice 8 [], .slice 14 [], .slice 16 []] [(2, 1, (iP 1)), (8, 8, (tP 19))]),
 oP 3 (.alloc [.error 4, .error 15, .ok (.int .i64 0), .ok (.int .i64 0), .ok (.int .i64 0), .ok (.str ⟨#[]⟩), .error 3, .ok (.int .i64 0), .ok (.int .i64 0), .ok (.int .i64 0), .ok (.int .i64 0), .ok (.int .i64 0), .error 1, .ok (.str ⟨#[]⟩), .error 8, .error 14, .error 16]),
 sP (.store 17 (tP 3) (tP 20))])
 (.seq (.region [oP 22 (.load (some 17) (tP 3)),
 oP 23 (.call (.fn 12) [(tP 22), (iP 100)]),
 oP 21 (.mv (tP 23)),
 oP 24 (.ext 0 (tP 21)),
 oP 25 (.ext 1 (tP 21)),
 oP 26 (.ext 2 (tP 21)),
 oP 4 (.alloc [.ok (.int .i64 0), .ok (.int .i64 0), .error 1, .ok (.str ⟨#[]⟩), .error 5]),
 oP 5 (.alloc [.ok (.int .i64 0), .ok (.int .i64 0), .ok (.int .i64 0)]),
 sP (.store 5 (tP 4) (tP 24)),
 sP (.store 3 (tP 5) (tP 25)),
 oP 6 (.mv (tP 26))])
 (.seq (.region [oP 27 (.mv (tP 2)),
 oP 28 (.mv (tP 27)),
 gP 29 28 true (.addOff 1 (tP 1)),
 gP 30 28 true (.load none (tP 29)),
 gP 31 28 true (.bin .eql (tP 30) (iP (-1))),
 oP 32 (.pick (tP 28) (tP 31) (bP false)),
 oP 33 (.mv (tP 32)),
 gP 34 33 true (.mv (tP 6)),
 gP 35 33 true (.bin .eql (tP 34) (iP 0)),
 oP 36 (.pick (tP 33) (tP 35) (bP false)),
 oP 37 (.mv (tP 36)),
 gP 38 37 true (.addOff 1 (tP 4)),
 gP 39 37 true (.load none (tP 38)),
 gP 40 37 true (.bin .eql (tP 39) (iP 3)),
 oP 41 (.pick (tP 37) (tP 40) (bP false)),
 oP 42 (.mv (tP 41)),
 gP 43 42 true (.addOff 1 (tP 5)),
 gP 44 42 true (.load none (tP 43)),
 gP 45 42 true (.bin .eql (tP 44) (iP 16)),
 oP 46 (.pick (tP 42) (tP 45) (bP false)),
 oP 47 (.mv (tP 46)),
 gP 48 47 true (.addOff 2 (tP 5)),
 gP 49 47 true (.load none (tP 48)),
 gP 50 47 true (.bin .eql (tP 49) (iP 5)),
 oP 51 (.pick (tP 47) (tP 50) (bP false)),
 oP 0 (.mv (tP 51))])
 (.ret)))))
def A6 : AFunc := { ntmps := 52, results := [.tmp 0], body := B6, coe := true, keep := 0 }
theorem tr6 : trFunc Tryz.prog M6 true Tryz.f6 = some A6 := by kernel_rfl
abbrev H7L5 : List Bool := [true, true, false, false, true, false, true, false, false, false, false, false, false, false, false, false, false, false, false, false, false, false, false, false, false, false, false, false, false, true, true, true]
abbrev X7L5 : List Bool := [true, true, false, false, true, true]
def M7 : Marks := { cut := fun _ => true, hd := fun | 5 => H7L5 | _ => [], ex := fun | 5 => X7L5 | _ => [], imm := fun | 116 => true | _ => false, alts := fun | 18 => [[0, 1, 2, 4, 5, 6, 7, 8, 3, 9, 10]] | 26 => [[0, 1, 2, 4, 5, 6, 7, 8, 9, 10, 11, 12, 13, 3, 14, 15]] | _ => [] }
def B7L5 : ACode :=
 .seq (.region [oP 32 (.bin .lss (tP 31) (tP 30))])
 (.seq (.cond (tP 32) (.skip) (.exit 0))
 (.seq (.block 1 (.seq (.region [oP 33 (.mv (tP 31)),
 oP 34 (.idxAddr 5 (tP 29) (tP 31)),
 oP 35 (.load (some 5) (tP 34)),
 oP 9 (.alloc [.ok (.int .i64 0), .ok (.int .i64 0), .error 1, .ok (.str ⟨#[]⟩), .error 5]),
 oP 8 (.mv (tP 33)),
 sP (.store 5 (tP 9) (tP 35))])
 (.seq (.draw [oP 36 (.mv (tP 6)),
 oP 37 (.mv (tP 8)),
 oP 38 (.idxAddr 1 (tP 36) (tP 37)),
 oP 39 (.load none (tP 38)),
 oP 40 (.addOff 0 (tP 9)),
 oP 41 (.load none (tP 40)),
 oP 42 (.bin .neq (tP 39) (tP 41)),
 oP 43 (.mv (tP 42)),
 gP 44 43 false (.addOff 0 (tP 9)),
 gP 45 43 false (.load none (tP 44)),
 gP 46 43 false (.bin .eql (tP 45) (iP 1)),
 gP 47 43 false (.mv (tP 46)),
 gP 48 47 true (.addOff 2 (tP 9)),
 gP 49 47 true (.load none (tP 48)),
 gP 50 47 true (.len false (tP 49)),
 gP 51 47 true (.bin .gtr (tP 50) (iP 64)),
 gP 52 43 false (.pick (tP 47) (tP 51) (bP false)),
 oP 53 (.pick (tP 43) (bP true) (tP 52))] [])
 (.cond (tP 53) (.seq (.region [oP 54 (.build [.int .i64 0, .int .i64 0, .slice 1 [], .str ⟨#[]⟩, .slice 5 []] []),
 sP (.store 5 (tP 4) (tP 54)),
 oP 5 (.mv (bP false))])
 (.ret)) (.skip)))))
 (.region [oP 55 (.bin .add (tP 31) (iP 1)),
 oP 31 (.mv (tP 55))])))
def B7 : ACode :=
 .seq (.region [oP 4 (.alloc [.ok (.int .i64 0), .ok (.int .i64 0), .error 1, .ok (.str ⟨#[]⟩), .error 5]),
 oP 5 (.mv (bP false))])
 (.seq (.region [oP 15 (.mv (tP 0)),
 oP 16 (.call (.fn 13) [(tP 15)]),
 oP 14 (.mv (tP 16)),
 oP 17 (.ext 0 (tP 14)),
 oP 18 (.ext 1 (tP 14)),
 oP 6 (.mv (tP 17)),
 oP 7 (.mv (tP 18))])
 (.seq (.seq (.region [oP 19 (.mv (tP 7)),
 oP 20 (.un .not (tP 19)),
 oP 21 (.mv (tP 20)),
 gP 22 21 false (.mv (tP 6)),
 gP 23 21 false (.len false (tP 22)),
 gP 24 21 false (.mv (tP 1)),
 gP 25 21 false (.len false (tP 24)),
 gP 26 21 false (.bin .neq (tP 23) (tP 25)),
 oP 27 (.pick (tP 21) (bP true) (tP 26))])
 (.cond (tP 27) (.seq (.region [oP 28 (.build [.int .i64 0, .int .i64 0, .slice 1 [], .str ⟨#[]⟩, .slice 5 []] []),
 sP (.store 5 (tP 4) (tP 28)),
 oP 5 (.mv (bP false))])
 (.ret)) (.skip)))
 (.seq (.seq (.region [oP 29 (.mv (tP 1)),
 oP 30 (.len false (tP 29)),
 oP 31 (.mv (iP 0))])
 (.block 0 (.loop true H7L5 X7L5 B7L5)))
 (.seq (.seq (.region [oP 56 (.mv (tP 0))])
 (.block 2 (.seq (.seq (.region [oP 58 (.bin .eql (tP 56) (iP 5)),
 oP 57 (.mv (tP 58))])
 (.cond (tP 57) (.skip) (.seq (.region [oP 59 (.bin .eql (tP 56) (iP 6)),
 oP 57 (.mv (tP 59))])
 (.cond (tP 57) (.skip) (.region [oP 60 (.bin .eql (tP 56) (iP 7)),
 oP 57 (.mv (tP 60))])))))
 (.cond (tP 57) (.seq (.draw [oP 61 (.mv (tP 0)),
 oP 62 (.mv (tP 1)),
 oP 63 (.idxAddr 5 (tP 62) (iP 0)),
 oP 64 (.addOff 1 (tP 63)),
 oP 65 (.load none (tP 64)),
 oP 66 (.mv (tP 1)),
 oP 67 (.idxAddr 5 (tP 66) (iP 1)),
 oP 68 (.addOff 1 (tP 67)),
 oP 69 (.load none (tP 68)),
 oP 70 (.call (.fn 15) [(tP 61), (tP 65), (tP 69)]),
 oP 71 (.call (.fn 14) [(tP 70)]),
 sP (.store 5 (tP 4) (tP 71)),
 oP 5 (.mv (bP true))] [])
 (.ret)) (.seq (.region [oP 73 (.bin .eql (tP 56) (iP 8)),
 oP 72 (.mv (tP 73))])
 (.cond (tP 72) (.seq (.region [oP 74 (.mv (tP 1)),
 oP 75 (.idxAddr 5 (tP 74) (iP 0)),
 oP 76 (.addOff 2 (tP 75)),
 oP 77 (.load none (tP 76)),
 oP 78 (.len false (tP 77)),
 oP 79 (.build [.int .i64 0, .int .i64 0, .slice 1 [], .str ⟨#[]⟩, .slice 5 []] [(1, 1, (tP 78))]),
 sP (.store 5 (tP 4) (tP 79)),
 oP 5 (.mv (bP true))])
 (.ret)) (.seq (.region [oP 81 (.bin .eql (tP 56) (iP 9)),
 oP 80 (.mv (tP 81))])
 (.cond (tP 80) (.seq (.draw [oP 82 (.mv (tP 1)),
 oP 83 (.idxAddr 5 (tP 82) (iP 0)),
 oP 84 (.addOff 2 (tP 83)),
 oP 85 (.load none (tP 84)),
 oP 86 (.mv (tP 1)),
 oP 87 (.idxAddr 5 (tP 86) (iP 1)),
 oP 88 (.addOff 1 (tP 87)),
 oP 89 (.load none (tP 88)),
 oP 90 (.call (.fn 16) [(tP 89)]),
 oP 10 (.mv (tP 85)),
 oP 11 (.mv (tP 90))] [[oP 82 (.mv (tP 1)), oP 83 (.idxAddr 5 (tP 82) (iP 0)), oP 84 (.addOff 2 (tP 83)), oP 86 (.mv (tP 1)), oP 87 (.idxAddr 5 (tP 86) (iP 1)), oP 88 (.addOff 1 (tP 87)), oP 89 (.load none (tP 88)), oP 90 (.call (.fn 16) [(tP 89)]), oP 85 (.load none (tP 84)), oP 10 (.mv (tP 85)), oP 11 (.mv (tP 90))]])
 (.seq (.seq (.region [oP 91 (.mv (tP 11)),
 oP 92 (.bin .lss (tP 91) (iP 0)),
 oP 93 (.mv (tP 92)),
 gP 94 93 false (.mv (tP 11)),
 gP 95 93 false (.mv (tP 10)),
 gP 96 93 false (.len false (tP 95)),
 gP 97 93 false (.bin .geq (tP 94) (tP 96)),
 oP 98 (.pick (tP 93) (bP true) (tP 97))])
 (.cond (tP 98) (.seq (.region [oP 99 (.build [.int .i64 0, .int .i64 0, .slice 1 [], .str ⟨#[]⟩, .slice 5 []] [(1, 1, (iP (-1)))]),
 sP (.store 5 (tP 4) (tP 99)),
 oP 5 (.mv (bP true))])
 (.ret)) (.skip)))
 (.seq (.region [oP 100 (.mv (tP 10)),
 oP 101 (.mv (tP 11)),
 oP 102 (.idxAddr 1 (tP 100) (tP 101)),
 oP 103 (.load none (tP 102)),
 oP 104 (.cvt .i64 (tP 103)),
 oP 105 (.build [.int .i64 0, .int .i64 0, .slice 1 [], .str ⟨#[]⟩, .slice 5 []] [(1, 1, (tP 104))]),
 sP (.store 5 (tP 4) (tP 105)),
 oP 5 (.mv (bP true))])
 (.ret)))) (.seq (.region [oP 107 (.bin .eql (tP 56) (iP 10)),
 oP 106 (.mv (tP 107))])
 (.cond (tP 106) (.seq (.draw [oP 108 (.mv (tP 1)),
 oP 109 (.idxAddr 5 (tP 108) (iP 0)),
 oP 110 (.addOff 2 (tP 109)),
 oP 111 (.load none (tP 110)),
 oP 112 (.mv (tP 1)),
 oP 113 (.idxAddr 5 (tP 112) (iP 1)),
 oP 114 (.addOff 2 (tP 113)),
 oP 115 (.load none (tP 114)),
 oP 116 (.lit true 0 1 2 [.slice 1 []] [(0, (tP 111)), (1, (tP 115))]),
 oP 117 (.call (.fn 17) [(tP 116)]),
 oP 12 (.mv (tP 117))] [])
 (.seq (.region [oP 118 (.mv (tP 12)),
 oP 119 (.mv (tP 12)),
 oP 120 (.len false (tP 119)),
 oP 121 (.mnmx false [(tP 120), (iP 64)]),
 oP 122 (.slc 1 (tP 118) none (some (tP 121))),
 oP 123 (.call (.fn 18) [(tP 122)]),
 sP (.store 5 (tP 4) (tP 123)),
 oP 5 (.mv (bP true))])
 (.ret))) (.seq (.region [oP 125 (.bin .eql (tP 56) (iP 11)),
 oP 124 (.mv (tP 125))])
 (.cond (tP 124) (.seq (.draw [oP 126 (.mv (tP 1)),
 oP 127 (.idxAddr 5 (tP 126) (iP 0)),
 oP 128 (.addOff 2 (tP 127)),
 oP 129 (.load none (tP 128)),
 oP 130 (.mv (tP 1)),
 oP 131 (.idxAddr 5 (tP 130) (iP 1)),
 oP 132 (.addOff 1 (tP 131)),
 oP 133 (.load none (tP 132)),
 oP 134 (.mv (tP 1)),
 oP 135 (.idxAddr 5 (tP 134) (iP 0)),
 oP 136 (.addOff 2 (tP 135)),
 oP 137 (.load none (tP 136)),
 oP 138 (.len false (tP 137)),
 oP 139 (.call (.fn 19) [(tP 133), (tP 138)]),
 oP 140 (.slc 1 (tP 129) (some (tP 139)) none),
 oP 13 (.mv (tP 140))] [[oP 126 (.mv (tP 1)), oP 127 (.idxAddr 5 (tP 126) (iP 0)), oP 128 (.addOff 2 (tP 127)), oP 130 (.mv (tP 1)), oP 131 (.idxAddr 5 (tP 130) (iP 1)), oP 132 (.addOff 1 (tP 131)), oP 133 (.load none (tP 132)), oP 134 (.mv (tP 1)), oP 135 (.idxAddr 5 (tP 134) (iP 0)), oP 136 (.addOff 2 (tP 135)), oP 137 (.load none (tP 136)), oP 138 (.len false (tP 137)), oP 139 (.call (.fn 19) [(tP 133), (tP 138)]), oP 129 (.load none (tP 128)), oP 140 (.slc 1 (tP 129) (some (tP 139)) none), oP 13 (.mv (tP 140))]])
 (.seq (.region [oP 141 (.mv (tP 13)),
 oP 142 (.mv (tP 1)),
 oP 143 (.idxAddr 5 (tP 142) (iP 2)),
 oP 144 (.addOff 1 (tP 143)),
 oP 145 (.load none (tP 144)),
 oP 146 (.mv (tP 13)),
 oP 147 (.len false (tP 146)),
 oP 148 (.call (.fn 19) [(tP 145), (tP 147)]),
 oP 149 (.slc 1 (tP 141) none (some (tP 148))),
 oP 150 (.call (.fn 20) [(tP 149)]),
 oP 151 (.call (.fn 18) [(tP 150)]),
 sP (.store 5 (tP 4) (tP 151)),
 oP 5 (.mv (bP true))])
 (.ret))) (.skip)))))))))))))
 (.seq (.draw [oP 152 (.mv (tP 0)),
 oP 153 (.mv (tP 1)),
 oP 154 (.idxAddr 5 (tP 153) (iP 0)),
 oP 155 (.addOff 1 (tP 154)),
 oP 156 (.load none (tP 155)),
 oP 157 (.mv (tP 1)),
 oP 158 (.idxAddr 5 (tP 157) (iP 1)),
 oP 159 (.addOff 1 (tP 158)),
 oP 160 (.load none (tP 159)),
 oP 161 (.call (.fn 21) [(tP 152), (tP 156), (tP 160)]),
 oP 162 (.build [.int .i64 0, .int .i64 0, .slice 1 [], .str ⟨#[]⟩, .slice 5 []] [(1, 1, (tP 161))]),
 sP (.store 5 (tP 4) (tP 162)),
 oP 5 (.mv (bP true))] [])
 (.ret))))))
def A7 : AFunc := { ntmps := 163, results := [.cell (some 5) 4, .tmp 5], body := B7, coe := true, keep := 0 }
theorem tr7 : trFunc Tryz.prog M7 true Tryz.f7 = some A7 := by kernel_rfl
def M8 : Marks := { cut := fun _ => true, hd := fun | _ => [], ex := fun | _ => [], imm := fun | _ => false, alts := fun | 21 => [[0, 1, 2, 3, 4, 5, 6, 7, 9, 10, 11, 12, 8, 13, 14, 15, 16, 17], [0, 1, 2, 4, 5, 6, 7, 8, 3, 9, 10, 11, 12, 13, 14, 15, 16, 17], [0, 1, 2, 4, 5, 6, 7, 8, 9, 10, 11, 12, 13, 3, 14, 15, 16, 17], [0, 1, 2, 4, 5, 6, 7, 9, 10, 11, 12, 8, 3, 13, 14, 15, 16, 17], [0, 1, 2, 4, 5, 6, 7, 9, 10, 11, 12, 8, 13, 3, 14, 15, 16, 17]] | _ => [] }
def B8 : ACode :=
 .seq (.region [oP 4 (.alloc [.ok (.int .i64 0), .ok (.int .i64 0), .error 1, .ok (.str ⟨#[]⟩), .error 5]),
 oP 5 (.mv (bP false))])
 (.seq (.seq (.region [oP 8 (.mv (tP 0)),
 oP 9 (.mv (tP 1)),
 oP 10 (.call (.fn 22) [(tP 8), (tP 9)]),
 oP 11 (.un .not (tP 10))])
 (.cond (tP 11) (.seq (.region [oP 12 (.build [.int .i64 0, .int .i64 0, .slice 1 [], .str ⟨#[]⟩, .slice 5 []] []),
 sP (.store 5 (tP 4) (tP 12)),
 oP 5 (.mv (bP false))])
 (.ret)) (.skip)))
 (.seq (.seq (.region [oP 13 (.mv (tP 0))])
 (.block 0 (.seq (.seq (.region [oP 15 (.bin .eql (tP 13) (iP 5)),
 oP 14 (.mv (tP 15))])
 (.cond (tP 14) (.skip) (.seq (.region [oP 16 (.bin .eql (tP 13) (iP 6)),
 oP 14 (.mv (tP 16))])
 (.cond (tP 14) (.skip) (.region [oP 17 (.bin .eql (tP 13) (iP 7)),
 oP 14 (.mv (tP 17))])))))
 (.cond (tP 14) (.seq (.draw [oP 18 (.mv (tP 0)),
 oP 19 (.mv (tP 1)),
 oP 20 (.idxAddr 5 (tP 19) (iP 0)),
 oP 21 (.addOff 1 (tP 20)),
 oP 22 (.load none (tP 21)),
 oP 23 (.mv (tP 1)),
 oP 24 (.idxAddr 5 (tP 23) (iP 1)),
 oP 25 (.addOff 1 (tP 24)),
 oP 26 (.load none (tP 25)),
 oP 27 (.call (.fn 24) [(tP 18), (tP 22), (tP 26)]),
 oP 28 (.call (.fn 23) [(tP 27)]),
 sP (.store 5 (tP 4) (tP 28)),
 oP 5 (.mv (bP true))] [])
 (.ret)) (.seq (.region [oP 30 (.bin .eql (tP 13) (iP 8)),
 oP 29 (.mv (tP 30))])
 (.cond (tP 29) (.seq (.region [oP 31 (.mv (tP 1)),
 oP 32 (.idxAddr 5 (tP 31) (iP 0)),
 oP 33 (.addOff 2 (tP 32)),
 oP 34 (.load none (tP 33)),
 oP 35 (.len false (tP 34)),
 oP 36 (.call (.fn 25) [(tP 35)]),
 sP (.store 5 (tP 4) (tP 36)),
 oP 5 (.mv (bP true))])
 (.ret)) (.seq (.region [oP 38 (.bin .eql (tP 13) (iP 9)),
 oP 37 (.mv (tP 38))])
 (.cond (tP 37) (.seq (.region [oP 39 (.mv (tP 1)),
 oP 40 (.idxAddr 5 (tP 39) (iP 1)),
 oP 41 (.addOff 1 (tP 40)),
 oP 42 (.load none (tP 41)),
 oP 43 (.call (.fn 26) [(tP 42)]),
 oP 6 (.mv (tP 43))])
 (.seq (.seq (.region [oP 44 (.mv (tP 6)),
 oP 45 (.bin .lss (tP 44) (iP 0)),
 oP 46 (.mv (tP 45)),
 gP 47 46 false (.mv (tP 6)),
 gP 48 46 false (.mv (tP 1)),
 gP 49 46 false (.idxAddr 5 (tP 48) (iP 0)),
 gP 50 46 false (.addOff 2 (tP 49)),
 gP 51 46 false (.load none (tP 50)),
 gP 52 46 false (.len false (tP 51)),
 gP 53 46 false (.bin .geq (tP 47) (tP 52)),
 oP 54 (.pick (tP 46) (bP true) (tP 53))])
 (.cond (tP 54) (.seq (.region [oP 55 (.call (.fn 25) [(iP (-1))]),
 sP (.store 5 (tP 4) (tP 55)),
 oP 5 (.mv (bP true))])
 (.ret)) (.skip)))
 (.seq (.region [oP 56 (.mv (tP 1)),
 oP 57 (.idxAddr 5 (tP 56) (iP 0)),
 oP 58 (.addOff 2 (tP 57)),
 oP 59 (.load none (tP 58)),
 oP 60 (.mv (tP 6)),
 oP 61 (.idxAddr 1 (tP 59) (tP 60)),
 oP 62 (.load none (tP 61)),
 oP 63 (.cvt .i64 (tP 62)),
 oP 64 (.call (.fn 25) [(tP 63)]),
 sP (.store 5 (tP 4) (tP 64)),
 oP 5 (.mv (bP true))])
 (.ret)))) (.seq (.region [oP 66 (.bin .eql (tP 13) (iP 10)),
 oP 65 (.mv (tP 66))])
 (.cond (tP 65) (.seq (.region [oP 7 (.nilrow 1)])
 (.seq (.region [oP 67 (.mv (tP 7)),
 oP 68 (.mv (tP 1)),
 oP 69 (.idxAddr 5 (tP 68) (iP 0)),
 oP 70 (.addOff 2 (tP 69)),
 oP 71 (.load none (tP 70)),
 oP 72 (.app false 5 1 1 (tP 67) (tP 71)),
 oP 7 (.mv (tP 72))])
 (.seq (.region [oP 73 (.mv (tP 7)),
 oP 74 (.mv (tP 1)),
 oP 75 (.idxAddr 5 (tP 74) (iP 1)),
 oP 76 (.addOff 2 (tP 75)),
 oP 77 (.load none (tP 76)),
 oP 78 (.app false 5 1 1 (tP 73) (tP 77)),
 oP 7 (.mv (tP 78))])
 (.seq (.region [oP 79 (.mv (tP 7)),
 oP 80 (.call (.fn 28) [(tP 79), (iP 0), (iP 64)]),
 oP 81 (.call (.fn 27) [(tP 80)]),
 sP (.store 5 (tP 4) (tP 81)),
 oP 5 (.mv (bP true))])
 (.ret))))) (.seq (.region [oP 83 (.bin .eql (tP 13) (iP 11)),
 oP 82 (.mv (tP 83))])
 (.cond (tP 82) (.seq (.draw [oP 84 (.mv (tP 1)),
 oP 85 (.idxAddr 5 (tP 84) (iP 0)),
 oP 86 (.addOff 2 (tP 85)),
 oP 87 (.load none (tP 86)),
 oP 88 (.mv (tP 1)),
 oP 89 (.idxAddr 5 (tP 88) (iP 1)),
 oP 90 (.addOff 1 (tP 89)),
 oP 91 (.load none (tP 90)),
 oP 92 (.call (.fn 26) [(tP 91)]),
 oP 93 (.mv (tP 1)),
 oP 94 (.idxAddr 5 (tP 93) (iP 2)),
 oP 95 (.addOff 1 (tP 94)),
 oP 96 (.load none (tP 95)),
 oP 97 (.call (.fn 26) [(tP 96)]),
 oP 98 (.call (.fn 28) [(tP 87), (tP 92), (tP 97)]),
 oP 99 (.call (.fn 27) [(tP 98)]),
 sP (.store 5 (tP 4) (tP 99)),
 oP 5 (.mv (bP true))] [[oP 84 (.mv (tP 1)), oP 85 (.idxAddr 5 (tP 84) (iP 0)), oP 86 (.addOff 2 (tP 85)), oP 87 (.load none (tP 86)), oP 88 (.mv (tP 1)), oP 89 (.idxAddr 5 (tP 88) (iP 1)), oP 90 (.addOff 1 (tP 89)), oP 91 (.load none (tP 90)), oP 93 (.mv (tP 1)), oP 94 (.idxAddr 5 (tP 93) (iP 2)), oP 95 (.addOff 1 (tP 94)), oP 96 (.load none (tP 95)), oP 92 (.call (.fn 26) [(tP 91)]), oP 97 (.call (.fn 26) [(tP 96)]), oP 98 (.call (.fn 28) [(tP 87), (tP 92), (tP 97)]), oP 99 (.call (.fn 27) [(tP 98)]), sP (.store 5 (tP 4) (tP 99)), oP 5 (.mv (bP true))], [oP 84 (.mv (tP 1)), oP 85 (.idxAddr 5 (tP 84) (iP 0)), oP 86 (.addOff 2 (tP 85)), oP 88 (.mv (tP 1)), oP 89 (.idxAddr 5 (tP 88) (iP 1)), oP 90 (.addOff 1 (tP 89)), oP 91 (.load none (tP 90)), oP 92 (.call (.fn 26) [(tP 91)]), oP 87 (.load none (tP 86)), oP 93 (.mv (tP 1)), oP 94 (.idxAddr 5 (tP 93) (iP 2)), oP 95 (.addOff 1 (tP 94)), oP 96 (.load none (tP 95)), oP 97 (.call (.fn 26) [(tP 96)]), oP 98 (.call (.fn 28) [(tP 87), (tP 92), (tP 97)]), oP 99 (.call (.fn 27) [(tP 98)]), sP (.store 5 (tP 4) (tP 99)), oP 5 (.mv (bP true))], [oP 84 (.mv (tP 1)), oP 85 (.idxAddr 5 (tP 84) (iP 0)), oP 86 (.addOff 2 (tP 85)), oP 88 (.mv (tP 1)), oP 89 (.idxAddr 5 (tP 88) (iP 1)), oP 90 (.addOff 1 (tP 89)), oP 91 (.load none (tP 90)), oP 92 (.call (.fn 26) [(tP 91)]), oP 93 (.mv (tP 1)), oP 94 (.idxAddr 5 (tP 93) (iP 2)), oP 95 (.addOff 1 (tP 94)), oP 96 (.load none (tP 95)), oP 97 (.call (.fn 26) [(tP 96)]), oP 87 (.load none (tP 86)), oP 98 (.call (.fn 28) [(tP 87), (tP 92), (tP 97)]), oP 99 (.call (.fn 27) [(tP 98)]), sP (.store 5 (tP 4) (tP 99)), oP 5 (.mv (bP true))], [oP 84 (.mv (tP 1)), oP 85 (.idxAddr 5 (tP 84) (iP 0)), oP 86 (.addOff 2 (tP 85)), oP 88 (.mv (tP 1)), oP 89 (.idxAddr 5 (tP 88) (iP 1)), oP 90 (.addOff 1 (tP 89)), oP 91 (.load none (tP 90)), oP 93 (.mv (tP 1)), oP 94 (.idxAddr 5 (tP 93) (iP 2)), oP 95 (.addOff 1 (tP 94)), oP 96 (.load none (tP 95)), oP 92 (.call (.fn 26) [(tP 91)]), oP 87 (.load none (tP 86)), oP 97 (.call (.fn 26) [(tP 96)]), oP 98 (.call (.fn 28) [(tP 87), (tP 92), (tP 97)]), oP 99 (.call (.fn 27) [(tP 98)]), sP (.store 5 (tP 4) (tP 99)), oP 5 (.mv (bP true))], [oP 84 (.mv (tP 1)), oP 85 (.idxAddr 5 (tP 84) (iP 0)), oP 86 (.addOff 2 (tP 85)), oP 88 (.mv (tP 1)), oP 89 (.idxAddr 5 (tP 88) (iP 1)), oP 90 (.addOff 1 (tP 89)), oP 91 (.load none (tP 90)), oP 93 (.mv (tP 1)), oP 94 (.idxAddr 5 (tP 93) (iP 2)), oP 95 (.addOff 1 (tP 94)), oP 96 (.load none (tP 95)), oP 92 (.call (.fn 26) [(tP 91)]), oP 97 (.call (.fn 26) [(tP 96)]), oP 87 (.load none (tP 86)), oP 98 (.call (.fn 28) [(tP 87), (tP 92), (tP 97)]), oP 99 (.call (.fn 27) [(tP 98)]), sP (.store 5 (tP 4) (tP 99)), oP 5 (.mv (bP true))]])
 (.ret)) (.skip)))))))))))))
 (.seq (.draw [oP 100 (.mv (tP 0)),
 oP 101 (.mv (tP 1)),
 oP 102 (.idxAddr 5 (tP 101) (iP 0)),
 oP 103 (.addOff 1 (tP 102)),
 oP 104 (.load none (tP 103)),
 oP 105 (.mv (tP 1)),
 oP 106 (.idxAddr 5 (tP 105) (iP 1)),
 oP 107 (.addOff 1 (tP 106)),
 oP 108 (.load none (tP 107)),
 oP 109 (.call (.fn 29) [(tP 100), (tP 104), (tP 108)]),
 oP 110 (.call (.fn 25) [(tP 109)]),
 sP (.store 5 (tP 4) (tP 110)),
 oP 5 (.mv (bP true))] [])
 (.ret))))
def A8 : AFunc := { ntmps := 111, results := [.cell (some 5) 4, .tmp 5], body := B8, coe := true, keep := 0 }
theorem tr8 : trFunc Tryz.prog M8 true Tryz.f8 = some A8 := by kernel_rfl
abbrev H9L4 : List Bool := [false, false, true, true, false, true]
abbrev X9L4 : List Bool := [false, false, false, false, true]
def M9 : Marks := { cut := fun _ => true, hd := fun | 4 => H9L4 | _ => [], ex := fun | 4 => X9L4 | _ => [], imm := fun | 2 => true | 3 => true | _ => false }
def B9L4 : ACode :=
 .seq (.seq (.region [oP 43 (.mv (tP 5)),
 oP 44 (.addOff 4 (tP 2)),
 oP 45 (.load none (tP 44)),
 oP 46 (.len false (tP 45)),
 oP 47 (.bin .lss (tP 43) (tP 46))])
 (.cond (tP 47) (.skip) (.exit 0)))
 (.seq (.block 1 (.seq (.draw [oP 50 (.addOff 4 (tP 2)),
 oP 51 (.load none (tP 50)),
 oP 52 (.mv (tP 5)),
 oP 53 (.idxAddr 5 (tP 51) (tP 52)),
 oP 54 (.load (some 5) (tP 53)),
 oP 55 (.addOff 4 (tP 3)),
 oP 56 (.load none (tP 55)),
 oP 57 (.mv (tP 5)),
 oP 58 (.idxAddr 5 (tP 56) (tP 57)),
 oP 59 (.load (some 5) (tP 58)),
 oP 60 (.call (.fn 9) [(tP 54), (tP 59)]),
 oP 61 (.un .not (tP 60))] [])
 (.cond (tP 61) (.seq (.region [oP 4 (.mv (bP false))])
 (.ret)) (.skip))))
 (.region [oP 48 (.mv (tP 5)),
 oP 49 (.bin .add (tP 48) (iP 1)),
 oP 5 (.mv (tP 49))]))
def B9 : ACode :=
 .seq (.region [oP 2 (.box true (tP 0)),
 oP 3 (.box true (tP 1)),
 oP 4 (.mv (bP false))])
 (.seq (.seq (.region [oP 6 (.addOff 0 (tP 2)),
 oP 7 (.load none (tP 6)),
 oP 8 (.addOff 0 (tP 3)),
 oP 9 (.load none (tP 8)),
 oP 10 (.bin .neq (tP 7) (tP 9)),
 oP 11 (.mv (tP 10)),
 gP 12 11 false (.addOff 1 (tP 2)),
 gP 13 11 false (.load none (tP 12)),
 gP 14 11 false (.addOff 1 (tP 3)),
 gP 15 11 false (.load none (tP 14)),
 gP 16 11 false (.bin .neq (tP 13) (tP 15)),
 oP 17 (.pick (tP 11) (bP true) (tP 16)),
 oP 18 (.mv (tP 17)),
 gP 19 18 false (.addOff 2 (tP 2)),
 gP 20 18 false (.load none (tP 19)),
 gP 21 18 false (.bstr (tP 20)),
 gP 22 18 false (.addOff 2 (tP 3)),
 gP 23 18 false (.load none (tP 22)),
 gP 24 18 false (.bstr (tP 23)),
 gP 25 18 false (.bin .neq (tP 21) (tP 24)),
 oP 26 (.pick (tP 18) (bP true) (tP 25)),
 oP 27 (.mv (tP 26)),
 gP 28 27 false (.addOff 3 (tP 2)),
 gP 29 27 false (.load none (tP 28)),
 gP 30 27 false (.addOff 3 (tP 3)),
 gP 31 27 false (.load none (tP 30)),
 gP 32 27 false (.bin .neq (tP 29) (tP 31)),
 oP 33 (.pick (tP 27) (bP true) (tP 32)),
 oP 34 (.mv (tP 33)),
 gP 35 34 false (.addOff 4 (tP 2)),
 gP 36 34 false (.load none (tP 35)),
 gP 37 34 false (.len false (tP 36)),
 gP 38 34 false (.addOff 4 (tP 3)),
 gP 39 34 false (.load none (tP 38)),
 gP 40 34 false (.len false (tP 39)),
 gP 41 34 false (.bin .neq (tP 37) (tP 40)),
 oP 42 (.pick (tP 34) (bP true) (tP 41))])
 (.cond (tP 42) (.seq (.region [oP 4 (.mv (bP false))])
 (.ret)) (.skip)))
 (.seq (.seq (.region [oP 5 (.mv (iP 0))])
 (.block 0 (.loop true H9L4 X9L4 B9L4)))
 (.seq (.region [oP 4 (.mv (bP true))])
 (.ret))))
def A9 : AFunc := { ntmps := 62, results := [.tmp 4], body := B9, coe := true, keep := 0 }
theorem tr9 : trFunc Tryz.prog M9 true Tryz.f9 = some A9 := by kernel_rfl
def M10 : Marks := { cut := fun _ => true, hd := fun | _ => [], ex := fun | _ => [], imm := fun | _ => false }
def B10 : ACode :=
 .seq (.region [oP 2 (.alloc [.ok (.int .i64 0), .ok (.int .i64 0), .error 1, .ok (.str ⟨#[]⟩), .error 5])])
 (.seq (.region [oP 3 (.mv (tP 0)),
 oP 4 (.build [.int .i64 0, .int .i64 0, .slice 1 [], .str ⟨#[]⟩, .slice 5 []] [(0, 1, (iP 1)), (2, 1, (tP 3))]),
 sP (.store 5 (tP 2) (tP 4))])
 (.ret))
def A10 : AFunc := { ntmps := 5, results := [.cell (some 5) 2], body := B10, coe := true, keep := 0 }
theorem tr10 : trFunc Tryz.prog M10 true Tryz.f10 = some A10 := by kernel_rfl
abbrev H11L3 : List Bool := [false, true, true, false, false, true]
abbrev X11L3 : List Bool := [false, true]
def M11 : Marks := { cut := fun _ => true, hd := fun | 3 => H11L3 | _ => [], ex := fun | 3 => X11L3 | _ => [], imm := fun | 2 => true | _ => false }
def B11L3 : ACode :=
 .seq (.seq (.region [oP 18 (.mv (tP 5)),
 oP 19 (.addOff 4 (tP 2)),
 oP 20 (.load none (tP 19)),
 oP 21 (.len false (tP 20)),
 oP 22 (.bin .lss (tP 18) (tP 21)),
 oP 23 (.mv (tP 22)),
 gP 24 23 true (.mv (tP 1)),
 gP 25 23 true (.bin .geq (tP 24) (iP 0)),
 oP 26 (.pick (tP 23) (tP 25) (bP false))])
 (.cond (tP 26) (.skip) (.exit 0)))
 (.seq (.block 1 (.region [oP 29 (.addOff 4 (tP 2)),
 oP 30 (.load none (tP 29)),
 oP 31 (.mv (tP 5)),
 oP 32 (.idxAddr 5 (tP 30) (tP 31)),
 oP 33 (.load (some 5) (tP 32)),
 oP 34 (.mv (tP 1)),
 oP 35 (.call (.fn 11) [(tP 33), (tP 34)]),
 oP 1 (.mv (tP 35))]))
 (.region [oP 27 (.mv (tP 5)),
 oP 28 (.bin .add (tP 27) (iP 1)),
 oP 5 (.mv (tP 28))]))
def B11 : ACode :=
 .seq (.region [oP 2 (.box true (tP 0)),
 oP 4 (.mv (iP 0))])
 (.seq (.region [oP 6 (.mv (tP 1)),
 oP 7 (.bin .sub (tP 6) (iP 1)),
 oP 8 (.addOff 2 (tP 2)),
 oP 9 (.load none (tP 8)),
 oP 10 (.len false (tP 9)),
 oP 11 (.mnmx false [(tP 10), (iP 1048576)]),
 oP 12 (.bin .sub (tP 7) (tP 11)),
 oP 13 (.addOff 3 (tP 2)),
 oP 14 (.load none (tP 13)),
 oP 15 (.len true (tP 14)),
 oP 16 (.mnmx false [(tP 15), (iP 1048576)]),
 oP 17 (.bin .sub (tP 12) (tP 16)),
 oP 1 (.mv (tP 17))])
 (.seq (.seq (.region [oP 5 (.mv (iP 0))])
 (.block 0 (.loop true H11L3 X11L3 B11L3)))
 (.seq (.region [oP 36 (.mv (tP 1)),
 oP 4 (.mv (tP 36))])
 (.ret))))
def A11 : AFunc := { ntmps := 37, results := [.tmp 4], body := B11, coe := true, keep := 0 }
theorem tr11 : trFunc Tryz.prog M11 true Tryz.f11 = some A11 := by kernel_rfl
def M12 : Marks := { cut := fun _ => true, hd := fun | _ => [], ex := fun | _ => [], imm := fun | 2 => true | _ => false }
def B12 : ACode :=
 .seq (.region [oP 2 (.box true (tP 0)),
 oP 4 (.alloc [.ok (.int .i64 0), .ok (.int .i64 0), .error 1, .ok (.str ⟨#[]⟩), .error 5]),
 oP 5 (.alloc [.ok (.int .i64 0), .ok (.int .i64 0), .ok (.int .i64 0)]),
 oP 6 (.mv (iP 0))])
 (.seq (.seq (.region [oP 7 (.load (some 17) (tP 2)),
 oP 8 (.call (.fn 30) [(tP 7)]),
 oP 9 (.fld none 0 (tP 8)),
 oP 10 (.bin .neq (tP 9) (iP 0))])
 (.cond (tP 10) (.seq (.region [oP 11 (.build [.int .i64 0, .int .i64 0, .slice 1 [], .str ⟨#[]⟩, .slice 5 []] []),
 oP 12 (.build [.int .i64 0, .int .i64 0, .int .i64 0] []),
 sP (.store 5 (tP 4) (tP 11)),
 sP (.store 3 (tP 5) (tP 12)),
 oP 6 (.mv (iP 19))])
 (.ret)) (.skip)))
 (.seq (.region [oP 13 (.load (some 17) (tP 2)),
 oP 14 (.addOff 8 (tP 2)),
 oP 15 (.load (some 8) (tP 14)),
 oP 16 (.mv (tP 1)),
 oP 17 (.call (.fn 31) [(tP 13), (.con (.slice 6 [])), (tP 15), (tP 16)]),
 oP 18 (.ext 0 (tP 17)),
 oP 19 (.ext 1 (tP 17)),
 oP 20 (.ext 2 (tP 17)),
 sP (.store 5 (tP 4) (tP 18)),
 sP (.store 3 (tP 5) (tP 19)),
 oP 6 (.mv (tP 20))])
 (.ret)))
def A12 : AFunc := { ntmps := 21, results := [.cell (some 5) 4, .cell (some 3) 5, .tmp 6], body := B12, coe := true, keep := 0 }
theorem tr12 : trFunc Tryz.prog M12 true Tryz.f12 = some A12 := by kernel_rfl
def M13 : Marks := { cut := fun _ => true, hd := fun | _ => [], ex := fun | _ => [], imm := fun | 2 => true | _ => false }
def B13 : ACode :=
 .seq (.region [oP 2 (.mv (.con (.slice 1 []))),
 oP 3 (.mv (bP false))])
 (.seq (.region [oP 4 (.mv (iP 0)),
 oP 5 (.mv (iP 1))])
 (.seq (.seq (.region [oP 6 (.mv (tP 0))])
 (.block 0 (.seq (.seq (.region [oP 8 (.bin .eql (tP 6) (iP 0)),
 oP 7 (.mv (tP 8))])
 (.cond (tP 7) (.skip) (.seq (.region [oP 9 (.bin .eql (tP 6) (iP 1)),
 oP 7 (.mv (tP 9))])
 (.cond (tP 7) (.skip) (.seq (.region [oP 10 (.bin .eql (tP 6) (iP 2)),
 oP 7 (.mv (tP 10))])
 (.cond (tP 7) (.skip) (.seq (.region [oP 11 (.bin .eql (tP 6) (iP 3)),
 oP 7 (.mv (tP 11))])
 (.cond (tP 7) (.skip) (.seq (.region [oP 12 (.bin .eql (tP 6) (iP 4)),
 oP 7 (.mv (tP 12))])
 (.cond (tP 7) (.skip) (.seq (.region [oP 13 (.bin .eql (tP 6) (iP 5)),
 oP 7 (.mv (tP 13))])
 (.cond (tP 7) (.skip) (.seq (.region [oP 14 (.bin .eql (tP 6) (iP 6)),
 oP 7 (.mv (tP 14))])
 (.cond (tP 7) (.skip) (.region [oP 15 (.bin .eql (tP 6) (iP 7)),
 oP 7 (.mv (tP 15))])))))))))))))))
 (.cond (tP 7) (.seq (.region [oP 16 (.mv (tP 4)),
 oP 17 (.mv (tP 4)),
 oP 18 (.lit false 0 1 2 [.int .i64 0] [(0, (tP 16)), (1, (tP 17))]),
 oP 2 (.mv (tP 18)),
 oP 3 (.mv (bP true))])
 (.ret)) (.seq (.region [oP 20 (.bin .eql (tP 6) (iP 8)),
 oP 19 (.mv (tP 20))])
 (.cond (tP 19) (.seq (.region [oP 21 (.mv (tP 5)),
 oP 22 (.lit false 0 1 1 [.int .i64 0] [(0, (tP 21))]),
 oP 2 (.mv (tP 22)),
 oP 3 (.mv (bP true))])
 (.ret)) (.seq (.region [oP 24 (.bin .eql (tP 6) (iP 9)),
 oP 23 (.mv (tP 24))])
 (.cond (tP 23) (.seq (.region [oP 25 (.mv (tP 5)),
 oP 26 (.mv (tP 4)),
 oP 27 (.lit false 0 1 2 [.int .i64 0] [(0, (tP 25)), (1, (tP 26))]),
 oP 2 (.mv (tP 27)),
 oP 3 (.mv (bP true))])
 (.ret)) (.seq (.region [oP 29 (.bin .eql (tP 6) (iP 10)),
 oP 28 (.mv (tP 29))])
 (.cond (tP 28) (.seq (.region [oP 30 (.mv (tP 5)),
 oP 31 (.mv (tP 5)),
 oP 32 (.lit false 0 1 2 [.int .i64 0] [(0, (tP 30)), (1, (tP 31))]),
 oP 2 (.mv (tP 32)),
 oP 3 (.mv (bP true))])
 (.ret)) (.seq (.region [oP 34 (.bin .eql (tP 6) (iP 11)),
 oP 33 (.mv (tP 34))])
 (.cond (tP 33) (.seq (.region [oP 35 (.mv (tP 5)),
 oP 36 (.mv (tP 4)),
 oP 37 (.mv (tP 4)),
 oP 38 (.lit false 0 1 3 [.int .i64 0] [(0, (tP 35)), (1, (tP 36)), (2, (tP 37))]),
 oP 2 (.mv (tP 38)),
 oP 3 (.mv (bP true))])
 (.ret)) (.skip)))))))))))))
 (.seq (.region [oP 2 (.mv (.con (.slice 1 []))),
 oP 3 (.mv (bP false))])
 (.ret))))
def A13 : AFunc := { ntmps := 39, results := [.tmp 2, .tmp 3], body := B13, coe := true, keep := 0 }
theorem tr13 : trFunc Tryz.prog M13 true Tryz.f13 = some A13 := by kernel_rfl
def M14 : Marks := { cut := fun _ => true, hd := fun | _ => [], ex := fun | _ => [], imm := fun | _ => false }
def B14 : ACode :=
 .seq (.region [oP 2 (.alloc [.ok (.int .i64 0), .ok (.int .i64 0), .error 1, .ok (.str ⟨#[]⟩), .error 5])])
 (.seq (.region [oP 3 (.mv (.con (.str ⟨#[70, 97, 108, 115, 101]⟩)))])
 (.seq (.seq (.region [oP 4 (.mv (tP 0))])
 (.cond (tP 4) (.region [oP 3 (.mv (.con (.str ⟨#[84, 114, 117, 101]⟩)))]) (.skip)))
 (.seq (.region [oP 5 (.mv (tP 3)),
 oP 6 (.build [.int .i64 0, .int .i64 0, .slice 1 [], .str ⟨#[]⟩, .slice 5 []] [(0, 1, (iP 2)), (3, 1, (tP 5))]),
 sP (.store 5 (tP 2) (tP 6))])
 (.ret))))
def A14 : AFunc := { ntmps := 7, results := [.cell (some 5) 2], body := B14, coe := true, keep := 0 }
theorem tr14 : trFunc Tryz.prog M14 true Tryz.f14 = some A14 := by kernel_rfl
def M15 : Marks := { cut := fun _ => true, hd := fun | _ => [], ex := fun | _ => [], imm := fun | _ => false }
def B15 : ACode :=
 .seq (.region [oP 6 (.mv (bP false))])
 (.seq (.region [oP 9 (.mv (tP 1)),
 oP 10 (.call (.fn 32) [(tP 9)]),
 oP 11 (.mv (tP 2)),
 oP 12 (.call (.fn 32) [(tP 11)]),
 oP 7 (.mv (tP 10)),
 oP 8 (.mv (tP 12))])
 (.seq (.seq (.region [oP 13 (.mv (tP 0))])
 (.block 0 (.seq (.region [oP 15 (.bin .eql (tP 13) (iP 5)),
 oP 14 (.mv (tP 15))])
 (.cond (tP 14) (.seq (.region [oP 16 (.mv (tP 7)),
 oP 17 (.mv (tP 8)),
 oP 18 (.bin .lss (tP 16) (tP 17)),
 oP 6 (.mv (tP 18))])
 (.ret)) (.seq (.region [oP 20 (.bin .eql (tP 13) (iP 6)),
 oP 19 (.mv (tP 20))])
 (.cond (tP 19) (.seq (.region [oP 21 (.mv (tP 7)),
 oP 22 (.mv (tP 8)),
 oP 23 (.bin .leq (tP 21) (tP 22)),
 oP 6 (.mv (tP 23))])
 (.ret)) (.seq (.region [oP 25 (.bin .eql (tP 13) (iP 7)),
 oP 24 (.mv (tP 25))])
 (.cond (tP 24) (.seq (.region [oP 26 (.mv (tP 7)),
 oP 27 (.mv (tP 8)),
 oP 28 (.bin .eql (tP 26) (tP 27)),
 oP 6 (.mv (tP 28))])
 (.ret)) (.skip)))))))))
 (.seq (.region [oP 6 (.mv (bP false))])
 (.ret))))
def A15 : AFunc := { ntmps := 29, results := [.tmp 6], body := B15, coe := true, keep := 0 }
theorem tr15 : trFunc Tryz.prog M15 true Tryz.f15 = some A15 := by kernel_rfl
def M16 : Marks := { cut := fun _ => true, hd := fun | _ => [], ex := fun | _ => [], imm := fun | _ => false }
def B16 : ACode :=
 .seq (.region [oP 2 (.mv (iP 0))])
 (.seq (.region [oP 3 (.mv (tP 0)),
 oP 4 (.call (.fn 32) [(tP 3)]),
 oP 2 (.mv (tP 4))])
 (.ret))
def A16 : AFunc := { ntmps := 5, results := [.tmp 2], body := B16, coe := true, keep := 0 }
theorem tr16 : trFunc Tryz.prog M16 true Tryz.f16 = some A16 := by kernel_rfl
abbrev H17L3 : List Bool := [true, false, false, true, false, false, false, false, false, true, true, true]
abbrev X17L3 : List Bool := [true, false, false, true]
abbrev H17L11 : List Bool := [false, false, false, false, false, false, true, false, false, false, false, false, false, false, false, false, false, false, false, false, false, false, false, false, false, true, true, true]
abbrev X17L11 : List Bool := [false, false, false, false, false, false, true]
def M17 : Marks := { cut := fun _ => true, hd := fun | 3 => H17L3 | 11 => H17L11 | _ => [], ex := fun | 3 => X17L3 | 11 => X17L11 | _ => [], imm := fun | 2 => true | 1000033 => true | 2000002 => true | _ => false }
def B17L3 : ACode :=
 .seq (.region [oP 12 (.bin .lss (tP 11) (tP 10))])
 (.seq (.cond (tP 12) (.skip) (.exit 0))
 (.seq (.block 1 (.seq (.region [oP 13 (.idxAddr 1 (tP 9) (tP 11)),
 oP 14 (.load none (tP 13)),
 oP 5 (.mv (tP 14))])
 (.seq (.region [oP 15 (.mv (tP 3)),
 oP 16 (.mv (tP 5)),
 oP 17 (.len false (tP 16)),
 oP 18 (.bin .add (tP 15) (tP 17)),
 oP 3 (.mv (tP 18))])
 (.seq (.region [oP 19 (.mv (tP 3)),
 oP 20 (.bin .lss (tP 19) (iP 0))])
 (.cond (tP 20) (.region [oP 21 (.mki 9 (.con (.str ⟨#[108, 101, 110, 32, 111, 117, 116, 32, 111, 102, 32, 114, 97, 110, 103, 101]⟩))),
 sP (.panic (tP 21))]) (.skip))))))
 (.region [oP 22 (.bin .add (tP 11) (iP 1)),
 oP 11 (.mv (tP 22))])))
def B17L11 : ACode :=
 .seq (.region [oP 28 (.bin .lss (tP 27) (tP 26))])
 (.seq (.cond (tP 28) (.skip) (.exit 2))
 (.seq (.block 3 (.seq (.region [oP 29 (.idxAddr 1 (tP 25) (tP 27)),
 oP 30 (.load none (tP 29)),
 oP 8 (.mv (tP 30))])
 (.region [oP 31 (.mv (tP 6)),
 oP 32 (.mv (tP 8)),
 oP 33 (.vapp 5 1 1 (tP 31) (tP 32)),
 oP 6 (.mv (tP 33))])))
 (.region [oP 34 (.bin .add (tP 27) (iP 1)),
 oP 27 (.mv (tP 34))])))
def B17 : ACode :=
 .seq (.region [oP 2 (.frz (.con (.slice 1 [])))])
 (.seq (.region [oP 3 (.mv (iP 0))])
 (.seq (.seq (.region [oP 9 (.mv (tP 0)),
 oP 10 (.len false (tP 9)),
 oP 11 (.mv (iP 0))])
 (.block 0 (.loop true H17L3 X17L3 B17L3)))
 (.seq (.region [oP 23 (.mv (tP 3)),
 oP 24 (.calln 1 (.fn 33) [(tP 23)]),
 oP 6 (.mv (tP 24))])
 (.seq (.seq (.region [oP 25 (.mv (tP 0)),
 oP 26 (.len false (tP 25)),
 oP 27 (.mv (iP 0))])
 (.block 2 (.loop true H17L11 X17L11 B17L11)))
 (.seq (.region [oP 35 (.mv (tP 6)),
 oP 2 (.frz (tP 35))])
 (.ret))))))
def A17 : AFunc := { ntmps := 36, results := [.tmp 2], body := B17, coe := true, keep := 0 }
theorem tr17 : trFunc Tryz.prog M17 true Tryz.f17 = some A17 := by kernel_rfl
def M18 : Marks := { cut := fun _ => true, hd := fun | _ => [], ex := fun | _ => [], imm := fun | _ => false }
def B18 : ACode :=
 .seq (.region [oP 2 (.alloc [.ok (.int .i64 0), .ok (.int .i64 0), .error 1, .ok (.str ⟨#[]⟩), .error 5])])
 (.seq (.region [oP 3 (.mv (tP 0)),
 oP 4 (.build [.int .i64 0, .int .i64 0, .slice 1 [], .str ⟨#[]⟩, .slice 5 []] [(0, 1, (iP 1)), (2, 1, (tP 3))]),
 sP (.store 5 (tP 2) (tP 4))])
 (.ret))
def A18 : AFunc := { ntmps := 5, results := [.cell (some 5) 2], body := B18, coe := true, keep := 0 }
theorem tr18 : trFunc Tryz.prog M18 true Tryz.f18 = some A18 := by kernel_rfl
def M19 : Marks := { cut := fun _ => true, hd := fun | _ => [], ex := fun | _ => [], imm := fun | _ => false }
def B19 : ACode :=
 .seq (.region [oP 4 (.mv (iP 0))])
 (.seq (.region [oP 5 (.mv (tP 0)),
 oP 6 (.call (.fn 16) [(tP 5)]),
 oP 7 (.mnmx true [(tP 6), (iP 0)]),
 oP 8 (.mv (tP 1)),
 oP 9 (.mnmx false [(tP 7), (tP 8)]),
 oP 4 (.mv (tP 9))])
 (.ret))
def A19 : AFunc := { ntmps := 10, results := [.tmp 4], body := B19, coe := true, keep := 0 }
theorem tr19 : trFunc Tryz.prog M19 true Tryz.f19 = some A19 := by kernel_rfl
def M20 : Marks := { cut := fun _ => true, hd := fun | _ => [], ex := fun | _ => [], imm := fun | 2 => true | _ => false }
def B20 : ACode :=
 .seq (.region [oP 2 (.mv (.con (.slice 1 [])))])
 (.seq (.seq (.region [oP 3 (.mv (tP 0)),
 oP 4 (.isnil 3 false (tP 3))])
 (.cond (tP 4) (.seq (.region [oP 2 (.mv (.con (.slice 1 [])))])
 (.ret)) (.skip)))
 (.seq (.region [oP 5 (.lit false 5 1 0 [.int .u8 0] []),
 oP 6 (.mv (tP 0)),
 oP 7 (.app false 5 1 1 (tP 5) (tP 6)),
 oP 2 (.mv (tP 7))])
 (.ret)))
def A20 : AFunc := { ntmps := 8, results := [.tmp 2], body := B20, coe := true, keep := 0 }
theorem tr20 : trFunc Tryz.prog M20 true Tryz.f20 = some A20 := by kernel_rfl
def M21 : Marks := { cut := fun _ => true, hd := fun | _ => [], ex := fun | _ => [], imm := fun | _ => false }
def B21 : ACode :=
 .seq (.region [oP 6 (.mv (iP 0))])
 (.seq (.region [oP 7 (.mv (.con (.nilf)))])
 (.seq (.seq (.region [oP 8 (.mv (tP 0))])
 (.block 0 (.seq (.region [oP 10 (.bin .eql (tP 8) (iP 0)),
 oP 9 (.mv (tP 10))])
 (.cond (tP 9) (.region [oP 7 (.mv (.fn 34))]) (.seq (.region [oP 12 (.bin .eql (tP 8) (iP 1)),
 oP 11 (.mv (tP 12))])
 (.cond (tP 11) (.region [oP 7 (.mv (.fn 35))]) (.seq (.region [oP 14 (.bin .eql (tP 8) (iP 2)),
 oP 13 (.mv (tP 14))])
 (.cond (tP 13) (.region [oP 7 (.mv (.fn 36))]) (.seq (.region [oP 16 (.bin .eql (tP 8) (iP 3)),
 oP 15 (.mv (tP 16))])
 (.cond (tP 15) (.region [oP 7 (.mv (.fn 37))]) (.seq (.region [oP 18 (.bin .eql (tP 8) (iP 4)),
 oP 17 (.mv (tP 18))])
 (.cond (tP 17) (.region [oP 7 (.mv (.fn 38))]) (.seq (.region [oP 6 (.mv (iP 0))])
 (.ret))))))))))))))
 (.seq (.region [oP 19 (.mv (tP 7)),
 oP 20 (.mv (tP 1)),
 oP 21 (.call (.fn 32) [(tP 20)]),
 oP 22 (.mv (tP 2)),
 oP 23 (.call (.fn 32) [(tP 22)]),
 oP 24 (.call (tP 19) [(tP 21), (tP 23)]),
 oP 25 (.call (.fn 16) [(tP 24)]),
 oP 6 (.mv (tP 25))])
 (.ret))))
def A21 : AFunc := { ntmps := 26, results := [.tmp 6], body := B21, coe := true, keep := 0 }
theorem tr21 : trFunc Tryz.prog M21 true Tryz.f21 = some A21 := by kernel_rfl
abbrev H22L7 : List Bool := [false, true, false, false, false, true, false, true]
abbrev X22L7 : List Bool := [false, false, false, false, true]
def M22 : Marks := { cut := fun _ => true, hd := fun | 7 => H22L7 | _ => [], ex := fun | 7 => X22L7 | _ => [], imm := fun | _ => false }
def B22L7 : ACode :=
 .seq (.seq (.region [oP 24 (.mv (tP 7)),
 oP 25 (.mv (tP 1)),
 oP 26 (.len false (tP 25)),
 oP 27 (.bin .lss (tP 24) (tP 26))])
 (.cond (tP 27) (.skip) (.exit 0)))
 (.seq (.block 1 (.seq (.region [oP 30 (.mv (tP 5)),
 oP 31 (.mv (tP 7)),
 oP 32 (.idxAddr 3 (tP 30) (tP 31)),
 oP 33 (.addOff 0 (tP 32)),
 oP 34 (.load none (tP 33)),
 oP 35 (.bin .eql (tP 34) (iP 0)),
 oP 36 (.mv (tP 35)),
 gP 37 36 true (.mv (tP 1)),
 gP 38 36 true (.mv (tP 7)),
 gP 39 36 true (.idxAddr 5 (tP 37) (tP 38)),
 gP 40 36 true (.addOff 0 (tP 39)),
 gP 41 36 true (.load none (tP 40)),
 gP 42 36 true (.bin .neq (tP 41) (iP 0)),
 oP 43 (.pick (tP 36) (tP 42) (bP false)),
 oP 44 (.mv (tP 43)),
 gP 45 44 false (.mv (tP 5)),
 gP 46 44 false (.mv (tP 7)),
 gP 47 44 false (.idxAddr 3 (tP 45) (tP 46)),
 gP 48 44 false (.addOff 0 (tP 47)),
 gP 49 44 false (.load none (tP 48)),
 gP 50 44 false (.bin .eql (tP 49) (iP 1)),
 gP 51 44 false (.mv (tP 50)),
 gP 52 51 true (.mv (tP 1)),
 gP 53 51 true (.mv (tP 7)),
 gP 54 51 true (.idxAddr 5 (tP 52) (tP 53)),
 gP 55 51 true (.addOff 0 (tP 54)),
 gP 56 51 true (.load none (tP 55)),
 gP 57 51 true (.bin .neq (tP 56) (iP 1)),
 gP 58 51 true (.mv (tP 57)),
 gP 59 58 false (.mv (tP 1)),
 gP 60 58 false (.mv (tP 7)),
 gP 61 58 false (.idxAddr 5 (tP 59) (tP 60)),
 gP 62 58 false (.addOff 2 (tP 61)),
 gP 63 58 false (.load none (tP 62)),
 gP 64 58 false (.len false (tP 63)),
 gP 65 58 false (.bin .gtr (tP 64) (iP 64)),
 gP 66 51 true (.pick (tP 58) (bP true) (tP 65)),
 gP 67 44 false (.pick (tP 51) (tP 66) (bP false)),
 oP 68 (.pick (tP 44) (bP true) (tP 67))])
 (.cond (tP 68) (.seq (.region [oP 4 (.mv (bP false))])
 (.ret)) (.skip))))
 (.region [oP 28 (.mv (tP 7)),
 oP 29 (.bin .add (tP 28) (iP 1)),
 oP 7 (.mv (tP 29))]))
def B22 : ACode :=
 .seq (.region [oP 4 (.mv (bP false))])
 (.seq (.seq (.region [oP 8 (.mv (tP 0)),
 oP 9 (.bin .lss (tP 8) (iP 0)),
 oP 10 (.mv (tP 9)),
 gP 11 10 false (.mv (tP 0)),
 gP 12 10 false (.bin .geq (tP 11) (iP 12)),
 oP 13 (.pick (tP 10) (bP true) (tP 12))])
 (.cond (tP 13) (.seq (.region [oP 4 (.mv (bP false))])
 (.ret)) (.skip)))
 (.seq (.region [oP 15 (.mv (tP 0)),
 oP 16 (.call (.fn 39) [(tP 15)]),
 oP 14 (.mv (tP 16)),
 oP 17 (.ext 0 (tP 14)),
 oP 18 (.ext 1 (tP 14)),
 oP 6 (.alloc [.ok (.int .i64 0), .ok (.str ⟨#[]⟩), .error 3]),
 oP 5 (.mv (tP 17)),
 sP (.store 3 (tP 6) (tP 18))])
 (.seq (.seq (.region [oP 19 (.mv (tP 5)),
 oP 20 (.len false (tP 19)),
 oP 21 (.mv (tP 1)),
 oP 22 (.len false (tP 21)),
 oP 23 (.bin .neq (tP 20) (tP 22))])
 (.cond (tP 23) (.seq (.region [oP 4 (.mv (bP false))])
 (.ret)) (.skip)))
 (.seq (.seq (.region [oP 7 (.mv (iP 0))])
 (.block 0 (.loop true H22L7 X22L7 B22L7)))
 (.seq (.region [oP 4 (.mv (bP true))])
 (.ret))))))
def A22 : AFunc := { ntmps := 69, results := [.tmp 4], body := B22, coe := true, keep := 0 }
theorem tr22 : trFunc Tryz.prog M22 true Tryz.f22 = some A22 := by kernel_rfl
def M23 : Marks := { cut := fun _ => true, hd := fun | _ => [], ex := fun | _ => [], imm := fun | _ => false }
def B23 : ACode :=
 .seq (.region [oP 2 (.alloc [.ok (.int .i64 0), .ok (.int .i64 0), .error 1, .ok (.str ⟨#[]⟩), .error 5])])
 (.seq (.seq (.region [oP 3 (.mv (tP 0))])
 (.cond (tP 3) (.seq (.region [oP 4 (.build [.int .i64 0, .int .i64 0, .slice 1 [], .str ⟨#[]⟩, .slice 5 []] [(0, 1, (iP 2)), (3, 1, (.con (.str ⟨#[84, 114, 117, 101]⟩)))]),
 sP (.store 5 (tP 2) (tP 4))])
 (.ret)) (.skip)))
 (.seq (.region [oP 5 (.build [.int .i64 0, .int .i64 0, .slice 1 [], .str ⟨#[]⟩, .slice 5 []] [(0, 1, (iP 2)), (3, 1, (.con (.str ⟨#[70, 97, 108, 115, 101]⟩)))]),
 sP (.store 5 (tP 2) (tP 5))])
 (.ret)))
def A23 : AFunc := { ntmps := 6, results := [.cell (some 5) 2], body := B23, coe := true, keep := 0 }
theorem tr23 : trFunc Tryz.prog M23 true Tryz.f23 = some A23 := by kernel_rfl
def M24 : Marks := { cut := fun _ => true, hd := fun | _ => [], ex := fun | _ => [], imm := fun | _ => false }
def B24 : ACode :=
 .seq (.region [oP 6 (.mv (bP false))])
 (.seq (.region [oP 9 (.mv (tP 1)),
 oP 10 (.call (.fn 26) [(tP 9)]),
 oP 7 (.mv (tP 10))])
 (.seq (.region [oP 11 (.mv (tP 2)),
 oP 12 (.call (.fn 26) [(tP 11)]),
 oP 8 (.mv (tP 12))])
 (.seq (.seq (.region [oP 13 (.mv (tP 0))])
 (.block 0 (.seq (.region [oP 15 (.bin .eql (tP 13) (iP 5)),
 oP 14 (.mv (tP 15))])
 (.cond (tP 14) (.seq (.region [oP 16 (.mv (tP 7)),
 oP 17 (.mv (tP 8)),
 oP 18 (.bin .lss (tP 16) (tP 17)),
 oP 6 (.mv (tP 18))])
 (.ret)) (.seq (.region [oP 20 (.bin .eql (tP 13) (iP 6)),
 oP 19 (.mv (tP 20))])
 (.cond (tP 19) (.seq (.region [oP 21 (.mv (tP 7)),
 oP 22 (.mv (tP 8)),
 oP 23 (.bin .leq (tP 21) (tP 22)),
 oP 6 (.mv (tP 23))])
 (.ret)) (.seq (.region [oP 25 (.bin .eql (tP 13) (iP 7)),
 oP 24 (.mv (tP 25))])
 (.cond (tP 24) (.seq (.region [oP 26 (.mv (tP 7)),
 oP 27 (.mv (tP 8)),
 oP 28 (.bin .eql (tP 26) (tP 27)),
 oP 6 (.mv (tP 28))])
 (.ret)) (.skip)))))))))
 (.seq (.region [oP 6 (.mv (bP false))])
 (.ret)))))
def A24 : AFunc := { ntmps := 29, results := [.tmp 6], body := B24, coe := true, keep := 0 }
theorem tr24 : trFunc Tryz.prog M24 true Tryz.f24 = some A24 := by kernel_rfl
def M25 : Marks := { cut := fun _ => true, hd := fun | _ => [], ex := fun | _ => [], imm := fun | _ => false }
def B25 : ACode :=
 .seq (.region [oP 2 (.alloc [.ok (.int .i64 0), .ok (.int .i64 0), .error 1, .ok (.str ⟨#[]⟩), .error 5])])
 (.seq (.region [oP 3 (.mv (tP 0)),
 oP 4 (.build [.int .i64 0, .int .i64 0, .slice 1 [], .str ⟨#[]⟩, .slice 5 []] [(1, 1, (tP 3))]),
 sP (.store 5 (tP 2) (tP 4))])
 (.ret))
def A25 : AFunc := { ntmps := 5, results := [.cell (some 5) 2], body := B25, coe := true, keep := 0 }
theorem tr25 : trFunc Tryz.prog M25 true Tryz.f25 = some A25 := by kernel_rfl
def M26 : Marks := { cut := fun _ => true, hd := fun | _ => [], ex := fun | _ => [], imm := fun | _ => false }
def B26 : ACode :=
 .seq (.region [oP 2 (.mv (iP 0))])
 (.seq (.region [oP 4 (.mv (tP 0)),
 oP 5 (.cvt .u64 (tP 4)),
 oP 6 (.bin .and (tP 5) (.con (.int .u64 9223372036854775807))),
 oP 3 (.mv (tP 6))])
 (.seq (.seq (.region [oP 7 (.mv (tP 3)),
 oP 8 (.bin .geq (tP 7) (.con (.int .u64 4611686018427387904)))])
 (.cond (tP 8) (.seq (.region [oP 9 (.mv (tP 3)),
 oP 10 (.bin .sub (tP 9) (.con (.int .u64 9223372036854775808))),
 oP 11 (.cvt .i64 (tP 10)),
 oP 2 (.mv (tP 11))])
 (.ret)) (.skip)))
 (.seq (.region [oP 12 (.mv (tP 3)),
 oP 13 (.cvt .i64 (tP 12)),
 oP 2 (.mv (tP 13))])
 (.ret))))
def A26 : AFunc := { ntmps := 14, results := [.tmp 2], body := B26, coe := true, keep := 0 }
theorem tr26 : trFunc Tryz.prog M26 true Tryz.f26 = some A26 := by kernel_rfl
def M27 : Marks := { cut := fun _ => true, hd := fun | _ => [], ex := fun | _ => [], imm := fun | _ => false }
def B27 : ACode :=
 .seq (.region [oP 2 (.alloc [.ok (.int .i64 0), .ok (.int .i64 0), .error 1, .ok (.str ⟨#[]⟩), .error 5])])
 (.seq (.region [oP 3 (.mv (tP 0)),
 oP 4 (.build [.int .i64 0, .int .i64 0, .slice 1 [], .str ⟨#[]⟩, .slice 5 []] [(0, 1, (iP 1)), (2, 1, (tP 3))]),
 sP (.store 5 (tP 2) (tP 4))])
 (.ret))
def A27 : AFunc := { ntmps := 5, results := [.cell (some 5) 2], body := B27, coe := true, keep := 0 }
theorem tr27 : trFunc Tryz.prog M27 true Tryz.f27 = some A27 := by kernel_rfl
abbrev H28L3 : List Bool := [true, true, true, false, false, false, false, true, true]
abbrev X28L3 : List Bool := [false, false, false, false, false, false, false, true]
def M28 : Marks := { cut := fun _ => true, hd := fun | 3 => H28L3 | _ => [], ex := fun | 3 => X28L3 | _ => [], imm := fun | 6 => true | 29 => true | _ => false }
def B28L3 : ACode :=
 .seq (.seq (.region [oP 9 (.mv (tP 8)),
 oP 10 (.mv (tP 0)),
 oP 11 (.len false (tP 10)),
 oP 12 (.bin .lss (tP 9) (tP 11))])
 (.cond (tP 12) (.skip) (.exit 0)))
 (.seq (.block 1 (.seq (.region [oP 15 (.mv (tP 8)),
 oP 16 (.mv (tP 1)),
 oP 17 (.bin .geq (tP 15) (tP 16)),
 oP 18 (.mv (tP 17)),
 gP 19 18 true (.mv (tP 7)),
 gP 20 18 true (.len false (tP 19)),
 gP 21 18 true (.mv (tP 2)),
 gP 22 18 true (.bin .lss (tP 20) (tP 21)),
 oP 23 (.pick (tP 18) (tP 22) (bP false))])
 (.cond (tP 23) (.region [oP 24 (.mv (tP 7)),
 oP 25 (.mv (tP 0)),
 oP 26 (.mv (tP 8)),
 oP 27 (.idxAddr 1 (tP 25) (tP 26)),
 oP 28 (.load none (tP 27)),
 oP 29 (.lit true 5 1 1 [.int .u8 0] [(0, (tP 28))]),
 oP 30 (.app false 5 1 1 (tP 24) (tP 29)),
 oP 7 (.mv (tP 30))]) (.skip))))
 (.region [oP 13 (.mv (tP 8)),
 oP 14 (.bin .add (tP 13) (iP 1)),
 oP 8 (.mv (tP 14))]))
def B28 : ACode :=
 .seq (.region [oP 6 (.mv (.con (.slice 1 [])))])
 (.seq (.region [oP 7 (.nilrow 1)])
 (.seq (.seq (.region [oP 8 (.mv (iP 0))])
 (.block 0 (.loop true H28L3 X28L3 B28L3)))
 (.seq (.region [oP 31 (.mv (tP 7)),
 oP 6 (.mv (tP 31))])
 (.ret))))
def A28 : AFunc := { ntmps := 32, results := [.tmp 6], body := B28, coe := true, keep := 0 }
theorem tr28 : trFunc Tryz.prog M28 true Tryz.f28 = some A28 := by kernel_rfl
def M29 : Marks := { cut := fun _ => true, hd := fun | _ => [], ex := fun | _ => [], imm := fun | _ => false }
def B29 : ACode :=
 .seq (.region [oP 6 (.mv (iP 0))])
 (.seq (.region [oP 10 (.mv (tP 1)),
 oP 11 (.call (.fn 26) [(tP 10)]),
 oP 7 (.mv (tP 11))])
 (.seq (.region [oP 12 (.mv (tP 2)),
 oP 13 (.call (.fn 26) [(tP 12)]),
 oP 8 (.mv (tP 13))])
 (.seq (.seq (.region [oP 14 (.mv (tP 0))])
 (.block 0 (.seq (.region [oP 16 (.bin .eql (tP 14) (iP 0)),
 oP 15 (.mv (tP 16))])
 (.cond (tP 15) (.seq (.region [oP 17 (.mv (tP 7)),
 oP 18 (.cvt .u64 (tP 17)),
 oP 19 (.mv (tP 8)),
 oP 20 (.cvt .u64 (tP 19)),
 oP 21 (.bin .add (tP 18) (tP 20)),
 oP 22 (.cvt .i64 (tP 21)),
 oP 23 (.call (.fn 26) [(tP 22)]),
 oP 6 (.mv (tP 23))])
 (.ret)) (.seq (.region [oP 25 (.bin .eql (tP 14) (iP 1)),
 oP 24 (.mv (tP 25))])
 (.cond (tP 24) (.seq (.region [oP 26 (.mv (tP 7)),
 oP 27 (.cvt .u64 (tP 26)),
 oP 28 (.mv (tP 8)),
 oP 29 (.cvt .u64 (tP 28)),
 oP 30 (.bin .sub (tP 27) (tP 29)),
 oP 31 (.cvt .i64 (tP 30)),
 oP 32 (.call (.fn 26) [(tP 31)]),
 oP 6 (.mv (tP 32))])
 (.ret)) (.seq (.region [oP 34 (.bin .eql (tP 14) (iP 2)),
 oP 33 (.mv (tP 34))])
 (.cond (tP 33) (.seq (.region [oP 35 (.mv (tP 7)),
 oP 36 (.cvt .u64 (tP 35)),
 oP 37 (.mv (tP 8)),
 oP 38 (.cvt .u64 (tP 37)),
 oP 39 (.bin .mul (tP 36) (tP 38)),
 oP 40 (.cvt .i64 (tP 39)),
 oP 41 (.call (.fn 26) [(tP 40)]),
 oP 6 (.mv (tP 41))])
 (.ret)) (.skip)))))))))
 (.seq (.seq (.region [oP 42 (.mv (tP 0)),
 oP 43 (.bin .neq (tP 42) (iP 3)),
 oP 44 (.mv (tP 43)),
 gP 45 44 true (.mv (tP 0)),
 gP 46 44 true (.bin .neq (tP 45) (iP 4)),
 oP 47 (.pick (tP 44) (tP 46) (bP false))])
 (.cond (tP 47) (.seq (.region [oP 6 (.mv (iP 0))])
 (.ret)) (.skip)))
 (.seq (.region [oP 9 (.mv (iP 0))])
 (.seq (.seq (.region [oP 48 (.mv (tP 8)),
 oP 49 (.bin .neq (tP 48) (iP 0))])
 (.cond (tP 49) (.seq (.region [oP 50 (.mv (tP 7)),
 oP 51 (.call (.fn 40) [(tP 50)]),
 oP 52 (.mv (tP 8)),
 oP 53 (.call (.fn 40) [(tP 52)]),
 oP 54 (.bin .quo (tP 51) (tP 53)),
 oP 55 (.cvt .i64 (tP 54)),
 oP 9 (.mv (tP 55))])
 (.seq (.region [oP 56 (.mv (tP 7)),
 oP 57 (.bin .lss (tP 56) (iP 0)),
 oP 58 (.mv (tP 8)),
 oP 59 (.bin .lss (tP 58) (iP 0)),
 oP 60 (.eqb true (tP 57) (tP 59))])
 (.cond (tP 60) (.region [oP 61 (.mv (tP 9)),
 oP 62 (.un .neg (tP 61)),
 oP 9 (.mv (tP 62))]) (.skip)))) (.skip)))
 (.seq (.seq (.region [oP 63 (.mv (tP 0)),
 oP 64 (.bin .eql (tP 63) (iP 3))])
 (.cond (tP 64) (.seq (.region [oP 65 (.mv (tP 9)),
 oP 66 (.call (.fn 26) [(tP 65)]),
 oP 6 (.mv (tP 66))])
 (.ret)) (.skip)))
 (.seq (.region [oP 67 (.mv (tP 7)),
 oP 68 (.cvt .u64 (tP 67)),
 oP 69 (.mv (tP 8)),
 oP 70 (.cvt .u64 (tP 69)),
 oP 71 (.mv (tP 9)),
 oP 72 (.cvt .u64 (tP 71)),
 oP 73 (.bin .mul (tP 70) (tP 72)),
 oP 74 (.bin .sub (tP 68) (tP 73)),
 oP 75 (.cvt .i64 (tP 74)),
 oP 76 (.call (.fn 26) [(tP 75)]),
 oP 6 (.mv (tP 76))])
 (.ret)))))))))
def A29 : AFunc := { ntmps := 77, results := [.tmp 6], body := B29, coe := true, keep := 0 }
theorem tr29 : trFunc Tryz.prog M29 true Tryz.f29 = some A29 := by kernel_rfl
abbrev H30L5 : List Bool := [false, false, true, false, false, false, false, false, false, false, false, false, false, false, false, true, true, true]
abbrev X30L5 : List Bool := [false, false, true]
def M30 : Marks := { cut := fun _ => true, hd := fun | 5 => H30L5 | _ => [], ex := fun | 5 => X30L5 | _ => [], imm := fun | 1 => true | _ => false }
def B30L5 : ACode :=
 .seq (.region [oP 18 (.bin .lss (tP 17) (tP 16))])
 (.seq (.cond (tP 18) (.skip) (.exit 0))
 (.seq (.block 1 (.seq (.region [oP 19 (.idxAddr 15 (tP 15) (tP 17)),
 oP 20 (.load (some 15) (tP 19)),
 oP 5 (.alloc [.ok (.int .i64 0), .ok (.int .i64 0), .ok (.str ⟨#[]⟩), .error 4, .ok (.int .i64 0), .ok (.str ⟨#[]⟩), .error 3, .ok (.int .i64 0), .ok (.int .i64 0), .ok (.int .i64 0), .ok (.int .i64 0), .error 1, .ok (.str ⟨#[]⟩), .error 8, .error 14]),
 sP (.store 15 (tP 5) (tP 20))])
 (.seq (.region [oP 22 (.load (some 15) (tP 5)),
 oP 23 (.call (.fn 42) [(tP 22)]),
 oP 21 (.mv (tP 23)),
 oP 24 (.ext 0 (tP 21)),
 oP 25 (.ext 1 (tP 21)),
 oP 6 (.mv (tP 24)),
 oP 7 (.mv (tP 25))])
 (.seq (.region [oP 26 (.mv (tP 7)),
 oP 27 (.un .not (tP 26))])
 (.cond (tP 27) (.seq (.region [oP 28 (.addOff 0 (tP 5)),
 oP 29 (.load (some 2) (tP 28)),
 oP 30 (.build [.int .i64 0, .int .i64 0, .int .i64 0] [(0, 1, (iP 15)), (1, 2, (tP 29))]),
 sP (.store 3 (tP 2) (tP 30))])
 (.ret)) (.skip))))))
 (.region [oP 31 (.bin .add (tP 17) (iP 1)),
 oP 17 (.mv (tP 31))])))
def B30 : ACode :=
 .seq (.region [oP 1 (.box true (tP 0)),
 oP 2 (.alloc [.ok (.int .i64 0), .ok (.int .i64 0), .ok (.int .i64 0)])])
 (.seq (.seq (.region [oP 8 (.load (some 17) (tP 1)),
 oP 9 (.call (.fn 41) [(tP 8)]),
 oP 3 (.alloc [.ok (.int .i64 0), .ok (.int .i64 0), .ok (.int .i64 0)]),
 sP (.store 3 (tP 3) (tP 9))])
 (.seq (.region [oP 10 (.addOff 0 (tP 3)),
 oP 11 (.load none (tP 10)),
 oP 12 (.bin .neq (tP 11) (iP 0))])
 (.cond (tP 12) (.seq (.region [oP 13 (.load (some 3) (tP 3)),
 sP (.store 3 (tP 2) (tP 13))])
 (.ret)) (.skip))))
 (.seq (.seq (.region [oP 14 (.addOff 1 (tP 1)),
 oP 15 (.load none (tP 14)),
 oP 16 (.len false (tP 15)),
 oP 17 (.mv (iP 0))])
 (.block 0 (.loop true H30L5 X30L5 B30L5)))
 (.seq (.region [oP 32 (.build [.int .i64 0, .int .i64 0, .int .i64 0] []),
 sP (.store 3 (tP 2) (tP 32))])
 (.ret))))
def A30 : AFunc := { ntmps := 33, results := [.cell (some 3) 2], body := B30, coe := true, keep := 0 }
theorem tr30 : trFunc Tryz.prog M30 true Tryz.f30 = some A30 := by kernel_rfl
abbrev H31L3 : List Bool := [false, true, false, false, false, false, true, false, true, true, true, true, false, false, false, false, false, false, false, false, true, true, true]
abbrev X31L3 : List Bool := [false, true, false, false, false, false, true, false, true, true, true, true]
def M31 : Marks := { cut := fun _ => true, hd := fun | 3 => H31L3 | _ => [], ex := fun | 3 => X31L3 | _ => [], imm := fun | 4 => true | 6 => true | _ => false, alts := fun | 9 => [[0, 1, 2, 3, 5, 4, 6, 7]] | _ => [] }
def B31L3 : ACode :=
 .seq (.region [oP 23 (.bin .lss (tP 22) (tP 21))])
 (.seq (.cond (tP 23) (.skip) (.exit 0))
 (.seq (.block 1 (.seq (.region [oP 24 (.idxAddr 15 (tP 20) (tP 22)),
 oP 25 (.load (some 15) (tP 24)),
 oP 13 (.alloc [.ok (.int .i64 0), .ok (.int .i64 0), .ok (.str ⟨#[]⟩), .error 4, .ok (.int .i64 0), .ok (.str ⟨#[]⟩), .error 3, .ok (.int .i64 0), .ok (.int .i64 0), .ok (.int .i64 0), .ok (.int .i64 0), .error 1, .ok (.str ⟨#[]⟩), .error 8, .error 14]),
 sP (.store 15 (tP 13) (tP 25))])
 (.draw [oP 26 (.mv (tP 11)),
 oP 27 (.nilchk (tP 26)),
 oP 28 (.addOff 0 (tP 27)),
 oP 29 (.load none (tP 28)),
 oP 30 (.addOff 2 (tP 13)),
 oP 31 (.load none (tP 30)),
 oP 32 (.load (some 15) (tP 13)),
 sP (.mupd (.str ⟨#[]⟩) (tP 29) (tP 31) (tP 32))] [])))
 (.region [oP 33 (.bin .add (tP 22) (iP 1)),
 oP 22 (.mv (tP 33))])))
def B31 : ACode :=
 .seq (.region [oP 35 (.mv (tP 11)),
 oP 36 (.mv (tP 1)),
 oP 37 (.load (some 8) (tP 6)),
 oP 38 (.mv (tP 1)),
 oP 39 (.len false (tP 38)),
 oP 40 (.call (.fn 44) [(tP 35), (tP 36), (tP 37), (tP 39)]),
 sP (.store 5 (tP 8) (tP 40))])
 (.seq (.draw [oP 41 (.load (some 5) (tP 8)),
 oP 42 (.mv (tP 11)),
 oP 43 (.nilchk (tP 42)),
 oP 44 (.addOff 1 (tP 43)),
 oP 45 (.load (some 3) (tP 44)),
 sP (.store 5 (tP 8) (tP 41)),
 sP (.store 3 (tP 9) (tP 45)),
 sP (.store 1 (tP 10) (iP 0))] [[oP 41 (.load (some 5) (tP 8)), oP 42 (.mv (tP 11)), oP 43 (.nilchk (tP 42)), oP 44 (.addOff 1 (tP 43)), sP (.store 5 (tP 8) (tP 41)), oP 45 (.load (some 3) (tP 44)), sP (.store 3 (tP 9) (tP 45)), sP (.store 1 (tP 10) (iP 0))]])
 (.ret))
def K31 : Marks := { cut := fun _ => true, hd := fun | _ => [], ex := fun | _ => [], imm := fun | _ => false }
def C31 : ACode :=
 .block 0 (.seq (.region [⟨some 8, .isnil 1 false (.tmp 6), none⟩])
 (.cond (.tmp 8) (.region [⟨some 3, .mv (.tmp 6), none⟩]) (.seq (.region [⟨some 9, .tass 92 true (.agg []) (.tmp 6), none⟩,
 ⟨some 10, .ext 1 (.tmp 9), none⟩,
 ⟨some 11, .ext 0 (.tmp 9), none⟩])
 (.cond (.tmp 10) (.seq (.region [⟨some 4, .alloc [], none⟩,
 ⟨none, .store 0 (.tmp 4) (.tmp 11), none⟩])
 (.region [⟨some 12, .build [.int .i64 0, .int .i64 0, .slice 1 [], .str ⟨#[]⟩, .slice 5 []] [], none⟩,
 ⟨some 13, .build [.int .i64 0, .int .i64 0, .int .i64 0] [], none⟩,
 ⟨none, .store 5 (.tmp 0) (.tmp 12), none⟩,
 ⟨none, .store 3 (.tmp 1) (.tmp 13), none⟩,
 ⟨none, .store 1 (.tmp 2) (.con (.int .i64 23)), none⟩])) (.seq (.region [⟨some 5, .mv (.tmp 6), none⟩])
 (.region [⟨some 7, .mv (.tmp 5), none⟩,
 ⟨none, .panic (.tmp 7), none⟩]))))))
def P31 : List ACode :=
 [.region [⟨some 4, .box true (.tmp 0), none⟩,
 ⟨some 6, .box true (.tmp 2), none⟩,
 ⟨some 8, .alloc [.ok (.int .i64 0), .ok (.int .i64 0), .error 1, .ok (.str ⟨#[]⟩), .error 5], none⟩,
 ⟨some 9, .alloc [.ok (.int .i64 0), .ok (.int .i64 0), .ok (.int .i64 0)], none⟩,
 ⟨some 10, .alloc [.ok (.int .i64 0)], none⟩],
 .region [⟨some 14, .mkmap, none⟩,
 ⟨some 15, .mv (.tmp 3), none⟩,
 ⟨some 16, .mnmx false [(.tmp 15), (.con (.int .i64 1048576))], none⟩,
 ⟨some 17, .build [.nilm, .int .i64 0, .int .i64 0, .int .i64 0, .int .i64 0] [(0, 1, (.tmp 14)), (4, 1, (.tmp 16))], none⟩,
 ⟨some 18, .box false (.tmp 17), none⟩,
 ⟨some 11, .mv (.tmp 18), none⟩],
 .seq (.region [⟨some 19, .addOff 1 (.tmp 4), none⟩,
 ⟨some 20, .load none (.tmp 19), none⟩,
 ⟨some 21, .len false (.tmp 20), none⟩,
 ⟨some 22, .mv (.con (.int .i64 0)), none⟩])
 (.block 0 (.loop true H31L3 X31L3 B31L3))]
def A31 : AFunc := { ntmps := 46, results := [.cell (some 5) 8, .cell (some 3) 9, .cell none 10], body := B31, coe := true, keep := 0, guard := some { pre := P31, caps := [(.tmp 8), (.tmp 9), (.tmp 10)], slot := 34, dst := 6, ops := [], code := C31, ntmps := 14 } }
theorem tr31 : trFuncG Tryz.prog M31 K31 true Tryz.f31 = some A31 := by kernel_rfl
def M32 : Marks := { cut := fun _ => true, hd := fun | _ => [], ex := fun | _ => [], imm := fun | _ => false }
def B32 : ACode :=
 .seq (.region [oP 2 (.mv (iP 0))])
 (.seq (.region [oP 3 (.mv (tP 0)),
 oP 4 (.bin .shl (tP 3) (.con (.int .u64 1))),
 oP 5 (.bin .shr (tP 4) (.con (.int .u64 1))),
 oP 2 (.mv (tP 5))])
 (.ret))
def A32 : AFunc := { ntmps := 6, results := [.tmp 2], body := B32, coe := true, keep := 0 }
theorem tr32 : trFunc Tryz.prog M32 true Tryz.f32 = some A32 := by kernel_rfl
def M33 : Marks := { cut := fun _ => true, hd := fun | _ => [], ex := fun | _ => [], imm := fun | 4 => true | 20 => true | 1000022 => true | _ => false }
def B33 : ACode :=
 .seq (.region [oP 4 (.mv (.con (.slice 1 [])))])
 (.seq (.seq (.region [oP 5 (.mv (tP 1)),
 oP 6 (.bin .lss (tP 5) (iP 0))])
 (.cond (tP 6) (.region [oP 7 (.mki 9 (.con (.str ⟨#[99, 97, 110, 110, 111, 116, 32, 98, 101, 32, 110, 101, 103, 97, 116, 105, 118, 101]⟩))),
 sP (.panic (tP 7))]) (.skip)))
 (.seq (.seq (.region [oP 8 (.mv (tP 1)),
 oP 9 (.mv (tP 0)),
 oP 10 (.capn (tP 9)),
 oP 11 (.mv (tP 0)),
 oP 12 (.len false (tP 11)),
 oP 13 (.bin .sub (tP 10) (tP 12)),
 oP 14 (.bin .sub (tP 8) (tP 13)),
 oP 1 (.mv (tP 14))])
 (.seq (.region [oP 15 (.mv (tP 1)),
 oP 16 (.bin .gtr (tP 15) (iP 0))])
 (.cond (tP 16) (.region [oP 17 (.mv (tP 0)),
 oP 18 (.mv (tP 0)),
 oP 19 (.capn (tP 18)),
 oP 20 (.slcn 1 (tP 17) none (some (tP 19))),
 oP 21 (.mv (tP 1)),
 oP 22 (.vappn 5 1 1 [.int .u8 0] (tP 20) (tP 21)),
 oP 23 (.mv (tP 0)),
 oP 24 (.len false (tP 23)),
 oP 25 (.slc 1 (tP 22) none (some (tP 24))),
 oP 0 (.mv (tP 25))]) (.skip))))
 (.seq (.region [oP 26 (.mv (tP 0)),
 oP 4 (.mv (tP 26))])
 (.ret))))
def A33 : AFunc := { ntmps := 27, results := [.tmp 4], body := B33, coe := false, keep := 0 }
theorem tr33 : trFunc Tryz.prog M33 false Tryz.f33 = some A33 := by kernel_rfl
def M34 : Marks := { cut := fun _ => true, hd := fun | _ => [], ex := fun | _ => [], imm := fun | _ => false }
def B34 : ACode :=
 .seq (.region [oP 4 (.mv (iP 0))])
 (.seq (.region [oP 5 (.mv (tP 0)),
 oP 6 (.mv (tP 1)),
 oP 7 (.bin .add (tP 5) (tP 6)),
 oP 4 (.mv (tP 7))])
 (.ret))
def A34 : AFunc := { ntmps := 8, results := [.tmp 4], body := B34, coe := true, keep := 0 }
theorem tr34 : trFunc Tryz.prog M34 true Tryz.f34 = some A34 := by kernel_rfl
def M35 : Marks := { cut := fun _ => true, hd := fun | _ => [], ex := fun | _ => [], imm := fun | _ => false }
def B35 : ACode :=
 .seq (.region [oP 4 (.mv (iP 0))])
 (.seq (.region [oP 5 (.mv (tP 0)),
 oP 6 (.mv (tP 1)),
 oP 7 (.bin .sub (tP 5) (tP 6)),
 oP 4 (.mv (tP 7))])
 (.ret))
def A35 : AFunc := { ntmps := 8, results := [.tmp 4], body := B35, coe := true, keep := 0 }
theorem tr35 : trFunc Tryz.prog M35 true Tryz.f35 = some A35 := by kernel_rfl
def M36 : Marks := { cut := fun _ => true, hd := fun | _ => [], ex := fun | _ => [], imm := fun | _ => false }
def B36 : ACode :=
 .seq (.region [oP 4 (.mv (iP 0))])
 (.seq (.region [oP 8 (.mv (tP 0)),
 oP 9 (.cvt .u64 (tP 8)),
 oP 10 (.mv (tP 1)),
 oP 11 (.cvt .u64 (tP 10)),
 oP 12 (.call (.fn 45) [(tP 9), (tP 11)]),
 oP 7 (.mv (tP 12)),
 oP 13 (.ext 0 (tP 7)),
 oP 14 (.ext 1 (tP 7)),
 oP 5 (.mv (tP 13)),
 oP 6 (.mv (tP 14))])
 (.seq (.region [oP 15 (.mv (tP 6)),
 oP 16 (.cvt .i64 (tP 15)),
 oP 4 (.mv (tP 16))])
 (.ret)))
def A36 : AFunc := { ntmps := 17, results := [.tmp 4], body := B36, coe := true, keep := 0 }
theorem tr36 : trFunc Tryz.prog M36 true Tryz.f36 = some A36 := by kernel_rfl
def M37 : Marks := { cut := fun _ => true, hd := fun | _ => [], ex := fun | _ => [], imm := fun | _ => false }
def B37 : ACode :=
 .seq (.region [oP 4 (.mv (iP 0))])
 (.seq (.seq (.region [oP 5 (.mv (tP 1)),
 oP 6 (.bin .eql (tP 5) (iP 0))])
 (.cond (tP 6) (.seq (.region [oP 4 (.mv (iP 0))])
 (.ret)) (.skip)))
 (.seq (.region [oP 7 (.mv (tP 0)),
 oP 8 (.mv (tP 1)),
 oP 9 (.bin .quo (tP 7) (tP 8)),
 oP 4 (.mv (tP 9))])
 (.ret)))
def A37 : AFunc := { ntmps := 10, results := [.tmp 4], body := B37, coe := true, keep := 0 }
theorem tr37 : trFunc Tryz.prog M37 true Tryz.f37 = some A37 := by kernel_rfl
def M38 : Marks := { cut := fun _ => true, hd := fun | _ => [], ex := fun | _ => [], imm := fun | _ => false }
def B38 : ACode :=
 .seq (.region [oP 4 (.mv (iP 0))])
 (.seq (.seq (.region [oP 5 (.mv (tP 1)),
 oP 6 (.bin .eql (tP 5) (iP 0))])
 (.cond (tP 6) (.seq (.region [oP 7 (.mv (tP 0)),
 oP 4 (.mv (tP 7))])
 (.ret)) (.skip)))
 (.seq (.region [oP 8 (.mv (tP 0)),
 oP 9 (.mv (tP 1)),
 oP 10 (.bin .rem (tP 8) (tP 9)),
 oP 4 (.mv (tP 10))])
 (.ret)))
def A38 : AFunc := { ntmps := 11, results := [.tmp 4], body := B38, coe := true, keep := 0 }
theorem tr38 : trFunc Tryz.prog M38 true Tryz.f38 = some A38 := by kernel_rfl
def M39 : Marks := { cut := fun _ => true, hd := fun | _ => [], ex := fun | _ => [], imm := fun | 2 => true | _ => false, alts := fun | 7 => [[0, 1, 3, 2, 4, 5], [0, 3, 1, 2, 4, 5], [1, 3, 0, 2, 4, 5], [3, 0, 1, 2, 4, 5]] | 9 => [[0, 2, 1, 3, 4]] | 11 => [[0, 1, 3, 2, 4, 5]] | 13 => [[0, 1, 3, 2, 4, 5]] | 15 => [[0, 1, 2, 4, 3, 5, 6]] | 16 => [[0, 1, 3, 2, 4, 5]] | _ => [] }
def B39 : ACode :=
 .seq (.region [oP 2 (.mv (.con (.slice 3 []))),
 oP 3 (.alloc [.ok (.int .i64 0), .ok (.str ⟨#[]⟩), .error 3])])
 (.seq (.region [oP 6 (.build [.int .i64 0, .str ⟨#[]⟩, .slice 3 []] [(0, 1, (iP 0))]),
 oP 4 (.alloc [.ok (.int .i64 0), .ok (.str ⟨#[]⟩), .error 3]),
 sP (.store 3 (tP 4) (tP 6))])
 (.seq (.region [oP 7 (.build [.int .i64 0, .str ⟨#[]⟩, .slice 3 []] [(0, 1, (iP 1))]),
 oP 5 (.alloc [.ok (.int .i64 0), .ok (.str ⟨#[]⟩), .error 3]),
 sP (.store 3 (tP 5) (tP 7))])
 (.seq (.seq (.region [oP 8 (.mv (tP 0))])
 (.block 0 (.seq (.seq (.region [oP 10 (.bin .eql (tP 8) (iP 5)),
 oP 9 (.mv (tP 10))])
 (.cond (tP 9) (.skip) (.seq (.region [oP 11 (.bin .eql (tP 8) (iP 6)),
 oP 9 (.mv (tP 11))])
 (.cond (tP 9) (.skip) (.region [oP 12 (.bin .eql (tP 8) (iP 7)),
 oP 9 (.mv (tP 12))])))))
 (.cond (tP 9) (.seq (.draw [oP 13 (.load (some 3) (tP 4)),
 oP 14 (.load (some 3) (tP 4)),
 oP 15 (.lit false 0 3 2 [.int .i64 0, .str ⟨#[]⟩, .slice 3 []] [(0, (tP 13)), (1, (tP 14))]),
 oP 16 (.call (.fn 46) []),
 oP 2 (.mv (tP 15)),
 sP (.store 3 (tP 3) (tP 16))] [[oP 13 (.load (some 3) (tP 4)), oP 14 (.load (some 3) (tP 4)), oP 16 (.call (.fn 46) []), oP 15 (.lit false 0 3 2 [.int .i64 0, .str ⟨#[]⟩, .slice 3 []] [(0, (tP 13)), (1, (tP 14))]), oP 2 (.mv (tP 15)), sP (.store 3 (tP 3) (tP 16))], [oP 13 (.load (some 3) (tP 4)), oP 16 (.call (.fn 46) []), oP 14 (.load (some 3) (tP 4)), oP 15 (.lit false 0 3 2 [.int .i64 0, .str ⟨#[]⟩, .slice 3 []] [(0, (tP 13)), (1, (tP 14))]), oP 2 (.mv (tP 15)), sP (.store 3 (tP 3) (tP 16))], [oP 14 (.load (some 3) (tP 4)), oP 16 (.call (.fn 46) []), oP 13 (.load (some 3) (tP 4)), oP 15 (.lit false 0 3 2 [.int .i64 0, .str ⟨#[]⟩, .slice 3 []] [(0, (tP 13)), (1, (tP 14))]), oP 2 (.mv (tP 15)), sP (.store 3 (tP 3) (tP 16))], [oP 16 (.call (.fn 46) []), oP 13 (.load (some 3) (tP 4)), oP 14 (.load (some 3) (tP 4)), oP 15 (.lit false 0 3 2 [.int .i64 0, .str ⟨#[]⟩, .slice 3 []] [(0, (tP 13)), (1, (tP 14))]), oP 2 (.mv (tP 15)), sP (.store 3 (tP 3) (tP 16))]])
 (.ret)) (.seq (.region [oP 18 (.bin .eql (tP 8) (iP 8)),
 oP 17 (.mv (tP 18))])
 (.cond (tP 17) (.seq (.draw [oP 19 (.load (some 3) (tP 5)),
 oP 20 (.lit false 0 3 1 [.int .i64 0, .str ⟨#[]⟩, .slice 3 []] [(0, (tP 19))]),
 oP 21 (.load (some 3) (tP 4)),
 oP 2 (.mv (tP 20)),
 sP (.store 3 (tP 3) (tP 21))] [[oP 19 (.load (some 3) (tP 5)), oP 21 (.load (some 3) (tP 4)), oP 20 (.lit false 0 3 1 [.int .i64 0, .str ⟨#[]⟩, .slice 3 []] [(0, (tP 19))]), oP 2 (.mv (tP 20)), sP (.store 3 (tP 3) (tP 21))]])
 (.ret)) (.seq (.region [oP 23 (.bin .eql (tP 8) (iP 9)),
 oP 22 (.mv (tP 23))])
 (.cond (tP 22) (.seq (.draw [oP 24 (.load (some 3) (tP 5)),
 oP 25 (.load (some 3) (tP 4)),
 oP 26 (.lit false 0 3 2 [.int .i64 0, .str ⟨#[]⟩, .slice 3 []] [(0, (tP 24)), (1, (tP 25))]),
 oP 27 (.load (some 3) (tP 4)),
 oP 2 (.mv (tP 26)),
 sP (.store 3 (tP 3) (tP 27))] [[oP 24 (.load (some 3) (tP 5)), oP 25 (.load (some 3) (tP 4)), oP 27 (.load (some 3) (tP 4)), oP 26 (.lit false 0 3 2 [.int .i64 0, .str ⟨#[]⟩, .slice 3 []] [(0, (tP 24)), (1, (tP 25))]), oP 2 (.mv (tP 26)), sP (.store 3 (tP 3) (tP 27))]])
 (.ret)) (.seq (.region [oP 29 (.bin .eql (tP 8) (iP 10)),
 oP 28 (.mv (tP 29))])
 (.cond (tP 28) (.seq (.draw [oP 30 (.load (some 3) (tP 5)),
 oP 31 (.load (some 3) (tP 5)),
 oP 32 (.lit false 0 3 2 [.int .i64 0, .str ⟨#[]⟩, .slice 3 []] [(0, (tP 30)), (1, (tP 31))]),
 oP 33 (.load (some 3) (tP 5)),
 oP 2 (.mv (tP 32)),
 sP (.store 3 (tP 3) (tP 33))] [[oP 30 (.load (some 3) (tP 5)), oP 31 (.load (some 3) (tP 5)), oP 33 (.load (some 3) (tP 5)), oP 32 (.lit false 0 3 2 [.int .i64 0, .str ⟨#[]⟩, .slice 3 []] [(0, (tP 30)), (1, (tP 31))]), oP 2 (.mv (tP 32)), sP (.store 3 (tP 3) (tP 33))]])
 (.ret)) (.seq (.region [oP 35 (.bin .eql (tP 8) (iP 11)),
 oP 34 (.mv (tP 35))])
 (.cond (tP 34) (.seq (.draw [oP 36 (.load (some 3) (tP 5)),
 oP 37 (.load (some 3) (tP 4)),
 oP 38 (.load (some 3) (tP 4)),
 oP 39 (.lit false 0 3 3 [.int .i64 0, .str ⟨#[]⟩, .slice 3 []] [(0, (tP 36)), (1, (tP 37)), (2, (tP 38))]),
 oP 40 (.load (some 3) (tP 5)),
 oP 2 (.mv (tP 39)),
 sP (.store 3 (tP 3) (tP 40))] [[oP 36 (.load (some 3) (tP 5)), oP 37 (.load (some 3) (tP 4)), oP 38 (.load (some 3) (tP 4)), oP 40 (.load (some 3) (tP 5)), oP 39 (.lit false 0 3 3 [.int .i64 0, .str ⟨#[]⟩, .slice 3 []] [(0, (tP 36)), (1, (tP 37)), (2, (tP 38))]), oP 2 (.mv (tP 39)), sP (.store 3 (tP 3) (tP 40))]])
 (.ret)) (.skip)))))))))))))
 (.seq (.draw [oP 41 (.load (some 3) (tP 4)),
 oP 42 (.load (some 3) (tP 4)),
 oP 43 (.lit false 0 3 2 [.int .i64 0, .str ⟨#[]⟩, .slice 3 []] [(0, (tP 41)), (1, (tP 42))]),
 oP 44 (.load (some 3) (tP 4)),
 oP 2 (.mv (tP 43)),
 sP (.store 3 (tP 3) (tP 44))] [[oP 41 (.load (some 3) (tP 4)), oP 42 (.load (some 3) (tP 4)), oP 44 (.load (some 3) (tP 4)), oP 43 (.lit false 0 3 2 [.int .i64 0, .str ⟨#[]⟩, .slice 3 []] [(0, (tP 41)), (1, (tP 42))]), oP 2 (.mv (tP 43)), sP (.store 3 (tP 3) (tP 44))]])
 (.ret)))))
def A39 : AFunc := { ntmps := 45, results := [.tmp 2, .cell (some 3) 3], body := B39, coe := true, keep := 0 }
theorem tr39 : trFunc Tryz.prog M39 true Tryz.f39 = some A39 := by kernel_rfl
def M40 : Marks := { cut := fun _ => true, hd := fun | _ => [], ex := fun | _ => [], imm := fun | _ => false }
def B40 : ACode :=
 .seq (.region [oP 2 (.mv (.con (.int .u64 0)))])
 (.seq (.seq (.region [oP 3 (.mv (tP 0)),
 oP 4 (.bin .lss (tP 3) (iP 0))])
 (.cond (tP 4) (.seq (.region [oP 5 (.mv (tP 0)),
 oP 6 (.un .neg (tP 5)),
 oP 7 (.cvt .u64 (tP 6)),
 oP 2 (.mv (tP 7))])
 (.ret)) (.skip)))
 (.seq (.region [oP 8 (.mv (tP 0)),
 oP 9 (.cvt .u64 (tP 8)),
 oP 2 (.mv (tP 9))])
 (.ret)))
def A40 : AFunc := { ntmps := 10, results := [.tmp 2], body := B40, coe := true, keep := 0 }
theorem tr40 : trFunc Tryz.prog M40 true Tryz.f40 = some A40 := by kernel_rfl
abbrev H41L6 : List Bool := [false, true, true, false, true, false, false, false, false, false, false, false, false, false, false, false, false, false, false, false, false, false, true, true, true]
abbrev X41L6 : List Bool := [false, true, true, false, true]
abbrev H41L12 : List Bool := [false, true, true, false, true, false, false, false, false, false, false, false, false, false, false, false, false, false, false, false, false, false, false, false, false, false, false, false, false, false, false, false, false, false, false, false, false, false, false, false, true, true, true]
abbrev X41L12 : List Bool := [false, false, true, false, true]
def M41 : Marks := { cut := fun _ => true, hd := fun | 6 => H41L6 | 12 => H41L12 | _ => [], ex := fun | 6 => X41L6 | 12 => X41L12 | _ => [], imm := fun | 1 => true | 52 => true | _ => false, alts := fun | 4 => [[1, 2, 0, 3, 4, 5, 6]] | _ => [] }
def B41L6 : ACode :=
 .seq (.region [oP 25 (.bin .lss (tP 24) (tP 23))])
 (.seq (.cond (tP 25) (.skip) (.exit 0))
 (.seq (.block 1 (.seq (.region [oP 26 (.idxAddr 15 (tP 22) (tP 24)),
 oP 27 (.load (some 15) (tP 26)),
 oP 6 (.alloc [.ok (.int .i64 0), .ok (.int .i64 0), .ok (.str ⟨#[]⟩), .error 4, .ok (.int .i64 0), .ok (.str ⟨#[]⟩), .error 3, .ok (.int .i64 0), .ok (.int .i64 0), .ok (.int .i64 0), .ok (.int .i64 0), .error 1, .ok (.str ⟨#[]⟩), .error 8, .error 14]),
 sP (.store 15 (tP 6) (tP 27))])
 (.region [oP 28 (.mv (tP 4)),
 oP 29 (.addOff 3 (tP 6)),
 oP 30 (.load none (tP 29)),
 oP 31 (.addOff 7 (tP 6)),
 oP 32 (.load (some 8) (tP 31)),
 oP 33 (.call (.fn 49) [(tP 28), (tP 30), (tP 32)])])))
 (.region [oP 34 (.bin .add (tP 24) (iP 1)),
 oP 24 (.mv (tP 34))])))
def B41L12 : ACode :=
 .seq (.region [oP 43 (.bin .lss (tP 42) (tP 41))])
 (.seq (.cond (tP 43) (.skip) (.exit 2))
 (.seq (.block 3 (.seq (.region [oP 44 (.idxAddr 16 (tP 40) (tP 42)),
 oP 45 (.load (some 16) (tP 44)),
 oP 8 (.alloc [.ok (.int .i64 0), .ok (.int .i64 0), .ok (.str ⟨#[]⟩), .ok (.str ⟨#[]⟩), .ok (.int .i64 0), .ok (.str ⟨#[]⟩), .error 3, .ok (.int .i64 0), .ok (.int .i64 0), .ok (.int .i64 0), .ok (.int .i64 0), .ok (.int .i64 0), .error 1, .ok (.str ⟨#[]⟩), .error 8, .error 14]),
 sP (.store 16 (tP 8) (tP 45))])
 (.region [oP 46 (.mv (tP 4)),
 oP 47 (.addOff 4 (tP 1)),
 oP 48 (.load (some 3) (tP 47)),
 oP 49 (.build [.str ⟨#[]⟩, .int .i64 0, .str ⟨#[]⟩, .slice 3 []] [(0, 1, (.con (.str ⟨#[115, 116, 97, 116, 101]⟩))), (1, 3, (tP 48))]),
 oP 50 (.addOff 3 (tP 8)),
 oP 51 (.load (some 4) (tP 50)),
 oP 52 (.lit true 0 4 2 [.str ⟨#[]⟩, .int .i64 0, .str ⟨#[]⟩, .slice 3 []] [(0, (tP 49)), (1, (tP 51))]),
 oP 53 (.addOff 8 (tP 8)),
 oP 54 (.load (some 8) (tP 53)),
 oP 55 (.call (.fn 49) [(tP 46), (tP 52), (tP 54)])])))
 (.region [oP 56 (.bin .add (tP 42) (iP 1)),
 oP 42 (.mv (tP 56))])))
def B41 : ACode :=
 .seq (.region [oP 1 (.box true (tP 0)),
 oP 2 (.alloc [.ok (.int .i64 0), .ok (.int .i64 0), .ok (.int .i64 0)])])
 (.seq (.seq (.region [oP 9 (.load (some 17) (tP 1)),
 oP 10 (.call (.fn 47) [(tP 9)]),
 oP 3 (.alloc [.ok (.int .i64 0), .ok (.int .i64 0), .ok (.int .i64 0)]),
 sP (.store 3 (tP 3) (tP 10))])
 (.seq (.region [oP 11 (.addOff 0 (tP 3)),
 oP 12 (.load none (tP 11)),
 oP 13 (.bin .neq (tP 12) (iP 0))])
 (.cond (tP 13) (.seq (.region [oP 14 (.load (some 3) (tP 3)),
 sP (.store 3 (tP 2) (tP 14))])
 (.ret)) (.skip))))
 (.seq (.draw [oP 15 (.load (some 17) (tP 1)),
 oP 16 (.load (some 17) (tP 1)),
 oP 17 (.call (.fn 48) [(tP 16)]),
 oP 18 (.build [.slice 4 []] [(0, 1, (tP 17))]),
 oP 19 (.build [.slice 4 [], .slice 15 [], .int .i64 0, .int .i64 0, .int .i64 0, .str ⟨#[]⟩, .slice 3 [], .int .i64 0, .int .i64 0, .int .i64 0, .int .i64 0, .int .i64 0, .slice 1 [], .str ⟨#[]⟩, .slice 8 [], .slice 14 [], .slice 16 [], .slice 4 [], .int .i64 0, .int .i64 0, .int .i64 0] [(0, 17, (tP 15)), (17, 1, (tP 18))]),
 oP 20 (.box false (tP 19)),
 oP 4 (.mv (tP 20))] [[oP 16 (.load (some 17) (tP 1)), oP 17 (.call (.fn 48) [(tP 16)]), oP 15 (.load (some 17) (tP 1)), oP 18 (.build [.slice 4 []] [(0, 1, (tP 17))]), oP 19 (.build [.slice 4 [], .slice 15 [], .int .i64 0, .int .i64 0, .int .i64 0, .str ⟨#[]⟩, .slice 3 [], .int .i64 0, .int .i64 0, .int .i64 0, .int .i64 0, .int .i64 0, .slice 1 [], .str ⟨#[]⟩, .slice 8 [], .slice 14 [], .slice 16 [], .slice 4 [], .int .i64 0, .int .i64 0, .int .i64 0] [(0, 17, (tP 15)), (17, 1, (tP 18))]), oP 20 (.box false (tP 19)), oP 4 (.mv (tP 20))]])
 (.seq (.seq (.region [oP 21 (.addOff 1 (tP 1)),
 oP 22 (.load none (tP 21)),
 oP 23 (.len false (tP 22)),
 oP 24 (.mv (iP 0))])
 (.block 0 (.loop true H41L6 X41L6 B41L6)))
 (.seq (.region [oP 35 (.mv (tP 4)),
 oP 36 (.addOff 8 (tP 1)),
 oP 37 (.load (some 8) (tP 36)),
 oP 38 (.call (.fn 49) [(tP 35), (.con (.slice 4 [])), (tP 37)])])
 (.seq (.seq (.region [oP 39 (.addOff 16 (tP 1)),
 oP 40 (.load none (tP 39)),
 oP 41 (.len false (tP 40)),
 oP 42 (.mv (iP 0))])
 (.block 2 (.loop true H41L12 X41L12 B41L12)))
 (.seq (.region [oP 57 (.mv (tP 4)),
 oP 58 (.nilchk (tP 57)),
 oP 59 (.addOff 18 (tP 58)),
 oP 60 (.load (some 3) (tP 59)),
 sP (.store 3 (tP 2) (tP 60))])
 (.ret)))))))
def A41 : AFunc := { ntmps := 61, results := [.cell (some 3) 2], body := B41, coe := true, keep := 0 }
theorem tr41 : trFunc Tryz.prog M41 true Tryz.f41 = some A41 := by kernel_rfl
abbrev H42L7 : List Bool := [false, true, false, false, false, false, false, false, false, false, false, false, false, false, false, false, false, false, false, true, true, true]
abbrev X42L7 : List Bool := [false, false, true, true]
def M42 : Marks := { cut := fun _ => true, hd := fun | 7 => H42L7 | _ => [], ex := fun | 7 => X42L7 | _ => [], imm := fun | 1 => true | _ => false }
def B42L7 : ACode :=
 .seq (.region [oP 22 (.bin .lss (tP 21) (tP 20))])
 (.seq (.cond (tP 22) (.skip) (.exit 0))
 (.seq (.block 1 (.seq (.region [oP 23 (.mv (tP 21)),
 oP 24 (.idxAddr 4 (tP 19) (tP 21)),
 oP 25 (.load (some 4) (tP 24)),
 oP 6 (.alloc [.ok (.str ⟨#[]⟩), .ok (.int .i64 0), .ok (.str ⟨#[]⟩), .error 3]),
 oP 5 (.mv (tP 23)),
 sP (.store 4 (tP 6) (tP 25))])
 (.seq (.region [oP 26 (.addOff 2 (tP 1)),
 oP 27 (.load none (tP 26)),
 oP 28 (.mv (tP 5)),
 oP 29 (.build [.str ⟨#[]⟩, .int .i64 0] [(0, 1, (tP 27)), (1, 1, (tP 28))]),
 oP 30 (.addOff 7 (tP 1)),
 oP 31 (.load (some 8) (tP 30)),
 oP 32 (.mkmap),
 oP 33 (.addOff 0 (tP 6)),
 oP 34 (.load none (tP 33)),
 sP (.stuck),
 oP 35 (.mv (tP 32)),
 oP 36 (.call (.fn 51) [(tP 29), (tP 31), (tP 35)])])
 (.cond (tP 36) (.seq (.region [oP 37 (.mv (tP 5)),
 oP 2 (.mv (tP 37)),
 oP 3 (.mv (bP true))])
 (.ret)) (.skip)))))
 (.region [oP 38 (.bin .add (tP 21) (iP 1)),
 oP 21 (.mv (tP 38))])))
def B42 : ACode :=
 .seq (.region [oP 1 (.box true (tP 0)),
 oP 2 (.mv (iP 0)),
 oP 3 (.mv (bP false))])
 (.seq (.region [oP 7 (.addOff 7 (tP 1)),
 oP 8 (.load (some 8) (tP 7)),
 oP 9 (.addOff 2 (tP 1)),
 oP 10 (.load none (tP 9)),
 oP 11 (.call (.fn 50) [(tP 8), (tP 10)]),
 oP 4 (.alloc [.ok (.int .i64 0), .ok (.int .i64 0)]),
 sP (.store 2 (tP 4) (tP 11))])
 (.seq (.seq (.region [oP 12 (.addOff 0 (tP 4)),
 oP 13 (.load none (tP 12)),
 oP 14 (.bin .eql (tP 13) (iP 0))])
 (.cond (tP 14) (.seq (.region [oP 2 (.mv (iP (-1))),
 oP 3 (.mv (bP true))])
 (.ret)) (.skip)))
 (.seq (.seq (.region [oP 15 (.addOff 1 (tP 4)),
 oP 16 (.load none (tP 15)),
 oP 17 (.bin .gtr (tP 16) (iP 1))])
 (.cond (tP 17) (.seq (.region [oP 2 (.mv (iP (-1))),
 oP 3 (.mv (bP false))])
 (.ret)) (.skip)))
 (.seq (.seq (.region [oP 18 (.addOff 3 (tP 1)),
 oP 19 (.load none (tP 18)),
 oP 20 (.len false (tP 19)),
 oP 21 (.mv (iP 0))])
 (.block 0 (.loop true H42L7 X42L7 B42L7)))
 (.seq (.region [oP 2 (.mv (iP (-1))),
 oP 3 (.mv (bP false))])
 (.ret))))))
def A42 : AFunc := { ntmps := 39, results := [.tmp 2, .tmp 3], body := B42, coe := true, keep := 0 }
theorem tr42 : trFunc Tryz.prog M42 true Tryz.f42 = some A42 := by kernel_rfl
def M43 : Marks := { cut := fun _ => true, hd := fun | _ => [], ex := fun | _ => [], imm := fun | _ => false }
def B43 : ACode :=
 .seq (.region [oP 6 (.stuck)])
 (.block 0 (.seq (.region [oP 8 (.isnil 1 false (tP 6))])
 (.cond (tP 8) (.region [oP 3 (.mv (tP 6))]) (.seq (.region [oP 9 (.tass 92 true (.agg []) (tP 6)),
 oP 10 (.ext 1 (tP 9)),
 oP 11 (.ext 0 (tP 9))])
 (.cond (tP 10) (.seq (.region [oP 4 (.alloc []),
 sP (.store 0 (tP 4) (tP 11))])
 (.region [oP 12 (.build [.int .i64 0, .int .i64 0, .slice 1 [], .str ⟨#[]⟩, .slice 5 []] []),
 oP 13 (.build [.int .i64 0, .int .i64 0, .int .i64 0] []),
 sP (.store 5 (tP 0) (tP 12)),
 sP (.store 3 (tP 1) (tP 13)),
 sP (.store 1 (tP 2) (iP 23))])) (.seq (.region [oP 5 (.mv (tP 6))])
 (.region [oP 7 (.mv (tP 5)),
 sP (.panic (tP 7))])))))))
def A43 : AFunc := { ntmps := 14, results := [], body := B43, coe := true, keep := 0 }
theorem tr43 : trFunc Tryz.prog M43 true Tryz.f43 = some A43 := by kernel_rfl
def M44 : Marks := { cut := fun _ => true, hd := fun | _ => [], ex := fun | _ => [], imm := fun | 6 => true | _ => false, alts := fun | 7 => [[0, 1, 2, 3, 5, 6, 7, 8, 4, 9, 10, 11, 12, 13]] | 12 => [[0, 1, 3, 4, 5, 6, 7, 8, 2, 9, 10]] | 16 => [[0, 1, 3, 4, 5, 6, 7, 8, 2, 9, 10, 11]] | 19 => [[0, 1, 2, 3, 4, 6, 7, 5, 8, 9, 10, 11, 12, 13], [0, 1, 2, 3, 4, 6, 7, 8, 9, 5, 10, 11, 12, 13]] | 28 => [[0, 1, 3, 4, 5, 6, 7, 8, 2, 9, 10]] | _ => [] }
def B44 : ACode :=
 .seq (.region [oP 6 (.box true (tP 2)),
 oP 8 (.alloc [.ok (.int .i64 0), .ok (.int .i64 0), .error 1, .ok (.str ⟨#[]⟩), .error 5])])
 (.seq (.region [oP 10 (.mv (tP 0)),
 oP 11 (.addOff 6 (tP 6)),
 oP 12 (.load none (tP 11)),
 oP 13 (.len false (tP 12)),
 oP 14 (.bin .mul (iP 2) (tP 13)),
 oP 15 (.bin .add (iP 4) (tP 14)),
 oP 16 (.call (.fn 52) [(tP 10), (tP 15)])])
 (.seq (.region [oP 17 (.mv (tP 0)),
 oP 18 (.mv (tP 3)),
 oP 19 (.addOff 6 (tP 6)),
 oP 20 (.load none (tP 19)),
 oP 21 (.len false (tP 20)),
 oP 22 (.bin .mul (iP 2) (tP 21)),
 oP 23 (.bin .add (tP 18) (tP 22)),
 oP 24 (.bin .add (tP 23) (iP 1)),
 oP 25 (.call (.fn 53) [(tP 17), (tP 24)])])
 (.seq (.seq (.region [oP 26 (.addOff 0 (tP 6)),
 oP 27 (.load none (tP 26))])
 (.block 0 (.seq (.region [oP 29 (.bin .eql (tP 27) (iP 0)),
 oP 28 (.mv (tP 29))])
 (.cond (tP 28) (.seq (.region [oP 30 (.addOff 3 (tP 6)),
 oP 31 (.load none (tP 30)),
 oP 32 (.build [.int .i64 0, .int .i64 0, .slice 1 [], .str ⟨#[]⟩, .slice 5 []] [(1, 1, (tP 31))]),
 sP (.store 5 (tP 8) (tP 32))])
 (.ret)) (.seq (.region [oP 34 (.bin .eql (tP 27) (iP 1)),
 oP 33 (.mv (tP 34))])
 (.cond (tP 33) (.seq (.draw [oP 35 (.mv (tP 0)),
 oP 36 (.nilchk (tP 35)),
 oP 37 (.addOff 1 (tP 36)),
 oP 38 (.addOff 0 (tP 37)),
 oP 39 (.load none (tP 38)),
 oP 40 (.addOff 4 (tP 6)),
 oP 41 (.load none (tP 40)),
 oP 42 (.len false (tP 41)),
 oP 43 (.call (.fn 54) [(tP 42)]),
 oP 44 (.bin .add (tP 39) (tP 43)),
 oP 45 (.nilchk (tP 35)),
 oP 46 (.addOff 1 (tP 45)),
 oP 47 (.addOff 0 (tP 46)),
 sP (.store 1 (tP 47) (tP 44))] [[oP 35 (.mv (tP 0)), oP 36 (.nilchk (tP 35)), oP 37 (.addOff 1 (tP 36)), oP 38 (.addOff 0 (tP 37)), oP 40 (.addOff 4 (tP 6)), oP 41 (.load none (tP 40)), oP 42 (.len false (tP 41)), oP 43 (.call (.fn 54) [(tP 42)]), oP 39 (.load none (tP 38)), oP 44 (.bin .add (tP 39) (tP 43)), oP 45 (.nilchk (tP 35)), oP 46 (.addOff 1 (tP 45)), oP 47 (.addOff 0 (tP 46)), sP (.store 1 (tP 47) (tP 44))]])
 (.seq (.region [oP 48 (.addOff 4 (tP 6)),
 oP 49 (.load none (tP 48)),
 oP 50 (.call (.fn 18) [(tP 49)]),
 sP (.store 5 (tP 8) (tP 50))])
 (.ret))) (.seq (.region [oP 52 (.bin .eql (tP 27) (iP 2)),
 oP 51 (.mv (tP 52))])
 (.cond (tP 51) (.seq (.region [oP 53 (.mv (tP 1)),
 oP 54 (.addOff 5 (tP 6)),
 oP 55 (.load none (tP 54)),
 oP 56 (.call (.fn 55) [(tP 53), (tP 55)]),
 sP (.store 5 (tP 8) (tP 56))])
 (.ret)) (.seq (.region [oP 58 (.bin .eql (tP 27) (iP 3)),
 oP 57 (.mv (tP 58))])
 (.cond (tP 57) (.seq (.draw [oP 59 (.mv (tP 0)),
 oP 60 (.addOff 5 (tP 6)),
 oP 61 (.load none (tP 60)),
 oP 62 (.mv (tP 0)),
 oP 63 (.mv (tP 1)),
 oP 64 (.addOff 6 (tP 6)),
 oP 65 (.load none (tP 64)),
 oP 66 (.mv (tP 3)),
 oP 67 (.call (.fn 57) [(tP 62), (tP 63), (tP 65), (tP 66)]),
 oP 68 (.call (.fn 56) [(tP 59), (iP 2), (tP 61), (tP 67)]),
 sP (.store 5 (tP 8) (tP 68))] [[oP 59 (.mv (tP 0)), oP 60 (.addOff 5 (tP 6)), oP 62 (.mv (tP 0)), oP 63 (.mv (tP 1)), oP 64 (.addOff 6 (tP 6)), oP 65 (.load none (tP 64)), oP 66 (.mv (tP 3)), oP 67 (.call (.fn 57) [(tP 62), (tP 63), (tP 65), (tP 66)]), oP 61 (.load none (tP 60)), oP 68 (.call (.fn 56) [(tP 59), (iP 2), (tP 61), (tP 67)]), sP (.store 5 (tP 8) (tP 68))]])
 (.ret)) (.seq (.region [oP 70 (.bin .eql (tP 27) (iP 4)),
 oP 69 (.mv (tP 70))])
 (.cond (tP 69) (.seq (.region [oP 71 (.mv (tP 0)),
 oP 72 (.mv (tP 0)),
 oP 73 (.mv (tP 1)),
 oP 74 (.addOff 6 (tP 6)),
 oP 75 (.load none (tP 74)),
 oP 76 (.mv (tP 3)),
 oP 77 (.call (.fn 57) [(tP 72), (tP 73), (tP 75), (tP 76)]),
 oP 78 (.call (.fn 56) [(tP 71), (iP 3), (.con (.str ⟨#[]⟩)), (tP 77)]),
 sP (.store 5 (tP 8) (tP 78))])
 (.ret)) (.seq (.region [oP 80 (.bin .eql (tP 27) (iP 5)),
 oP 79 (.mv (tP 80))])
 (.cond (tP 79) (.seq (.draw [oP 81 (.mv (tP 0)),
 oP 82 (.addOff 5 (tP 6)),
 oP 83 (.load none (tP 82)),
 oP 84 (.mv (tP 0)),
 oP 85 (.mv (tP 1)),
 oP 86 (.addOff 6 (tP 6)),
 oP 87 (.load none (tP 86)),
 oP 88 (.mv (tP 3)),
 oP 89 (.call (.fn 57) [(tP 84), (tP 85), (tP 87), (tP 88)]),
 oP 90 (.mv (tP 3)),
 oP 91 (.call (.fn 58) [(tP 81), (tP 83), (tP 89), (tP 90)]),
 sP (.store 5 (tP 8) (tP 91))] [[oP 81 (.mv (tP 0)), oP 82 (.addOff 5 (tP 6)), oP 84 (.mv (tP 0)), oP 85 (.mv (tP 1)), oP 86 (.addOff 6 (tP 6)), oP 87 (.load none (tP 86)), oP 88 (.mv (tP 3)), oP 89 (.call (.fn 57) [(tP 84), (tP 85), (tP 87), (tP 88)]), oP 83 (.load none (tP 82)), oP 90 (.mv (tP 3)), oP 91 (.call (.fn 58) [(tP 81), (tP 83), (tP 89), (tP 90)]), sP (.store 5 (tP 8) (tP 91))]])
 (.ret)) (.seq (.region [oP 93 (.bin .eql (tP 27) (iP 6)),
 oP 92 (.mv (tP 93))])
 (.cond (tP 92) (.seq (.region [oP 94 (.mv (tP 0)),
 oP 95 (.mv (tP 1)),
 oP 96 (.addOff 6 (tP 6)),
 oP 97 (.load none (tP 96)),
 oP 98 (.idxAddr 8 (tP 97) (iP 0)),
 oP 99 (.load (some 8) (tP 98)),
 oP 100 (.mv (tP 3)),
 oP 101 (.call (.fn 44) [(tP 94), (tP 95), (tP 99), (tP 100)]),
 oP 9 (.alloc [.ok (.int .i64 0), .ok (.int .i64 0), .error 1, .ok (.str ⟨#[]⟩), .error 5]),
 sP (.store 5 (tP 9) (tP 101))])
 (.seq (.draw [oP 102 (.mv (tP 0)),
 oP 103 (.mv (tP 1)),
 oP 104 (.addOff 5 (tP 6)),
 oP 105 (.load none (tP 104)),
 oP 106 (.load (some 5) (tP 9)),
 oP 107 (.call (.fn 59) [(tP 103), (tP 105), (tP 106)]),
 oP 108 (.addOff 6 (tP 6)),
 oP 109 (.load none (tP 108)),
 oP 110 (.idxAddr 8 (tP 109) (iP 1)),
 oP 111 (.load (some 8) (tP 110)),
 oP 112 (.mv (tP 3)),
 oP 113 (.bin .add (tP 112) (iP 1)),
 oP 114 (.call (.fn 44) [(tP 102), (tP 107), (tP 111), (tP 113)]),
 sP (.store 5 (tP 8) (tP 114))] [[oP 102 (.mv (tP 0)), oP 103 (.mv (tP 1)), oP 104 (.addOff 5 (tP 6)), oP 105 (.load none (tP 104)), oP 106 (.load (some 5) (tP 9)), oP 108 (.addOff 6 (tP 6)), oP 109 (.load none (tP 108)), oP 107 (.call (.fn 59) [(tP 103), (tP 105), (tP 106)]), oP 110 (.idxAddr 8 (tP 109) (iP 1)), oP 111 (.load (some 8) (tP 110)), oP 112 (.mv (tP 3)), oP 113 (.bin .add (tP 112) (iP 1)), oP 114 (.call (.fn 44) [(tP 102), (tP 107), (tP 111), (tP 113)]), sP (.store 5 (tP 8) (tP 114))], [oP 102 (.mv (tP 0)), oP 103 (.mv (tP 1)), oP 104 (.addOff 5 (tP 6)), oP 105 (.load none (tP 104)), oP 106 (.load (some 5) (tP 9)), oP 108 (.addOff 6 (tP 6)), oP 109 (.load none (tP 108)), oP 110 (.idxAddr 8 (tP 109) (iP 1)), oP 111 (.load (some 8) (tP 110)), oP 107 (.call (.fn 59) [(tP 103), (tP 105), (tP 106)]), oP 112 (.mv (tP 3)), oP 113 (.bin .add (tP 112) (iP 1)), oP 114 (.call (.fn 44) [(tP 102), (tP 107), (tP 111), (tP 113)]), sP (.store 5 (tP 8) (tP 114))]])
 (.ret))) (.seq (.region [oP 116 (.bin .eql (tP 27) (iP 7)),
 oP 115 (.mv (tP 116))])
 (.cond (tP 115) (.seq (.seq (.region [oP 117 (.mv (tP 0)),
 oP 118 (.mv (tP 1)),
 oP 119 (.addOff 6 (tP 6)),
 oP 120 (.load none (tP 119)),
 oP 121 (.idxAddr 8 (tP 120) (iP 0)),
 oP 122 (.load (some 8) (tP 121)),
 oP 123 (.mv (tP 3)),
 oP 124 (.call (.fn 44) [(tP 117), (tP 118), (tP 122), (tP 123)]),
 oP 125 (.fld none 3 (tP 124)),
 oP 126 (.bin .eql (tP 125) (.con (.str ⟨#[84, 114, 117, 101]⟩)))])
 (.cond (tP 126) (.seq (.region [oP 127 (.mv (tP 0)),
 oP 128 (.mv (tP 1)),
 oP 129 (.addOff 6 (tP 6)),
 oP 130 (.load none (tP 129)),
 oP 131 (.idxAddr 8 (tP 130) (iP 1)),
 oP 132 (.load (some 8) (tP 131)),
 oP 133 (.mv (tP 3)),
 oP 134 (.call (.fn 44) [(tP 127), (tP 128), (tP 132), (tP 133)]),
 sP (.store 5 (tP 8) (tP 134))])
 (.ret)) (.skip)))
 (.seq (.region [oP 135 (.mv (tP 0)),
 oP 136 (.mv (tP 1)),
 oP 137 (.addOff 6 (tP 6)),
 oP 138 (.load none (tP 137)),
 oP 139 (.idxAddr 8 (tP 138) (iP 2)),
 oP 140 (.load (some 8) (tP 139)),
 oP 141 (.mv (tP 3)),
 oP 142 (.call (.fn 44) [(tP 135), (tP 136), (tP 140), (tP 141)]),
 sP (.store 5 (tP 8) (tP 142))])
 (.ret))) (.seq (.region [oP 144 (.bin .eql (tP 27) (iP 8)),
 oP 143 (.mv (tP 144))])
 (.cond (tP 143) (.seq (.region [oP 145 (.mv (tP 0)),
 oP 146 (.mv (tP 1)),
 oP 147 (.load (some 8) (tP 6)),
 oP 148 (.mv (tP 3)),
 oP 149 (.call (.fn 60) [(tP 145), (tP 146), (tP 147), (tP 148)]),
 sP (.store 5 (tP 8) (tP 149))])
 (.ret)) (.seq (.region [oP 151 (.bin .eql (tP 27) (iP 10)),
 oP 150 (.mv (tP 151))])
 (.cond (tP 150) (.seq (.region [oP 152 (.mv (tP 0)),
 oP 153 (.mv (tP 1)),
 oP 154 (.load (some 8) (tP 6)),
 oP 155 (.mv (tP 3)),
 oP 156 (.call (.fn 61) [(tP 152), (tP 153), (tP 154), (tP 155)]),
 sP (.store 5 (tP 8) (tP 156))])
 (.ret)) (.skip)))))))))))))))))))))))
 (.seq (.draw [oP 157 (.mv (tP 0)),
 oP 158 (.addOff 3 (tP 6)),
 oP 159 (.load none (tP 158)),
 oP 160 (.mv (tP 0)),
 oP 161 (.mv (tP 1)),
 oP 162 (.addOff 6 (tP 6)),
 oP 163 (.load none (tP 162)),
 oP 164 (.mv (tP 3)),
 oP 165 (.call (.fn 57) [(tP 160), (tP 161), (tP 163), (tP 164)]),
 oP 166 (.call (.fn 62) [(tP 157), (tP 159), (tP 165)]),
 sP (.store 5 (tP 8) (tP 166))] [[oP 157 (.mv (tP 0)), oP 158 (.addOff 3 (tP 6)), oP 160 (.mv (tP 0)), oP 161 (.mv (tP 1)), oP 162 (.addOff 6 (tP 6)), oP 163 (.load none (tP 162)), oP 164 (.mv (tP 3)), oP 165 (.call (.fn 57) [(tP 160), (tP 161), (tP 163), (tP 164)]), oP 159 (.load none (tP 158)), oP 166 (.call (.fn 62) [(tP 157), (tP 159), (tP 165)]), sP (.store 5 (tP 8) (tP 166))]])
 (.ret)))))
def A44 : AFunc := { ntmps := 167, results := [.cell (some 5) 8], body := B44, coe := true, keep := 0 }
theorem tr44 : trFunc Tryz.prog M44 true Tryz.f44 = some A44 := by kernel_rfl
def M45 : Marks := { cut := fun _ => true, hd := fun | _ => [], ex := fun | _ => [], imm := fun | _ => false }
def B45 : ACode :=
 .seq (.region [oP 4 (.mv (.con (.int .u64 0))),
 oP 5 (.mv (.con (.int .u64 0)))])
 (.seq (.region [oP 14 (.mv (tP 0)),
 oP 15 (.bin .and (tP 14) (.con (.int .u64 4294967295))),
 oP 6 (.mv (tP 15))])
 (.seq (.region [oP 16 (.mv (tP 0)),
 oP 17 (.bin .shr (tP 16) (.con (.int .u64 32))),
 oP 7 (.mv (tP 17))])
 (.seq (.region [oP 18 (.mv (tP 1)),
 oP 19 (.bin .and (tP 18) (.con (.int .u64 4294967295))),
 oP 8 (.mv (tP 19))])
 (.seq (.region [oP 20 (.mv (tP 1)),
 oP 21 (.bin .shr (tP 20) (.con (.int .u64 32))),
 oP 9 (.mv (tP 21))])
 (.seq (.region [oP 22 (.mv (tP 6)),
 oP 23 (.mv (tP 8)),
 oP 24 (.bin .mul (tP 22) (tP 23)),
 oP 10 (.mv (tP 24))])
 (.seq (.region [oP 25 (.mv (tP 7)),
 oP 26 (.mv (tP 8)),
 oP 27 (.bin .mul (tP 25) (tP 26)),
 oP 28 (.mv (tP 10)),
 oP 29 (.bin .shr (tP 28) (.con (.int .u64 32))),
 oP 30 (.bin .add (tP 27) (tP 29)),
 oP 11 (.mv (tP 30))])
 (.seq (.region [oP 31 (.mv (tP 11)),
 oP 32 (.bin .and (tP 31) (.con (.int .u64 4294967295))),
 oP 12 (.mv (tP 32))])
 (.seq (.region [oP 33 (.mv (tP 11)),
 oP 34 (.bin .shr (tP 33) (.con (.int .u64 32))),
 oP 13 (.mv (tP 34))])
 (.seq (.region [oP 35 (.mv (tP 12)),
 oP 36 (.mv (tP 6)),
 oP 37 (.mv (tP 9)),
 oP 38 (.bin .mul (tP 36) (tP 37)),
 oP 39 (.bin .add (tP 35) (tP 38)),
 oP 12 (.mv (tP 39))])
 (.seq (.region [oP 40 (.mv (tP 7)),
 oP 41 (.mv (tP 9)),
 oP 42 (.bin .mul (tP 40) (tP 41)),
 oP 43 (.mv (tP 13)),
 oP 44 (.bin .add (tP 42) (tP 43)),
 oP 45 (.mv (tP 12)),
 oP 46 (.bin .shr (tP 45) (.con (.int .u64 32))),
 oP 47 (.bin .add (tP 44) (tP 46)),
 oP 4 (.mv (tP 47))])
 (.seq (.region [oP 48 (.mv (tP 0)),
 oP 49 (.mv (tP 1)),
 oP 50 (.bin .mul (tP 48) (tP 49)),
 oP 5 (.mv (tP 50))])
 (.ret))))))))))))
def A45 : AFunc := { ntmps := 51, results := [.tmp 4, .tmp 5], body := B45, coe := true, keep := 0 }
theorem tr45 : trFunc Tryz.prog M45 true Tryz.f45 = some A45 := by kernel_rfl
def M46 : Marks := { cut := fun _ => true, hd := fun | _ => [], ex := fun | _ => [], imm := fun | _ => false }
def B46 : ACode :=
 .seq (.region [oP 0 (.alloc [.ok (.int .i64 0), .ok (.str ⟨#[]⟩), .error 3])])
 (.seq (.region [oP 1 (.build [.int .i64 0, .str ⟨#[]⟩, .slice 3 []] [(0, 1, (iP 2)), (1, 1, (.con (.str ⟨#[98, 111, 111, 108]⟩)))]),
 sP (.store 3 (tP 0) (tP 1))])
 (.ret))
def A46 : AFunc := { ntmps := 2, results := [.cell (some 3) 0], body := B46, coe := true, keep := 0 }
theorem tr46 : trFunc Tryz.prog M46 true Tryz.f46 = some A46 := by kernel_rfl
def M47 : Marks := { cut := fun _ => true, hd := fun | _ => [], ex := fun | _ => [], imm := fun | 1 => true | _ => false, alts := fun | 4 => [[1, 2, 0, 3, 4, 5]] | _ => [] }
def B47 : ACode :=
 .seq (.region [oP 1 (.box true (tP 0)),
 oP 2 (.alloc [.ok (.int .i64 0), .ok (.int .i64 0), .ok (.int .i64 0)])])
 (.seq (.seq (.region [oP 8 (.load (some 17) (tP 1)),
 oP 9 (.call (.fn 63) [(tP 8)]),
 oP 3 (.alloc [.ok (.int .i64 0), .ok (.int .i64 0), .ok (.int .i64 0)]),
 sP (.store 3 (tP 3) (tP 9))])
 (.seq (.region [oP 10 (.addOff 0 (tP 3)),
 oP 11 (.load none (tP 10)),
 oP 12 (.bin .neq (tP 11) (iP 0))])
 (.cond (tP 12) (.seq (.region [oP 13 (.load (some 3) (tP 3)),
 sP (.store 3 (tP 2) (tP 13))])
 (.ret)) (.skip))))
 (.seq (.draw [oP 14 (.load (some 17) (tP 1)),
 oP 15 (.load (some 17) (tP 1)),
 oP 16 (.call (.fn 48) [(tP 15)]),
 oP 17 (.build [.slice 4 [], .slice 15 [], .int .i64 0, .int .i64 0, .int .i64 0, .str ⟨#[]⟩, .slice 3 [], .int .i64 0, .int .i64 0, .int .i64 0, .int .i64 0, .int .i64 0, .slice 1 [], .str ⟨#[]⟩, .slice 8 [], .slice 14 [], .slice 16 [], .slice 4 [], .int .i64 0, .slice 4 []] [(0, 17, (tP 14)), (17, 1, (tP 16))]),
 oP 18 (.box false (tP 17)),
 oP 4 (.mv (tP 18))] [[oP 15 (.load (some 17) (tP 1)), oP 16 (.call (.fn 48) [(tP 15)]), oP 14 (.load (some 17) (tP 1)), oP 17 (.build [.slice 4 [], .slice 15 [], .int .i64 0, .int .i64 0, .int .i64 0, .str ⟨#[]⟩, .slice 3 [], .int .i64 0, .int .i64 0, .int .i64 0, .int .i64 0, .int .i64 0, .slice 1 [], .str ⟨#[]⟩, .slice 8 [], .slice 14 [], .slice 16 [], .slice 4 [], .int .i64 0, .slice 4 []] [(0, 17, (tP 14)), (17, 1, (tP 16))]), oP 18 (.box false (tP 17)), oP 4 (.mv (tP 18))]])
 (.seq (.region [oP 19 (.mv (tP 4)),
 oP 20 (.call (.fn 64) [(tP 19)]),
 oP 5 (.mv (tP 20))])
 (.seq (.seq (.region [oP 22 (.mv (tP 5)),
 oP 23 (.tass 130 true (.nilp) (tP 22)),
 oP 21 (.mv (tP 23)),
 oP 24 (.ext 0 (tP 21)),
 oP 25 (.ext 1 (tP 21)),
 oP 6 (.mv (tP 24)),
 oP 7 (.mv (tP 25))])
 (.seq (.region [oP 26 (.mv (tP 7))])
 (.cond (tP 26) (.seq (.region [oP 27 (.mv (tP 6)),
 oP 28 (.nilchk (tP 27)),
 oP 29 (.addOff 0 (tP 28)),
 oP 30 (.load (some 3) (tP 29)),
 sP (.store 3 (tP 2) (tP 30))])
 (.ret)) (.skip))))
 (.seq (.region [oP 31 (.build [.int .i64 0, .int .i64 0, .int .i64 0] []),
 sP (.store 3 (tP 2) (tP 31))])
 (.ret))))))
def A47 : AFunc := { ntmps := 32, results := [.cell (some 3) 2], body := B47, coe := true, keep := 0 }
theorem tr47 : trFunc Tryz.prog M47 true Tryz.f47 = some A47 := by kernel_rfl
abbrev H48L7 : List Bool := [false, false, false, true, false, true, true, false, false, false, false, true, true, true, false, false, false, false, true, true, true]
abbrev X48L7 : List Bool := [false, false, false, true, false, true, true, false, false, false, false, true, true, true]
abbrev H48L3 : List Bool := [false, false, false, true, false, false, false, false, false, false, false, true, true, true]
abbrev X48L3 : List Bool := [false, false, false, true]
def M48 : Marks := { cut := fun _ => true, hd := fun | 3 => H48L3 | 7 => H48L7 | _ => [], ex := fun | 3 => X48L3 | 7 => X48L7 | _ => [], imm := fun | 1 => true | 2 => true | 33 => true | 40 => true | _ => false, alts := fun | 9 => [[0, 1, 3, 4, 5, 6, 2, 7, 8, 9, 10, 11]] | _ => [] }
def B48L7 : ACode :=
 .seq (.region [oP 21 (.bin .lss (tP 20) (tP 19))])
 (.seq (.cond (tP 21) (.skip) (.exit 2))
 (.seq (.block 3 (.seq (.region [oP 22 (.idxAddr 2 (tP 18) (tP 20)),
 oP 23 (.load (some 2) (tP 22)),
 oP 8 (.alloc [.ok (.str ⟨#[]⟩), .error 3]),
 sP (.store 2 (tP 8) (tP 23))])
 (.draw [oP 24 (.mv (tP 6)),
 oP 25 (.addOff 0 (tP 8)),
 oP 26 (.load none (tP 25)),
 oP 27 (.addOff 1 (tP 8)),
 oP 28 (.load none (tP 27)),
 oP 29 (.build [.int .i64 0, .str ⟨#[]⟩, .slice 3 []] [(2, 1, (tP 28))]),
 oP 30 (.call (.fn 66) [(tP 29)]),
 oP 31 (.fld none 2 (tP 30)),
 oP 32 (.build [.str ⟨#[]⟩, .slice 3 []] [(0, 1, (tP 26)), (1, 1, (tP 31))]),
 oP 33 (.lit true 0 2 1 [.str ⟨#[]⟩, .slice 3 []] [(0, (tP 32))]),
 oP 34 (.app false 0 2 40 (tP 24) (tP 33)),
 oP 6 (.mv (tP 34))] [[oP 24 (.mv (tP 6)), oP 25 (.addOff 0 (tP 8)), oP 27 (.addOff 1 (tP 8)), oP 28 (.load none (tP 27)), oP 29 (.build [.int .i64 0, .str ⟨#[]⟩, .slice 3 []] [(2, 1, (tP 28))]), oP 30 (.call (.fn 66) [(tP 29)]), oP 26 (.load none (tP 25)), oP 31 (.fld none 2 (tP 30)), oP 32 (.build [.str ⟨#[]⟩, .slice 3 []] [(0, 1, (tP 26)), (1, 1, (tP 31))]), oP 33 (.lit true 0 2 1 [.str ⟨#[]⟩, .slice 3 []] [(0, (tP 32))]), oP 34 (.app false 0 2 40 (tP 24) (tP 33)), oP 6 (.mv (tP 34))]])))
 (.region [oP 35 (.bin .add (tP 20) (iP 1)),
 oP 20 (.mv (tP 35))])))
def B48L3 : ACode :=
 .seq (.region [oP 14 (.bin .lss (tP 13) (tP 12))])
 (.seq (.cond (tP 14) (.skip) (.exit 0))
 (.seq (.block 1 (.seq (.region [oP 15 (.idxAddr 4 (tP 11) (tP 13)),
 oP 16 (.load (some 4) (tP 15)),
 oP 5 (.alloc [.ok (.int .i64 0), .ok (.int .i64 0), .ok (.str ⟨#[]⟩), .error 2]),
 sP (.store 4 (tP 5) (tP 16))])
 (.seq (.region [oP 6 (.nilrow 2)])
 (.seq (.seq (.region [oP 17 (.addOff 3 (tP 5)),
 oP 18 (.load none (tP 17)),
 oP 19 (.len false (tP 18)),
 oP 20 (.mv (iP 0))])
 (.block 2 (.loop true H48L7 X48L7 B48L7)))
 (.seq (.region [oP 36 (.mv (tP 6)),
 oP 37 (.addOff 3 (tP 5)),
 sP (.store 1 (tP 37) (tP 36))])
 (.region [oP 38 (.mv (tP 3)),
 oP 39 (.load (some 4) (tP 5)),
 oP 40 (.lit true 0 4 1 [.int .i64 0, .int .i64 0, .str ⟨#[]⟩, .slice 2 []] [(0, (tP 39))]),
 oP 41 (.app false 0 4 56 (tP 38) (tP 40)),
 oP 3 (.mv (tP 41))]))))))
 (.region [oP 42 (.bin .add (tP 13) (iP 1)),
 oP 13 (.mv (tP 42))])))
def B48 : ACode :=
 .seq (.region [oP 1 (.box true (tP 0)),
 oP 2 (.mv (.con (.slice 4 [])))])
 (.seq (.region [oP 9 (.call (.fn 65) []),
 oP 3 (.mv (tP 9))])
 (.seq (.seq (.region [oP 10 (.addOff 0 (tP 1)),
 oP 11 (.load none (tP 10)),
 oP 12 (.len false (tP 11)),
 oP 13 (.mv (iP 0))])
 (.block 0 (.loop true H48L3 X48L3 B48L3)))
 (.seq (.region [oP 43 (.mv (tP 3)),
 oP 2 (.mv (tP 43))])
 (.ret))))
def A48 : AFunc := { ntmps := 44, results := [.tmp 2], body := B48, coe := true, keep := 0 }
theorem tr48 : trFunc Tryz.prog M48 true Tryz.f48 = some A48 := by kernel_rfl
abbrev H49L3 : List Bool := [true, true, false, false, false, true, false, false, false, false, false, false, false, false, false, false, false, false, true, true, true]
abbrev X49L3 : List Bool := [true, true, false, false, false, true]
def M49 : Marks := { cut := fun _ => true, hd := fun | 3 => H49L3 | _ => [], ex := fun | 3 => X49L3 | _ => [], imm := fun | 5 => true | 56 => true | _ => false }
def B49L3 : ACode :=
 .seq (.region [oP 21 (.bin .lss (tP 20) (tP 19))])
 (.seq (.cond (tP 21) (.skip) (.exit 0))
 (.seq (.block 1 (.seq (.region [oP 22 (.mv (tP 20)),
 oP 23 (.idxAddr 8 (tP 18) (tP 20)),
 oP 24 (.load (some 8) (tP 23)),
 oP 7 (.alloc [.ok (.int .i64 0), .ok (.int .i64 0), .ok (.int .i64 0), .ok (.int .i64 0), .error 1, .ok (.str ⟨#[]⟩), .error 8, .error 14]),
 oP 6 (.mv (tP 22)),
 sP (.store 8 (tP 7) (tP 24))])
 (.seq (.region [oP 25 (.mv (tP 1)),
 oP 8 (.mv (tP 25))])
 (.seq (.seq (.region [oP 26 (.mv (tP 6)),
 oP 27 (.bin .eql (tP 26) (iP 1)),
 oP 28 (.mv (tP 27)),
 gP 29 28 true (.addOff 0 (tP 5)),
 gP 30 28 true (.load none (tP 29)),
 gP 31 28 true (.bin .eql (tP 30) (iP 6)),
 gP 32 28 true (.mv (tP 31)),
 gP 33 32 false (.addOff 0 (tP 5)),
 gP 34 32 false (.load none (tP 33)),
 gP 35 32 false (.bin .eql (tP 34) (iP 10)),
 gP 36 28 true (.pick (tP 32) (bP true) (tP 35)),
 oP 37 (.pick (tP 28) (tP 36) (bP false))])
 (.cond (tP 37) (.seq (.stuck)
 (.region [oP 51 (.mv (tP 1)),
 oP 52 (.addOff 5 (tP 5)),
 oP 53 (.load none (tP 52)),
 oP 54 (.load (some 3) (tP 9)),
 oP 55 (.build [.str ⟨#[]⟩, .int .i64 0, .str ⟨#[]⟩, .slice 3 []] [(0, 1, (tP 53)), (1, 3, (tP 54))]),
 oP 56 (.lit true 0 4 1 [.str ⟨#[]⟩, .int .i64 0, .str ⟨#[]⟩, .slice 3 []] [(0, (tP 55))]),
 oP 57 (.call (.fn 68) [(tP 51), (tP 56)]),
 oP 8 (.mv (tP 57))])) (.skip)))
 (.region [oP 58 (.mv (tP 0)),
 oP 59 (.mv (tP 8)),
 oP 60 (.load (some 8) (tP 7)),
 oP 61 (.call (.fn 49) [(tP 58), (tP 59), (tP 60)])])))))
 (.region [oP 62 (.bin .add (tP 20) (iP 1)),
 oP 20 (.mv (tP 62))])))
def B49 : ACode :=
 .seq (.region [oP 5 (.box true (tP 2))])
 (.seq (.seq (.region [oP 11 (.mv (tP 0)),
 oP 12 (.nilchk (tP 11)),
 oP 13 (.addOff 18 (tP 12)),
 oP 14 (.addOff 0 (tP 13)),
 oP 15 (.load none (tP 14)),
 oP 16 (.bin .neq (tP 15) (iP 0))])
 (.cond (tP 16) (.ret) (.skip)))
 (.seq (.seq (.region [oP 17 (.addOff 6 (tP 5)),
 oP 18 (.load none (tP 17)),
 oP 19 (.len false (tP 18)),
 oP 20 (.mv (iP 0))])
 (.block 0 (.loop true H49L3 X49L3 B49L3)))
 (.seq (.region [oP 63 (.addOff 0 (tP 5)),
 oP 64 (.load none (tP 63)),
 oP 65 (.bin .eql (tP 64) (iP 8)),
 oP 66 (.mv (tP 65)),
 gP 67 66 true (.mv (tP 0)),
 gP 68 66 true (.nilchk (tP 67)),
 gP 69 66 true (.addOff 18 (tP 68)),
 gP 70 66 true (.addOff 0 (tP 69)),
 gP 71 66 true (.load none (tP 70)),
 gP 72 66 true (.bin .eql (tP 71) (iP 0)),
 oP 73 (.pick (tP 66) (tP 72) (bP false))])
 (.cond (tP 73) (.region [oP 74 (.mv (tP 0)),
 oP 75 (.mv (tP 1)),
 oP 76 (.load (some 8) (tP 5)),
 oP 77 (.call (.fn 69) [(tP 74), (tP 75), (tP 76)])]) (.skip)))))
def A49 : AFunc := { ntmps := 78, results := [], body := B49, coe := true, keep := 0 }
theorem tr49 : trFunc Tryz.prog M49 true Tryz.f49 = some A49 := by kernel_rfl
abbrev H50L5 : List Bool := [false, true, true, false, true, true, true, false, false, false, false, false, false, false, false, false, false, false, false, false, false, false, true, true, true]
abbrev X50L5 : List Bool := [false, true, true, false, true, true, true]
abbrev H50L12 : List Bool := [false, true, false, false, true, true, true, false, false, false, false, false, false, false, false, false, false, false, false, false, false, false, false, false, false, false, false, false, false, false, false, false, false, false, false, false, false, false, false, false, false, false, false, false, false, false, false, false, true, true, true]
abbrev X50L12 : List Bool := [false, false, false, false, true, true, true]
def M50 : Marks := { cut := fun _ => true, hd := fun | 5 => H50L5 | 12 => H50L12 | _ => [], ex := fun | 5 => X50L5 | 12 => X50L12 | _ => [], imm := fun | 2 => true | _ => false, alts := fun | 8 => [[1, 2, 3, 0, 4, 5]] | 9 => [[1, 2, 3, 0, 4, 5]] | 14 => [[1, 2, 3, 4, 0, 5, 6]] | _ => [] }
def B50L5 : ACode :=
 .seq (.region [oP 25 (.bin .lss (tP 24) (tP 23))])
 (.seq (.cond (tP 25) (.skip) (.exit 0))
 (.seq (.block 1 (.seq (.region [oP 26 (.mv (tP 24)),
 oP 27 (.idxAddr 8 (tP 22) (tP 24)),
 oP 28 (.load (some 8) (tP 27)),
 oP 8 (.alloc [.ok (.int .i64 0), .ok (.int .i64 0), .ok (.int .i64 0), .ok (.int .i64 0), .error 1, .ok (.str ⟨#[]⟩), .error 8, .error 14]),
 oP 7 (.mv (tP 26)),
 sP (.store 8 (tP 8) (tP 28))])
 (.seq (.seq (.region [oP 29 (.addOff 0 (tP 2)),
 oP 30 (.load none (tP 29)),
 oP 31 (.bin .eql (tP 30) (iP 7)),
 oP 32 (.mv (tP 31)),
 gP 33 32 true (.mv (tP 7)),
 gP 34 32 true (.bin .gtr (tP 33) (iP 0)),
 oP 35 (.pick (tP 32) (tP 34) (bP false))])
 (.cond (tP 35) (.seq (.draw [oP 36 (.load (some 2) (tP 6)),
 oP 37 (.load (some 8) (tP 8)),
 oP 38 (.mv (tP 1)),
 oP 39 (.call (.fn 50) [(tP 37), (tP 38)]),
 oP 40 (.call (.fn 70) [(tP 36), (tP 39)]),
 sP (.store 2 (tP 6) (tP 40))] [[oP 37 (.load (some 8) (tP 8)), oP 38 (.mv (tP 1)), oP 39 (.call (.fn 50) [(tP 37), (tP 38)]), oP 36 (.load (some 2) (tP 6)), oP 40 (.call (.fn 70) [(tP 36), (tP 39)]), sP (.store 2 (tP 6) (tP 40))]])
 (.exit 1)) (.skip)))
 (.draw [oP 41 (.load (some 2) (tP 5)),
 oP 42 (.load (some 8) (tP 8)),
 oP 43 (.mv (tP 1)),
 oP 44 (.call (.fn 50) [(tP 42), (tP 43)]),
 oP 45 (.call (.fn 71) [(tP 41), (tP 44)]),
 sP (.store 2 (tP 5) (tP 45))] [[oP 42 (.load (some 8) (tP 8)), oP 43 (.mv (tP 1)), oP 44 (.call (.fn 50) [(tP 42), (tP 43)]), oP 41 (.load (some 2) (tP 5)), oP 45 (.call (.fn 71) [(tP 41), (tP 44)]), sP (.store 2 (tP 5) (tP 45))]]))))
 (.region [oP 46 (.bin .add (tP 24) (iP 1)),
 oP 24 (.mv (tP 46))])))
def B50L12 : ACode :=
 .seq (.region [oP 51 (.bin .lss (tP 50) (tP 49))])
 (.seq (.cond (tP 51) (.skip) (.exit 2))
 (.seq (.block 3 (.seq (.region [oP 52 (.idxAddr 14 (tP 48) (tP 50)),
 oP 53 (.load (some 14) (tP 52)),
 oP 10 (.alloc [.ok (.int .i64 0), .ok (.int .i64 0), .ok (.int .i64 0), .ok (.str ⟨#[]⟩), .ok (.int .i64 0), .error 6, .ok (.int .i64 0), .ok (.int .i64 0), .ok (.int .i64 0), .ok (.int .i64 0), .error 1, .ok (.str ⟨#[]⟩), .error 8, .error 14]),
 sP (.store 14 (tP 10) (tP 53))])
 (.draw [oP 54 (.load (some 2) (tP 6)),
 oP 55 (.addOff 6 (tP 10)),
 oP 56 (.load (some 8) (tP 55)),
 oP 57 (.mv (tP 1)),
 oP 58 (.call (.fn 50) [(tP 56), (tP 57)]),
 oP 59 (.call (.fn 70) [(tP 54), (tP 58)]),
 sP (.store 2 (tP 6) (tP 59))] [[oP 55 (.addOff 6 (tP 10)), oP 56 (.load (some 8) (tP 55)), oP 57 (.mv (tP 1)), oP 58 (.call (.fn 50) [(tP 56), (tP 57)]), oP 54 (.load (some 2) (tP 6)), oP 59 (.call (.fn 70) [(tP 54), (tP 58)]), sP (.store 2 (tP 6) (tP 59))]])))
 (.region [oP 60 (.bin .add (tP 50) (iP 1)),
 oP 50 (.mv (tP 60))])))
def B50 : ACode :=
 .seq (.region [oP 2 (.box true (tP 0)),
 oP 4 (.alloc [.ok (.int .i64 0), .ok (.int .i64 0)])])
 (.seq (.region [oP 5 (.alloc [.ok (.int .i64 0), .ok (.int .i64 0)]),
 oP 6 (.alloc [.ok (.int .i64 0), .ok (.int .i64 0)])])
 (.seq (.seq (.region [oP 11 (.addOff 0 (tP 2)),
 oP 12 (.load none (tP 11)),
 oP 13 (.bin .eql (tP 12) (iP 5)),
 oP 14 (.mv (tP 13)),
 gP 15 14 true (.addOff 5 (tP 2)),
 gP 16 14 true (.load none (tP 15)),
 gP 17 14 true (.mv (tP 1)),
 gP 18 14 true (.bin .eql (tP 16) (tP 17)),
 oP 19 (.pick (tP 14) (tP 18) (bP false))])
 (.cond (tP 19) (.region [oP 20 (.build [.int .i64 0, .int .i64 0] [(0, 1, (iP 1)), (1, 1, (iP 1))]),
 sP (.store 2 (tP 5) (tP 20))]) (.skip)))
 (.seq (.seq (.region [oP 21 (.addOff 6 (tP 2)),
 oP 22 (.load none (tP 21)),
 oP 23 (.len false (tP 22)),
 oP 24 (.mv (iP 0))])
 (.block 0 (.loop true H50L5 X50L5 B50L5)))
 (.seq (.seq (.region [oP 47 (.addOff 7 (tP 2)),
 oP 48 (.load none (tP 47)),
 oP 49 (.len false (tP 48)),
 oP 50 (.mv (iP 0))])
 (.block 2 (.loop true H50L12 X50L12 B50L12)))
 (.seq (.region [oP 61 (.load (some 2) (tP 5)),
 oP 62 (.load (some 2) (tP 6)),
 oP 63 (.call (.fn 71) [(tP 61), (tP 62)]),
 sP (.store 2 (tP 4) (tP 63))])
 (.ret))))))
def A50 : AFunc := { ntmps := 64, results := [.cell (some 2) 4], body := B50, coe := true, keep := 0 }
theorem tr50 : trFunc Tryz.prog M50 true Tryz.f50 = some A50 := by kernel_rfl
abbrev H51L4 : List Bool := [false, false, true, true, true, false, false, false, false, false, false, false, false, false, false, false, true, true, true]
abbrev X51L4 : List Bool := [false, false, true, true, true, false, true]
def M51 : Marks := { cut := fun _ => true, hd := fun | 4 => H51L4 | _ => [], ex := fun | 4 => X51L4 | _ => [], imm := fun | 3 => true | 4 => true | _ => false }
def B51L4 : ACode :=
 .seq (.region [oP 19 (.bin .lss (tP 18) (tP 17))])
 (.seq (.cond (tP 19) (.skip) (.exit 0))
 (.seq (.block 1 (.seq (.region [oP 20 (.mv (tP 18)),
 oP 21 (.idxAddr 8 (tP 16) (tP 18)),
 oP 22 (.load (some 8) (tP 21)),
 oP 8 (.alloc [.ok (.int .i64 0), .ok (.int .i64 0), .ok (.int .i64 0), .ok (.int .i64 0), .error 1, .ok (.str ⟨#[]⟩), .error 8, .error 14]),
 oP 7 (.mv (tP 20)),
 sP (.store 8 (tP 8) (tP 22))])
 (.seq (.region [oP 23 (.mv (tP 2)),
 oP 9 (.mv (tP 23))])
 (.seq (.seq (.region [oP 24 (.mv (tP 7)),
 oP 25 (.bin .eql (tP 24) (iP 1)),
 oP 26 (.mv (tP 25)),
 gP 27 26 true (.addOff 0 (tP 4)),
 gP 28 26 true (.load none (tP 27)),
 gP 29 26 true (.bin .eql (tP 28) (iP 6)),
 gP 30 26 true (.mv (tP 29)),
 gP 31 30 false (.addOff 0 (tP 4)),
 gP 32 30 false (.load none (tP 31)),
 gP 33 30 false (.bin .eql (tP 32) (iP 10)),
 gP 34 26 true (.pick (tP 30) (bP true) (tP 33)),
 oP 35 (.pick (tP 26) (tP 34) (bP false))])
 (.cond (tP 35) (.seq (.region [oP 36 (.mv (tP 2)),
 oP 37 (.call (.fn 73) [(tP 36)]),
 oP 9 (.mv (tP 37))])
 (.seq (.region [oP 38 (.mv (tP 9)),
 oP 39 (.addOff 5 (tP 4)),
 oP 40 (.load none (tP 39)),
 sP (.stuck)])
 (.seq (.region [oP 41 (.addOff 0 (tP 4)),
 oP 42 (.load none (tP 41)),
 oP 43 (.bin .eql (tP 42) (iP 10)),
 oP 44 (.mv (tP 43)),
 gP 45 44 true (.load (some 8) (tP 8)),
 gP 46 44 true (.addOff 0 (tP 3)),
 gP 47 44 true (.load none (tP 46)),
 gP 48 44 true (.call (.fn 50) [(tP 45), (tP 47)]),
 gP 49 44 true (.fld none 0 (tP 48)),
 gP 50 44 true (.bin .gtr (tP 49) (iP 0)),
 oP 51 (.pick (tP 44) (tP 50) (bP false))])
 (.cond (tP 51) (.seq (.region [oP 6 (.mv (bP false))])
 (.ret)) (.skip))))) (.skip)))
 (.seq (.region [oP 52 (.load (some 2) (tP 3)),
 oP 53 (.load (some 8) (tP 8)),
 oP 54 (.mv (tP 9)),
 oP 55 (.call (.fn 51) [(tP 52), (tP 53), (tP 54)]),
 oP 56 (.un .not (tP 55))])
 (.cond (tP 56) (.seq (.region [oP 6 (.mv (bP false))])
 (.ret)) (.skip)))))))
 (.region [oP 57 (.bin .add (tP 18) (iP 1)),
 oP 18 (.mv (tP 57))])))
def B51 : ACode :=
 .seq (.region [oP 3 (.box true (tP 0)),
 oP 4 (.box true (tP 1)),
 oP 6 (.mv (bP false))])
 (.seq (.seq (.region [oP 10 (.load (some 2) (tP 3)),
 oP 11 (.load (some 8) (tP 4)),
 oP 12 (.mv (tP 2)),
 oP 13 (.call (.fn 72) [(tP 10), (tP 11), (tP 12)]),
 oP 14 (.un .not (tP 13))])
 (.cond (tP 14) (.seq (.region [oP 6 (.mv (bP false))])
 (.ret)) (.skip)))
 (.seq (.seq (.region [oP 15 (.addOff 6 (tP 4)),
 oP 16 (.load none (tP 15)),
 oP 17 (.len false (tP 16)),
 oP 18 (.mv (iP 0))])
 (.block 0 (.loop true H51L4 X51L4 B51L4)))
 (.seq (.region [oP 58 (.load (some 2) (tP 3)),
 oP 59 (.load (some 8) (tP 4)),
 oP 60 (.mv (tP 2)),
 oP 61 (.call (.fn 74) [(tP 58), (tP 59), (tP 60)]),
 oP 6 (.mv (tP 61))])
 (.ret))))
def A51 : AFunc := { ntmps := 62, results := [.tmp 6], body := B51, coe := true, keep := 0 }
theorem tr51 : trFunc Tryz.prog M51 true Tryz.f51 = some A51 := by kernel_rfl
def M52 : Marks := { cut := fun _ => true, hd := fun | _ => [], ex := fun | _ => [], imm := fun | _ => false }
def B52 : ACode :=
 .seq (.region [oP 4 (.mv (tP 0)),
 oP 5 (.nilchk (tP 4)),
 oP 6 (.addOff 1 (tP 5)),
 oP 7 (.addOff 1 (tP 6)),
 oP 8 (.load none (tP 7)),
 oP 9 (.mv (tP 1)),
 oP 10 (.bin .add (tP 8) (tP 9)),
 oP 11 (.nilchk (tP 4)),
 oP 12 (.addOff 1 (tP 11)),
 oP 13 (.addOff 1 (tP 12)),
 sP (.store 1 (tP 13) (tP 10))])
 (.seq (.draw [oP 14 (.mv (tP 0)),
 oP 15 (.nilchk (tP 14)),
 oP 16 (.addOff 1 (tP 15)),
 oP 17 (.addOff 1 (tP 16)),
 oP 18 (.load none (tP 17)),
 oP 19 (.mv (tP 0)),
 oP 20 (.nilchk (tP 19)),
 oP 21 (.addOff 4 (tP 20)),
 oP 22 (.load none (tP 21)),
 oP 23 (.bin .gtr (tP 18) (tP 22))] [])
 (.cond (tP 23) (.region [oP 24 (.build [] []),
 oP 25 (.mki 92 (tP 24)),
 sP (.panic (tP 25))]) (.skip)))
def A52 : AFunc := { ntmps := 26, results := [], body := B52, coe := true, keep := 0 }
theorem tr52 : trFunc Tryz.prog M52 true Tryz.f52 = some A52 := by kernel_rfl
def M53 : Marks := { cut := fun _ => true, hd := fun | _ => [], ex := fun | _ => [], imm := fun | _ => false }
def B53 : ACode :=
 .region [oP 4 (.mv (tP 0)),
 oP 5 (.mv (tP 0)),
 oP 6 (.nilchk (tP 5)),
 oP 7 (.addOff 1 (tP 6)),
 oP 8 (.addOff 2 (tP 7)),
 oP 9 (.load none (tP 8)),
 oP 10 (.mv (tP 1)),
 oP 11 (.mnmx true [(tP 9), (tP 10)]),
 oP 12 (.nilchk (tP 4)),
 oP 13 (.addOff 1 (tP 12)),
 oP 14 (.addOff 2 (tP 13)),
 sP (.store 1 (tP 14) (tP 11))]
def A53 : AFunc := { ntmps := 15, results := [], body := B53, coe := true, keep := 0 }
theorem tr53 : trFunc Tryz.prog M53 true Tryz.f53 = some A53 := by kernel_rfl
def M54 : Marks := { cut := fun _ => true, hd := fun | _ => [], ex := fun | _ => [], imm := fun | _ => false }
def B54 : ACode :=
 .seq (.region [oP 2 (.mv (iP 0))])
 (.seq (.region [oP 3 (.mv (tP 0)),
 oP 4 (.bin .add (tP 3) (iP 7)),
 oP 5 (.bin .quo (tP 4) (iP 8)),
 oP 6 (.bin .add (iP 2) (tP 5)),
 oP 2 (.mv (tP 6))])
 (.ret))
def A54 : AFunc := { ntmps := 7, results := [.tmp 2], body := B54, coe := true, keep := 0 }
theorem tr54 : trFunc Tryz.prog M54 true Tryz.f54 = some A54 := by kernel_rfl
abbrev S55R0 : List Bool := [false, false, false, true, true]
def M55 : Marks := { cut := fun _ => true, hd := fun | _ => [], ex := fun | _ => [], imm := fun | 3 => true | _ => false, sn := fun | 3 => [false, false, false, true, true] | _ => [] }
def N55R0 : ACode :=
 .region [oP 6 (.alloc [.ok (.str ⟨#[]⟩), .ok (.int .i64 0), .ok (.int .i64 0), .error 1, .ok (.str ⟨#[]⟩), .error 5]),
 sP (.store 6 (tP 6) (tP 10))]
def B55R0 : ACode :=
 .block 1 (.seq (.region [oP 11 (.addOff 0 (tP 6)),
 oP 12 (.load none (tP 11)),
 oP 13 (.load none (tP 3)),
 oP 14 (.bin .eql (tP 12) (tP 13))])
 (.cond (tP 14) (.seq (.region [oP 15 (.addOff 1 (tP 6)),
 oP 16 (.load (some 5) (tP 15)),
 sP (.store 5 (tP 4) (tP 16))])
 (.ret)) (.skip)))
def B55 : ACode :=
 .seq (.region [oP 3 (.box true (tP 1)),
 oP 4 (.alloc [.ok (.int .i64 0), .ok (.int .i64 0), .error 1, .ok (.str ⟨#[]⟩), .error 5])])
 (.seq (.seq (.region [oP 7 (.mv (tP 0)),
 oP 8 (.call (.fn 75) [(tP 7)])])
 (.block 0 (.rangeFn (tP 8) [9, 10] [false, false, false, true, true] N55R0 B55R0)))
 (.seq (.region [oP 17 (.build [.int .i64 0, .int .i64 0, .slice 1 [], .str ⟨#[]⟩, .slice 5 []] []),
 sP (.store 5 (tP 4) (tP 17))])
 (.ret)))
def A55 : AFunc := { ntmps := 18, results := [.cell (some 5) 4], body := B55, coe := true, keep := 0 }
theorem tr55 : trFunc Tryz.prog M55 true Tryz.f55 = some A55 := by kernel_rfl
def M56 : Marks := { cut := fun _ => true, hd := fun | _ => [], ex := fun | _ => [], imm := fun | _ => false }
def B56 : ACode :=
 .seq (.region [oP 8 (.alloc [.ok (.int .i64 0), .ok (.int .i64 0), .error 1, .ok (.str ⟨#[]⟩), .error 5])])
 (.seq (.seq (.region [oP 9 (.mv (tP 3)),
 oP 10 (.len false (tP 9)),
 oP 11 (.bin .eql (tP 10) (iP 0))])
 (.cond (tP 11) (.seq (.region [oP 12 (.mv (tP 1)),
 oP 13 (.mv (tP 2)),
 oP 14 (.build [.int .i64 0, .int .i64 0, .slice 1 [], .str ⟨#[]⟩, .slice 5 []] [(0, 1, (tP 12)), (3, 1, (tP 13))]),
 sP (.store 5 (tP 8) (tP 14))])
 (.ret)) (.skip)))
 (.seq (.region [oP 15 (.mv (tP 0)),
 oP 16 (.nilchk (tP 15)),
 oP 17 (.addOff 1 (tP 16)),
 oP 18 (.addOff 0 (tP 17)),
 oP 19 (.load none (tP 18)),
 oP 20 (.mv (tP 3)),
 oP 21 (.len false (tP 20)),
 oP 22 (.bin .add (iP 2) (tP 21)),
 oP 23 (.bin .add (tP 19) (tP 22)),
 oP 24 (.nilchk (tP 15)),
 oP 25 (.addOff 1 (tP 24)),
 oP 26 (.addOff 0 (tP 25)),
 sP (.store 1 (tP 26) (tP 23))])
 (.seq (.region [oP 27 (.mv (tP 1)),
 oP 28 (.mv (tP 2)),
 oP 29 (.mv (tP 3)),
 oP 30 (.build [.int .i64 0, .int .i64 0, .slice 1 [], .str ⟨#[]⟩, .slice 5 []] [(0, 1, (tP 27)), (3, 1, (tP 28)), (4, 1, (tP 29))]),
 sP (.store 5 (tP 8) (tP 30))])
 (.ret))))
def A56 : AFunc := { ntmps := 31, results := [.cell (some 5) 8], body := B56, coe := true, keep := 0 }
theorem tr56 : trFunc Tryz.prog M56 true Tryz.f56 = some A56 := by kernel_rfl
abbrev H57L3 : List Bool := [true, true, false, true, false, false, false, false, false, true, false, false, false, false, false, true, true, true]
abbrev X57L3 : List Bool := [false, false, false, false, false, false, false, false, false, true]
def M57 : Marks := { cut := fun _ => true, hd := fun | 3 => H57L3 | _ => [], ex := fun | 3 => X57L3 | _ => [], imm := fun | 8 => true | 2000008 => true | _ => false }
def B57L3 : ACode :=
 .seq (.region [oP 18 (.bin .lss (tP 17) (tP 16))])
 (.seq (.cond (tP 18) (.skip) (.exit 0))
 (.seq (.block 1 (.seq (.region [oP 19 (.mv (tP 17)),
 oP 20 (.idxAddr 8 (tP 15) (tP 17)),
 oP 21 (.load (some 8) (tP 20)),
 oP 11 (.alloc [.ok (.int .i64 0), .ok (.int .i64 0), .ok (.int .i64 0), .ok (.int .i64 0), .error 1, .ok (.str ⟨#[]⟩), .error 8, .error 14]),
 oP 10 (.mv (tP 19)),
 sP (.store 8 (tP 11) (tP 21))])
 (.region [oP 22 (.mv (tP 9)),
 oP 23 (.mv (tP 10)),
 oP 24 (.mv (tP 0)),
 oP 25 (.mv (tP 1)),
 oP 26 (.load (some 8) (tP 11)),
 oP 27 (.mv (tP 3)),
 oP 28 (.mv (tP 10)),
 oP 29 (.bin .add (tP 27) (tP 28)),
 oP 30 (.call (.fn 44) [(tP 24), (tP 25), (tP 26), (tP 29)]),
 oP 31 (.idxAddr 5 (tP 22) (tP 23)),
 sP (.store 5 (tP 31) (tP 30))])))
 (.region [oP 32 (.bin .add (tP 17) (iP 1)),
 oP 17 (.mv (tP 32))])))
def B57 : ACode :=
 .seq (.region [oP 8 (.frz (.con (.slice 5 [])))])
 (.seq (.region [oP 12 (.mv (tP 2)),
 oP 13 (.len false (tP 12)),
 oP 14 (.vmake false 0 5 80 [.int .i64 0, .int .i64 0, .slice 1 [], .str ⟨#[]⟩, .slice 5 []] (tP 13) (tP 13)),
 oP 9 (.mv (tP 14))])
 (.seq (.seq (.region [oP 15 (.mv (tP 2)),
 oP 16 (.len false (tP 15)),
 oP 17 (.mv (iP 0))])
 (.block 0 (.loop true H57L3 X57L3 B57L3)))
 (.seq (.region [oP 33 (.mv (tP 9)),
 oP 8 (.frz (tP 33))])
 (.ret))))
def A57 : AFunc := { ntmps := 34, results := [.tmp 8], body := B57, coe := true, keep := 0 }
theorem tr57 : trFunc Tryz.prog M57 true Tryz.f57 = some A57 := by kernel_rfl
abbrev H58L4 : List Bool := [true, false, true, true, false, false, false, false, true, true, true, false, false, false, false, false, false, false, false, false, true, true, true]
abbrev X58L4 : List Bool := [true, false, true, true, false, false, false, false, true, true, true]
def M58 : Marks := { cut := fun _ => true, hd := fun | 4 => H58L4 | _ => [], ex := fun | 4 => X58L4 | _ => [], imm := fun | 35 => true | _ => false }
def B58L4 : ACode :=
 .seq (.region [oP 23 (.bin .lss (tP 22) (tP 21))])
 (.seq (.cond (tP 23) (.skip) (.exit 0))
 (.seq (.block 1 (.seq (.region [oP 24 (.mv (tP 22)),
 oP 25 (.idxAddr 4 (tP 20) (tP 22)),
 oP 26 (.load (some 4) (tP 25)),
 oP 12 (.alloc [.ok (.str ⟨#[]⟩), .ok (.int .i64 0), .ok (.str ⟨#[]⟩), .error 3]),
 oP 11 (.mv (tP 24)),
 sP (.store 4 (tP 12) (tP 26))])
 (.draw [oP 27 (.mv (tP 10)),
 oP 28 (.addOff 0 (tP 12)),
 oP 29 (.load none (tP 28)),
 oP 30 (.mv (tP 2)),
 oP 31 (.mv (tP 11)),
 oP 32 (.idxAddr 5 (tP 30) (tP 31)),
 oP 33 (.load (some 5) (tP 32)),
 oP 34 (.build [.str ⟨#[]⟩, .int .i64 0, .int .i64 0, .slice 1 [], .str ⟨#[]⟩, .slice 5 []] [(0, 1, (tP 29)), (1, 5, (tP 33))]),
 oP 35 (.lit true 0 6 1 [.str ⟨#[]⟩, .int .i64 0, .int .i64 0, .slice 1 [], .str ⟨#[]⟩, .slice 5 []] [(0, (tP 34))]),
 oP 36 (.app false 0 6 96 (tP 27) (tP 35)),
 oP 10 (.mv (tP 36))] [])))
 (.region [oP 37 (.bin .add (tP 22) (iP 1)),
 oP 22 (.mv (tP 37))])))
def B58 : ACode :=
 .seq (.region [oP 8 (.alloc [.ok (.int .i64 0), .ok (.int .i64 0), .error 1, .ok (.str ⟨#[]⟩), .error 5])])
 (.seq (.region [oP 13 (.mv (tP 0)),
 oP 14 (.nilchk (tP 13)),
 oP 15 (.addOff 0 (tP 14)),
 oP 16 (.load none (tP 15)),
 oP 17 (.mv (tP 1)),
 oP 18 (.mlook false (.str ⟨#[]⟩) (.agg [.int .i64 0, .int .i64 0, .str ⟨#[]⟩, .slice 4 [], .int .i64 0, .str ⟨#[]⟩, .slice 3 [], .int .i64 0, .int .i64 0, .int .i64 0, .int .i64 0, .slice 1 [], .str ⟨#[]⟩, .slice 8 [], .slice 14 []]) (tP 16) (tP 17)),
 oP 9 (.alloc [.ok (.int .i64 0), .ok (.int .i64 0), .ok (.str ⟨#[]⟩), .error 4, .ok (.int .i64 0), .ok (.str ⟨#[]⟩), .error 3, .ok (.int .i64 0), .ok (.int .i64 0), .ok (.int .i64 0), .ok (.int .i64 0), .error 1, .ok (.str ⟨#[]⟩), .error 8, .error 14]),
 sP (.store 15 (tP 9) (tP 18))])
 (.seq (.region [oP 10 (.nilrow 6)])
 (.seq (.seq (.region [oP 19 (.addOff 3 (tP 9)),
 oP 20 (.load none (tP 19)),
 oP 21 (.len false (tP 20)),
 oP 22 (.mv (iP 0))])
 (.block 0 (.loop true H58L4 X58L4 B58L4)))
 (.seq (.region [oP 38 (.mv (tP 0)),
 oP 39 (.mv (tP 10)),
 oP 40 (.addOff 7 (tP 9)),
 oP 41 (.load (some 8) (tP 40)),
 oP 42 (.mv (tP 3)),
 oP 43 (.mv (tP 2)),
 oP 44 (.len false (tP 43)),
 oP 45 (.bin .mul (iP 2) (tP 44)),
 oP 46 (.bin .add (tP 42) (tP 45)),
 oP 47 (.call (.fn 44) [(tP 38), (tP 39), (tP 41), (tP 46)]),
 sP (.store 5 (tP 8) (tP 47))])
 (.ret)))))
def A58 : AFunc := { ntmps := 48, results := [.cell (some 5) 8], body := B58, coe := true, keep := 0 }
theorem tr58 : trFunc Tryz.prog M58 true Tryz.f58 = some A58 := by kernel_rfl
def M59 : Marks := { cut := fun _ => true, hd := fun | _ => [], ex := fun | _ => [], imm := fun | 5 => true | 6 => true | 16 => true | _ => false }
def B59 : ACode :=
 .seq (.region [oP 5 (.box true (tP 2)),
 oP 6 (.mv (.con (.slice 6 [])))])
 (.seq (.draw [oP 7 (.mv (tP 0)),
 oP 8 (.mv (tP 0)),
 oP 9 (.len false (tP 8)),
 oP 10 (.mv (tP 0)),
 oP 11 (.len false (tP 10)),
 oP 12 (.slc3 6 (tP 7) none (tP 9) (tP 11)),
 oP 13 (.mv (tP 1)),
 oP 14 (.load (some 5) (tP 5)),
 oP 15 (.build [.str ⟨#[]⟩, .int .i64 0, .int .i64 0, .slice 1 [], .str ⟨#[]⟩, .slice 5 []] [(0, 1, (tP 13)), (1, 5, (tP 14))]),
 oP 16 (.lit true 0 6 1 [.str ⟨#[]⟩, .int .i64 0, .int .i64 0, .slice 1 [], .str ⟨#[]⟩, .slice 5 []] [(0, (tP 15))]),
 oP 17 (.app false 0 6 96 (tP 12) (tP 16)),
 oP 6 (.mv (tP 17))] [])
 (.ret))
def A59 : AFunc := { ntmps := 18, results := [.tmp 6], body := B59, coe := true, keep := 0 }
theorem tr59 : trFunc Tryz.prog M59 true Tryz.f59 = some A59 := by kernel_rfl
abbrev H60L3 : List Bool := [true, true, false, true, false, false, true, false, true, true, false, false, false, false, false, false, false, false, true, true, true]
abbrev X60L3 : List Bool := [true, true, false, true, false, false, true, false, true, true]
abbrev H60L11 : List Bool := [true, true, false, true, false, false, false, false, true, true, false, false, true, false, false, false, false, false, false, false, false, false, false, false, false, false, false, false, false, false, false, false, false, false, false, false, false, false, false, false, false, false, false, false, false, false, false, false, false, false, false, false, false, false, false, false, true, true, true]
abbrev X60L11 : List Bool := [false, false, false, false, false, false, false, false, true]
def M60 : Marks := { cut := fun _ => true, hd := fun | 3 => H60L3 | 11 => H60L11 | _ => [], ex := fun | 3 => X60L3 | 11 => X60L11 | _ => [], imm := fun | 6 => true | 73 => true | _ => false, alts := fun | 15 => [[0, 1, 2, 3, 5, 6, 4, 7, 8, 9, 10, 11, 12]] | _ => [] }
def B60L3 : ACode :=
 .seq (.region [oP 21 (.bin .lss (tP 20) (tP 19))])
 (.seq (.cond (tP 21) (.skip) (.exit 0))
 (.seq (.block 1 (.seq (.region [oP 22 (.idxAddr 14 (tP 18) (tP 20)),
 oP 23 (.load (some 14) (tP 22)),
 oP 11 (.alloc [.ok (.int .i64 0), .ok (.int .i64 0), .ok (.int .i64 0), .ok (.str ⟨#[]⟩), .ok (.int .i64 0), .error 6, .ok (.int .i64 0), .ok (.int .i64 0), .ok (.int .i64 0), .ok (.int .i64 0), .error 1, .ok (.str ⟨#[]⟩), .error 8, .error 14]),
 sP (.store 14 (tP 11) (tP 23))])
 (.region [oP 24 (.mv (tP 9)),
 oP 25 (.addOff 0 (tP 11)),
 oP 26 (.addOff 5 (tP 25)),
 oP 27 (.load none (tP 26)),
 oP 28 (.call (.fn 76) [(tP 27)]),
 oP 29 (.bin .add (iP 1) (tP 28)),
 oP 30 (.bin .add (tP 24) (tP 29)),
 oP 9 (.mv (tP 30))])))
 (.region [oP 31 (.bin .add (tP 20) (iP 1)),
 oP 20 (.mv (tP 31))])))
def B60L11 : ACode :=
 .seq (.region [oP 59 (.bin .lss (tP 58) (tP 57))])
 (.seq (.cond (tP 59) (.skip) (.exit 2))
 (.seq (.block 3 (.seq (.region [oP 60 (.idxAddr 14 (tP 56) (tP 58)),
 oP 61 (.load (some 14) (tP 60)),
 oP 14 (.alloc [.ok (.int .i64 0), .ok (.int .i64 0), .ok (.int .i64 0), .ok (.str ⟨#[]⟩), .ok (.int .i64 0), .error 6, .ok (.int .i64 0), .ok (.int .i64 0), .ok (.int .i64 0), .ok (.int .i64 0), .error 1, .ok (.str ⟨#[]⟩), .error 8, .error 14]),
 sP (.store 14 (tP 14) (tP 61))])
 (.seq (.region [oP 63 (.addOff 0 (tP 14)),
 oP 64 (.load (some 6) (tP 63)),
 oP 65 (.load (some 5) (tP 12)),
 oP 66 (.call (.fn 77) [(tP 64), (tP 65)]),
 oP 62 (.mv (tP 66)),
 oP 67 (.ext 0 (tP 62)),
 oP 68 (.ext 1 (tP 62)),
 oP 15 (.mv (tP 67)),
 oP 16 (.mv (tP 68))])
 (.seq (.region [oP 69 (.mv (tP 16))])
 (.cond (tP 69) (.seq (.draw [oP 70 (.mv (tP 0)),
 oP 71 (.mv (tP 1)),
 oP 72 (.mv (tP 15)),
 oP 73 (.lit true 0 1 2 [.slice 6 []] [(0, (tP 71)), (1, (tP 72))]),
 oP 74 (.call (.fn 78) [(tP 73)]),
 oP 75 (.addOff 6 (tP 14)),
 oP 76 (.load (some 8) (tP 75)),
 oP 77 (.mv (tP 3)),
 oP 78 (.mv (tP 9)),
 oP 79 (.bin .add (tP 77) (tP 78)),
 oP 80 (.bin .add (tP 79) (iP 1)),
 oP 81 (.call (.fn 44) [(tP 70), (tP 74), (tP 76), (tP 80)]),
 sP (.store 5 (tP 8) (tP 81))] [[oP 70 (.mv (tP 0)), oP 71 (.mv (tP 1)), oP 72 (.mv (tP 15)), oP 73 (.lit true 0 1 2 [.slice 6 []] [(0, (tP 71)), (1, (tP 72))]), oP 75 (.addOff 6 (tP 14)), oP 76 (.load (some 8) (tP 75)), oP 74 (.call (.fn 78) [(tP 73)]), oP 77 (.mv (tP 3)), oP 78 (.mv (tP 9)), oP 79 (.bin .add (tP 77) (tP 78)), oP 80 (.bin .add (tP 79) (iP 1)), oP 81 (.call (.fn 44) [(tP 70), (tP 74), (tP 76), (tP 80)]), sP (.store 5 (tP 8) (tP 81))]])
 (.ret)) (.skip))))))
 (.region [oP 82 (.bin .add (tP 58) (iP 1)),
 oP 58 (.mv (tP 82))])))
def B60 : ACode :=
 .seq (.region [oP 6 (.box true (tP 2)),
 oP 8 (.alloc [.ok (.int .i64 0), .ok (.int .i64 0), .error 1, .ok (.str ⟨#[]⟩), .error 5])])
 (.seq (.region [oP 9 (.mv (iP 0))])
 (.seq (.seq (.region [oP 17 (.addOff 7 (tP 6)),
 oP 18 (.load none (tP 17)),
 oP 19 (.len false (tP 18)),
 oP 20 (.mv (iP 0))])
 (.block 0 (.loop true H60L3 X60L3 B60L3)))
 (.seq (.region [oP 32 (.mv (tP 0)),
 oP 33 (.mv (tP 9)),
 oP 34 (.addOff 7 (tP 6)),
 oP 35 (.load none (tP 34)),
 oP 36 (.len false (tP 35)),
 oP 37 (.bin .add (tP 33) (tP 36)),
 oP 38 (.bin .mul (iP 8) (tP 37)),
 oP 39 (.call (.fn 52) [(tP 32), (tP 38)])])
 (.seq (.region [oP 40 (.mv (tP 0)),
 oP 41 (.mv (tP 3)),
 oP 42 (.mv (tP 9)),
 oP 43 (.bin .mul (iP 2) (tP 42)),
 oP 44 (.bin .add (tP 41) (tP 43)),
 oP 45 (.bin .add (tP 44) (iP 3)),
 oP 46 (.call (.fn 53) [(tP 40), (tP 45)])])
 (.seq (.region [oP 47 (.mv (tP 0)),
 oP 48 (.mv (tP 1)),
 oP 49 (.addOff 6 (tP 6)),
 oP 50 (.load none (tP 49)),
 oP 51 (.idxAddr 8 (tP 50) (iP 0)),
 oP 52 (.load (some 8) (tP 51)),
 oP 53 (.mv (tP 3)),
 oP 54 (.call (.fn 44) [(tP 47), (tP 48), (tP 52), (tP 53)]),
 oP 12 (.alloc [.ok (.int .i64 0), .ok (.int .i64 0), .error 1, .ok (.str ⟨#[]⟩), .error 5]),
 sP (.store 5 (tP 12) (tP 54))])
 (.seq (.seq (.region [oP 55 (.addOff 7 (tP 6)),
 oP 56 (.load none (tP 55)),
 oP 57 (.len false (tP 56)),
 oP 58 (.mv (iP 0))])
 (.block 2 (.loop true H60L11 X60L11 B60L11)))
 (.seq (.region [oP 83 (.build [.int .i64 0, .int .i64 0, .slice 1 [], .str ⟨#[]⟩, .slice 5 []] []),
 sP (.store 5 (tP 8) (tP 83))])
 (.ret))))))))
def A60 : AFunc := { ntmps := 84, results := [.cell (some 5) 8], body := B60, coe := true, keep := 0 }
theorem tr60 : trFunc Tryz.prog M60 true Tryz.f60 = some A60 := by kernel_rfl
abbrev H61L3 : List Bool := [true, true, false, true, false, false, true, false, true, true, false, false, false, false, false, false, false, false, false, true, true]
abbrev X61L3 : List Bool := [false, false, false, false, false, false, false, false, true, true]
def M61 : Marks := { cut := fun _ => true, hd := fun | 3 => H61L3 | _ => [], ex := fun | 3 => X61L3 | _ => [], imm := fun | 6 => true | _ => false, alts := fun | 5 => [[0, 1, 2, 3, 4, 6, 7, 5, 8, 9, 10, 11, 12, 13], [0, 1, 2, 3, 4, 6, 7, 8, 9, 5, 10, 11, 12, 13]] | _ => [] }
def B61L3 : ACode :=
 .seq (.region [oP 21 (.bin .lss (tP 20) (tP 19))])
 (.seq (.cond (tP 21) (.skip) (.exit 0))
 (.seq (.block 1 (.seq (.region [oP 22 (.mv (tP 0)),
 oP 23 (.call (.fn 52) [(tP 22), (iP 6)])])
 (.draw [oP 24 (.mv (tP 0)),
 oP 25 (.mv (tP 1)),
 oP 26 (.addOff 5 (tP 6)),
 oP 27 (.load none (tP 26)),
 oP 28 (.load (some 5) (tP 9)),
 oP 29 (.call (.fn 59) [(tP 25), (tP 27), (tP 28)]),
 oP 30 (.addOff 6 (tP 6)),
 oP 31 (.load none (tP 30)),
 oP 32 (.idxAddr 8 (tP 31) (iP 1)),
 oP 33 (.load (some 8) (tP 32)),
 oP 34 (.mv (tP 3)),
 oP 35 (.bin .add (tP 34) (iP 2)),
 oP 36 (.call (.fn 44) [(tP 24), (tP 29), (tP 33), (tP 35)]),
 sP (.store 5 (tP 9) (tP 36))] [[oP 24 (.mv (tP 0)), oP 25 (.mv (tP 1)), oP 26 (.addOff 5 (tP 6)), oP 27 (.load none (tP 26)), oP 28 (.load (some 5) (tP 9)), oP 30 (.addOff 6 (tP 6)), oP 31 (.load none (tP 30)), oP 29 (.call (.fn 59) [(tP 25), (tP 27), (tP 28)]), oP 32 (.idxAddr 8 (tP 31) (iP 1)), oP 33 (.load (some 8) (tP 32)), oP 34 (.mv (tP 3)), oP 35 (.bin .add (tP 34) (iP 2)), oP 36 (.call (.fn 44) [(tP 24), (tP 29), (tP 33), (tP 35)]), sP (.store 5 (tP 9) (tP 36))], [oP 24 (.mv (tP 0)), oP 25 (.mv (tP 1)), oP 26 (.addOff 5 (tP 6)), oP 27 (.load none (tP 26)), oP 28 (.load (some 5) (tP 9)), oP 30 (.addOff 6 (tP 6)), oP 31 (.load none (tP 30)), oP 32 (.idxAddr 8 (tP 31) (iP 1)), oP 33 (.load (some 8) (tP 32)), oP 29 (.call (.fn 59) [(tP 25), (tP 27), (tP 28)]), oP 34 (.mv (tP 3)), oP 35 (.bin .add (tP 34) (iP 2)), oP 36 (.call (.fn 44) [(tP 24), (tP 29), (tP 33), (tP 35)]), sP (.store 5 (tP 9) (tP 36))]])))
 (.region [oP 37 (.bin .add (tP 20) (iP 1)),
 oP 20 (.mv (tP 37))])))
def B61 : ACode :=
 .seq (.region [oP 6 (.box true (tP 2)),
 oP 8 (.alloc [.ok (.int .i64 0), .ok (.int .i64 0), .error 1, .ok (.str ⟨#[]⟩), .error 5])])
 (.seq (.region [oP 10 (.mv (tP 0)),
 oP 11 (.mv (tP 1)),
 oP 12 (.addOff 6 (tP 6)),
 oP 13 (.load none (tP 12)),
 oP 14 (.idxAddr 8 (tP 13) (iP 0)),
 oP 15 (.load (some 8) (tP 14)),
 oP 16 (.mv (tP 3)),
 oP 17 (.call (.fn 44) [(tP 10), (tP 11), (tP 15), (tP 16)]),
 oP 9 (.alloc [.ok (.int .i64 0), .ok (.int .i64 0), .error 1, .ok (.str ⟨#[]⟩), .error 5]),
 sP (.store 5 (tP 9) (tP 17))])
 (.seq (.seq (.region [oP 18 (.addOff 3 (tP 6)),
 oP 19 (.load none (tP 18)),
 oP 20 (.mv (iP 0))])
 (.block 0 (.loop true H61L3 X61L3 B61L3)))
 (.seq (.region [oP 38 (.load (some 5) (tP 9)),
 sP (.store 5 (tP 8) (tP 38))])
 (.ret))))
def A61 : AFunc := { ntmps := 39, results := [.cell (some 5) 8], body := B61, coe := true, keep := 0 }
theorem tr61 : trFunc Tryz.prog M61 true Tryz.f61 = some A61 := by kernel_rfl
def M62 : Marks := { cut := fun _ => true, hd := fun | _ => [], ex := fun | _ => [], imm := fun | _ => false, alts := fun | 3 => [[0, 1, 2, 3, 5, 6, 7, 8, 4, 9, 10, 11, 12, 13]] | _ => [] }
def B62 : ACode :=
 .seq (.region [oP 6 (.alloc [.ok (.int .i64 0), .ok (.int .i64 0), .error 1, .ok (.str ⟨#[]⟩), .error 5])])
 (.seq (.region [oP 10 (.mv (tP 1)),
 oP 11 (.mv (tP 2)),
 oP 12 (.call (.fn 7) [(tP 10), (tP 11)]),
 oP 9 (.mv (tP 12)),
 oP 13 (.ext 0 (tP 9)),
 oP 14 (.ext 1 (tP 9)),
 oP 7 (.alloc [.ok (.int .i64 0), .ok (.int .i64 0), .error 1, .ok (.str ⟨#[]⟩), .error 5]),
 sP (.store 5 (tP 7) (tP 13)),
 oP 8 (.mv (tP 14))])
 (.seq (.seq (.region [oP 15 (.addOff 0 (tP 7)),
 oP 16 (.load none (tP 15)),
 oP 17 (.bin .eql (tP 16) (iP 1))])
 (.cond (tP 17) (.draw [oP 18 (.mv (tP 0)),
 oP 19 (.nilchk (tP 18)),
 oP 20 (.addOff 1 (tP 19)),
 oP 21 (.addOff 0 (tP 20)),
 oP 22 (.load none (tP 21)),
 oP 23 (.addOff 2 (tP 7)),
 oP 24 (.load none (tP 23)),
 oP 25 (.len false (tP 24)),
 oP 26 (.call (.fn 54) [(tP 25)]),
 oP 27 (.bin .add (tP 22) (tP 26)),
 oP 28 (.nilchk (tP 18)),
 oP 29 (.addOff 1 (tP 28)),
 oP 30 (.addOff 0 (tP 29)),
 sP (.store 1 (tP 30) (tP 27))] [[oP 18 (.mv (tP 0)), oP 19 (.nilchk (tP 18)), oP 20 (.addOff 1 (tP 19)), oP 21 (.addOff 0 (tP 20)), oP 23 (.addOff 2 (tP 7)), oP 24 (.load none (tP 23)), oP 25 (.len false (tP 24)), oP 26 (.call (.fn 54) [(tP 25)]), oP 22 (.load none (tP 21)), oP 27 (.bin .add (tP 22) (tP 26)), oP 28 (.nilchk (tP 18)), oP 29 (.addOff 1 (tP 28)), oP 30 (.addOff 0 (tP 29)), sP (.store 1 (tP 30) (tP 27))]]) (.skip)))
 (.seq (.region [oP 31 (.load (some 5) (tP 7)),
 sP (.store 5 (tP 6) (tP 31))])
 (.ret))))
def A62 : AFunc := { ntmps := 32, results := [.cell (some 5) 6], body := B62, coe := true, keep := 0 }
theorem tr62 : trFunc Tryz.prog M62 true Tryz.f62 = some A62 := by kernel_rfl
abbrev H63L11 : List Bool := [false, false, true, true, true, true, false, true, true, false, false, false, false, false, false, false, false, false, false, false, false, false, true, true, true, false, false, false, false, false, false, false, false, false, false, false, true, true, true]
abbrev X63L11 : List Bool := [false, false, true, true, true, true, false, true, true, false, false, false, false, false, false, false, false, false, false, false, false, false, true, true, true]
abbrev H63L6 : List Bool := [false, false, true, true, true, true, false, false, false, false, false, false, false, false, false, false, false, false, false, false, false, false, true, true, true]
abbrev X63L6 : List Bool := [false, false, true, true]
abbrev H63L20 : List Bool := [false, false, true, true, false, false, false, false, false, false, false, false, false, false, false, false, false, false, false, false, false, false, false, false, false, false, false, false, false, false, false, false, false, false, false, false, false, false, false, false, false, false, false, false, false, false, false, false, false, false, false, false, false, false, false, false, false, false, true, true, true]
abbrev X63L20 : List Bool := [false, false, true, true]
def M63 : Marks := { cut := fun _ => true, hd := fun | 6 => H63L6 | 11 => H63L11 | 20 => H63L20 | _ => [], ex := fun | 6 => X63L6 | 11 => X63L11 | 20 => X63L20 | _ => [], imm := fun | 1 => true | _ => false }
def B63L11 : ACode :=
 .seq (.region [oP 39 (.bin .lss (tP 38) (tP 37))])
 (.seq (.cond (tP 39) (.skip) (.exit 2))
 (.seq (.block 3 (.seq (.region [oP 40 (.idxAddr 2 (tP 36) (tP 38)),
 oP 41 (.load (some 2) (tP 40)),
 oP 10 (.alloc [.ok (.str ⟨#[]⟩), .error 3]),
 sP (.store 2 (tP 10) (tP 41))])
 (.seq (.region [oP 42 (.mv (tP 8)),
 oP 43 (.mv (tP 42)),
 gP 44 43 false (.mv (tP 5)),
 gP 45 43 false (.addOff 0 (tP 10)),
 gP 46 43 false (.load none (tP 45)),
 gP 47 43 false (.mlook false (.str ⟨#[]⟩) (.bool false) (tP 44) (tP 46)),
 oP 48 (.pick (tP 43) (bP true) (tP 47)),
 oP 8 (.mv (tP 48))])
 (.region [oP 49 (.mv (tP 5)),
 oP 50 (.addOff 0 (tP 10)),
 oP 51 (.load none (tP 50)),
 sP (.mupd (.str ⟨#[]⟩) (tP 49) (tP 51) (bP true))]))))
 (.region [oP 52 (.bin .add (tP 38) (iP 1)),
 oP 38 (.mv (tP 52))])))
def B63L6 : ACode :=
 .seq (.region [oP 25 (.bin .lss (tP 24) (tP 23))])
 (.seq (.cond (tP 25) (.skip) (.exit 0))
 (.seq (.block 1 (.seq (.region [oP 26 (.idxAddr 4 (tP 22) (tP 24)),
 oP 27 (.load (some 4) (tP 26)),
 oP 7 (.alloc [.ok (.int .i64 0), .ok (.int .i64 0), .ok (.str ⟨#[]⟩), .error 2]),
 sP (.store 4 (tP 7) (tP 27))])
 (.seq (.region [oP 28 (.mv (tP 4)),
 oP 29 (.addOff 2 (tP 7)),
 oP 30 (.load none (tP 29)),
 oP 31 (.mlook false (.str ⟨#[]⟩) (.bool false) (tP 28) (tP 30)),
 oP 8 (.mv (tP 31))])
 (.seq (.region [oP 32 (.mv (tP 4)),
 oP 33 (.addOff 2 (tP 7)),
 oP 34 (.load none (tP 33)),
 sP (.mupd (.str ⟨#[]⟩) (tP 32) (tP 34) (bP true))])
 (.seq (.seq (.region [oP 35 (.addOff 3 (tP 7)),
 oP 36 (.load none (tP 35)),
 oP 37 (.len false (tP 36)),
 oP 38 (.mv (iP 0))])
 (.block 2 (.loop true H63L11 X63L11 B63L11)))
 (.seq (.region [oP 53 (.mv (tP 8))])
 (.cond (tP 53) (.seq (.region [oP 54 (.addOff 0 (tP 7)),
 oP 55 (.load (some 2) (tP 54)),
 oP 56 (.build [.int .i64 0, .int .i64 0, .int .i64 0] [(0, 1, (iP 9)), (1, 2, (tP 55))]),
 sP (.store 3 (tP 2) (tP 56))])
 (.ret)) (.skip))))))))
 (.region [oP 57 (.bin .add (tP 24) (iP 1)),
 oP 24 (.mv (tP 57))])))
def B63L20 : ACode :=
 .seq (.region [oP 61 (.bin .lss (tP 60) (tP 59))])
 (.seq (.cond (tP 61) (.skip) (.exit 4))
 (.seq (.block 5 (.seq (.region [oP 62 (.idxAddr 4 (tP 58) (tP 60)),
 oP 63 (.load (some 4) (tP 62)),
 oP 12 (.alloc [.ok (.int .i64 0), .ok (.int .i64 0), .ok (.str ⟨#[]⟩), .error 2]),
 sP (.store 4 (tP 12) (tP 63))])
 (.seq (.region [oP 64 (.addOff 3 (tP 12)),
 oP 65 (.load none (tP 64)),
 oP 66 (.mkf (.func 81) [] [(tP 3)]),
 oP 67 (.call (.fn 80) [(tP 65), (tP 66)])])
 (.cond (tP 67) (.seq (.region [oP 68 (.addOff 0 (tP 12)),
 oP 69 (.load (some 2) (tP 68)),
 oP 70 (.build [.int .i64 0, .int .i64 0, .int .i64 0] [(0, 1, (iP 8)), (1, 2, (tP 69))]),
 sP (.store 3 (tP 2) (tP 70))])
 (.ret)) (.skip)))))
 (.region [oP 71 (.bin .add (tP 60) (iP 1)),
 oP 60 (.mv (tP 71))])))
def B63 : ACode :=
 .seq (.region [oP 1 (.box true (tP 0)),
 oP 2 (.alloc [.ok (.int .i64 0), .ok (.int .i64 0), .ok (.int .i64 0)])])
 (.seq (.seq (.region [oP 14 (.load (some 17) (tP 1)),
 oP 15 (.call (.fn 79) [(tP 14)]),
 oP 16 (.un .not (tP 15))])
 (.cond (tP 16) (.seq (.region [oP 17 (.build [.int .i64 0, .int .i64 0, .int .i64 0] [(0, 1, (iP 19))]),
 sP (.store 3 (tP 2) (tP 17))])
 (.ret)) (.skip)))
 (.seq (.region [oP 18 (.load (some 17) (tP 1)),
 oP 19 (.call (.fn 48) [(tP 18)]),
 oP 3 (.alloc [.error 4]),
 sP (.store 1 (tP 3) (tP 19))])
 (.seq (.region [oP 20 (.mkmap),
 oP 21 (.mkmap),
 oP 4 (.mv (tP 20)),
 oP 5 (.mv (tP 21))])
 (.seq (.seq (.region [oP 22 (.load none (tP 3)),
 oP 23 (.len false (tP 22)),
 oP 24 (.mv (iP 0))])
 (.block 0 (.loop true H63L6 X63L6 B63L6)))
 (.seq (.seq (.region [oP 58 (.load none (tP 3)),
 oP 59 (.len false (tP 58)),
 oP 60 (.mv (iP 0))])
 (.block 4 (.loop true H63L20 X63L20 B63L20)))
 (.seq (.seq (.region [oP 72 (.load none (tP 3)),
 oP 73 (.call (.fn 84) [(tP 72)]),
 oP 74 (.call (.fn 83) [(tP 73), (bP false)]),
 oP 13 (.mv (tP 74))])
 (.seq (.region [oP 75 (.mv (tP 13)),
 oP 76 (.bin .geq (tP 75) (iP 0))])
 (.cond (tP 76) (.seq (.region [oP 77 (.load none (tP 3)),
 oP 78 (.mv (tP 13)),
 oP 79 (.idxAddr 4 (tP 77) (tP 78)),
 oP 80 (.addOff 0 (tP 79)),
 oP 81 (.load (some 2) (tP 80)),
 oP 82 (.build [.int .i64 0, .int .i64 0, .int .i64 0] [(0, 1, (iP 28)), (1, 2, (tP 81))]),
 sP (.store 3 (tP 2) (tP 82))])
 (.ret)) (.skip))))
 (.seq (.region [oP 83 (.build [.int .i64 0, .int .i64 0, .int .i64 0] []),
 sP (.store 3 (tP 2) (tP 83))])
 (.ret))))))))
def A63 : AFunc := { ntmps := 84, results := [.cell (some 3) 2], body := B63, coe := true, keep := 0 }
theorem tr63 : trFunc Tryz.prog M63 true Tryz.f63 = some A63 := by kernel_rfl
abbrev H64L2 : List Bool := [true, false, false, false, false, false, false, false, false, false, false, false, false, true, true]
abbrev X64L2 : List Bool := [true, false, true]
abbrev H64L15 : List Bool := [true, false, false, false, false, false, false, false, false, false, false, false, false, false, false, false, false, false, false, false, false, false, false, false, false, false, false, false, false, false, false, false, false, false, false, false, false, false, false, false, false, false, false, false, false, false, false, false, false, false, false, false, false, false, false, false, false, false, false, false, false, false, false, false, false, false, false, true, true]
abbrev X64L15 : List Bool := [true, false, true]
def M64 : Marks := { cut := fun _ => true, hd := fun | 2 => H64L2 | 15 => H64L15 | _ => [], ex := fun | 2 => X64L2 | 15 => X64L15 | _ => [], imm := fun | _ => false }
def B64L2 : ACode :=
 .seq (.region [oP 15 (.bin .lss (tP 14) (tP 13))])
 (.seq (.cond (tP 15) (.skip) (.exit 0))
 (.seq (.block 1 (.seq (.region [oP 16 (.mv (tP 14)),
 oP 3 (.mv (tP 16))])
 (.seq (.region [oP 17 (.mv (tP 0)),
 oP 18 (.mv (tP 3)),
 oP 19 (.call (.fn 85) [(tP 17), (tP 18)]),
 oP 4 (.mv (tP 19))])
 (.seq (.region [oP 20 (.mv (tP 4)),
 oP 21 (.isnil 1 true (tP 20))])
 (.cond (tP 21) (.seq (.region [oP 22 (.mv (tP 4)),
 oP 2 (.mv (tP 22))])
 (.ret)) (.skip))))))
 (.region [oP 23 (.bin .add (tP 14) (iP 1)),
 oP 14 (.mv (tP 23))])))
def B64L15 : ACode :=
 .seq (.region [oP 69 (.bin .lss (tP 68) (tP 67))])
 (.seq (.cond (tP 69) (.skip) (.exit 2))
 (.seq (.block 3 (.seq (.region [oP 70 (.mv (tP 68)),
 oP 6 (.mv (tP 70))])
 (.seq (.region [oP 71 (.mv (tP 0)),
 oP 72 (.mv (tP 6)),
 oP 73 (.call (.fn 89) [(tP 71), (tP 72)]),
 oP 7 (.mv (tP 73))])
 (.seq (.region [oP 74 (.mv (tP 7)),
 oP 75 (.isnil 1 true (tP 74))])
 (.cond (tP 75) (.seq (.region [oP 76 (.mv (tP 7)),
 oP 2 (.mv (tP 76))])
 (.ret)) (.skip))))))
 (.region [oP 77 (.bin .add (tP 68) (iP 1)),
 oP 68 (.mv (tP 77))])))
def B64 : ACode :=
 .seq (.region [oP 2 (.mv (.con (.nili)))])
 (.seq (.seq (.region [oP 8 (.mv (tP 0)),
 oP 9 (.nilchk (tP 8)),
 oP 10 (.addOff 0 (tP 9)),
 oP 11 (.addOff 1 (tP 10)),
 oP 12 (.load none (tP 11)),
 oP 13 (.len false (tP 12)),
 oP 14 (.mv (iP 0))])
 (.block 0 (.loop true H64L2 X64L2 B64L2)))
 (.seq (.region [oP 24 (.mv (tP 0)),
 oP 25 (.mv (tP 0)),
 oP 26 (.nilchk (tP 25)),
 oP 27 (.addOff 0 (tP 26)),
 oP 28 (.addOff 1 (tP 27)),
 oP 29 (.load none (tP 28)),
 oP 30 (.len false (tP 29)),
 oP 31 (.nilchk (tP 24)),
 oP 32 (.addOff 18 (tP 31)),
 sP (.store 1 (tP 32) (tP 30))])
 (.seq (.seq (.region [oP 33 (.mv (tP 0)),
 oP 34 (.mv (tP 0)),
 oP 35 (.nilchk (tP 34)),
 oP 36 (.addOff 0 (tP 35)),
 oP 37 (.addOff 4 (tP 36)),
 oP 38 (.load (some 3) (tP 37)),
 oP 39 (.call (.fn 86) [(tP 33), (tP 38)])])
 (.cond (tP 39) (.seq (.region [oP 40 (.mv (tP 0)),
 oP 41 (.nilchk (tP 40)),
 oP 42 (.addOff 0 (tP 41)),
 oP 43 (.addOff 8 (tP 42)),
 oP 44 (.addOff 1 (tP 43)),
 oP 45 (.load (some 2) (tP 44)),
 oP 46 (.call (.fn 87) [(iP 8), (tP 45)]),
 oP 2 (.mv (tP 46))])
 (.ret)) (.skip)))
 (.seq (.seq (.draw [oP 47 (.mv (tP 0)),
 oP 48 (.mv (tP 0)),
 oP 49 (.nilchk (tP 48)),
 oP 50 (.addOff 0 (tP 49)),
 oP 51 (.addOff 8 (tP 50)),
 oP 52 (.load (some 8) (tP 51)),
 oP 53 (.mv (tP 0)),
 oP 54 (.nilchk (tP 53)),
 oP 55 (.addOff 0 (tP 54)),
 oP 56 (.addOff 4 (tP 55)),
 oP 57 (.load (some 3) (tP 56)),
 oP 58 (.call (.fn 88) [(tP 47), (.con (.slice 4 [])), (tP 52), (tP 57)]),
 oP 5 (.mv (tP 58))] [])
 (.seq (.region [oP 59 (.mv (tP 5)),
 oP 60 (.isnil 1 true (tP 59))])
 (.cond (tP 60) (.seq (.region [oP 61 (.mv (tP 5)),
 oP 2 (.mv (tP 61))])
 (.ret)) (.skip))))
 (.seq (.seq (.region [oP 62 (.mv (tP 0)),
 oP 63 (.nilchk (tP 62)),
 oP 64 (.addOff 0 (tP 63)),
 oP 65 (.addOff 16 (tP 64)),
 oP 66 (.load none (tP 65)),
 oP 67 (.len false (tP 66)),
 oP 68 (.mv (iP 0))])
 (.block 2 (.loop true H64L15 X64L15 B64L15)))
 (.seq (.seq (.region [oP 78 (.mv (tP 0)),
 oP 79 (.nilchk (tP 78)),
 oP 80 (.addOff 0 (tP 79)),
 oP 81 (.addOff 3 (tP 80)),
 oP 82 (.load none (tP 81)),
 oP 83 (.bin .gtr (tP 82) (iP 0)),
 oP 84 (.mv (tP 83)),
 gP 85 84 true (.mv (tP 0)),
 gP 86 84 true (.nilchk (tP 85)),
 gP 87 84 true (.addOff 0 (tP 86)),
 gP 88 84 true (.addOff 16 (tP 87)),
 gP 89 84 true (.load none (tP 88)),
 gP 90 84 true (.call (.fn 90) [(tP 89), (.fn 91)]),
 gP 91 84 true (.un .not (tP 90)),
 oP 92 (.pick (tP 84) (tP 91) (bP false))])
 (.cond (tP 92) (.seq (.region [oP 93 (.mv (tP 0)),
 oP 94 (.nilchk (tP 93)),
 oP 95 (.addOff 0 (tP 94)),
 oP 96 (.addOff 8 (tP 95)),
 oP 97 (.addOff 1 (tP 96)),
 oP 98 (.load (some 2) (tP 97)),
 oP 99 (.call (.fn 87) [(iP 18), (tP 98)]),
 oP 2 (.mv (tP 99))])
 (.ret)) (.skip)))
 (.seq (.region [oP 2 (.mv (.con (.nili)))])
 (.ret))))))))
def A64 : AFunc := { ntmps := 100, results := [.tmp 2], body := B64, coe := true, keep := 0 }
theorem tr64 : trFunc Tryz.prog M64 true Tryz.f64 = some A64 := by kernel_rfl
def M65 : Marks := { cut := fun _ => true, hd := fun | _ => [], ex := fun | _ => [], imm := fun | 0 => true | _ => false }
def B65 : ACode :=
 .seq (.region [oP 0 (.mv (.con (.slice 4 [])))])
 (.seq (.region [oP 1 (.build [.str ⟨#[]⟩, .slice 3 []] [(0, 1, (.con (.str ⟨#[70, 97, 108, 115, 101]⟩)))]),
 oP 2 (.build [.str ⟨#[]⟩, .slice 3 []] [(0, 1, (.con (.str ⟨#[84, 114, 117, 101]⟩)))]),
 oP 3 (.lit false 0 2 2 [.str ⟨#[]⟩, .slice 3 []] [(0, (tP 1)), (1, (tP 2))]),
 oP 4 (.build [.int .i64 0, .int .i64 0, .str ⟨#[]⟩, .slice 2 []] [(2, 1, (.con (.str ⟨#[98, 111, 111, 108]⟩))), (3, 1, (tP 3))]),
 oP 5 (.build [.str ⟨#[]⟩, .slice 3 []] [(0, 1, (.con (.str ⟨#[68, 111, 110, 101]⟩)))]),
 oP 6 (.call (.fn 92) []),
 oP 7 (.call (.fn 93) []),
 oP 8 (.lit false 0 3 2 [.int .i64 0, .str ⟨#[]⟩, .slice 3 []] [(0, (tP 6)), (1, (tP 7))]),
 oP 9 (.build [.str ⟨#[]⟩, .slice 3 []] [(0, 1, (.con (.str ⟨#[83, 97, 121]⟩))), (1, 1, (tP 8))]),
 oP 10 (.build [.int .i64 0, .str ⟨#[]⟩, .slice 3 []] [(0, 1, (iP 1))]),
 oP 11 (.call (.fn 93) []),
 oP 12 (.lit false 0 3 2 [.int .i64 0, .str ⟨#[]⟩, .slice 3 []] [(0, (tP 10)), (1, (tP 11))]),
 oP 13 (.build [.str ⟨#[]⟩, .slice 3 []] [(0, 1, (.con (.str ⟨#[84, 101, 108, 108]⟩))), (1, 1, (tP 12))]),
 oP 14 (.call (.fn 92) []),
 oP 15 (.call (.fn 92) []),
 oP 16 (.call (.fn 93) []),
 oP 17 (.lit false 0 3 3 [.int .i64 0, .str ⟨#[]⟩, .slice 3 []] [(0, (tP 14)), (1, (tP 15)), (2, (tP 16))]),
 oP 18 (.build [.str ⟨#[]⟩, .slice 3 []] [(0, 1, (.con (.str ⟨#[65, 114, 109]⟩))), (1, 1, (tP 17))]),
 oP 19 (.call (.fn 92) []),
 oP 20 (.call (.fn 93) []),
 oP 21 (.lit false 0 3 2 [.int .i64 0, .str ⟨#[]⟩, .slice 3 []] [(0, (tP 19)), (1, (tP 20))]),
 oP 22 (.build [.str ⟨#[]⟩, .slice 3 []] [(0, 1, (.con (.str ⟨#[83, 116, 111, 112]⟩))), (1, 1, (tP 21))]),
 oP 23 (.lit false 0 2 5 [.str ⟨#[]⟩, .slice 3 []] [(0, (tP 5)), (1, (tP 9)), (2, (tP 13)), (3, (tP 18)), (4, (tP 22))]),
 oP 24 (.build [.int .i64 0, .int .i64 0, .str ⟨#[]⟩, .slice 2 []] [(2, 1, (.con (.str ⟨#[97, 99, 116]⟩))), (3, 1, (tP 23))]),
 oP 25 (.lit false 0 4 2 [.int .i64 0, .int .i64 0, .str ⟨#[]⟩, .slice 2 []] [(0, (tP 4)), (1, (tP 24))]),
 oP 0 (.mv (tP 25))])
 (.ret))
def A65 : AFunc := { ntmps := 26, results := [.tmp 0], body := B65, coe := true, keep := 0 }
theorem tr65 : trFunc Tryz.prog M65 true Tryz.f65 = some A65 := by kernel_rfl
abbrev H66L3 : List Bool := [false, true, true, true, false, false, false, true, true, true]
abbrev X66L3 : List Bool := [false, true, true, true]
def M66 : Marks := { cut := fun _ => true, hd := fun | 3 => H66L3 | _ => [], ex := fun | 3 => X66L3 | _ => [], imm := fun | 16 => true | _ => false }
def B66L3 : ACode :=
 .seq (.region [oP 10 (.bin .lss (tP 9) (tP 8))])
 (.seq (.cond (tP 10) (.skip) (.exit 0))
 (.seq (.block 1 (.seq (.region [oP 11 (.idxAddr 3 (tP 7) (tP 9)),
 oP 12 (.load (some 3) (tP 11)),
 oP 5 (.alloc [.ok (.int .i64 0), .ok (.str ⟨#[]⟩), .error 3]),
 sP (.store 3 (tP 5) (tP 12))])
 (.region [oP 13 (.mv (tP 3)),
 oP 14 (.load (some 3) (tP 5)),
 oP 15 (.call (.fn 66) [(tP 14)]),
 oP 16 (.lit true 0 3 1 [.int .i64 0, .str ⟨#[]⟩, .slice 3 []] [(0, (tP 15))]),
 oP 17 (.app false 0 3 48 (tP 13) (tP 16)),
 oP 3 (.mv (tP 17))])))
 (.region [oP 18 (.bin .add (tP 9) (iP 1)),
 oP 9 (.mv (tP 18))])))
def B66 : ACode :=
 .seq (.region [oP 1 (.box false (tP 0)),
 oP 2 (.alloc [.ok (.int .i64 0), .ok (.str ⟨#[]⟩), .error 3])])
 (.seq (.region [oP 3 (.nilrow 3)])
 (.seq (.seq (.region [oP 6 (.addOff 2 (tP 1)),
 oP 7 (.load none (tP 6)),
 oP 8 (.len false (tP 7)),
 oP 9 (.mv (iP 0))])
 (.block 0 (.loop true H66L3 X66L3 B66L3)))
 (.seq (.region [oP 19 (.mv (tP 3)),
 oP 20 (.addOff 2 (tP 1)),
 sP (.store 1 (tP 20) (tP 19))])
 (.seq (.region [oP 21 (.load (some 3) (tP 1)),
 sP (.store 3 (tP 2) (tP 21))])
 (.ret)))))
def A66 : AFunc := { ntmps := 22, results := [.cell (some 3) 2], body := B66, coe := true, keep := 0 }
theorem tr66 : trFunc Tryz.prog M66 true Tryz.f66 = some A66 := by kernel_rfl
def M67 : Marks := { cut := fun _ => true, hd := fun | _ => [], ex := fun | _ => [], imm := fun | 3 => true | 5 => true | _ => false, alts := fun | 3 => [[0, 1, 3, 4, 2, 5, 6, 7, 8, 9], [1, 2, 0, 3, 4, 5, 6, 7, 8, 9], [1, 3, 4, 2, 0, 5, 6, 7, 8, 9]] | _ => [] }
def B67 : ACode :=
 .seq (.region [oP 3 (.box true (tP 0)),
 oP 5 (.box true (tP 2)),
 oP 6 (.alloc [.ok (.int .i64 0), .ok (.str ⟨#[]⟩), .error 3]),
 oP 7 (.alloc [.ok (.int .i64 0), .ok (.int .i64 0), .ok (.int .i64 0)])])
 (.seq (.seq (.region [oP 11 (.load (some 17) (tP 3)),
 oP 12 (.call (.fn 79) [(tP 11)]),
 oP 13 (.un .not (tP 12)),
 oP 14 (.mv (tP 13)),
 gP 15 14 false (.load (some 8) (tP 5)),
 gP 16 14 false (.call (.fn 94) [(tP 15)]),
 gP 17 14 false (.un .not (tP 16)),
 oP 18 (.pick (tP 14) (bP true) (tP 17))])
 (.cond (tP 18) (.seq (.region [oP 19 (.build [.int .i64 0, .str ⟨#[]⟩, .slice 3 []] []),
 oP 20 (.build [.int .i64 0, .int .i64 0, .int .i64 0] [(0, 1, (iP 19))]),
 sP (.store 3 (tP 6) (tP 19)),
 sP (.store 3 (tP 7) (tP 20))])
 (.ret)) (.skip)))
 (.seq (.draw [oP 21 (.load (some 17) (tP 3)),
 oP 22 (.load (some 17) (tP 3)),
 oP 23 (.call (.fn 48) [(tP 22)]),
 oP 24 (.addOff 1 (tP 3)),
 oP 25 (.load none (tP 24)),
 oP 26 (.len false (tP 25)),
 oP 27 (.mv (tP 1)),
 oP 28 (.build [.slice 4 [], .slice 15 [], .int .i64 0, .int .i64 0, .int .i64 0, .str ⟨#[]⟩, .slice 3 [], .int .i64 0, .int .i64 0, .int .i64 0, .int .i64 0, .int .i64 0, .slice 1 [], .str ⟨#[]⟩, .slice 8 [], .slice 14 [], .slice 16 [], .slice 4 [], .int .i64 0, .slice 4 []] [(0, 17, (tP 21)), (17, 1, (tP 23)), (18, 1, (tP 26)), (19, 1, (tP 27))]),
 oP 29 (.box false (tP 28)),
 oP 8 (.mv (tP 29))] [[oP 21 (.load (some 17) (tP 3)), oP 22 (.load (some 17) (tP 3)), oP 24 (.addOff 1 (tP 3)), oP 25 (.load none (tP 24)), oP 23 (.call (.fn 48) [(tP 22)]), oP 26 (.len false (tP 25)), oP 27 (.mv (tP 1)), oP 28 (.build [.slice 4 [], .slice 15 [], .int .i64 0, .int .i64 0, .int .i64 0, .str ⟨#[]⟩, .slice 3 [], .int .i64 0, .int .i64 0, .int .i64 0, .int .i64 0, .int .i64 0, .slice 1 [], .str ⟨#[]⟩, .slice 8 [], .slice 14 [], .slice 16 [], .slice 4 [], .int .i64 0, .slice 4 []] [(0, 17, (tP 21)), (17, 1, (tP 23)), (18, 1, (tP 26)), (19, 1, (tP 27))]), oP 29 (.box false (tP 28)), oP 8 (.mv (tP 29))], [oP 22 (.load (some 17) (tP 3)), oP 23 (.call (.fn 48) [(tP 22)]), oP 21 (.load (some 17) (tP 3)), oP 24 (.addOff 1 (tP 3)), oP 25 (.load none (tP 24)), oP 26 (.len false (tP 25)), oP 27 (.mv (tP 1)), oP 28 (.build [.slice 4 [], .slice 15 [], .int .i64 0, .int .i64 0, .int .i64 0, .str ⟨#[]⟩, .slice 3 [], .int .i64 0, .int .i64 0, .int .i64 0, .int .i64 0, .int .i64 0, .slice 1 [], .str ⟨#[]⟩, .slice 8 [], .slice 14 [], .slice 16 [], .slice 4 [], .int .i64 0, .slice 4 []] [(0, 17, (tP 21)), (17, 1, (tP 23)), (18, 1, (tP 26)), (19, 1, (tP 27))]), oP 29 (.box false (tP 28)), oP 8 (.mv (tP 29))], [oP 22 (.load (some 17) (tP 3)), oP 24 (.addOff 1 (tP 3)), oP 25 (.load none (tP 24)), oP 23 (.call (.fn 48) [(tP 22)]), oP 21 (.load (some 17) (tP 3)), oP 26 (.len false (tP 25)), oP 27 (.mv (tP 1)), oP 28 (.build [.slice 4 [], .slice 15 [], .int .i64 0, .int .i64 0, .int .i64 0, .str ⟨#[]⟩, .slice 3 [], .int .i64 0, .int .i64 0, .int .i64 0, .int .i64 0, .int .i64 0, .slice 1 [], .str ⟨#[]⟩, .slice 8 [], .slice 14 [], .slice 16 [], .slice 4 [], .int .i64 0, .slice 4 []] [(0, 17, (tP 21)), (17, 1, (tP 23)), (18, 1, (tP 26)), (19, 1, (tP 27))]), oP 29 (.box false (tP 28)), oP 8 (.mv (tP 29))]])
 (.seq (.region [oP 31 (.mv (tP 8)),
 oP 32 (.load (some 8) (tP 5)),
 oP 33 (.call (.fn 95) [(tP 31), (tP 32)]),
 oP 30 (.mv (tP 33)),
 oP 34 (.ext 0 (tP 30)),
 oP 35 (.ext 1 (tP 30)),
 oP 9 (.alloc [.ok (.int .i64 0), .ok (.str ⟨#[]⟩), .error 3]),
 sP (.store 3 (tP 9) (tP 34)),
 oP 10 (.mv (tP 35))])
 (.seq (.seq (.region [oP 36 (.mv (tP 10)),
 oP 37 (.isnil 1 true (tP 36))])
 (.cond (tP 37) (.seq (.region [oP 38 (.build [.int .i64 0, .str ⟨#[]⟩, .slice 3 []] []),
 oP 39 (.mv (tP 10)),
 oP 40 (.call (.fn 96) [(tP 39)]),
 sP (.store 3 (tP 6) (tP 38)),
 sP (.store 3 (tP 7) (tP 40))])
 (.ret)) (.skip)))
 (.seq (.region [oP 41 (.load (some 3) (tP 9)),
 oP 42 (.build [.int .i64 0, .int .i64 0, .int .i64 0] []),
 sP (.store 3 (tP 6) (tP 41)),
 sP (.store 3 (tP 7) (tP 42))])
 (.ret))))))
def A67 : AFunc := { ntmps := 43, results := [.cell (some 3) 6, .cell (some 3) 7], body := B67, coe := true, keep := 0 }
theorem tr67 : trFunc Tryz.prog M67 true Tryz.f67 = some A67 := by kernel_rfl
def M68 : Marks := { cut := fun _ => true, hd := fun | _ => [], ex := fun | _ => [], imm := fun | 4 => true | _ => false }
def B68 : ACode :=
 .seq (.region [oP 4 (.mv (.con (.slice 4 [])))])
 (.seq (.region [oP 5 (.mv (tP 0)),
 oP 6 (.mv (tP 0)),
 oP 7 (.len false (tP 6)),
 oP 8 (.mv (tP 0)),
 oP 9 (.len false (tP 8)),
 oP 10 (.slc3 4 (tP 5) none (tP 7) (tP 9)),
 oP 11 (.mv (tP 1)),
 oP 12 (.app false 0 4 64 (tP 10) (tP 11)),
 oP 4 (.mv (tP 12))])
 (.ret))
def A68 : AFunc := { ntmps := 13, results := [.tmp 4], body := B68, coe := true, keep := 0 }
theorem tr68 : trFunc Tryz.prog M68 true Tryz.f68 = some A68 := by kernel_rfl
abbrev H69L4 : List Bool := [true, true, false, false, false, true, true, false, true, false, false, false, false, false, false, false, false, false, false, false, false, false, false, false, false, false, false, false, false, false, false, true, true, true]
abbrev X69L4 : List Bool := [true, true, false, false, false, true, true, false, true]
abbrev H69L16 : List Bool := [true, true, false, false, false, false, true, false, true, false, false, false, false, false, false, false, false, false, false, false, false, false, false, false, false, false, false, false, false, false, false, false, false, false, false, false, false, false, false, false, false, false, false, false, false, false, false, false, false, false, false, false, false, false, false, false, false, false, false, false, false, false, false, false, false, false, false, false, false, false, false, false, false, false, false, false, false, true, true, true]
abbrev X69L16 : List Bool := []
def M69 : Marks := { cut := fun _ => true, hd := fun | 4 => H69L4 | 16 => H69L16 | _ => [], ex := fun | 4 => X69L4 | 16 => X69L16 | _ => [], imm := fun | 5 => true | 40 => true | _ => false, alts := fun | 18 => [[0, 1, 2, 3, 4, 5, 6, 7, 8, 9, 14, 10, 11, 12, 13, 15, 16], [0, 1, 2, 3, 4, 5, 6, 7, 8, 14, 9, 10, 11, 12, 13, 15, 16], [0, 1, 2, 3, 4, 5, 6, 7, 9, 14, 8, 10, 11, 12, 13, 15, 16], [0, 1, 2, 3, 4, 5, 6, 7, 14, 8, 9, 10, 11, 12, 13, 15, 16], [0, 1, 2, 3, 5, 6, 7, 8, 9, 14, 4, 10, 11, 12, 13, 15, 16], [0, 1, 2, 3, 5, 6, 7, 8, 14, 4, 9, 10, 11, 12, 13, 15, 16], [0, 1, 2, 3, 5, 6, 7, 9, 14, 4, 8, 10, 11, 12, 13, 15, 16], [0, 1, 2, 3, 5, 6, 7, 14, 4, 8, 9, 10, 11, 12, 13, 15, 16]] | 19 => [[0, 1, 2, 4, 5, 3, 6]] | _ => [] }
def B69L4 : ACode :=
 .seq (.region [oP 34 (.bin .lss (tP 33) (tP 32))])
 (.seq (.cond (tP 34) (.skip) (.exit 0))
 (.seq (.block 1 (.seq (.region [oP 35 (.idxAddr 14 (tP 31) (tP 33)),
 oP 36 (.load (some 14) (tP 35)),
 oP 10 (.alloc [.ok (.int .i64 0), .ok (.int .i64 0), .ok (.int .i64 0), .ok (.str ⟨#[]⟩), .ok (.int .i64 0), .error 6, .ok (.int .i64 0), .ok (.int .i64 0), .ok (.int .i64 0), .ok (.int .i64 0), .error 1, .ok (.str ⟨#[]⟩), .error 8, .error 14]),
 sP (.store 14 (tP 10) (tP 36))])
 (.region [oP 37 (.mv (tP 8)),
 oP 38 (.addOff 0 (tP 10)),
 oP 39 (.load (some 6) (tP 38)),
 oP 40 (.lit true 0 6 1 [.int .i64 0, .int .i64 0, .int .i64 0, .str ⟨#[]⟩, .int .i64 0, .slice 6 []] [(0, (tP 39))]),
 oP 41 (.app false 0 6 72 (tP 37) (tP 40)),
 oP 8 (.mv (tP 41))])))
 (.region [oP 42 (.bin .add (tP 33) (iP 1)),
 oP 33 (.mv (tP 42))])))
def B69L16 : ACode :=
 .seq (.region [oP 80 (.bin .lss (tP 79) (tP 78))])
 (.seq (.cond (tP 80) (.skip) (.exit 2))
 (.seq (.block 3 (.seq (.region [oP 81 (.mv (tP 79)),
 oP 82 (.idxAddr 14 (tP 77) (tP 79)),
 oP 83 (.load (some 14) (tP 82)),
 oP 14 (.alloc [.ok (.int .i64 0), .ok (.int .i64 0), .ok (.int .i64 0), .ok (.str ⟨#[]⟩), .ok (.int .i64 0), .error 6, .ok (.int .i64 0), .ok (.int .i64 0), .ok (.int .i64 0), .ok (.int .i64 0), .error 1, .ok (.str ⟨#[]⟩), .error 8, .error 14]),
 oP 13 (.mv (tP 81)),
 sP (.store 14 (tP 14) (tP 83))])
 (.seq (.draw [oP 85 (.mv (tP 0)),
 oP 86 (.nilchk (tP 85)),
 oP 87 (.addOff 17 (tP 86)),
 oP 88 (.addOff 0 (tP 87)),
 oP 89 (.load none (tP 88)),
 oP 90 (.mv (tP 8)),
 oP 91 (.mv (tP 13)),
 oP 92 (.idxAddr 6 (tP 90) (tP 91)),
 oP 93 (.load (some 6) (tP 92)),
 oP 94 (.load (some 3) (tP 6)),
 oP 95 (.call (.fn 100) [(tP 89), (tP 93), (tP 94)]),
 oP 84 (.mv (tP 95)),
 oP 96 (.ext 0 (tP 84)),
 oP 97 (.ext 1 (tP 84)),
 oP 16 (.alloc [.ok (.int .i64 0), .ok (.int .i64 0), .ok (.int .i64 0)]),
 oP 15 (.mv (tP 96)),
 sP (.store 3 (tP 16) (tP 97))] [[oP 85 (.mv (tP 0)), oP 86 (.nilchk (tP 85)), oP 87 (.addOff 17 (tP 86)), oP 88 (.addOff 0 (tP 87)), oP 89 (.load none (tP 88)), oP 90 (.mv (tP 8)), oP 91 (.mv (tP 13)), oP 92 (.idxAddr 6 (tP 90) (tP 91)), oP 93 (.load (some 6) (tP 92)), oP 94 (.load (some 3) (tP 6)), oP 16 (.alloc [.ok (.int .i64 0), .ok (.int .i64 0), .ok (.int .i64 0)]), oP 95 (.call (.fn 100) [(tP 89), (tP 93), (tP 94)]), oP 84 (.mv (tP 95)), oP 96 (.ext 0 (tP 84)), oP 97 (.ext 1 (tP 84)), oP 15 (.mv (tP 96)), sP (.store 3 (tP 16) (tP 97))], [oP 85 (.mv (tP 0)), oP 86 (.nilchk (tP 85)), oP 87 (.addOff 17 (tP 86)), oP 88 (.addOff 0 (tP 87)), oP 89 (.load none (tP 88)), oP 90 (.mv (tP 8)), oP 91 (.mv (tP 13)), oP 92 (.idxAddr 6 (tP 90) (tP 91)), oP 93 (.load (some 6) (tP 92)), oP 16 (.alloc [.ok (.int .i64 0), .ok (.int .i64 0), .ok (.int .i64 0)]), oP 94 (.load (some 3) (tP 6)), oP 95 (.call (.fn 100) [(tP 89), (tP 93), (tP 94)]), oP 84 (.mv (tP 95)), oP 96 (.ext 0 (tP 84)), oP 97 (.ext 1 (tP 84)), oP 15 (.mv (tP 96)), sP (.store 3 (tP 16) (tP 97))], [oP 85 (.mv (tP 0)), oP 86 (.nilchk (tP 85)), oP 87 (.addOff 17 (tP 86)), oP 88 (.addOff 0 (tP 87)), oP 89 (.load none (tP 88)), oP 90 (.mv (tP 8)), oP 91 (.mv (tP 13)), oP 92 (.idxAddr 6 (tP 90) (tP 91)), oP 94 (.load (some 3) (tP 6)), oP 16 (.alloc [.ok (.int .i64 0), .ok (.int .i64 0), .ok (.int .i64 0)]), oP 93 (.load (some 6) (tP 92)), oP 95 (.call (.fn 100) [(tP 89), (tP 93), (tP 94)]), oP 84 (.mv (tP 95)), oP 96 (.ext 0 (tP 84)), oP 97 (.ext 1 (tP 84)), oP 15 (.mv (tP 96)), sP (.store 3 (tP 16) (tP 97))], [oP 85 (.mv (tP 0)), oP 86 (.nilchk (tP 85)), oP 87 (.addOff 17 (tP 86)), oP 88 (.addOff 0 (tP 87)), oP 89 (.load none (tP 88)), oP 90 (.mv (tP 8)), oP 91 (.mv (tP 13)), oP 92 (.idxAddr 6 (tP 90) (tP 91)), oP 16 (.alloc [.ok (.int .i64 0), .ok (.int .i64 0), .ok (.int .i64 0)]), oP 93 (.load (some 6) (tP 92)), oP 94 (.load (some 3) (tP 6)), oP 95 (.call (.fn 100) [(tP 89), (tP 93), (tP 94)]), oP 84 (.mv (tP 95)), oP 96 (.ext 0 (tP 84)), oP 97 (.ext 1 (tP 84)), oP 15 (.mv (tP 96)), sP (.store 3 (tP 16) (tP 97))], [oP 85 (.mv (tP 0)), oP 86 (.nilchk (tP 85)), oP 87 (.addOff 17 (tP 86)), oP 88 (.addOff 0 (tP 87)), oP 90 (.mv (tP 8)), oP 91 (.mv (tP 13)), oP 92 (.idxAddr 6 (tP 90) (tP 91)), oP 93 (.load (some 6) (tP 92)), oP 94 (.load (some 3) (tP 6)), oP 16 (.alloc [.ok (.int .i64 0), .ok (.int .i64 0), .ok (.int .i64 0)]), oP 89 (.load none (tP 88)), oP 95 (.call (.fn 100) [(tP 89), (tP 93), (tP 94)]), oP 84 (.mv (tP 95)), oP 96 (.ext 0 (tP 84)), oP 97 (.ext 1 (tP 84)), oP 15 (.mv (tP 96)), sP (.store 3 (tP 16) (tP 97))], [oP 85 (.mv (tP 0)), oP 86 (.nilchk (tP 85)), oP 87 (.addOff 17 (tP 86)), oP 88 (.addOff 0 (tP 87)), oP 90 (.mv (tP 8)), oP 91 (.mv (tP 13)), oP 92 (.idxAddr 6 (tP 90) (tP 91)), oP 93 (.load (some 6) (tP 92)), oP 16 (.alloc [.ok (.int .i64 0), .ok (.int .i64 0), .ok (.int .i64 0)]), oP 89 (.load none (tP 88)), oP 94 (.load (some 3) (tP 6)), oP 95 (.call (.fn 100) [(tP 89), (tP 93), (tP 94)]), oP 84 (.mv (tP 95)), oP 96 (.ext 0 (tP 84)), oP 97 (.ext 1 (tP 84)), oP 15 (.mv (tP 96)), sP (.store 3 (tP 16) (tP 97))], [oP 85 (.mv (tP 0)), oP 86 (.nilchk (tP 85)), oP 87 (.addOff 17 (tP 86)), oP 88 (.addOff 0 (tP 87)), oP 90 (.mv (tP 8)), oP 91 (.mv (tP 13)), oP 92 (.idxAddr 6 (tP 90) (tP 91)), oP 94 (.load (some 3) (tP 6)), oP 16 (.alloc [.ok (.int .i64 0), .ok (.int .i64 0), .ok (.int .i64 0)]), oP 89 (.load none (tP 88)), oP 93 (.load (some 6) (tP 92)), oP 95 (.call (.fn 100) [(tP 89), (tP 93), (tP 94)]), oP 84 (.mv (tP 95)), oP 96 (.ext 0 (tP 84)), oP 97 (.ext 1 (tP 84)), oP 15 (.mv (tP 96)), sP (.store 3 (tP 16) (tP 97))], [oP 85 (.mv (tP 0)), oP 86 (.nilchk (tP 85)), oP 87 (.addOff 17 (tP 86)), oP 88 (.addOff 0 (tP 87)), oP 90 (.mv (tP 8)), oP 91 (.mv (tP 13)), oP 92 (.idxAddr 6 (tP 90) (tP 91)), oP 16 (.alloc [.ok (.int .i64 0), .ok (.int .i64 0), .ok (.int .i64 0)]), oP 89 (.load none (tP 88)), oP 93 (.load (some 6) (tP 92)), oP 94 (.load (some 3) (tP 6)), oP 95 (.call (.fn 100) [(tP 89), (tP 93), (tP 94)]), oP 84 (.mv (tP 95)), oP 96 (.ext 0 (tP 84)), oP 97 (.ext 1 (tP 84)), oP 15 (.mv (tP 96)), sP (.store 3 (tP 16) (tP 97))]])
 (.draw [oP 98 (.mv (tP 0)),
 oP 99 (.mv (tP 1)),
 oP 100 (.mv (tP 15)),
 oP 101 (.call (.fn 68) [(tP 99), (tP 100)]),
 oP 102 (.addOff 6 (tP 14)),
 oP 103 (.load (some 8) (tP 102)),
 oP 104 (.call (.fn 49) [(tP 98), (tP 101), (tP 103)])] [[oP 98 (.mv (tP 0)), oP 99 (.mv (tP 1)), oP 100 (.mv (tP 15)), oP 102 (.addOff 6 (tP 14)), oP 103 (.load (some 8) (tP 102)), oP 101 (.call (.fn 68) [(tP 99), (tP 100)]), oP 104 (.call (.fn 49) [(tP 98), (tP 101), (tP 103)])]]))))
 (.region [oP 105 (.bin .add (tP 79) (iP 1)),
 oP 79 (.mv (tP 105))])))
def B69 : ACode :=
 .seq (.region [oP 5 (.box true (tP 2))])
 (.seq (.stuck)
 (.seq (.region [oP 8 (.nilrow 6)])
 (.seq (.seq (.region [oP 30 (.addOff 7 (tP 5)),
 oP 31 (.load none (tP 30)),
 oP 32 (.len false (tP 31)),
 oP 33 (.mv (iP 0))])
 (.block 0 (.loop true H69L4 X69L4 B69L4)))
 (.seq (.seq (.region [oP 43 (.mv (tP 8)),
 oP 44 (.call (.fn 97) [(tP 43)]),
 oP 45 (.bin .gtr (tP 44) (iP 64))])
 (.cond (tP 45) (.seq (.region [oP 46 (.mv (tP 0)),
 oP 47 (.addOff 1 (tP 5)),
 oP 48 (.load (some 2) (tP 47)),
 oP 49 (.call (.fn 98) [(tP 46), (iP 27), (tP 48)])])
 (.ret)) (.skip)))
 (.seq (.draw [oP 51 (.mv (tP 0)),
 oP 52 (.nilchk (tP 51)),
 oP 53 (.addOff 17 (tP 52)),
 oP 54 (.load (some 1) (tP 53)),
 oP 55 (.load (some 3) (tP 6)),
 oP 56 (.mv (tP 8)),
 oP 57 (.call (.fn 99) [(tP 54), (tP 55), (tP 56)]),
 oP 50 (.mv (tP 57)),
 oP 58 (.ext 0 (tP 50)),
 oP 59 (.ext 1 (tP 50)),
 oP 11 (.mv (tP 58)),
 oP 12 (.mv (tP 59))] [])
 (.seq (.seq (.region [oP 60 (.mv (tP 12)),
 oP 61 (.bin .geq (tP 60) (iP 0))])
 (.cond (tP 61) (.region [oP 62 (.mv (tP 0)),
 oP 63 (.mv (tP 8)),
 oP 64 (.mv (tP 12)),
 oP 65 (.idxAddr 6 (tP 63) (tP 64)),
 oP 66 (.addOff 1 (tP 65)),
 oP 67 (.load (some 2) (tP 66)),
 oP 68 (.call (.fn 98) [(tP 62), (iP 13), (tP 67)])]) (.skip)))
 (.seq (.seq (.region [oP 69 (.mv (tP 11)),
 oP 70 (.len false (tP 69)),
 oP 71 (.bin .gtr (tP 70) (iP 0))])
 (.cond (tP 71) (.region [oP 72 (.mv (tP 0)),
 oP 73 (.addOff 1 (tP 5)),
 oP 74 (.load (some 2) (tP 73)),
 oP 75 (.call (.fn 98) [(tP 72), (iP 12), (tP 74)])]) (.skip)))
 (.seq (.region [oP 76 (.addOff 7 (tP 5)),
 oP 77 (.load none (tP 76)),
 oP 78 (.len false (tP 77)),
 oP 79 (.mv (iP 0))])
 (.block 2 (.loop true H69L16 X69L16 B69L16))))))))))
def A69 : AFunc := { ntmps := 106, results := [], body := B69, coe := true, keep := 0 }
theorem tr69 : trFunc Tryz.prog M69 true Tryz.f69 = some A69 := by kernel_rfl
def M70 : Marks := { cut := fun _ => true, hd := fun | _ => [], ex := fun | _ => [], imm := fun | 2 => true | 3 => true | _ => false }
def B70 : ACode :=
 .seq (.region [oP 2 (.box true (tP 0)),
 oP 3 (.box true (tP 1)),
 oP 4 (.alloc [.ok (.int .i64 0), .ok (.int .i64 0)])])
 (.seq (.region [oP 5 (.addOff 0 (tP 2)),
 oP 6 (.load none (tP 5)),
 oP 7 (.addOff 0 (tP 3)),
 oP 8 (.load none (tP 7)),
 oP 9 (.bin .add (tP 6) (tP 8)),
 oP 10 (.addOff 1 (tP 2)),
 oP 11 (.load none (tP 10)),
 oP 12 (.addOff 1 (tP 3)),
 oP 13 (.load none (tP 12)),
 oP 14 (.mnmx true [(tP 11), (tP 13)]),
 oP 15 (.build [.int .i64 0, .int .i64 0] [(0, 1, (tP 9)), (1, 1, (tP 14))]),
 sP (.store 2 (tP 4) (tP 15))])
 (.ret))
def A70 : AFunc := { ntmps := 16, results := [.cell (some 2) 4], body := B70, coe := true, keep := 0 }
theorem tr70 : trFunc Tryz.prog M70 true Tryz.f70 = some A70 := by kernel_rfl
def M71 : Marks := { cut := fun _ => true, hd := fun | _ => [], ex := fun | _ => [], imm := fun | 2 => true | 3 => true | _ => false }
def B71 : ACode :=
 .seq (.region [oP 2 (.box true (tP 0)),
 oP 3 (.box true (tP 1)),
 oP 4 (.alloc [.ok (.int .i64 0), .ok (.int .i64 0)])])
 (.seq (.region [oP 5 (.addOff 0 (tP 2)),
 oP 6 (.load none (tP 5)),
 oP 7 (.addOff 0 (tP 3)),
 oP 8 (.load none (tP 7)),
 oP 9 (.bin .add (tP 6) (tP 8)),
 oP 10 (.addOff 1 (tP 2)),
 oP 11 (.load none (tP 10)),
 oP 12 (.addOff 1 (tP 3)),
 oP 13 (.load none (tP 12)),
 oP 14 (.bin .add (tP 11) (tP 13)),
 oP 15 (.build [.int .i64 0, .int .i64 0] [(0, 1, (tP 9)), (1, 1, (tP 14))]),
 sP (.store 2 (tP 4) (tP 15))])
 (.ret))
def A71 : AFunc := { ntmps := 16, results := [.cell (some 2) 4], body := B71, coe := true, keep := 0 }
theorem tr71 : trFunc Tryz.prog M71 true Tryz.f71 = some A71 := by kernel_rfl
def M72 : Marks := { cut := fun _ => true, hd := fun | _ => [], ex := fun | _ => [], imm := fun | 3 => true | 4 => true | _ => false }
def B72 : ACode :=
 .seq (.region [oP 3 (.box true (tP 0)),
 oP 4 (.box true (tP 1)),
 oP 6 (.mv (bP false))])
 (.seq (.seq (.region [oP 7 (.addOff 0 (tP 4)),
 oP 8 (.load none (tP 7)),
 oP 9 (.bin .neq (tP 8) (iP 5)),
 oP 10 (.mv (tP 9)),
 gP 11 10 false (.addOff 5 (tP 4)),
 gP 12 10 false (.load none (tP 11)),
 gP 13 10 false (.addOff 0 (tP 3)),
 gP 14 10 false (.load none (tP 13)),
 gP 15 10 false (.bin .neq (tP 12) (tP 14)),
 oP 16 (.pick (tP 10) (bP true) (tP 15))])
 (.cond (tP 16) (.seq (.region [oP 6 (.mv (bP true))])
 (.ret)) (.skip)))
 (.seq (.region [oP 17 (.addOff 1 (tP 3)),
 oP 18 (.load none (tP 17)),
 oP 19 (.addOff 6 (tP 4)),
 oP 20 (.load none (tP 19)),
 oP 21 (.len false (tP 20)),
 oP 22 (.bin .lss (tP 18) (tP 21)),
 oP 23 (.mv (tP 22)),
 gP 24 23 true (.addOff 6 (tP 4)),
 gP 25 23 true (.load none (tP 24)),
 gP 26 23 true (.addOff 1 (tP 3)),
 gP 27 23 true (.load none (tP 26)),
 gP 28 23 true (.idxAddr 8 (tP 25) (tP 27)),
 gP 29 23 true (.addOff 0 (tP 28)),
 gP 30 23 true (.load none (tP 29)),
 gP 31 23 true (.bin .eql (tP 30) (iP 2)),
 oP 32 (.pick (tP 23) (tP 31) (bP false)),
 oP 33 (.mv (tP 32)),
 gP 34 33 true (.mv (tP 2)),
 gP 35 33 true (.addOff 6 (tP 4)),
 gP 36 33 true (.load none (tP 35)),
 gP 37 33 true (.addOff 1 (tP 3)),
 gP 38 33 true (.load none (tP 37)),
 gP 39 33 true (.idxAddr 8 (tP 36) (tP 38)),
 gP 40 33 true (.addOff 5 (tP 39)),
 gP 41 33 true (.load none (tP 40)),
 gP 42 33 true (.mlook false (.str ⟨#[]⟩) (.int .i64 0) (tP 34) (tP 41)),
 gP 43 33 true (.bin .eql (tP 42) (iP 2)),
 oP 44 (.pick (tP 33) (tP 43) (bP false)),
 oP 6 (.mv (tP 44))])
 (.ret)))
def A72 : AFunc := { ntmps := 45, results := [.tmp 6], body := B72, coe := true, keep := 0 }
theorem tr72 : trFunc Tryz.prog M72 true Tryz.f72 = some A72 := by kernel_rfl
def M73 : Marks := { cut := fun _ => true, hd := fun | _ => [], ex := fun | _ => [], imm := fun | _ => false }
def B73 : ACode :=
 .seq (.region [oP 2 (.mv (.con (.nilm)))])
 (.seq (.seq (.region [oP 3 (.mv (tP 0)),
 oP 4 (.isnil 4 false (tP 3))])
 (.cond (tP 4) (.seq (.region [oP 2 (.mv (.con (.nilm)))])
 (.ret)) (.skip)))
 (.seq (.region [oP 5 (.mv (tP 0)),
 oP 6 (.mki 115 (tP 5)),
 oP 7 (.call (.fn 101) [(tP 6)]),
 oP 8 (.tass 115 false (.nilm) (tP 7)),
 oP 2 (.mv (tP 8))])
 (.ret)))
def A73 : AFunc := { ntmps := 9, results := [.tmp 2], body := B73, coe := true, keep := 0 }
theorem tr73 : trFunc Tryz.prog M73 true Tryz.f73 = some A73 := by kernel_rfl
abbrev H74L4 : List Bool := [false, false, true, true, false, false, false, true, true, false, false, false, false, false, false, false, false, false, false, false, false, false, false, false, false, false, false, false, false, false, false, false, false, false, false, true, true, true]
abbrev X74L4 : List Bool := [false, false, false, false, false, false, true]
def M74 : Marks := { cut := fun _ => true, hd := fun | 4 => H74L4 | _ => [], ex := fun | 4 => X74L4 | _ => [], imm := fun | 3 => true | 4 => true | _ => false }
def B74L4 : ACode :=
 .seq (.region [oP 38 (.bin .lss (tP 37) (tP 36))])
 (.seq (.cond (tP 38) (.skip) (.exit 0))
 (.seq (.block 1 (.seq (.region [oP 39 (.idxAddr 14 (tP 35) (tP 37)),
 oP 40 (.load (some 14) (tP 39)),
 oP 10 (.alloc [.ok (.int .i64 0), .ok (.int .i64 0), .ok (.int .i64 0), .ok (.str ⟨#[]⟩), .ok (.int .i64 0), .error 6, .ok (.int .i64 0), .ok (.int .i64 0), .ok (.int .i64 0), .ok (.int .i64 0), .error 1, .ok (.str ⟨#[]⟩), .error 8, .error 14]),
 sP (.store 14 (tP 10) (tP 40))])
 (.seq (.region [oP 41 (.load none (tP 8)),
 sP (.stuck)])
 (.seq (.region [oP 42 (.load none (tP 8)),
 oP 43 (.mv (tP 2)),
 oP 44 (.call (.fn 102) [(tP 42), (tP 43)])])
 (.seq (.region [oP 45 (.addOff 0 (tP 10)),
 oP 46 (.load (some 6) (tP 45)),
 oP 47 (.mkf (.func 104) [] [(tP 8)]),
 oP 48 (.call (.fn 103) [(tP 46), (bP false), (tP 47)])])
 (.seq (.region [oP 49 (.addOff 0 (tP 10)),
 oP 50 (.load (some 6) (tP 49)),
 oP 51 (.mkf (.func 105) [] [(tP 7), (tP 8)]),
 oP 52 (.call (.fn 103) [(tP 50), (bP false), (tP 51)])])
 (.seq (.region [oP 53 (.load (some 2) (tP 3)),
 oP 54 (.addOff 6 (tP 10)),
 oP 55 (.load (some 8) (tP 54)),
 oP 56 (.load none (tP 8)),
 oP 57 (.call (.fn 51) [(tP 53), (tP 55), (tP 56)]),
 oP 58 (.un .not (tP 57))])
 (.cond (tP 58) (.seq (.region [oP 6 (.mv (bP false))])
 (.ret)) (.skip)))))))))
 (.region [oP 59 (.bin .add (tP 37) (iP 1)),
 oP 37 (.mv (tP 59))])))
def B74 : ACode :=
 .seq (.region [oP 3 (.box true (tP 0)),
 oP 4 (.box true (tP 1)),
 oP 6 (.mv (bP false))])
 (.seq (.region [oP 11 (.addOff 6 (tP 4)),
 oP 12 (.load none (tP 11)),
 oP 13 (.len false (tP 12)),
 oP 14 (.bin .gtr (tP 13) (iP 0)),
 oP 15 (.mv (tP 14)),
 gP 16 15 true (.addOff 6 (tP 4)),
 gP 17 15 true (.load none (tP 16)),
 gP 18 15 true (.idxAddr 8 (tP 17) (iP 0)),
 gP 19 15 true (.addOff 0 (tP 18)),
 gP 20 15 true (.load none (tP 19)),
 gP 21 15 true (.bin .eql (tP 20) (iP 2)),
 oP 22 (.pick (tP 15) (tP 21) (bP false)),
 oP 23 (.mv (tP 22)),
 gP 24 23 true (.mv (tP 2)),
 gP 25 23 true (.addOff 6 (tP 4)),
 gP 26 23 true (.load none (tP 25)),
 gP 27 23 true (.idxAddr 8 (tP 26) (iP 0)),
 gP 28 23 true (.addOff 5 (tP 27)),
 gP 29 23 true (.load none (tP 28)),
 gP 30 23 true (.mlook false (.str ⟨#[]⟩) (.int .i64 0) (tP 24) (tP 29)),
 gP 31 23 true (.bin .gtr (tP 30) (iP 0)),
 oP 32 (.pick (tP 23) (tP 31) (bP false)),
 oP 7 (.alloc [.ok (.bool false)]),
 sP (.store 1 (tP 7) (tP 32))])
 (.seq (.region [oP 33 (.mkmap),
 oP 8 (.alloc [.ok (.nilm)]),
 sP (.store 1 (tP 8) (tP 33))])
 (.seq (.seq (.region [oP 34 (.addOff 7 (tP 4)),
 oP 35 (.load none (tP 34)),
 oP 36 (.len false (tP 35)),
 oP 37 (.mv (iP 0))])
 (.block 0 (.loop true H74L4 X74L4 B74L4)))
 (.seq (.region [oP 6 (.mv (bP true))])
 (.ret)))))
def A74 : AFunc := { ntmps := 60, results := [.tmp 6], body := B74, coe := true, keep := 0 }
theorem tr74 : trFunc Tryz.prog M74 true Tryz.f74 = some A74 := by kernel_rfl
def M75 : Marks := { cut := fun _ => true, hd := fun | _ => [], ex := fun | _ => [], imm := fun | 1 => true | _ => false }
def B75 : ACode :=
 .seq (.region [oP 1 (.box true (tP 0)),
 oP 2 (.mv (.con (.nilf)))])
 (.seq (.region [oP 3 (.mkf (.func 106) [] [(tP 1)]),
 oP 2 (.mv (tP 3))])
 (.ret))
def A75 : AFunc := { ntmps := 4, results := [.tmp 2], body := B75, coe := true, keep := 0 }
theorem tr75 : trFunc Tryz.prog M75 true Tryz.f75 = some A75 := by kernel_rfl
abbrev H76L3 : List Bool := [false, false, false, true, false, false, false, false, true, true, true]
abbrev X76L3 : List Bool := [false, false, false, true]
def M76 : Marks := { cut := fun _ => true, hd := fun | 3 => H76L3 | _ => [], ex := fun | 3 => X76L3 | _ => [], imm := fun | _ => false }
def B76L3 : ACode :=
 .seq (.region [oP 11 (.bin .lss (tP 10) (tP 9))])
 (.seq (.cond (tP 11) (.skip) (.exit 0))
 (.seq (.block 1 (.seq (.region [oP 12 (.idxAddr 6 (tP 8) (tP 10)),
 oP 13 (.load (some 6) (tP 12)),
 oP 5 (.alloc [.ok (.int .i64 0), .ok (.int .i64 0), .ok (.int .i64 0), .ok (.str ⟨#[]⟩), .ok (.int .i64 0), .error 6]),
 sP (.store 6 (tP 5) (tP 13))])
 (.region [oP 14 (.mv (tP 3)),
 oP 15 (.addOff 5 (tP 5)),
 oP 16 (.load none (tP 15)),
 oP 17 (.call (.fn 76) [(tP 16)]),
 oP 18 (.bin .add (tP 14) (tP 17)),
 oP 3 (.mv (tP 18))])))
 (.region [oP 19 (.bin .add (tP 10) (iP 1)),
 oP 10 (.mv (tP 19))])))
def B76 : ACode :=
 .seq (.region [oP 2 (.mv (iP 0))])
 (.seq (.region [oP 6 (.mv (tP 0)),
 oP 7 (.len false (tP 6)),
 oP 3 (.mv (tP 7))])
 (.seq (.seq (.region [oP 8 (.mv (tP 0)),
 oP 9 (.len false (tP 8)),
 oP 10 (.mv (iP 0))])
 (.block 0 (.loop true H76L3 X76L3 B76L3)))
 (.seq (.region [oP 20 (.mv (tP 3)),
 oP 2 (.mv (tP 20))])
 (.ret))))
def A76 : AFunc := { ntmps := 21, results := [.tmp 2], body := B76, coe := true, keep := 0 }
theorem tr76 : trFunc Tryz.prog M76 true Tryz.f76 = some A76 := by kernel_rfl
def M77 : Marks := { cut := fun _ => true, hd := fun | _ => [], ex := fun | _ => [], imm := fun | 2 => true | 3 => true | 4 => true | _ => false }
def B77 : ACode :=
 .seq (.region [oP 2 (.box true (tP 0)),
 oP 3 (.box true (tP 1)),
 oP 4 (.mv (.con (.slice 6 []))),
 oP 5 (.mv (bP false))])
 (.seq (.region [oP 7 (.build [.slice 6 []] []),
 oP 8 (.box false (tP 7)),
 oP 6 (.mv (tP 8))])
 (.seq (.seq (.region [oP 9 (.mv (tP 6)),
 oP 10 (.load (some 6) (tP 2)),
 oP 11 (.load (some 5) (tP 3)),
 oP 12 (.call (.fn 107) [(tP 9), (tP 10), (tP 11)]),
 oP 13 (.un .not (tP 12))])
 (.cond (tP 13) (.seq (.region [oP 4 (.mv (.con (.slice 6 []))),
 oP 5 (.mv (bP false))])
 (.ret)) (.skip)))
 (.seq (.region [oP 14 (.mv (tP 6)),
 oP 15 (.nilchk (tP 14)),
 oP 16 (.addOff 0 (tP 15)),
 oP 17 (.load none (tP 16)),
 oP 4 (.mv (tP 17)),
 oP 5 (.mv (bP true))])
 (.ret))))
def A77 : AFunc := { ntmps := 18, results := [.tmp 4, .tmp 5], body := B77, coe := true, keep := 0 }
theorem tr77 : trFunc Tryz.prog M77 true Tryz.f77 = some A77 := by kernel_rfl
abbrev H78L3 : List Bool := [true, false, false, true, false, false, false, false, false, true, true, true]
abbrev X78L3 : List Bool := [true, false, false, true]
abbrev H78L11 : List Bool := [false, false, false, false, false, false, true, false, false, false, false, false, false, false, false, false, false, false, false, false, false, false, false, false, false, true, true, true]
abbrev X78L11 : List Bool := [false, false, false, false, false, false, true]
def M78 : Marks := { cut := fun _ => true, hd := fun | 3 => H78L3 | 11 => H78L11 | _ => [], ex := fun | 3 => X78L3 | 11 => X78L11 | _ => [], imm := fun | 2 => true | 1000033 => true | 2000002 => true | _ => false }
def B78L3 : ACode :=
 .seq (.region [oP 12 (.bin .lss (tP 11) (tP 10))])
 (.seq (.cond (tP 12) (.skip) (.exit 0))
 (.seq (.block 1 (.seq (.region [oP 13 (.idxAddr 1 (tP 9) (tP 11)),
 oP 14 (.load none (tP 13)),
 oP 5 (.mv (tP 14))])
 (.seq (.region [oP 15 (.mv (tP 3)),
 oP 16 (.mv (tP 5)),
 oP 17 (.len false (tP 16)),
 oP 18 (.bin .add (tP 15) (tP 17)),
 oP 3 (.mv (tP 18))])
 (.seq (.region [oP 19 (.mv (tP 3)),
 oP 20 (.bin .lss (tP 19) (iP 0))])
 (.cond (tP 20) (.region [oP 21 (.mki 9 (.con (.str ⟨#[108, 101, 110, 32, 111, 117, 116, 32, 111, 102, 32, 114, 97, 110, 103, 101]⟩))),
 sP (.panic (tP 21))]) (.skip))))))
 (.region [oP 22 (.bin .add (tP 11) (iP 1)),
 oP 11 (.mv (tP 22))])))
def B78L11 : ACode :=
 .seq (.region [oP 28 (.bin .lss (tP 27) (tP 26))])
 (.seq (.cond (tP 28) (.skip) (.exit 2))
 (.seq (.block 3 (.seq (.region [oP 29 (.idxAddr 1 (tP 25) (tP 27)),
 oP 30 (.load none (tP 29)),
 oP 8 (.mv (tP 30))])
 (.region [oP 31 (.mv (tP 6)),
 oP 32 (.mv (tP 8)),
 oP 33 (.vapp 0 6 96 (tP 31) (tP 32)),
 oP 6 (.mv (tP 33))])))
 (.region [oP 34 (.bin .add (tP 27) (iP 1)),
 oP 27 (.mv (tP 34))])))
def B78 : ACode :=
 .seq (.region [oP 2 (.frz (.con (.slice 6 [])))])
 (.seq (.region [oP 3 (.mv (iP 0))])
 (.seq (.seq (.region [oP 9 (.mv (tP 0)),
 oP 10 (.len false (tP 9)),
 oP 11 (.mv (iP 0))])
 (.block 0 (.loop true H78L3 X78L3 B78L3)))
 (.seq (.region [oP 23 (.mv (tP 3)),
 oP 24 (.calln 6 (.fn 108) [(tP 23)]),
 oP 6 (.mv (tP 24))])
 (.seq (.seq (.region [oP 25 (.mv (tP 0)),
 oP 26 (.len false (tP 25)),
 oP 27 (.mv (iP 0))])
 (.block 2 (.loop true H78L11 X78L11 B78L11)))
 (.seq (.region [oP 35 (.mv (tP 6)),
 oP 2 (.frz (tP 35))])
 (.ret))))))
def A78 : AFunc := { ntmps := 36, results := [.tmp 2], body := B78, coe := true, keep := 0 }
theorem tr78 : trFunc Tryz.prog M78 true Tryz.f78 = some A78 := by kernel_rfl
def M79 : Marks := { cut := fun _ => true, hd := fun | _ => [], ex := fun | _ => [], imm := fun | 1 => true | _ => false }
def B79 : ACode :=
 .seq (.region [oP 1 (.box true (tP 0)),
 oP 2 (.mv (bP false))])
 (.seq (.seq (.region [oP 3 (.addOff 2 (tP 1)),
 oP 4 (.load none (tP 3)),
 oP 5 (.bin .lss (tP 4) (iP 1)),
 oP 6 (.mv (tP 5)),
 gP 7 6 false (.addOff 2 (tP 1)),
 gP 8 6 false (.load none (tP 7)),
 gP 9 6 false (.bin .gtr (tP 8) (iP 32)),
 oP 10 (.pick (tP 6) (bP true) (tP 9)),
 oP 11 (.mv (tP 10)),
 gP 12 11 false (.addOff 3 (tP 1)),
 gP 13 11 false (.load none (tP 12)),
 gP 14 11 false (.bin .lss (tP 13) (iP 0)),
 oP 15 (.pick (tP 11) (bP true) (tP 14)),
 oP 16 (.mv (tP 15)),
 gP 17 16 false (.addOff 3 (tP 1)),
 gP 18 16 false (.load none (tP 17)),
 gP 19 16 false (.bin .gtr (tP 18) (iP 32)),
 oP 20 (.pick (tP 16) (bP true) (tP 19)),
 oP 21 (.mv (tP 20)),
 gP 22 21 false (.addOff 7 (tP 1)),
 gP 23 21 false (.load none (tP 22)),
 gP 24 21 false (.bin .lss (tP 23) (iP 0)),
 oP 25 (.pick (tP 21) (bP true) (tP 24)),
 oP 26 (.mv (tP 25)),
 gP 27 26 false (.addOff 7 (tP 1)),
 gP 28 26 false (.load none (tP 27)),
 gP 29 26 false (.bin .gtr (tP 28) (iP 256)),
 oP 30 (.pick (tP 26) (bP true) (tP 29)),
 oP 31 (.mv (tP 30)),
 gP 32 31 false (.addOff 4 (tP 1)),
 gP 33 31 false (.load (some 3) (tP 32)),
 gP 34 31 false (.call (.fn 109) [(tP 33)]),
 gP 35 31 false (.un .not (tP 34)),
 oP 36 (.pick (tP 31) (bP true) (tP 35)),
 oP 37 (.mv (tP 36)),
 gP 38 37 false (.addOff 8 (tP 1)),
 gP 39 37 false (.load (some 8) (tP 38)),
 gP 40 37 false (.call (.fn 94) [(tP 39)]),
 gP 41 37 false (.un .not (tP 40)),
 oP 42 (.pick (tP 37) (bP true) (tP 41))])
 (.cond (tP 42) (.seq (.region [oP 2 (.mv (bP false))])
 (.ret)) (.skip)))
 (.seq (.region [oP 43 (.addOff 0 (tP 1)),
 oP 44 (.load none (tP 43)),
 oP 45 (.call (.fn 110) [(tP 44), (iP 0), (iP 32), (.fn 111)]),
 oP 46 (.mv (tP 45)),
 gP 47 46 true (.addOff 1 (tP 1)),
 gP 48 46 true (.load none (tP 47)),
 gP 49 46 true (.call (.fn 112) [(tP 48), (iP 0), (iP 48), (.fn 113)]),
 oP 50 (.pick (tP 46) (tP 49) (bP false)),
 oP 51 (.mv (tP 50)),
 gP 52 51 true (.addOff 16 (tP 1)),
 gP 53 51 true (.load none (tP 52)),
 gP 54 51 true (.call (.fn 114) [(tP 53), (iP 0), (iP 16), (.fn 115)]),
 oP 55 (.pick (tP 51) (tP 54) (bP false)),
 oP 2 (.mv (tP 55))])
 (.ret)))
def A79 : AFunc := { ntmps := 56, results := [.tmp 2], body := B79, coe := true, keep := 0 }
theorem tr79 : trFunc Tryz.prog M79 true Tryz.f79 = some A79 := by kernel_rfl
def M80 : Marks := { cut := fun _ => true, hd := fun | _ => [], ex := fun | _ => [], imm := fun | _ => false }
def B80 : ACode :=
 .seq (.region [oP 4 (.mv (bP false))])
 (.seq (.region [oP 5 (.mv (tP 0)),
 oP 6 (.mv (tP 1)),
 oP 7 (.call (.fn 116) [(tP 5), (tP 6)]),
 oP 8 (.bin .geq (tP 7) (iP 0)),
 oP 4 (.mv (tP 8))])
 (.ret))
def A80 : AFunc := { ntmps := 9, results := [.tmp 4], body := B80, coe := true, keep := 0 }
theorem tr80 : trFunc Tryz.prog M80 true Tryz.f80 = some A80 := by kernel_rfl
def M81 : Marks := { cut := fun _ => true, hd := fun | _ => [], ex := fun | _ => [], imm := fun | 2 => true | _ => false }
def B81 : ACode :=
 .seq (.region [oP 2 (.box true (tP 0)),
 oP 3 (.mv (bP false))])
 (.seq (.region [oP 4 (.load none (tP 1)),
 oP 5 (.addOff 1 (tP 2)),
 oP 6 (.load none (tP 5)),
 oP 7 (.build [.int .i64 0, .str ⟨#[]⟩, .slice 3 []] [(0, 1, (iP 3)), (2, 1, (tP 6))]),
 oP 8 (.call (.fn 82) [(tP 4), (tP 7)]),
 oP 9 (.un .not (tP 8)),
 oP 3 (.mv (tP 9))])
 (.ret))
def A81 : AFunc := { ntmps := 10, results := [.tmp 3], body := B81, coe := true, keep := 0 }
theorem tr81 : trFunc Tryz.prog M81 true Tryz.f81 = some A81 := by kernel_rfl
def M82 : Marks := { cut := fun _ => true, hd := fun | _ => [], ex := fun | _ => [], imm := fun | 3 => true | _ => false }
def B82 : ACode :=
 .seq (.region [oP 2 (.box false (tP 0)),
 oP 3 (.box true (tP 1)),
 oP 4 (.mv (bP false))])
 (.seq (.seq (.region [oP 5 (.addOff 0 (tP 3)),
 oP 6 (.load none (tP 5)),
 oP 7 (.bin .eql (tP 6) (iP 2)),
 oP 8 (.mv (tP 7)),
 gP 9 8 true (.load none (tP 2)),
 gP 10 8 true (.addOff 1 (tP 3)),
 gP 11 8 true (.load none (tP 10)),
 gP 12 8 true (.call (.fn 117) [(tP 9), (tP 11)]),
 gP 13 8 true (.bin .lss (tP 12) (iP 0)),
 oP 14 (.pick (tP 8) (tP 13) (bP false))])
 (.cond (tP 14) (.seq (.region [oP 4 (.mv (bP false))])
 (.ret)) (.skip)))
 (.seq (.region [oP 15 (.addOff 2 (tP 3)),
 oP 16 (.load none (tP 15)),
 oP 17 (.mkf (.func 119) [] [(tP 2)]),
 oP 18 (.call (.fn 118) [(tP 16), (tP 17)]),
 oP 19 (.un .not (tP 18)),
 oP 4 (.mv (tP 19))])
 (.ret)))
def A82 : AFunc := { ntmps := 20, results := [.tmp 4], body := B82, coe := true, keep := 0 }
theorem tr82 : trFunc Tryz.prog M82 true Tryz.f82 = some A82 := by kernel_rfl
abbrev H83L2 : List Bool := [true, true, false, false, false, false, false, true, true]
abbrev X83L2 : List Bool := [false, false, false, false, true]
def M83 : Marks := { cut := fun _ => true, hd := fun | 2 => H83L2 | _ => [], ex := fun | 2 => X83L2 | _ => [], imm := fun | _ => false }
def B83L2 : ACode :=
 .seq (.region [oP 9 (.bin .lss (tP 8) (tP 7))])
 (.seq (.cond (tP 9) (.skip) (.exit 0))
 (.seq (.block 1 (.seq (.region [oP 10 (.mv (tP 8)),
 oP 5 (.mv (tP 10))])
 (.seq (.region [oP 11 (.mv (tP 1)),
 oP 12 (.mv (tP 0)),
 oP 13 (.mv (tP 5)),
 oP 14 (.idxAddr 1 (tP 12) (tP 13)),
 oP 15 (.load none (tP 14)),
 oP 16 (.eqb false (tP 11) (tP 15))])
 (.cond (tP 16) (.seq (.region [oP 17 (.mv (tP 5)),
 oP 4 (.mv (tP 17))])
 (.ret)) (.skip)))))
 (.region [oP 18 (.bin .add (tP 8) (iP 1)),
 oP 8 (.mv (tP 18))])))
def B83 : ACode :=
 .seq (.region [oP 4 (.mv (iP 0))])
 (.seq (.seq (.region [oP 6 (.mv (tP 0)),
 oP 7 (.len false (tP 6)),
 oP 8 (.mv (iP 0))])
 (.block 0 (.loop true H83L2 X83L2 B83L2)))
 (.seq (.region [oP 4 (.mv (iP (-1)))])
 (.ret)))
def A83 : AFunc := { ntmps := 19, results := [.tmp 4], body := B83, coe := true, keep := 0 }
theorem tr83 : trFunc Tryz.prog M83 true Tryz.f83 = some A83 := by kernel_rfl
abbrev S84R0 : List Bool := [false, false, false, true]
abbrev H84L7 : List Bool := [true, false, false, true, false, false, false, false, false, false, false, false, false, false, false, false, false, false, false, false, false, false, false, false, false, false, true, true, true]
abbrev X84L7 : List Bool := [true, false, false, true]
abbrev H84L5000000 : List Bool := [true, false, false, true]
abbrev X84L5000000 : List Bool := [true, false, true, true]
def M84 : Marks := { cut := fun _ => true, hd := fun | 7 => H84L7 | 5000000 => H84L5000000 | _ => [], ex := fun | 7 => X84L7 | 5000000 => X84L5000000 | _ => [], imm := fun | 2 => true | 2000002 => true | _ => false, sn := fun | 5 => [false, false, false, true] | _ => [] }
def N84R0 : ACode :=
 .seq (.region [oP 4 (.mv (tP 17))])
 (.region [oP 5 (.alloc [.ok (.int .i64 0), .ok (.int .i64 0), .ok (.str ⟨#[]⟩), .error 2]),
 sP (.store 4 (tP 5) (tP 18))])
def B84R0 : ACode :=
 .block 1 (.draw [oP 19 (.load none (tP 3)),
 oP 20 (.nilchk (tP 19)),
 oP 21 (.addOff 1 (tP 20)),
 oP 22 (.load none (tP 21)),
 oP 23 (.addOff 2 (tP 5)),
 oP 24 (.load none (tP 23)),
 oP 25 (.mv (tP 4)),
 sP (.mupd (.str ⟨#[]⟩) (tP 22) (tP 24) (tP 25))] [])
def B84L7 : ACode :=
 .seq (.region [oP 29 (.bin .lss (tP 28) (tP 27))])
 (.seq (.cond (tP 29) (.skip) (.exit 2))
 (.seq (.block 3 (.seq (.region [oP 30 (.mv (tP 28)),
 oP 31 (.idxAddr 4 (tP 26) (tP 28)),
 oP 32 (.load (some 4) (tP 31)),
 oP 7 (.alloc [.ok (.int .i64 0), .ok (.int .i64 0), .ok (.str ⟨#[]⟩), .error 2]),
 oP 6 (.mv (tP 30)),
 sP (.store 4 (tP 7) (tP 32))])
 (.seq (.region [oP 33 (.load none (tP 3)),
 oP 34 (.nilchk (tP 33)),
 oP 35 (.addOff 2 (tP 34)),
 oP 36 (.load none (tP 35)),
 oP 37 (.mv (tP 6)),
 oP 38 (.idxAddr 1 (tP 36) (tP 37)),
 oP 39 (.load none (tP 38)),
 oP 40 (.un .not (tP 39)),
 oP 41 (.mv (tP 40)),
 gP 42 41 true (.addOff 3 (tP 7)),
 gP 43 41 true (.load none (tP 42)),
 gP 44 41 true (.mkf (.func 121) [] [(tP 3)]),
 gP 45 41 true (.call (.fn 80) [(tP 43), (tP 44)]),
 oP 46 (.pick (tP 41) (tP 45) (bP false))])
 (.cond (tP 46) (.seq (.region [oP 47 (.load none (tP 3)),
 oP 48 (.nilchk (tP 47)),
 oP 49 (.addOff 2 (tP 48)),
 oP 50 (.load none (tP 49)),
 oP 51 (.mv (tP 6)),
 oP 52 (.idxAddr 1 (tP 50) (tP 51)),
 sP (.store 1 (tP 52) (bP true))])
 (.exit 1000000)) (.skip)))))
 (.region [oP 53 (.bin .add (tP 28) (iP 1)),
 oP 28 (.mv (tP 53))])))
def B84L5000000 : ACode :=
 .block 1000000 (.seq (.seq (.skip)
 (.seq (.seq (.region [oP 26 (.mv (tP 0)),
 oP 27 (.len false (tP 26)),
 oP 28 (.mv (iP 0))])
 (.block 2 (.loop true H84L7 X84L7 B84L7)))
 (.seq (.region [oP 54 (.load none (tP 3)),
 oP 55 (.nilchk (tP 54)),
 oP 56 (.addOff 2 (tP 55)),
 oP 57 (.load none (tP 56)),
 oP 2 (.frz (tP 57))])
 (.ret))))
 (.exit 2000000))
def B84 : ACode :=
 .seq (.region [oP 2 (.frz (.con (.slice 1 [])))])
 (.block 2000000 (.seq (.block 1000000 (.seq (.seq (.region [oP 8 (.mv (tP 0)),
 oP 9 (.mkmap),
 oP 10 (.mv (tP 0)),
 oP 11 (.len false (tP 10)),
 oP 12 (.vmake false 0 1 1 [.bool false] (tP 11) (tP 11)),
 oP 13 (.build [.slice 4 [], .nilm, .slice 1 []] [(0, 1, (tP 8)), (1, 1, (tP 9)), (2, 1, (tP 12))]),
 oP 14 (.box false (tP 13)),
 oP 3 (.alloc [.ok (.nilp)]),
 sP (.store 1 (tP 3) (tP 14))])
 (.seq (.seq (.region [oP 15 (.mv (tP 0)),
 oP 16 (.call (.fn 120) [(tP 15)])])
 (.block 0 (.rangeFn (tP 16) [17, 18] [false, false, false, true] N84R0 B84R0)))
 (.seq (.block 3000000 (.skip))
 (.seq (.seq (.region [oP 26 (.mv (tP 0)),
 oP 27 (.len false (tP 26)),
 oP 28 (.mv (iP 0))])
 (.block 2 (.loop true H84L7 X84L7 B84L7)))
 (.seq (.region [oP 54 (.load none (tP 3)),
 oP 55 (.nilchk (tP 54)),
 oP 56 (.addOff 2 (tP 55)),
 oP 57 (.load none (tP 56)),
 oP 2 (.frz (tP 57))])
 (.ret))))))
 (.exit 2000000))) (.loop true H84L5000000 X84L5000000 B84L5000000)))
def A84 : AFunc := { ntmps := 58, results := [.tmp 2], body := B84, coe := true, keep := 0 }
theorem tr84 : trFunc Tryz.prog M84 true Tryz.f84 = some A84 := by kernel_rfl
abbrev H85L5 : List Bool := [true, true, false, false, false, true, true, true, false, false, false, false, false, false, false, false, false, false, false, false, false, false, false, false, true, true, true]
abbrev X85L5 : List Bool := [true, true, false, false, false, true, true, true]
def M85 : Marks := { cut := fun _ => true, hd := fun | 5 => H85L5 | _ => [], ex := fun | 5 => X85L5 | _ => [], imm := fun | _ => false, alts := fun | 7 => [[0, 1, 3, 4, 5, 6, 7, 8, 2, 9, 10, 11]] | _ => [] }
def B85L5 : ACode :=
 .seq (.region [oP 27 (.bin .lss (tP 26) (tP 25))])
 (.seq (.cond (tP 27) (.skip) (.exit 0))
 (.seq (.block 1 (.seq (.region [oP 28 (.idxAddr 4 (tP 24) (tP 26)),
 oP 29 (.load (some 4) (tP 28)),
 oP 9 (.alloc [.ok (.str ⟨#[]⟩), .ok (.int .i64 0), .ok (.str ⟨#[]⟩), .error 3]),
 sP (.store 4 (tP 9) (tP 29))])
 (.draw [oP 30 (.mv (tP 6)),
 oP 31 (.addOff 0 (tP 9)),
 oP 32 (.load none (tP 31)),
 oP 33 (.mv (tP 7)),
 oP 34 (.mv (tP 33)),
 gP 35 34 false (.mv (tP 0)),
 gP 36 34 false (.addOff 1 (tP 9)),
 gP 37 34 false (.load (some 3) (tP 36)),
 gP 38 34 false (.call (.fn 86) [(tP 35), (tP 37)]),
 oP 39 (.pick (tP 34) (bP true) (tP 38)),
 sP (.mupd (.str ⟨#[]⟩) (tP 30) (tP 32) (bP true)),
 oP 7 (.mv (tP 39))] [[oP 30 (.mv (tP 6)), oP 31 (.addOff 0 (tP 9)), oP 33 (.mv (tP 7)), oP 34 (.mv (tP 33)), gP 35 34 false (.mv (tP 0)), gP 36 34 false (.addOff 1 (tP 9)), gP 37 34 false (.load (some 3) (tP 36)), gP 38 34 false (.call (.fn 86) [(tP 35), (tP 37)]), oP 32 (.load none (tP 31)), oP 39 (.pick (tP 34) (bP true) (tP 38)), sP (.mupd (.str ⟨#[]⟩) (tP 30) (tP 32) (bP true)), oP 7 (.mv (tP 39))]])))
 (.region [oP 40 (.bin .add (tP 26) (iP 1)),
 oP 26 (.mv (tP 40))])))
def B85 : ACode :=
 .seq (.region [oP 4 (.mv (.con (.nili)))])
 (.seq (.region [oP 10 (.mv (tP 0)),
 oP 11 (.nilchk (tP 10)),
 oP 12 (.addOff 0 (tP 11)),
 oP 13 (.addOff 1 (tP 12)),
 oP 14 (.load none (tP 13)),
 oP 15 (.mv (tP 1)),
 oP 16 (.idxAddr 15 (tP 14) (tP 15)),
 oP 17 (.load (some 15) (tP 16)),
 oP 5 (.alloc [.ok (.int .i64 0), .ok (.int .i64 0), .ok (.str ⟨#[]⟩), .error 4, .ok (.int .i64 0), .ok (.str ⟨#[]⟩), .error 3, .ok (.int .i64 0), .ok (.int .i64 0), .ok (.int .i64 0), .ok (.int .i64 0), .error 1, .ok (.str ⟨#[]⟩), .error 8, .error 14]),
 sP (.store 15 (tP 5) (tP 17))])
 (.seq (.region [oP 18 (.mkmap),
 oP 6 (.mv (tP 18))])
 (.seq (.region [oP 19 (.mv (tP 0)),
 oP 20 (.addOff 4 (tP 5)),
 oP 21 (.load (some 3) (tP 20)),
 oP 22 (.call (.fn 86) [(tP 19), (tP 21)]),
 oP 7 (.mv (tP 22))])
 (.seq (.seq (.region [oP 23 (.addOff 3 (tP 5)),
 oP 24 (.load none (tP 23)),
 oP 25 (.len false (tP 24)),
 oP 26 (.mv (iP 0))])
 (.block 0 (.loop true H85L5 X85L5 B85L5)))
 (.seq (.block 2 (.seq (.seq (.region [oP 42 (.mv (tP 6)),
 oP 43 (.lenm (tP 42)),
 oP 44 (.addOff 3 (tP 5)),
 oP 45 (.load none (tP 44)),
 oP 46 (.len false (tP 45)),
 oP 47 (.bin .lss (tP 43) (tP 46)),
 oP 41 (.mv (tP 47))])
 (.cond (tP 41) (.skip) (.region [oP 48 (.mv (tP 0)),
 oP 49 (.nilchk (tP 48)),
 oP 50 (.addOff 0 (tP 49)),
 oP 51 (.addOff 1 (tP 50)),
 oP 52 (.load none (tP 51)),
 oP 53 (.mv (tP 1)),
 oP 54 (.slc 15 (tP 52) none (some (tP 53))),
 oP 55 (.mkf (.func 124) [] [(tP 5)]),
 oP 56 (.call (.fn 123) [(tP 54), (tP 55)]),
 oP 41 (.mv (tP 56))])))
 (.cond (tP 41) (.seq (.region [oP 57 (.addOff 0 (tP 5)),
 oP 58 (.load (some 2) (tP 57)),
 oP 59 (.call (.fn 87) [(iP 9), (tP 58)]),
 oP 4 (.mv (tP 59))])
 (.ret)) (.seq (.region [oP 61 (.mv (tP 7)),
 oP 60 (.mv (tP 61))])
 (.cond (tP 60) (.seq (.region [oP 62 (.addOff 0 (tP 5)),
 oP 63 (.load (some 2) (tP 62)),
 oP 64 (.call (.fn 87) [(iP 8), (tP 63)]),
 oP 4 (.mv (tP 64))])
 (.ret)) (.skip))))))
 (.seq (.region [oP 65 (.mv (tP 0)),
 oP 66 (.mv (tP 1)),
 oP 67 (.nilchk (tP 65)),
 oP 68 (.addOff 18 (tP 67)),
 sP (.store 1 (tP 68) (tP 66))])
 (.seq (.region [oP 69 (.mv (tP 0)),
 oP 70 (.addOff 3 (tP 5)),
 oP 71 (.load none (tP 70)),
 oP 72 (.addOff 7 (tP 5)),
 oP 73 (.load (some 8) (tP 72)),
 oP 74 (.addOff 4 (tP 5)),
 oP 75 (.load (some 3) (tP 74)),
 oP 76 (.call (.fn 88) [(tP 69), (tP 71), (tP 73), (tP 75)]),
 oP 4 (.mv (tP 76))])
 (.ret))))))))
def A85 : AFunc := { ntmps := 77, results := [.tmp 4], body := B85, coe := true, keep := 0 }
theorem tr85 : trFunc Tryz.prog M85 true Tryz.f85 = some A85 := by kernel_rfl
def M86 : Marks := { cut := fun _ => true, hd := fun | _ => [], ex := fun | _ => [], imm := fun | 3 => true | _ => false }
def B86 : ACode :=
 .seq (.region [oP 3 (.box true (tP 1)),
 oP 4 (.mv (bP false))])
 (.seq (.draw [oP 5 (.mv (tP 0)),
 oP 6 (.nilchk (tP 5)),
 oP 7 (.addOff 17 (tP 6)),
 oP 8 (.load none (tP 7)),
 oP 9 (.load (some 3) (tP 3)),
 oP 10 (.call (.fn 82) [(tP 8), (tP 9)]),
 oP 11 (.un .not (tP 10)),
 oP 4 (.mv (tP 11))] [])
 (.ret))
def A86 : AFunc := { ntmps := 12, results := [.tmp 4], body := B86, coe := true, keep := 0 }
theorem tr86 : trFunc Tryz.prog M86 true Tryz.f86 = some A86 := by kernel_rfl
def M87 : Marks := { cut := fun _ => true, hd := fun | _ => [], ex := fun | _ => [], imm := fun | 3 => true | _ => false }
def B87 : ACode :=
 .seq (.region [oP 3 (.box true (tP 1)),
 oP 4 (.mv (.con (.nili)))])
 (.seq (.region [oP 5 (.mv (tP 0)),
 oP 6 (.load (some 2) (tP 3)),
 oP 7 (.build [.int .i64 0, .int .i64 0, .int .i64 0] [(0, 1, (tP 5)), (1, 2, (tP 6))]),
 oP 8 (.build [.int .i64 0, .int .i64 0, .int .i64 0] [(0, 3, (tP 7))]),
 oP 9 (.box false (tP 8)),
 oP 10 (.mki 130 (tP 9)),
 oP 4 (.mv (tP 10))])
 (.ret))
def A87 : AFunc := { ntmps := 11, results := [.tmp 4], body := B87, coe := true, keep := 0 }
theorem tr87 : trFunc Tryz.prog M87 true Tryz.f87 = some A87 := by kernel_rfl
def M88 : Marks := { cut := fun _ => true, hd := fun | _ => [], ex := fun | _ => [], imm := fun | 6 => true | 7 => true | _ => false }
def B88 : ACode :=
 .seq (.region [oP 6 (.box true (tP 2)),
 oP 7 (.box true (tP 3)),
 oP 8 (.mv (.con (.nili)))])
 (.seq (.region [oP 9 (.mv (tP 0)),
 oP 10 (.mv (tP 1)),
 oP 11 (.nilchk (tP 9)),
 oP 12 (.addOff 19 (tP 11)),
 sP (.store 1 (tP 12) (tP 10))])
 (.seq (.region [oP 13 (.mv (tP 0)),
 oP 14 (.load (some 8) (tP 6)),
 oP 15 (.load (some 3) (tP 7)),
 oP 16 (.call (.fn 125) [(tP 13), (tP 14), (tP 15)]),
 oP 8 (.mv (tP 16))])
 (.ret)))
def A88 : AFunc := { ntmps := 17, results := [.tmp 8], body := B88, coe := true, keep := 0 }
theorem tr88 : trFunc Tryz.prog M88 true Tryz.f88 = some A88 := by kernel_rfl
def M89 : Marks := { cut := fun _ => true, hd := fun | _ => [], ex := fun | _ => [], imm := fun | 55 => true | _ => false, alts := fun | 6 => [[0, 1, 2, 3, 4, 5, 8, 6, 7, 9], [0, 1, 2, 3, 4, 8, 5, 6, 7, 9], [0, 1, 2, 3, 8, 4, 5, 6, 7, 9], [0, 1, 2, 3, 5, 4, 6, 7, 8, 9], [0, 1, 2, 3, 5, 4, 8, 6, 7, 9], [0, 1, 2, 3, 5, 8, 4, 6, 7, 9], [0, 1, 2, 3, 8, 5, 4, 6, 7, 9]] | _ => [] }
def B89 : ACode :=
 .seq (.region [oP 4 (.mv (.con (.nili)))])
 (.seq (.region [oP 8 (.mv (tP 0)),
 oP 9 (.nilchk (tP 8)),
 oP 10 (.addOff 0 (tP 9)),
 oP 11 (.addOff 16 (tP 10)),
 oP 12 (.load none (tP 11)),
 oP 13 (.mv (tP 1)),
 oP 14 (.idxAddr 16 (tP 12) (tP 13)),
 oP 15 (.load (some 16) (tP 14)),
 oP 5 (.alloc [.ok (.int .i64 0), .ok (.int .i64 0), .ok (.str ⟨#[]⟩), .ok (.str ⟨#[]⟩), .ok (.int .i64 0), .ok (.str ⟨#[]⟩), .error 3, .ok (.int .i64 0), .ok (.int .i64 0), .ok (.int .i64 0), .ok (.int .i64 0), .ok (.int .i64 0), .error 1, .ok (.str ⟨#[]⟩), .error 8, .error 14]),
 sP (.store 16 (tP 5) (tP 15))])
 (.seq (.block 0 (.seq (.region [oP 17 (.mv (tP 0)),
 oP 18 (.nilchk (tP 17)),
 oP 19 (.addOff 0 (tP 18)),
 oP 20 (.addOff 16 (tP 19)),
 oP 21 (.load none (tP 20)),
 oP 22 (.mv (tP 1)),
 oP 23 (.slc 16 (tP 21) none (some (tP 22))),
 oP 24 (.mkf (.func 126) [] [(tP 5)]),
 oP 25 (.call (.fn 90) [(tP 23), (tP 24)]),
 oP 16 (.mv (tP 25))])
 (.cond (tP 16) (.seq (.region [oP 26 (.addOff 0 (tP 5)),
 oP 27 (.load (some 2) (tP 26)),
 oP 28 (.call (.fn 87) [(iP 9), (tP 27)]),
 oP 4 (.mv (tP 28))])
 (.ret)) (.seq (.region [oP 30 (.mv (tP 0)),
 oP 31 (.addOff 3 (tP 5)),
 oP 32 (.addOff 1 (tP 31)),
 oP 33 (.load (some 3) (tP 32)),
 oP 34 (.call (.fn 86) [(tP 30), (tP 33)]),
 oP 29 (.mv (tP 34))])
 (.cond (tP 29) (.seq (.region [oP 35 (.addOff 0 (tP 5)),
 oP 36 (.load (some 2) (tP 35)),
 oP 37 (.call (.fn 87) [(iP 8), (tP 36)]),
 oP 4 (.mv (tP 37))])
 (.ret)) (.skip))))))
 (.seq (.draw [oP 38 (.mv (tP 0)),
 oP 39 (.nilchk (tP 38)),
 oP 40 (.addOff 0 (tP 39)),
 oP 41 (.addOff 4 (tP 40)),
 oP 42 (.load (some 3) (tP 41)),
 oP 43 (.call (.fn 127) [(.con (.str ⟨#[97, 99, 116]⟩))]),
 oP 44 (.lit false 0 3 2 [.int .i64 0, .str ⟨#[]⟩, .slice 3 []] [(0, (tP 42)), (1, (tP 43))]),
 oP 45 (.build [.int .i64 0, .str ⟨#[]⟩, .slice 3 []] [(0, 1, (iP 3)), (2, 1, (tP 44))]),
 oP 6 (.alloc [.ok (.int .i64 0), .ok (.str ⟨#[]⟩), .error 3]),
 sP (.store 3 (tP 6) (tP 45))] [[oP 38 (.mv (tP 0)), oP 39 (.nilchk (tP 38)), oP 40 (.addOff 0 (tP 39)), oP 41 (.addOff 4 (tP 40)), oP 42 (.load (some 3) (tP 41)), oP 43 (.call (.fn 127) [(.con (.str ⟨#[97, 99, 116]⟩))]), oP 6 (.alloc [.ok (.int .i64 0), .ok (.str ⟨#[]⟩), .error 3]), oP 44 (.lit false 0 3 2 [.int .i64 0, .str ⟨#[]⟩, .slice 3 []] [(0, (tP 42)), (1, (tP 43))]), oP 45 (.build [.int .i64 0, .str ⟨#[]⟩, .slice 3 []] [(0, 1, (iP 3)), (2, 1, (tP 44))]), sP (.store 3 (tP 6) (tP 45))], [oP 38 (.mv (tP 0)), oP 39 (.nilchk (tP 38)), oP 40 (.addOff 0 (tP 39)), oP 41 (.addOff 4 (tP 40)), oP 42 (.load (some 3) (tP 41)), oP 6 (.alloc [.ok (.int .i64 0), .ok (.str ⟨#[]⟩), .error 3]), oP 43 (.call (.fn 127) [(.con (.str ⟨#[97, 99, 116]⟩))]), oP 44 (.lit false 0 3 2 [.int .i64 0, .str ⟨#[]⟩, .slice 3 []] [(0, (tP 42)), (1, (tP 43))]), oP 45 (.build [.int .i64 0, .str ⟨#[]⟩, .slice 3 []] [(0, 1, (iP 3)), (2, 1, (tP 44))]), sP (.store 3 (tP 6) (tP 45))], [oP 38 (.mv (tP 0)), oP 39 (.nilchk (tP 38)), oP 40 (.addOff 0 (tP 39)), oP 41 (.addOff 4 (tP 40)), oP 6 (.alloc [.ok (.int .i64 0), .ok (.str ⟨#[]⟩), .error 3]), oP 42 (.load (some 3) (tP 41)), oP 43 (.call (.fn 127) [(.con (.str ⟨#[97, 99, 116]⟩))]), oP 44 (.lit false 0 3 2 [.int .i64 0, .str ⟨#[]⟩, .slice 3 []] [(0, (tP 42)), (1, (tP 43))]), oP 45 (.build [.int .i64 0, .str ⟨#[]⟩, .slice 3 []] [(0, 1, (iP 3)), (2, 1, (tP 44))]), sP (.store 3 (tP 6) (tP 45))], [oP 38 (.mv (tP 0)), oP 39 (.nilchk (tP 38)), oP 40 (.addOff 0 (tP 39)), oP 41 (.addOff 4 (tP 40)), oP 43 (.call (.fn 127) [(.con (.str ⟨#[97, 99, 116]⟩))]), oP 42 (.load (some 3) (tP 41)), oP 44 (.lit false 0 3 2 [.int .i64 0, .str ⟨#[]⟩, .slice 3 []] [(0, (tP 42)), (1, (tP 43))]), oP 45 (.build [.int .i64 0, .str ⟨#[]⟩, .slice 3 []] [(0, 1, (iP 3)), (2, 1, (tP 44))]), oP 6 (.alloc [.ok (.int .i64 0), .ok (.str ⟨#[]⟩), .error 3]), sP (.store 3 (tP 6) (tP 45))], [oP 38 (.mv (tP 0)), oP 39 (.nilchk (tP 38)), oP 40 (.addOff 0 (tP 39)), oP 41 (.addOff 4 (tP 40)), oP 43 (.call (.fn 127) [(.con (.str ⟨#[97, 99, 116]⟩))]), oP 42 (.load (some 3) (tP 41)), oP 6 (.alloc [.ok (.int .i64 0), .ok (.str ⟨#[]⟩), .error 3]), oP 44 (.lit false 0 3 2 [.int .i64 0, .str ⟨#[]⟩, .slice 3 []] [(0, (tP 42)), (1, (tP 43))]), oP 45 (.build [.int .i64 0, .str ⟨#[]⟩, .slice 3 []] [(0, 1, (iP 3)), (2, 1, (tP 44))]), sP (.store 3 (tP 6) (tP 45))], [oP 38 (.mv (tP 0)), oP 39 (.nilchk (tP 38)), oP 40 (.addOff 0 (tP 39)), oP 41 (.addOff 4 (tP 40)), oP 43 (.call (.fn 127) [(.con (.str ⟨#[97, 99, 116]⟩))]), oP 6 (.alloc [.ok (.int .i64 0), .ok (.str ⟨#[]⟩), .error 3]), oP 42 (.load (some 3) (tP 41)), oP 44 (.lit false 0 3 2 [.int .i64 0, .str ⟨#[]⟩, .slice 3 []] [(0, (tP 42)), (1, (tP 43))]), oP 45 (.build [.int .i64 0, .str ⟨#[]⟩, .slice 3 []] [(0, 1, (iP 3)), (2, 1, (tP 44))]), sP (.store 3 (tP 6) (tP 45))], [oP 38 (.mv (tP 0)), oP 39 (.nilchk (tP 38)), oP 40 (.addOff 0 (tP 39)), oP 41 (.addOff 4 (tP 40)), oP 6 (.alloc [.ok (.int .i64 0), .ok (.str ⟨#[]⟩), .error 3]), oP 43 (.call (.fn 127) [(.con (.str ⟨#[97, 99, 116]⟩))]), oP 42 (.load (some 3) (tP 41)), oP 44 (.lit false 0 3 2 [.int .i64 0, .str ⟨#[]⟩, .slice 3 []] [(0, (tP 42)), (1, (tP 43))]), oP 45 (.build [.int .i64 0, .str ⟨#[]⟩, .slice 3 []] [(0, 1, (iP 3)), (2, 1, (tP 44))]), sP (.store 3 (tP 6) (tP 45))]])
 (.seq (.draw [oP 46 (.mv (tP 0)),
 oP 47 (.mv (tP 0)),
 oP 48 (.nilchk (tP 47)),
 oP 49 (.addOff 0 (tP 48)),
 oP 50 (.addOff 4 (tP 49)),
 oP 51 (.load (some 3) (tP 50)),
 oP 52 (.build [.str ⟨#[]⟩, .int .i64 0, .str ⟨#[]⟩, .slice 3 []] [(0, 1, (.con (.str ⟨#[115, 116, 97, 116, 101]⟩))), (1, 3, (tP 51))]),
 oP 53 (.addOff 3 (tP 5)),
 oP 54 (.load (some 4) (tP 53)),
 oP 55 (.lit true 0 4 2 [.str ⟨#[]⟩, .int .i64 0, .str ⟨#[]⟩, .slice 3 []] [(0, (tP 52)), (1, (tP 54))]),
 oP 56 (.addOff 8 (tP 5)),
 oP 57 (.load (some 8) (tP 56)),
 oP 58 (.load (some 3) (tP 6)),
 oP 59 (.call (.fn 88) [(tP 46), (tP 55), (tP 57), (tP 58)]),
 oP 7 (.mv (tP 59))] [])
 (.seq (.seq (.region [oP 60 (.mv (tP 7)),
 oP 61 (.isnil 1 false (tP 60)),
 oP 62 (.mv (tP 61)),
 gP 63 62 true (.addOff 2 (tP 5)),
 gP 64 62 true (.load none (tP 63)),
 gP 65 62 true (.bin .eql (tP 64) (.con (.str ⟨#[97, 108, 97, 114, 109]⟩))),
 oP 66 (.pick (tP 62) (tP 65) (bP false)),
 oP 67 (.mv (tP 66)),
 gP 68 67 true (.addOff 3 (tP 5)),
 gP 69 67 true (.addOff 1 (tP 68)),
 gP 70 67 true (.addOff 0 (tP 69)),
 gP 71 67 true (.load none (tP 70)),
 gP 72 67 true (.bin .neq (tP 71) (iP 0)),
 oP 73 (.pick (tP 67) (tP 72) (bP false))])
 (.cond (tP 73) (.region [oP 74 (.addOff 0 (tP 5)),
 oP 75 (.load (some 2) (tP 74)),
 oP 76 (.call (.fn 87) [(iP 10), (tP 75)]),
 oP 7 (.mv (tP 76))]) (.skip)))
 (.seq (.region [oP 77 (.mv (tP 7)),
 oP 4 (.mv (tP 77))])
 (.ret)))))))
def A89 : AFunc := { ntmps := 78, results := [.tmp 4], body := B89, coe := true, keep := 0 }
theorem tr89 : trFunc Tryz.prog M89 true Tryz.f89 = some A89 := by kernel_rfl
def M90 : Marks := { cut := fun _ => true, hd := fun | _ => [], ex := fun | _ => [], imm := fun | _ => false }
def B90 : ACode :=
 .seq (.region [oP 4 (.mv (bP false))])
 (.seq (.region [oP 5 (.mv (tP 0)),
 oP 6 (.mv (tP 1)),
 oP 7 (.call (.fn 128) [(tP 5), (tP 6)]),
 oP 8 (.bin .geq (tP 7) (iP 0)),
 oP 4 (.mv (tP 8))])
 (.ret))
def A90 : AFunc := { ntmps := 9, results := [.tmp 4], body := B90, coe := true, keep := 0 }
theorem tr90 : trFunc Tryz.prog M90 true Tryz.f90 = some A90 := by kernel_rfl
def M91 : Marks := { cut := fun _ => true, hd := fun | _ => [], ex := fun | _ => [], imm := fun | 1 => true | _ => false }
def B91 : ACode :=
 .seq (.region [oP 1 (.box true (tP 0)),
 oP 2 (.mv (bP false))])
 (.seq (.region [oP 3 (.addOff 2 (tP 1)),
 oP 4 (.load none (tP 3)),
 oP 5 (.bin .eql (tP 4) (.con (.str ⟨#[97, 108, 97, 114, 109]⟩))),
 oP 2 (.mv (tP 5))])
 (.ret))
def A91 : AFunc := { ntmps := 6, results := [.tmp 2], body := B91, coe := true, keep := 0 }
theorem tr91 : trFunc Tryz.prog M91 true Tryz.f91 = some A91 := by kernel_rfl
def M92 : Marks := { cut := fun _ => true, hd := fun | _ => [], ex := fun | _ => [], imm := fun | _ => false }
def B92 : ACode :=
 .seq (.region [oP 0 (.alloc [.ok (.int .i64 0), .ok (.str ⟨#[]⟩), .error 3])])
 (.seq (.region [oP 1 (.build [.int .i64 0, .str ⟨#[]⟩, .slice 3 []] [(0, 1, (iP 0))]),
 sP (.store 3 (tP 0) (tP 1))])
 (.ret))
def A92 : AFunc := { ntmps := 2, results := [.cell (some 3) 0], body := B92, coe := true, keep := 0 }
theorem tr92 : trFunc Tryz.prog M92 true Tryz.f92 = some A92 := by kernel_rfl
def M93 : Marks := { cut := fun _ => true, hd := fun | _ => [], ex := fun | _ => [], imm := fun | _ => false }
def B93 : ACode :=
 .seq (.region [oP 0 (.alloc [.ok (.int .i64 0), .ok (.str ⟨#[]⟩), .error 3])])
 (.seq (.region [oP 1 (.build [.int .i64 0, .str ⟨#[]⟩, .slice 3 []] [(0, 1, (iP 2)), (1, 1, (.con (.str ⟨#[97, 99, 116]⟩)))]),
 sP (.store 3 (tP 0) (tP 1))])
 (.ret))
def A93 : AFunc := { ntmps := 2, results := [.cell (some 3) 0], body := B93, coe := true, keep := 0 }
theorem tr93 : trFunc Tryz.prog M93 true Tryz.f93 = some A93 := by kernel_rfl
def M94 : Marks := { cut := fun _ => true, hd := fun | _ => [], ex := fun | _ => [], imm := fun | 1 => true | _ => false }
def B94 : ACode :=
 .seq (.region [oP 1 (.box true (tP 0)),
 oP 2 (.mv (bP false))])
 (.seq (.region [oP 3 (.load (some 8) (tP 1)),
 oP 4 (.call (.fn 129) [(iP 64), (tP 3)]),
 oP 2 (.mv (tP 4))])
 (.ret))
def A94 : AFunc := { ntmps := 5, results := [.tmp 2], body := B94, coe := true, keep := 0 }
theorem tr94 : trFunc Tryz.prog M94 true Tryz.f94 = some A94 := by kernel_rfl
abbrev S95R0 : List Bool := [false, false, false, true, true, true]
abbrev H95L17 : List Bool := [true, false, false, false, true, true, false, true, false, false, false, false, false, false, false, false, false, false, false, false, false, false, false, false, false, false, false, false, false, false, false, false, false, false, false, false, false, false, false, false, false, false, false, false, false, false, false, false, false, false, true, true, true]
abbrev X95L17 : List Bool := [false, false, false, false, true, true, false, true]
def M95 : Marks := { cut := fun _ => true, hd := fun | 17 => H95L17 | _ => [], ex := fun | 17 => X95L17 | _ => [], imm := fun | 3 => true | 69 => true | _ => false, sn := fun | 9 => [false, false, false, true, true, true] | _ => [] }
def N95R0 : ACode :=
 .region [oP 6 (.alloc [.ok (.str ⟨#[]⟩), .ok (.int .i64 0), .ok (.str ⟨#[]⟩), .error 3]),
 sP (.store 4 (tP 6) (tP 27))]
def B95R0 : ACode :=
 .block 2 (.seq (.region [oP 28 (.addOff 0 (tP 6)),
 oP 29 (.load none (tP 28)),
 oP 30 (.addOff 5 (tP 3)),
 oP 31 (.load none (tP 30)),
 oP 32 (.bin .eql (tP 29) (tP 31))])
 (.cond (tP 32) (.seq (.region [oP 33 (.addOff 1 (tP 6)),
 oP 34 (.load (some 3) (tP 33)),
 sP (.store 3 (tP 4) (tP 34)),
 sP (.store 1 (tP 5) (.con (.nili)))])
 (.ret)) (.skip)))
def B95L17 : ACode :=
 .seq (.region [oP 53 (.bin .lss (tP 52) (tP 51))])
 (.seq (.cond (tP 53) (.skip) (.exit 3))
 (.seq (.block 4 (.seq (.region [oP 54 (.idxAddr 8 (tP 50) (tP 52)),
 oP 55 (.load (some 8) (tP 54)),
 oP 9 (.alloc [.ok (.int .i64 0), .ok (.int .i64 0), .ok (.int .i64 0), .ok (.int .i64 0), .error 1, .ok (.str ⟨#[]⟩), .error 8, .error 14]),
 sP (.store 8 (tP 9) (tP 55))])
 (.seq (.region [oP 57 (.mv (tP 0)),
 oP 58 (.load (some 8) (tP 9)),
 oP 59 (.call (.fn 95) [(tP 57), (tP 58)]),
 oP 56 (.mv (tP 59)),
 oP 60 (.ext 0 (tP 56)),
 oP 61 (.ext 1 (tP 56)),
 oP 10 (.alloc [.ok (.int .i64 0), .ok (.str ⟨#[]⟩), .error 3]),
 sP (.store 3 (tP 10) (tP 60)),
 oP 11 (.mv (tP 61))])
 (.seq (.seq (.region [oP 62 (.mv (tP 11)),
 oP 63 (.isnil 1 true (tP 62))])
 (.cond (tP 63) (.seq (.region [oP 64 (.load (some 3) (tP 7)),
 oP 65 (.mv (tP 11)),
 sP (.store 3 (tP 4) (tP 64)),
 sP (.store 1 (tP 5) (tP 65))])
 (.ret)) (.skip)))
 (.region [oP 66 (.addOff 2 (tP 7)),
 oP 67 (.load none (tP 66)),
 oP 68 (.load (some 3) (tP 10)),
 oP 69 (.lit true 0 3 1 [.int .i64 0, .str ⟨#[]⟩, .slice 3 []] [(0, (tP 68))]),
 oP 70 (.app false 0 3 48 (tP 67) (tP 69)),
 oP 71 (.addOff 2 (tP 7)),
 sP (.store 1 (tP 71) (tP 70))])))))
 (.region [oP 72 (.bin .add (tP 52) (iP 1)),
 oP 52 (.mv (tP 72))])))
def B95 : ACode :=
 .seq (.region [oP 3 (.box true (tP 1)),
 oP 4 (.alloc [.ok (.int .i64 0), .ok (.str ⟨#[]⟩), .error 3]),
 oP 5 (.alloc [.ok (.nili)])])
 (.seq (.seq (.region [oP 12 (.addOff 0 (tP 3)),
 oP 13 (.load none (tP 12))])
 (.block 0 (.seq (.region [oP 15 (.bin .eql (tP 13) (iP 0)),
 oP 14 (.mv (tP 15))])
 (.cond (tP 14) (.seq (.region [oP 16 (.call (.fn 130) []),
 sP (.store 3 (tP 4) (tP 16)),
 sP (.store 1 (tP 5) (.con (.nili)))])
 (.ret)) (.seq (.region [oP 18 (.bin .eql (tP 13) (iP 1)),
 oP 17 (.mv (tP 18))])
 (.cond (tP 17) (.seq (.region [oP 19 (.call (.fn 131) []),
 sP (.store 3 (tP 4) (tP 19)),
 sP (.store 1 (tP 5) (.con (.nili)))])
 (.ret)) (.seq (.region [oP 21 (.bin .eql (tP 13) (iP 2)),
 oP 20 (.mv (tP 21))])
 (.cond (tP 20) (.seq (.seq (.region [oP 22 (.mv (tP 0)),
 oP 23 (.nilchk (tP 22)),
 oP 24 (.addOff 19 (tP 23)),
 oP 25 (.load none (tP 24)),
 oP 26 (.call (.fn 132) [(tP 25)])])
 (.block 1 (.rangeFn (tP 26) [27] [false, false, false, true, true, true] N95R0 B95R0)))
 (.seq (.region [oP 35 (.build [.int .i64 0, .str ⟨#[]⟩, .slice 3 []] []),
 oP 36 (.addOff 1 (tP 3)),
 oP 37 (.load (some 2) (tP 36)),
 oP 38 (.call (.fn 87) [(iP 8), (tP 37)]),
 sP (.store 3 (tP 4) (tP 35)),
 sP (.store 1 (tP 5) (tP 38))])
 (.ret))) (.seq (.region [oP 40 (.bin .eql (tP 13) (iP 3)),
 oP 39 (.mv (tP 40))])
 (.cond (tP 39) (.seq (.region [oP 41 (.mv (tP 0)),
 oP 42 (.load (some 8) (tP 3)),
 oP 43 (.call (.fn 133) [(tP 41), (tP 42)]),
 oP 44 (.ext 0 (tP 43)),
 oP 45 (.ext 1 (tP 43)),
 sP (.store 3 (tP 4) (tP 44)),
 sP (.store 1 (tP 5) (tP 45))])
 (.ret)) (.seq (.region [oP 47 (.bin .eql (tP 13) (iP 4)),
 oP 46 (.mv (tP 47))])
 (.cond (tP 46) (.seq (.region [oP 48 (.build [.int .i64 0, .str ⟨#[]⟩, .slice 3 []] [(0, 1, (iP 3))]),
 oP 7 (.alloc [.ok (.int .i64 0), .ok (.str ⟨#[]⟩), .error 3]),
 sP (.store 3 (tP 7) (tP 48))])
 (.seq (.seq (.region [oP 49 (.addOff 6 (tP 3)),
 oP 50 (.load none (tP 49)),
 oP 51 (.len false (tP 50)),
 oP 52 (.mv (iP 0))])
 (.block 3 (.loop true H95L17 X95L17 B95L17)))
 (.seq (.region [oP 73 (.load (some 3) (tP 7)),
 sP (.store 3 (tP 4) (tP 73)),
 sP (.store 1 (tP 5) (.con (.nili)))])
 (.ret)))) (.seq (.region [oP 75 (.bin .eql (tP 13) (iP 5)),
 oP 74 (.mv (tP 75))])
 (.cond (tP 74) (.seq (.region [oP 76 (.mv (tP 0)),
 oP 77 (.load (some 8) (tP 3)),
 oP 78 (.call (.fn 134) [(tP 76), (tP 77)]),
 oP 79 (.ext 0 (tP 78)),
 oP 80 (.ext 1 (tP 78)),
 sP (.store 3 (tP 4) (tP 79)),
 sP (.store 1 (tP 5) (tP 80))])
 (.ret)) (.seq (.region [oP 82 (.bin .eql (tP 13) (iP 8)),
 oP 81 (.mv (tP 82))])
 (.cond (tP 81) (.seq (.region [oP 83 (.mv (tP 0)),
 oP 84 (.load (some 8) (tP 3)),
 oP 85 (.call (.fn 135) [(tP 83), (tP 84)]),
 oP 86 (.ext 0 (tP 85)),
 oP 87 (.ext 1 (tP 85)),
 sP (.store 3 (tP 4) (tP 86)),
 sP (.store 1 (tP 5) (tP 87))])
 (.ret)) (.seq (.region [oP 89 (.bin .eql (tP 13) (iP 9)),
 oP 88 (.mv (tP 89))])
 (.cond (tP 88) (.seq (.region [oP 90 (.mv (tP 0)),
 oP 91 (.load (some 8) (tP 3)),
 oP 92 (.call (.fn 136) [(tP 90), (tP 91)]),
 oP 93 (.ext 0 (tP 92)),
 oP 94 (.ext 1 (tP 92)),
 sP (.store 3 (tP 4) (tP 93)),
 sP (.store 1 (tP 5) (tP 94))])
 (.ret)) (.skip)))))))))))))))))))
 (.seq (.region [oP 95 (.mv (tP 0)),
 oP 96 (.load (some 8) (tP 3)),
 oP 97 (.call (.fn 137) [(tP 95), (tP 96)]),
 oP 98 (.ext 0 (tP 97)),
 oP 99 (.ext 1 (tP 97)),
 sP (.store 3 (tP 4) (tP 98)),
 sP (.store 1 (tP 5) (tP 99))])
 (.ret)))
def A95 : AFunc := { ntmps := 100, results := [.cell (some 3) 4, .cell none 5], body := B95, coe := true, keep := 0 }
theorem tr95 : trFunc Tryz.prog M95 true Tryz.f95 = some A95 := by kernel_rfl
def M96 : Marks := { cut := fun _ => true, hd := fun | _ => [], ex := fun | _ => [], imm := fun | _ => false }
def B96 : ACode :=
 .seq (.region [oP 2 (.alloc [.ok (.int .i64 0), .ok (.int .i64 0), .ok (.int .i64 0)])])
 (.seq (.region [oP 3 (.alloc [.ok (.nilp)])])
 (.seq (.seq (.region [oP 4 (.mv (tP 0)),
 oP 5 (.mki 220 (tP 3)),
 oP 6 (.call (.fn 138) [(tP 4), (tP 5)])])
 (.cond (tP 6) (.seq (.region [oP 7 (.load none (tP 3)),
 oP 8 (.nilchk (tP 7)),
 oP 9 (.addOff 0 (tP 8)),
 oP 10 (.load (some 3) (tP 9)),
 sP (.store 3 (tP 2) (tP 10))])
 (.ret)) (.skip)))
 (.seq (.region [oP 11 (.build [.int .i64 0, .int .i64 0, .int .i64 0] []),
 sP (.store 3 (tP 2) (tP 11))])
 (.ret))))
def A96 : AFunc := { ntmps := 12, results := [.cell (some 3) 2], body := B96, coe := true, keep := 0 }
theorem tr96 : trFunc Tryz.prog M96 true Tryz.f96 = some A96 := by kernel_rfl
abbrev H97L3 : List Bool := [false, false, false, true, false, false, false, false, true, true, true]
abbrev X97L3 : List Bool := [false, false, false, true]
def M97 : Marks := { cut := fun _ => true, hd := fun | 3 => H97L3 | _ => [], ex := fun | 3 => X97L3 | _ => [], imm := fun | _ => false }
def B97L3 : ACode :=
 .seq (.region [oP 11 (.bin .lss (tP 10) (tP 9))])
 (.seq (.cond (tP 11) (.skip) (.exit 0))
 (.seq (.block 1 (.seq (.region [oP 12 (.idxAddr 6 (tP 8) (tP 10)),
 oP 13 (.load (some 6) (tP 12)),
 oP 5 (.alloc [.ok (.int .i64 0), .ok (.int .i64 0), .ok (.int .i64 0), .ok (.str ⟨#[]⟩), .ok (.int .i64 0), .error 6]),
 sP (.store 6 (tP 5) (tP 13))])
 (.region [oP 14 (.mv (tP 3)),
 oP 15 (.addOff 5 (tP 5)),
 oP 16 (.load none (tP 15)),
 oP 17 (.call (.fn 97) [(tP 16)]),
 oP 18 (.bin .add (tP 14) (tP 17)),
 oP 3 (.mv (tP 18))])))
 (.region [oP 19 (.bin .add (tP 10) (iP 1)),
 oP 10 (.mv (tP 19))])))
def B97 : ACode :=
 .seq (.region [oP 2 (.mv (iP 0))])
 (.seq (.region [oP 6 (.mv (tP 0)),
 oP 7 (.len false (tP 6)),
 oP 3 (.mv (tP 7))])
 (.seq (.seq (.region [oP 8 (.mv (tP 0)),
 oP 9 (.len false (tP 8)),
 oP 10 (.mv (iP 0))])
 (.block 0 (.loop true H97L3 X97L3 B97L3)))
 (.seq (.region [oP 20 (.mv (tP 3)),
 oP 2 (.mv (tP 20))])
 (.ret))))
def A97 : AFunc := { ntmps := 21, results := [.tmp 2], body := B97, coe := true, keep := 0 }
theorem tr97 : trFunc Tryz.prog M97 true Tryz.f97 = some A97 := by kernel_rfl
def M98 : Marks := { cut := fun _ => true, hd := fun | _ => [], ex := fun | _ => [], imm := fun | 5 => true | _ => false }
def B98 : ACode :=
 .seq (.region [oP 5 (.box true (tP 2))])
 (.seq (.region [oP 6 (.mv (tP 0)),
 oP 7 (.nilchk (tP 6)),
 oP 8 (.addOff 18 (tP 7)),
 oP 9 (.addOff 0 (tP 8)),
 oP 10 (.load none (tP 9)),
 oP 11 (.bin .eql (tP 10) (iP 0))])
 (.cond (tP 11) (.region [oP 12 (.mv (tP 0)),
 oP 13 (.mv (tP 1)),
 oP 14 (.load (some 2) (tP 5)),
 oP 15 (.build [.int .i64 0, .int .i64 0, .int .i64 0] [(0, 1, (tP 13)), (1, 2, (tP 14))]),
 oP 16 (.nilchk (tP 12)),
 oP 17 (.addOff 18 (tP 16)),
 sP (.store 3 (tP 17) (tP 15))]) (.skip)))
def A98 : AFunc := { ntmps := 18, results := [], body := B98, coe := true, keep := 0 }
theorem tr98 : trFunc Tryz.prog M98 true Tryz.f98 = some A98 := by kernel_rfl
abbrev H99L9 : List Bool := [false, false, false, true, false, false, false, false, false, true, true, true, true, true, false, false, false, false, false, false, true, true, true, false, false, false, false, true, true, true]
abbrev X99L9 : List Bool := [false, false, false, true, false, false, false, false, false, true, true, false, true, true, false, false, false, false, false, false, true, true, true]
abbrev H99L4 : List Bool := [false, false, false, true, false, false, false, false, true, true, false, false, false, false, false, false, false, false, false, false, true, true, true]
abbrev X99L4 : List Bool := [false, false, false, false, false, false, false, false, true, true]
def M99 : Marks := { cut := fun _ => true, hd := fun | 4 => H99L4 | 9 => H99L9 | _ => [], ex := fun | 4 => X99L4 | 9 => X99L9 | _ => [], imm := fun | 3 => true | 4 => true | 6 => true | _ => false }
def B99L9 : ACode :=
 .seq (.region [oP 30 (.bin .lss (tP 29) (tP 28))])
 (.seq (.cond (tP 30) (.skip) (.exit 2))
 (.seq (.block 3 (.seq (.region [oP 31 (.idxAddr 1 (tP 27) (tP 29)),
 oP 32 (.load none (tP 31)),
 oP 15 (.mv (tP 32))])
 (.seq (.region [oP 33 (.mv (tP 13)),
 oP 34 (.mv (tP 33)),
 gP 35 34 false (.load (some 1) (tP 3)),
 gP 36 34 false (.mv (tP 15)),
 gP 37 34 false (.load (some 6) (tP 11)),
 gP 38 34 false (.call (.fn 139) [(tP 35), (tP 36), (tP 37)]),
 gP 39 34 false (.isnil 1 true (tP 38)),
 oP 40 (.pick (tP 34) (bP true) (tP 39)),
 oP 13 (.mv (tP 40))])
 (.region [oP 41 (.mv (tP 12)),
 oP 42 (.load (some 1) (tP 3)),
 oP 43 (.mv (tP 15)),
 oP 44 (.load (some 6) (tP 11)),
 oP 45 (.call (.fn 140) [(tP 42), (tP 43), (tP 44)]),
 oP 46 (.app false 0 1 16 (tP 41) (tP 45)),
 oP 12 (.mv (tP 46))]))))
 (.region [oP 47 (.bin .add (tP 29) (iP 1)),
 oP 29 (.mv (tP 47))])))
def B99L4 : ACode :=
 .seq (.region [oP 23 (.bin .lss (tP 22) (tP 21))])
 (.seq (.cond (tP 23) (.skip) (.exit 0))
 (.seq (.block 1 (.seq (.region [oP 24 (.mv (tP 22)),
 oP 25 (.idxAddr 6 (tP 20) (tP 22)),
 oP 26 (.load (some 6) (tP 25)),
 oP 11 (.alloc [.ok (.int .i64 0), .ok (.int .i64 0), .ok (.int .i64 0), .ok (.str ⟨#[]⟩), .ok (.int .i64 0), .error 6]),
 oP 10 (.mv (tP 24)),
 sP (.store 6 (tP 11) (tP 26))])
 (.seq (.region [oP 12 (.nilrow 1)])
 (.seq (.region [oP 13 (.mv (bP false))])
 (.seq (.seq (.region [oP 27 (.mv (tP 8)),
 oP 28 (.len false (tP 27)),
 oP 29 (.mv (iP 0))])
 (.block 2 (.loop true H99L9 X99L9 B99L9)))
 (.seq (.seq (.region [oP 48 (.mv (tP 13)),
 oP 49 (.un .not (tP 48)),
 oP 50 (.mv (tP 49)),
 gP 51 50 true (.mv (tP 9)),
 gP 52 50 true (.bin .lss (tP 51) (iP 0)),
 oP 53 (.pick (tP 50) (tP 52) (bP false))])
 (.cond (tP 53) (.region [oP 54 (.mv (tP 10)),
 oP 9 (.mv (tP 54))]) (.skip)))
 (.region [oP 55 (.mv (tP 12)),
 oP 8 (.mv (tP 55))])))))))
 (.region [oP 56 (.bin .add (tP 22) (iP 1)),
 oP 22 (.mv (tP 56))])))
def B99 : ACode :=
 .seq (.region [oP 3 (.box true (tP 0)),
 oP 4 (.box true (tP 1)),
 oP 6 (.mv (.con (.slice 1 []))),
 oP 7 (.mv (iP 0))])
 (.seq (.region [oP 16 (.load (some 3) (tP 4)),
 oP 17 (.build [.int .i64 0, .str ⟨#[]⟩, .slice 3 []] [(0, 3, (tP 16))]),
 oP 18 (.mki 222 (tP 17)),
 oP 19 (.lit false 0 1 1 [.nili] [(0, (tP 18))]),
 oP 8 (.mv (tP 19))])
 (.seq (.region [oP 9 (.mv (iP (-1)))])
 (.seq (.seq (.region [oP 20 (.mv (tP 2)),
 oP 21 (.len false (tP 20)),
 oP 22 (.mv (iP 0))])
 (.block 0 (.loop true H99L4 X99L4 B99L4)))
 (.seq (.region [oP 57 (.mv (tP 8)),
 oP 58 (.mv (tP 9)),
 oP 6 (.mv (tP 57)),
 oP 7 (.mv (tP 58))])
 (.ret)))))
def A99 : AFunc := { ntmps := 59, results := [.tmp 6, .tmp 7], body := B99, coe := true, keep := 0 }
theorem tr99 : trFunc Tryz.prog M99 true Tryz.f99 = some A99 := by kernel_rfl
def M100 : Marks := { cut := fun _ => true, hd := fun | _ => [], ex := fun | _ => [], imm := fun | 4 => true | 5 => true | 6 => true | _ => false }
def B100 : ACode :=
 .seq (.region [oP 4 (.box true (tP 1)),
 oP 5 (.box true (tP 2)),
 oP 6 (.mv (.con (.slice 4 []))),
 oP 7 (.alloc [.ok (.int .i64 0), .ok (.int .i64 0), .ok (.int .i64 0)])])
 (.seq (.seq (.region [oP 10 (.load (some 6) (tP 4)),
 oP 11 (.call (.fn 141) [(tP 10)]),
 oP 12 (.un .not (tP 11))])
 (.cond (tP 12) (.seq (.region [oP 13 (.build [.int .i64 0, .int .i64 0, .int .i64 0] [(0, 1, (iP 19))]),
 oP 6 (.mv (.con (.slice 4 []))),
 sP (.store 3 (tP 7) (tP 13))])
 (.ret)) (.skip)))
 (.seq (.region [oP 14 (.mv (tP 0)),
 oP 15 (.build [.slice 4 [], .slice 4 []] [(0, 1, (tP 14))]),
 oP 16 (.box false (tP 15)),
 oP 8 (.mv (tP 16))])
 (.seq (.seq (.region [oP 17 (.mv (tP 8)),
 oP 18 (.load (some 6) (tP 4)),
 oP 19 (.load (some 3) (tP 5)),
 oP 20 (.call (.fn 142) [(tP 17), (tP 18), (tP 19)]),
 oP 9 (.mv (tP 20))])
 (.seq (.region [oP 21 (.mv (tP 9)),
 oP 22 (.isnil 1 true (tP 21))])
 (.cond (tP 22) (.seq (.region [oP 23 (.mv (tP 9)),
 oP 24 (.call (.fn 96) [(tP 23)]),
 oP 6 (.mv (.con (.slice 4 []))),
 sP (.store 3 (tP 7) (tP 24))])
 (.ret)) (.skip))))
 (.seq (.region [oP 25 (.mv (tP 8)),
 oP 26 (.nilchk (tP 25)),
 oP 27 (.addOff 1 (tP 26)),
 oP 28 (.load none (tP 27)),
 oP 29 (.build [.int .i64 0, .int .i64 0, .int .i64 0] []),
 oP 6 (.mv (tP 28)),
 sP (.store 3 (tP 7) (tP 29))])
 (.ret)))))
def A100 : AFunc := { ntmps := 30, results := [.tmp 6, .cell (some 3) 7], body := B100, coe := true, keep := 0 }
theorem tr100 : trFunc Tryz.prog M100 true Tryz.f100 = some A100 := by kernel_rfl
abbrev H102L1 : List Bool := [true, false, false, false, false, false, false, true]
abbrev X102L1 : List Bool := []
def M102 : Marks := { cut := fun _ => true, hd := fun | 1 => H102L1 | _ => [], ex := fun | 1 => X102L1 | _ => [], imm := fun | _ => false }
def B102L1 : ACode :=
 .seq (.region [oP 8 (.stuck),
 oP 9 (.ext 0 (tP 8))])
 (.seq (.cond (tP 9) (.skip) (.exit 0))
 (.block 1 (.seq (.region [oP 10 (.stuck),
 oP 11 (.ext 0 (tP 10)),
 oP 12 (.ext 1 (tP 10)),
 oP 4 (.mv (tP 11)),
 oP 5 (.mv (tP 12))])
 (.region [oP 13 (.mv (tP 0)),
 oP 14 (.mv (tP 4)),
 oP 15 (.mv (tP 5)),
 sP (.mupd (.str ⟨#[]⟩) (tP 13) (tP 14) (tP 15))]))))
def B102 : ACode :=
 .seq (.region [oP 6 (.mv (tP 1)),
 oP 7 (.stuck)])
 (.block 0 (.loop true H102L1 X102L1 B102L1))
def A102 : AFunc := { ntmps := 16, results := [], body := B102, coe := true, keep := 0 }
theorem tr102 : trFunc Tryz.prog M102 true Tryz.f102 = some A102 := by kernel_rfl
abbrev H103L4 : List Bool := [false, false, true, false, false, false, false, false, false, false, false, false, false, false, false, false, false, true, true, true]
abbrev X103L4 : List Bool := []
def M103 : Marks := { cut := fun _ => true, hd := fun | 4 => H103L4 | _ => [], ex := fun | 4 => X103L4 | _ => [], imm := fun | 3 => true | _ => false }
def B103L4 : ACode :=
 .seq (.region [oP 20 (.bin .lss (tP 19) (tP 18))])
 (.seq (.cond (tP 20) (.skip) (.exit 0))
 (.seq (.block 1 (.seq (.region [oP 21 (.idxAddr 6 (tP 17) (tP 19)),
 oP 22 (.load (some 6) (tP 21)),
 oP 7 (.alloc [.ok (.int .i64 0), .ok (.int .i64 0), .ok (.int .i64 0), .ok (.str ⟨#[]⟩), .ok (.int .i64 0), .error 6]),
 sP (.store 6 (tP 7) (tP 22))])
 (.region [oP 23 (.load (some 6) (tP 7)),
 oP 24 (.mv (tP 2)),
 oP 25 (.call (.fn 103) [(tP 23), (bP true), (tP 24)])])))
 (.region [oP 26 (.bin .add (tP 19) (iP 1)),
 oP 19 (.mv (tP 26))])))
def B103 : ACode :=
 .seq (.region [oP 3 (.box true (tP 0))])
 (.seq (.seq (.region [oP 8 (.addOff 0 (tP 3)),
 oP 9 (.load none (tP 8)),
 oP 10 (.bin .eql (tP 9) (iP 1))])
 (.cond (tP 10) (.region [oP 11 (.mv (tP 2)),
 oP 12 (.addOff 3 (tP 3)),
 oP 13 (.load none (tP 12)),
 oP 14 (.mv (tP 1)),
 oP 15 (.call (tP 11) [(tP 13), (tP 14)])]) (.skip)))
 (.seq (.region [oP 16 (.addOff 5 (tP 3)),
 oP 17 (.load none (tP 16)),
 oP 18 (.len false (tP 17)),
 oP 19 (.mv (iP 0))])
 (.block 0 (.loop true H103L4 X103L4 B103L4))))
def A103 : AFunc := { ntmps := 27, results := [], body := B103, coe := true, keep := 0 }
theorem tr103 : trFunc Tryz.prog M103 true Tryz.f103 = some A103 := by kernel_rfl
def M104 : Marks := { cut := fun _ => true, hd := fun | _ => [], ex := fun | _ => [], imm := fun | _ => false }
def B104 : ACode :=
 .region [oP 5 (.load none (tP 2)),
 oP 6 (.mv (tP 0)),
 sP (.stuck)]
def A104 : AFunc := { ntmps := 7, results := [], body := B104, coe := true, keep := 0 }
theorem tr104 : trFunc Tryz.prog M104 true Tryz.f104 = some A104 := by kernel_rfl
def M105 : Marks := { cut := fun _ => true, hd := fun | _ => [], ex := fun | _ => [], imm := fun | _ => false }
def B105 : ACode :=
 .seq (.region [oP 6 (.load none (tP 2)),
 oP 7 (.mv (tP 6)),
 gP 8 7 true (.mv (tP 1)),
 oP 9 (.pick (tP 7) (tP 8) (bP false))])
 (.cond (tP 9) (.region [oP 10 (.load none (tP 3)),
 oP 11 (.mv (tP 0)),
 sP (.mupd (.str ⟨#[]⟩) (tP 10) (tP 11) (iP 2))]) (.skip))
def A105 : AFunc := { ntmps := 12, results := [], body := B105, coe := true, keep := 0 }
theorem tr105 : trFunc Tryz.prog M105 true Tryz.f105 = some A105 := by kernel_rfl
abbrev H106L1 : List Bool := [true, true, false, true]
abbrev X106L1 : List Bool := []
def M106 : Marks := { cut := fun _ => true, hd := fun | 1 => H106L1 | _ => [], ex := fun | 1 => X106L1 | _ => [], imm := fun | _ => false }
def B106L1 : ACode :=
 .seq (.seq (.region [oP 7 (.mv (tP 3)),
 oP 8 (.bin .geq (tP 7) (iP 0))])
 (.cond (tP 8) (.skip) (.exit 0)))
 (.seq (.block 1 (.seq (.region [oP 11 (.mv (tP 0)),
 oP 12 (.mv (tP 3)),
 oP 13 (.load none (tP 1)),
 oP 14 (.mv (tP 3)),
 oP 15 (.idxAddr 6 (tP 13) (tP 14)),
 oP 16 (.load (some 6) (tP 15)),
 oP 17 (.call (tP 11) [(tP 12), (tP 16)]),
 oP 18 (.un .not (tP 17))])
 (.cond (tP 18) (.ret) (.skip))))
 (.region [oP 9 (.mv (tP 3)),
 oP 10 (.bin .sub (tP 9) (iP 1)),
 oP 3 (.mv (tP 10))]))
def B106 : ACode :=
 .seq (.region [oP 4 (.load none (tP 1)),
 oP 5 (.len false (tP 4)),
 oP 6 (.bin .sub (tP 5) (iP 1)),
 oP 3 (.mv (tP 6))])
 (.block 0 (.loop true H106L1 X106L1 B106L1))
def A106 : AFunc := { ntmps := 19, results := [], body := B106, coe := true, keep := 0 }
theorem tr106 : trFunc Tryz.prog M106 true Tryz.f106 = some A106 := by kernel_rfl
def M107 : Marks := { cut := fun _ => true, hd := fun | _ => [], ex := fun | _ => [], imm := fun | 4 => true | 5 => true | 22 => true | _ => false }
def B107 : ACode :=
 .seq (.region [oP 4 (.box true (tP 1)),
 oP 5 (.box true (tP 2)),
 oP 6 (.mv (bP false))])
 (.seq (.seq (.region [oP 7 (.addOff 0 (tP 4)),
 oP 8 (.load none (tP 7))])
 (.block 0 (.seq (.region [oP 10 (.bin .eql (tP 8) (iP 0)),
 oP 9 (.mv (tP 10))])
 (.cond (tP 9) (.seq (.region [oP 6 (.mv (bP true))])
 (.ret)) (.seq (.region [oP 12 (.bin .eql (tP 8) (iP 1)),
 oP 11 (.mv (tP 12))])
 (.cond (tP 11) (.seq (.draw [oP 13 (.mv (tP 0)),
 oP 14 (.mv (tP 0)),
 oP 15 (.nilchk (tP 14)),
 oP 16 (.addOff 0 (tP 15)),
 oP 17 (.load none (tP 16)),
 oP 18 (.addOff 3 (tP 4)),
 oP 19 (.load none (tP 18)),
 oP 20 (.load (some 5) (tP 5)),
 oP 21 (.build [.str ⟨#[]⟩, .int .i64 0, .int .i64 0, .slice 1 [], .str ⟨#[]⟩, .slice 5 []] [(0, 1, (tP 19)), (1, 5, (tP 20))]),
 oP 22 (.lit true 0 6 1 [.str ⟨#[]⟩, .int .i64 0, .int .i64 0, .slice 1 [], .str ⟨#[]⟩, .slice 5 []] [(0, (tP 21))]),
 oP 23 (.app false 0 6 96 (tP 17) (tP 22)),
 oP 24 (.nilchk (tP 13)),
 oP 25 (.addOff 0 (tP 24)),
 sP (.store 1 (tP 25) (tP 23))] [])
 (.seq (.region [oP 6 (.mv (bP true))])
 (.ret))) (.seq (.region [oP 27 (.bin .eql (tP 8) (iP 2)),
 oP 26 (.mv (tP 27))])
 (.cond (tP 26) (.seq (.region [oP 28 (.addOff 0 (tP 5)),
 oP 29 (.load none (tP 28)),
 oP 30 (.bin .eql (tP 29) (iP 0)),
 oP 31 (.mv (tP 30)),
 gP 32 31 true (.addOff 4 (tP 4)),
 gP 33 31 true (.load none (tP 32)),
 gP 34 31 true (.addOff 1 (tP 5)),
 gP 35 31 true (.load none (tP 34)),
 gP 36 31 true (.bin .eql (tP 33) (tP 35)),
 oP 37 (.pick (tP 31) (tP 36) (bP false)),
 oP 6 (.mv (tP 37))])
 (.ret)) (.seq (.region [oP 39 (.bin .eql (tP 8) (iP 3)),
 oP 38 (.mv (tP 39))])
 (.cond (tP 38) (.seq (.region [oP 40 (.addOff 0 (tP 5)),
 oP 41 (.load none (tP 40)),
 oP 42 (.bin .eql (tP 41) (iP 2)),
 oP 43 (.mv (tP 42)),
 gP 44 43 true (.addOff 3 (tP 4)),
 gP 45 43 true (.load none (tP 44)),
 gP 46 43 true (.addOff 3 (tP 5)),
 gP 47 43 true (.load none (tP 46)),
 gP 48 43 true (.bin .eql (tP 45) (tP 47)),
 oP 49 (.pick (tP 43) (tP 48) (bP false)),
 oP 50 (.mv (tP 49)),
 gP 51 50 true (.mv (tP 0)),
 gP 52 50 true (.addOff 5 (tP 4)),
 gP 53 50 true (.load none (tP 52)),
 gP 54 50 true (.addOff 4 (tP 5)),
 gP 55 50 true (.load none (tP 54)),
 gP 56 50 true (.call (.fn 143) [(tP 51), (tP 53), (tP 55)]),
 oP 57 (.pick (tP 50) (tP 56) (bP false)),
 oP 6 (.mv (tP 57))])
 (.ret)) (.seq (.region [oP 59 (.bin .eql (tP 8) (iP 4)),
 oP 58 (.mv (tP 59))])
 (.cond (tP 58) (.seq (.region [oP 60 (.addOff 0 (tP 5)),
 oP 61 (.load none (tP 60)),
 oP 62 (.bin .eql (tP 61) (iP 3)),
 oP 63 (.mv (tP 62)),
 gP 64 63 true (.mv (tP 0)),
 gP 65 63 true (.addOff 5 (tP 4)),
 gP 66 63 true (.load none (tP 65)),
 gP 67 63 true (.addOff 4 (tP 5)),
 gP 68 63 true (.load none (tP 67)),
 gP 69 63 true (.call (.fn 143) [(tP 64), (tP 66), (tP 68)]),
 oP 70 (.pick (tP 63) (tP 69) (bP false)),
 oP 6 (.mv (tP 70))])
 (.ret)) (.skip)))))))))))))
 (.seq (.region [oP 6 (.mv (bP false))])
 (.ret)))
def A107 : AFunc := { ntmps := 71, results := [.tmp 6], body := B107, coe := true, keep := 0 }
theorem tr107 : trFunc Tryz.prog M107 true Tryz.f107 = some A107 := by kernel_rfl
def M108 : Marks := { cut := fun _ => true, hd := fun | _ => [], ex := fun | _ => [], imm := fun | 4 => true | 20 => true | 1000022 => true | _ => false }
def B108 : ACode :=
 .seq (.region [oP 4 (.mv (.con (.slice 6 [])))])
 (.seq (.seq (.region [oP 5 (.mv (tP 1)),
 oP 6 (.bin .lss (tP 5) (iP 0))])
 (.cond (tP 6) (.region [oP 7 (.mki 9 (.con (.str ⟨#[99, 97, 110, 110, 111, 116, 32, 98, 101, 32, 110, 101, 103, 97, 116, 105, 118, 101]⟩))),
 sP (.panic (tP 7))]) (.skip)))
 (.seq (.seq (.region [oP 8 (.mv (tP 1)),
 oP 9 (.mv (tP 0)),
 oP 10 (.capn (tP 9)),
 oP 11 (.mv (tP 0)),
 oP 12 (.len false (tP 11)),
 oP 13 (.bin .sub (tP 10) (tP 12)),
 oP 14 (.bin .sub (tP 8) (tP 13)),
 oP 1 (.mv (tP 14))])
 (.seq (.region [oP 15 (.mv (tP 1)),
 oP 16 (.bin .gtr (tP 15) (iP 0))])
 (.cond (tP 16) (.region [oP 17 (.mv (tP 0)),
 oP 18 (.mv (tP 0)),
 oP 19 (.capn (tP 18)),
 oP 20 (.slcn 6 (tP 17) none (some (tP 19))),
 oP 21 (.mv (tP 1)),
 oP 22 (.vappn 0 6 96 [.str ⟨#[]⟩, .int .i64 0, .int .i64 0, .slice 1 [], .str ⟨#[]⟩, .slice 5 []] (tP 20) (tP 21)),
 oP 23 (.mv (tP 0)),
 oP 24 (.len false (tP 23)),
 oP 25 (.slc 6 (tP 22) none (some (tP 24))),
 oP 0 (.mv (tP 25))]) (.skip))))
 (.seq (.region [oP 26 (.mv (tP 0)),
 oP 4 (.mv (tP 26))])
 (.ret))))
def A108 : AFunc := { ntmps := 27, results := [.tmp 4], body := B108, coe := false, keep := 0 }
theorem tr108 : trFunc Tryz.prog M108 false Tryz.f108 = some A108 := by kernel_rfl
def M109 : Marks := { cut := fun _ => true, hd := fun | _ => [], ex := fun | _ => [], imm := fun | 1 => true | _ => false }
def B109 : ACode :=
 .seq (.region [oP 1 (.box true (tP 0)),
 oP 2 (.mv (bP false))])
 (.seq (.region [oP 3 (.load (some 3) (tP 1)),
 oP 4 (.call (.fn 144) [(iP 64), (tP 3)]),
 oP 2 (.mv (tP 4))])
 (.ret))
def A109 : AFunc := { ntmps := 5, results := [.tmp 2], body := B109, coe := true, keep := 0 }
theorem tr109 : trFunc Tryz.prog M109 true Tryz.f109 = some A109 := by kernel_rfl
def M110 : Marks := { cut := fun _ => true, hd := fun | _ => [], ex := fun | _ => [], imm := fun | _ => false }
def B110 : ACode :=
 .seq (.region [oP 7 (.box false (tP 3)),
 oP 8 (.mv (bP false))])
 (.seq (.region [oP 9 (.mv (tP 0)),
 oP 10 (.len false (tP 9)),
 oP 11 (.mv (tP 1)),
 oP 12 (.bin .geq (tP 10) (tP 11)),
 oP 13 (.mv (tP 12)),
 gP 14 13 true (.mv (tP 0)),
 gP 15 13 true (.len false (tP 14)),
 gP 16 13 true (.mv (tP 2)),
 gP 17 13 true (.bin .leq (tP 15) (tP 16)),
 oP 18 (.pick (tP 13) (tP 17) (bP false)),
 oP 19 (.mv (tP 18)),
 gP 20 19 true (.mv (tP 0)),
 gP 21 19 true (.mkf (.func 146) [] [(tP 7)]),
 gP 22 19 true (.call (.fn 145) [(tP 20), (tP 21)]),
 gP 23 19 true (.un .not (tP 22)),
 oP 24 (.pick (tP 19) (tP 23) (bP false)),
 oP 8 (.mv (tP 24))])
 (.ret))
def A110 : AFunc := { ntmps := 25, results := [.tmp 8], body := B110, coe := true, keep := 0 }
theorem tr110 : trFunc Tryz.prog M110 true Tryz.f110 = some A110 := by kernel_rfl
def M111 : Marks := { cut := fun _ => true, hd := fun | _ => [], ex := fun | _ => [], imm := fun | 1 => true | _ => false }
def B111 : ACode :=
 .seq (.region [oP 1 (.box true (tP 0)),
 oP 2 (.mv (bP false))])
 (.seq (.region [oP 3 (.addOff 2 (tP 1)),
 oP 4 (.load none (tP 3)),
 oP 5 (.call (.fn 147) [(tP 4)]),
 oP 6 (.mv (tP 5)),
 gP 7 6 true (.addOff 3 (tP 1)),
 gP 8 6 true (.load none (tP 7)),
 gP 9 6 true (.call (.fn 148) [(tP 8), (iP 1), (iP 16), (.fn 149)]),
 oP 10 (.pick (tP 6) (tP 9) (bP false)),
 oP 2 (.mv (tP 10))])
 (.ret))
def A111 : AFunc := { ntmps := 11, results := [.tmp 2], body := B111, coe := true, keep := 0 }
theorem tr111 : trFunc Tryz.prog M111 true Tryz.f111 = some A111 := by kernel_rfl
def M112 : Marks := { cut := fun _ => true, hd := fun | _ => [], ex := fun | _ => [], imm := fun | _ => false }
def B112 : ACode :=
 .seq (.region [oP 7 (.box false (tP 3)),
 oP 8 (.mv (bP false))])
 (.seq (.region [oP 9 (.mv (tP 0)),
 oP 10 (.len false (tP 9)),
 oP 11 (.mv (tP 1)),
 oP 12 (.bin .geq (tP 10) (tP 11)),
 oP 13 (.mv (tP 12)),
 gP 14 13 true (.mv (tP 0)),
 gP 15 13 true (.len false (tP 14)),
 gP 16 13 true (.mv (tP 2)),
 gP 17 13 true (.bin .leq (tP 15) (tP 16)),
 oP 18 (.pick (tP 13) (tP 17) (bP false)),
 oP 19 (.mv (tP 18)),
 gP 20 19 true (.mv (tP 0)),
 gP 21 19 true (.mkf (.func 150) [] [(tP 7)]),
 gP 22 19 true (.call (.fn 123) [(tP 20), (tP 21)]),
 gP 23 19 true (.un .not (tP 22)),
 oP 24 (.pick (tP 19) (tP 23) (bP false)),
 oP 8 (.mv (tP 24))])
 (.ret))
def A112 : AFunc := { ntmps := 25, results := [.tmp 8], body := B112, coe := true, keep := 0 }
theorem tr112 : trFunc Tryz.prog M112 true Tryz.f112 = some A112 := by kernel_rfl
def M113 : Marks := { cut := fun _ => true, hd := fun | _ => [], ex := fun | _ => [], imm := fun | 1 => true | _ => false }
def B113 : ACode :=
 .seq (.region [oP 1 (.box true (tP 0)),
 oP 2 (.mv (bP false))])
 (.seq (.region [oP 3 (.addOff 2 (tP 1)),
 oP 4 (.load none (tP 3)),
 oP 5 (.call (.fn 151) [(tP 4)]),
 oP 6 (.mv (tP 5)),
 gP 7 6 true (.addOff 3 (tP 1)),
 gP 8 6 true (.load none (tP 7)),
 gP 9 6 true (.call (.fn 152) [(tP 8), (iP 1), (iP 6), (.fn 153)]),
 oP 10 (.pick (tP 6) (tP 9) (bP false)),
 oP 11 (.mv (tP 10)),
 gP 12 11 true (.addOff 4 (tP 1)),
 gP 13 11 true (.load (some 3) (tP 12)),
 gP 14 11 true (.call (.fn 109) [(tP 13)]),
 oP 15 (.pick (tP 11) (tP 14) (bP false)),
 oP 16 (.mv (tP 15)),
 gP 17 16 true (.addOff 7 (tP 1)),
 gP 18 16 true (.load (some 8) (tP 17)),
 gP 19 16 true (.call (.fn 94) [(tP 18)]),
 oP 20 (.pick (tP 16) (tP 19) (bP false)),
 oP 2 (.mv (tP 20))])
 (.ret))
def A113 : AFunc := { ntmps := 21, results := [.tmp 2], body := B113, coe := true, keep := 0 }
theorem tr113 : trFunc Tryz.prog M113 true Tryz.f113 = some A113 := by kernel_rfl
end Go.Proofs.YtnklhhmfmopdnaaGreatDoor.Codes
