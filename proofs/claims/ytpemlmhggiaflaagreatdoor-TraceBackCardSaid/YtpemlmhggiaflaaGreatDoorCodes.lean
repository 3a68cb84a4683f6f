/-
  The deep codes of functions, each with the fact that it is that of the function's code. Written by wip/gen/deep.py.
  Conditions: none.
-/
import Derived.Test.YtpemlmhggiaflaaGreatDoorMF
import Derived.Test.YtpemlmhggiaflaaGreatDoorProg
import Derived.KernelRfl
set_option maxRecDepth 100000
namespace Go.Proofs.YtpemlmhggiaflaaGreatDoor.Codes
open Go.Deepv
def M3 : Marks := { cut := fun _ => true, hd := fun | _ => [], ex := fun | _ => [], imm := fun | 2 => true | _ => false, alts := fun | 5 => [[0, 2, 1, 3, 4, 5, 6, 7, 8, 9, 10, 11, 12, 13, 14, 15, 16, 17, 18]] | _ => [] }
def B3 : ACode :=
 .seq (.region [oP 2 (.box true (tP 0)),
 oP 4 (.mv (bP false))])
 (.seq (.seq (.region [oP 9 (.addOff 3 (tP 2)),
 oP 10 (.load none (tP 9)),
 oP 11 (.len false (tP 10)),
 oP 12 (.bin .gtr (tP 11) (iP 300)),
 oP 13 (.mv (tP 12)),
 gP 14 13 false (.mv (tP 1)),
 gP 15 13 false (.len true (tP 14)),
 gP 16 13 false (.bin .gtr (tP 15) (iP 300)),
 oP 17 (.pick (tP 13) (bP true) (tP 16))])
 (.cond (tP 17) (.seq (.region [oP 18 (.call (.fn 6) []),
 oP 4 (.mv (tP 18))])
 (.ret)) (.skip)))
 (.seq (.region [oP 20 (.mv (tP 1)),
 oP 21 (.call (.fn 7) [(tP 20)]),
 oP 19 (.mv (tP 21)),
 oP 22 (.ext 0 (tP 19)),
 oP 23 (.ext 1 (tP 19)),
 oP 5 (.alloc [.ok (.int .i64 0), .ok (.int .i64 0), .ok (.int .i64 0), .error 1]),
 sP (.store 4 (tP 5) (tP 22)),
 oP 6 (.mv (tP 23))])
 (.seq (.region [oP 25 (.mv (tP 1)),
 oP 26 (.call (.fn 8) [(tP 25)]),
 oP 24 (.mv (tP 26)),
 oP 27 (.ext 0 (tP 24)),
 oP 28 (.ext 1 (tP 24)),
 oP 7 (.alloc [.ok (.int .i64 0), .ok (.int .i64 0), .ok (.int .i64 0), .error 1]),
 sP (.store 4 (tP 7) (tP 27)),
 oP 8 (.mv (tP 28))])
 (.seq (.draw [oP 29 (.load (some 4) (tP 2)),
 oP 30 (.call (.fn 9) [(tP 29)]),
 oP 31 (.load (some 4) (tP 2)),
 oP 32 (.call (.fn 10) [(tP 31)]),
 oP 33 (.bin .eql (tP 30) (tP 32)),
 oP 34 (.mv (tP 33)),
 gP 35 34 true (.load (some 4) (tP 5)),
 gP 36 34 true (.load (some 4) (tP 7)),
 gP 37 34 true (.call (.fn 11) [(tP 35), (tP 36)]),
 oP 38 (.pick (tP 34) (tP 37) (bP false)),
 oP 39 (.mv (tP 38)),
 gP 40 39 true (.mv (tP 6)),
 gP 41 39 true (.mv (tP 8)),
 gP 42 39 true (.bin .eql (tP 40) (tP 41)),
 oP 43 (.pick (tP 39) (tP 42) (bP false)),
 oP 44 (.mv (tP 43)),
 gP 45 44 true (.call (.fn 6) []),
 oP 46 (.pick (tP 44) (tP 45) (bP false)),
 oP 4 (.mv (tP 46))] [[oP 29 (.load (some 4) (tP 2)), oP 31 (.load (some 4) (tP 2)), oP 30 (.call (.fn 9) [(tP 29)]), oP 32 (.call (.fn 10) [(tP 31)]), oP 33 (.bin .eql (tP 30) (tP 32)), oP 34 (.mv (tP 33)), gP 35 34 true (.load (some 4) (tP 5)), gP 36 34 true (.load (some 4) (tP 7)), gP 37 34 true (.call (.fn 11) [(tP 35), (tP 36)]), oP 38 (.pick (tP 34) (tP 37) (bP false)), oP 39 (.mv (tP 38)), gP 40 39 true (.mv (tP 6)), gP 41 39 true (.mv (tP 8)), gP 42 39 true (.bin .eql (tP 40) (tP 41)), oP 43 (.pick (tP 39) (tP 42) (bP false)), oP 44 (.mv (tP 43)), gP 45 44 true (.call (.fn 6) []), oP 46 (.pick (tP 44) (tP 45) (bP false)), oP 4 (.mv (tP 46))]])
 (.ret)))))
def A3 : AFunc := { ntmps := 47, results := [.tmp 4], body := B3, coe := true, keep := 0 }
theorem tr3 : trFunc Tryz.prog M3 true Tryz.f3 = some A3 := by kernel_rfl
def M4 : Marks := { cut := fun _ => true, hd := fun | _ => [], ex := fun | _ => [], imm := fun | 2 => true | _ => false }
def B4 : ACode :=
 .seq (.region [oP 2 (.box true (tP 0)),
 oP 4 (.mv (bP false))])
 (.seq (.seq (.region [oP 10 (.addOff 3 (tP 2)),
 oP 11 (.load none (tP 10)),
 oP 12 (.len false (tP 11)),
 oP 13 (.bin .gtr (tP 12) (iP 300)),
 oP 14 (.mv (tP 13)),
 gP 15 14 false (.mv (tP 1)),
 gP 16 14 false (.len true (tP 15)),
 gP 17 14 false (.bin .gtr (tP 16) (iP 300)),
 oP 18 (.pick (tP 14) (bP true) (tP 17))])
 (.cond (tP 18) (.seq (.region [oP 19 (.call (.fn 6) []),
 oP 4 (.mv (tP 19))])
 (.ret)) (.skip)))
 (.seq (.region [oP 20 (.load (some 4) (tP 2)),
 oP 21 (.call (.fn 9) [(tP 20)]),
 oP 5 (.mv (tP 21))])
 (.seq (.region [oP 23 (.mv (tP 5)),
 oP 24 (.call (.fn 7) [(tP 23)]),
 oP 22 (.mv (tP 24)),
 oP 25 (.ext 0 (tP 22)),
 oP 26 (.ext 1 (tP 22)),
 oP 6 (.alloc [.ok (.int .i64 0), .ok (.int .i64 0), .ok (.int .i64 0), .error 1]),
 sP (.store 4 (tP 6) (tP 25)),
 oP 7 (.mv (tP 26))])
 (.seq (.seq (.region [oP 27 (.mv (tP 5)),
 oP 28 (.bin .neq (tP 27) (.con (.str ⟨#[]⟩))),
 oP 29 (.load (some 4) (tP 2)),
 oP 30 (.call (.fn 12) [(tP 29)]),
 oP 31 (.eqb true (tP 28) (tP 30)),
 oP 32 (.mv (tP 31)),
 gP 33 32 false (.mv (tP 5)),
 gP 34 32 false (.bin .neq (tP 33) (.con (.str ⟨#[]⟩))),
 gP 35 32 false (.mv (tP 34)),
 gP 36 35 true (.mv (tP 7)),
 gP 37 35 true (.bin .neq (tP 36) (iP 0)),
 gP 38 35 true (.mv (tP 37)),
 gP 39 38 false (.load (some 4) (tP 2)),
 gP 40 38 false (.load (some 4) (tP 6)),
 gP 41 38 false (.call (.fn 11) [(tP 39), (tP 40)]),
 gP 42 38 false (.un .not (tP 41)),
 gP 43 35 true (.pick (tP 38) (bP true) (tP 42)),
 gP 44 32 false (.pick (tP 35) (tP 43) (bP false)),
 oP 45 (.pick (tP 32) (bP true) (tP 44))])
 (.cond (tP 45) (.seq (.region [oP 4 (.mv (bP false))])
 (.ret)) (.skip)))
 (.seq (.region [oP 47 (.mv (tP 1)),
 oP 48 (.call (.fn 7) [(tP 47)]),
 oP 46 (.mv (tP 48)),
 oP 49 (.ext 0 (tP 46)),
 oP 50 (.ext 1 (tP 46)),
 oP 8 (.alloc [.ok (.int .i64 0), .ok (.int .i64 0), .ok (.int .i64 0), .error 1]),
 sP (.store 4 (tP 8) (tP 49)),
 oP 9 (.mv (tP 50))])
 (.seq (.region [oP 51 (.mv (tP 9)),
 oP 52 (.bin .neq (tP 51) (iP 0)),
 oP 53 (.mv (tP 52)),
 gP 54 53 false (.load (some 4) (tP 8)),
 gP 55 53 false (.call (.fn 12) [(tP 54)]),
 gP 56 53 false (.mv (tP 55)),
 gP 57 56 true (.load (some 4) (tP 8)),
 gP 58 56 true (.call (.fn 9) [(tP 57)]),
 gP 59 56 true (.mv (tP 1)),
 gP 60 56 true (.bin .eql (tP 58) (tP 59)),
 gP 61 53 false (.pick (tP 56) (tP 60) (bP false)),
 oP 62 (.pick (tP 53) (bP true) (tP 61)),
 oP 63 (.mv (tP 62)),
 gP 64 63 true (.call (.fn 6) []),
 oP 65 (.pick (tP 63) (tP 64) (bP false)),
 oP 4 (.mv (tP 65))])
 (.ret)))))))
def A4 : AFunc := { ntmps := 66, results := [.tmp 4], body := B4, coe := true, keep := 0 }
theorem tr4 : trFunc Tryz.prog M4 true Tryz.f4 = some A4 := by kernel_rfl
def M6 : Marks := { cut := fun _ => true, hd := fun | _ => [], ex := fun | _ => [], imm := fun | _ => false }
def B6 : ACode :=
 .seq (.region [oP 0 (.mv (bP false))])
 (.seq (.region [oP 4 (.call (.fn 7) [(.con (.str ⟨#[102, 105, 114, 101, 100, 32, 51, 32, 45, 49]⟩))]),
 oP 3 (.mv (tP 4)),
 oP 5 (.ext 0 (tP 3)),
 oP 6 (.ext 1 (tP 3)),
 oP 1 (.alloc [.ok (.int .i64 0), .ok (.int .i64 0), .ok (.int .i64 0), .error 1]),
 sP (.store 4 (tP 1) (tP 5)),
 oP 2 (.mv (tP 6))])
 (.seq (.region [oP 7 (.lit false 5 1 2 [.int .u8 0] [(0, (.con (.int .u8 97))), (1, (.con (.int .u8 10)))]),
 oP 8 (.mark (tP 7)),
 oP 9 (.build [.int .i64 0, .int .i64 0, .int .i64 0, .slice 1 []] [(0, 1, (iP 6)), (3, 1, (tP 8))]),
 oP 10 (.call (.fn 9) [(tP 9)]),
 oP 11 (.bin .eql (tP 10) (.con (.str ⟨#[116, 111, 108, 100, 32, 34, 97, 92, 120, 48, 97, 34]⟩))),
 oP 12 (.mv (tP 11)),
 gP 13 12 true (.mv (tP 2)),
 gP 14 12 true (.bin .eql (tP 13) (iP 0)),
 oP 15 (.pick (tP 12) (tP 14) (bP false)),
 oP 16 (.mv (tP 15)),
 gP 17 16 true (.addOff 0 (tP 1)),
 gP 18 16 true (.load none (tP 17)),
 gP 19 16 true (.bin .eql (tP 18) (iP 4)),
 oP 20 (.pick (tP 16) (tP 19) (bP false)),
 oP 21 (.mv (tP 20)),
 gP 22 21 true (.addOff 1 (tP 1)),
 gP 23 21 true (.load none (tP 22)),
 gP 24 21 true (.bin .eql (tP 23) (iP 3)),
 oP 25 (.pick (tP 21) (tP 24) (bP false)),
 oP 26 (.mv (tP 25)),
 gP 27 26 true (.addOff 2 (tP 1)),
 gP 28 26 true (.load none (tP 27)),
 gP 29 26 true (.bin .eql (tP 28) (iP (-1))),
 oP 30 (.pick (tP 26) (tP 29) (bP false)),
 oP 0 (.mv (tP 30))])
 (.ret)))
def A6 : AFunc := { ntmps := 31, results := [.tmp 0], body := B6, coe := true, keep := 0 }
theorem tr6 : trFunc Tryz.prog M6 true Tryz.f6 = some A6 := by kernel_rfl
abbrev H7L2 : List Bool := [true, false, true, false, false, false, false, false, false, true, true, true]
abbrev X7L2 : List Bool := [false, false, true, true]
def M7 : Marks := { cut := fun _ => true, hd := fun | 2 => H7L2 | _ => [], ex := fun | 2 => X7L2 | _ => [], imm := fun | _ => false }
def B7L2 : ACode :=
 .seq (.region [oP 12 (.bin .lss (tP 11) (tP 10))])
 (.seq (.cond (tP 12) (.skip) (.exit 0))
 (.seq (.block 1 (.seq (.region [oP 13 (.mv (tP 11)),
 oP 14 (.idxAddr 4 (tP 9) (tP 11)),
 oP 15 (.load (some 4) (tP 14)),
 oP 5 (.alloc [.ok (.str ⟨#[]⟩), .ok (.bool false), .ok (.bool false), .ok (.bool false)]),
 oP 4 (.mv (tP 13)),
 sP (.store 4 (tP 5) (tP 15))])
 (.seq (.region [oP 16 (.mv (tP 4)),
 oP 17 (.build [.int .i64 0, .int .i64 0, .int .i64 0, .slice 1 []] [(0, 1, (tP 16))]),
 oP 6 (.alloc [.ok (.int .i64 0), .ok (.int .i64 0), .ok (.int .i64 0), .error 1]),
 sP (.store 4 (tP 6) (tP 17))])
 (.seq (.region [oP 19 (.mv (tP 0)),
 oP 20 (.addOff 0 (tP 5)),
 oP 21 (.load none (tP 20)),
 oP 22 (.call (.fn 17) [(tP 19), (tP 21)]),
 oP 18 (.mv (tP 22)),
 oP 23 (.ext 0 (tP 18)),
 oP 24 (.ext 1 (tP 18)),
 oP 7 (.mv (tP 23)),
 oP 8 (.mv (tP 24))])
 (.seq (.block 2 (.seq (.block 5 (.block 4 (.seq (.block 3 (.seq (.seq (.seq (.region [oP 26 (.mv (tP 8)),
 oP 27 (.un .not (tP 26)),
 oP 25 (.mv (tP 27))])
 (.cond (tP 25) (.exit 3) (.skip)))
 (.seq (.seq (.seq (.region [oP 29 (.addOff 1 (tP 5)),
 oP 30 (.load none (tP 29)),
 oP 28 (.mv (tP 30))])
 (.cond (tP 28) (.skip) (.region [oP 31 (.addOff 2 (tP 5)),
 oP 32 (.load none (tP 31)),
 oP 28 (.mv (tP 32))])))
 (.cond (tP 28) (.exit 4) (.skip)))
 (.seq (.region [oP 34 (.addOff 3 (tP 5)),
 oP 35 (.load none (tP 34)),
 oP 33 (.mv (tP 35))])
 (.cond (tP 33) (.exit 5) (.skip)))))
 (.exit 2)))
 (.seq (.exit 1)
 (.exit 2)))))
 (.seq (.seq (.region [oP 37 (.mv (tP 7)),
 oP 38 (.call (.fn 17) [(tP 37), (.con (.str ⟨#[32]⟩))]),
 oP 36 (.mv (tP 38)),
 oP 39 (.ext 0 (tP 36)),
 oP 40 (.ext 1 (tP 36)),
 oP 7 (.mv (tP 39)),
 oP 8 (.mv (tP 40))])
 (.seq (.region [oP 41 (.mv (tP 8))])
 (.cond (tP 41) (.region [oP 43 (.mv (tP 4)),
 oP 44 (.load (some 4) (tP 5)),
 oP 45 (.mv (tP 7)),
 oP 46 (.call (.fn 18) [(tP 43), (tP 44), (tP 45)]),
 oP 42 (.mv (tP 46)),
 oP 47 (.ext 0 (tP 42)),
 oP 48 (.ext 1 (tP 42)),
 sP (.store 4 (tP 6) (tP 47)),
 oP 8 (.mv (tP 48))]) (.skip))))
 (.exit 2))))
 (.seq (.region [oP 49 (.mv (tP 8)),
 oP 50 (.mv (tP 49)),
 gP 51 50 true (.load (some 4) (tP 6)),
 gP 52 50 true (.call (.fn 9) [(tP 51)]),
 gP 53 50 true (.mv (tP 0)),
 gP 54 50 true (.bin .eql (tP 52) (tP 53)),
 oP 55 (.pick (tP 50) (tP 54) (bP false))])
 (.cond (tP 55) (.seq (.region [oP 56 (.load (some 4) (tP 6)),
 sP (.store 4 (tP 2) (tP 56)),
 oP 3 (.mv (iP 0))])
 (.ret)) (.skip))))))))
 (.region [oP 57 (.bin .add (tP 11) (iP 1)),
 oP 11 (.mv (tP 57))])))
def B7 : ACode :=
 .seq (.region [oP 2 (.alloc [.ok (.int .i64 0), .ok (.int .i64 0), .ok (.int .i64 0), .error 1]),
 oP 3 (.mv (iP 0))])
 (.seq (.seq (.region [oP 9 (.call (.fn 16) []),
 oP 10 (.len false (tP 9)),
 oP 11 (.mv (iP 0))])
 (.block 0 (.loop true H7L2 X7L2 B7L2)))
 (.seq (.region [oP 58 (.build [.int .i64 0, .int .i64 0, .int .i64 0, .slice 1 []] []),
 sP (.store 4 (tP 2) (tP 58)),
 oP 3 (.mv (iP 19))])
 (.ret)))
def A7 : AFunc := { ntmps := 59, results := [.cell (some 4) 2, .tmp 3], body := B7, coe := true, keep := 0 }
theorem tr7 : trFunc Tryz.prog M7 true Tryz.f7 = some A7 := by kernel_rfl
abbrev H8L4 : List Bool := [true, false, true, false, true]
abbrev X8L4 : List Bool := [false, false, true, true]
def M8 : Marks := { cut := fun _ => true, hd := fun | 4 => H8L4 | _ => [], ex := fun | 4 => X8L4 | _ => [], imm := fun | _ => false }
def B8L4 : ACode :=
 .seq (.seq (.region [oP 11 (.mv (tP 4)),
 oP 12 (.bin .leq (tP 11) (iP 9))])
 (.cond (tP 12) (.skip) (.exit 0)))
 (.seq (.block 1 (.seq (.region [oP 16 (.mv (tP 0)),
 oP 17 (.mv (tP 4)),
 oP 18 (.call (.fn 19) [(tP 16), (tP 17)]),
 oP 15 (.mv (tP 18)),
 oP 19 (.ext 0 (tP 15)),
 oP 20 (.ext 1 (tP 15)),
 oP 5 (.alloc [.ok (.int .i64 0), .ok (.int .i64 0), .ok (.int .i64 0), .error 1]),
 sP (.store 4 (tP 5) (tP 19)),
 oP 6 (.mv (tP 20))])
 (.seq (.region [oP 21 (.mv (tP 6)),
 oP 22 (.mv (tP 21)),
 gP 23 22 true (.load (some 4) (tP 5)),
 gP 24 22 true (.call (.fn 12) [(tP 23)]),
 oP 25 (.pick (tP 22) (tP 24) (bP false)),
 oP 26 (.mv (tP 25)),
 gP 27 26 true (.load (some 4) (tP 5)),
 gP 28 26 true (.call (.fn 10) [(tP 27)]),
 gP 29 26 true (.mv (tP 0)),
 gP 30 26 true (.bin .eql (tP 28) (tP 29)),
 oP 31 (.pick (tP 26) (tP 30) (bP false))])
 (.cond (tP 31) (.seq (.region [oP 32 (.load (some 4) (tP 5)),
 sP (.store 4 (tP 2) (tP 32)),
 oP 3 (.mv (iP 0))])
 (.ret)) (.skip)))))
 (.region [oP 13 (.mv (tP 4)),
 oP 14 (.bin .add (tP 13) (iP 1)),
 oP 4 (.mv (tP 14))]))
def B8 : ACode :=
 .seq (.region [oP 2 (.alloc [.ok (.int .i64 0), .ok (.int .i64 0), .ok (.int .i64 0), .error 1]),
 oP 3 (.mv (iP 0))])
 (.seq (.seq (.region [oP 7 (.mv (tP 0)),
 oP 8 (.len true (tP 7)),
 oP 9 (.bin .gtr (tP 8) (iP 400))])
 (.cond (tP 9) (.seq (.region [oP 10 (.build [.int .i64 0, .int .i64 0, .int .i64 0, .slice 1 []] []),
 sP (.store 4 (tP 2) (tP 10)),
 oP 3 (.mv (iP 19))])
 (.ret)) (.skip)))
 (.seq (.seq (.region [oP 4 (.mv (iP 0))])
 (.block 0 (.loop true H8L4 X8L4 B8L4)))
 (.seq (.region [oP 33 (.build [.int .i64 0, .int .i64 0, .int .i64 0, .slice 1 []] []),
 sP (.store 4 (tP 2) (tP 33)),
 oP 3 (.mv (iP 19))])
 (.ret))))
def A8 : AFunc := { ntmps := 34, results := [.cell (some 4) 2, .tmp 3], body := B8, coe := true, keep := 0 }
theorem tr8 : trFunc Tryz.prog M8 true Tryz.f8 = some A8 := by kernel_rfl
def M9 : Marks := { cut := fun _ => true, hd := fun | _ => [], ex := fun | _ => [], imm := fun | 1 => true | 22 => true | 30 => true | 39 => true | _ => false }
def B9 : ACode :=
 .seq (.region [oP 1 (.box true (tP 0)),
 oP 2 (.mv (.con (.str ⟨#[]⟩)))])
 (.seq (.region [oP 7 (.load (some 4) (tP 1)),
 oP 8 (.call (.fn 20) [(tP 7)]),
 oP 6 (.mv (tP 8)),
 oP 9 (.ext 0 (tP 6)),
 oP 10 (.ext 1 (tP 6)),
 oP 3 (.alloc [.ok (.str ⟨#[]⟩), .ok (.bool false), .ok (.bool false), .ok (.bool false)]),
 sP (.store 4 (tP 3) (tP 9)),
 oP 4 (.mv (tP 10))])
 (.seq (.seq (.region [oP 11 (.mv (tP 4)),
 oP 12 (.un .not (tP 11))])
 (.cond (tP 12) (.seq (.region [oP 2 (.mv (.con (.str ⟨#[]⟩)))])
 (.ret)) (.skip)))
 (.seq (.region [oP 13 (.addOff 0 (tP 3)),
 oP 14 (.load none (tP 13)),
 oP 15 (.lit false 0 1 1 [.str ⟨#[]⟩] [(0, (tP 14))]),
 oP 5 (.mv (tP 15))])
 (.seq (.seq (.region [oP 16 (.addOff 1 (tP 3)),
 oP 17 (.load none (tP 16))])
 (.cond (tP 17) (.region [oP 18 (.mv (tP 5)),
 oP 19 (.addOff 1 (tP 1)),
 oP 20 (.load none (tP 19)),
 oP 21 (.call (.fn 21) [(tP 20)]),
 oP 22 (.lit true 0 1 1 [.str ⟨#[]⟩] [(0, (tP 21))]),
 oP 23 (.app false 0 1 16 (tP 18) (tP 22)),
 oP 5 (.mv (tP 23))]) (.skip)))
 (.seq (.seq (.region [oP 24 (.addOff 2 (tP 3)),
 oP 25 (.load none (tP 24))])
 (.cond (tP 25) (.region [oP 26 (.mv (tP 5)),
 oP 27 (.addOff 2 (tP 1)),
 oP 28 (.load none (tP 27)),
 oP 29 (.call (.fn 22) [(tP 28), (iP 10)]),
 oP 30 (.lit true 0 1 1 [.str ⟨#[]⟩] [(0, (tP 29))]),
 oP 31 (.app false 0 1 16 (tP 26) (tP 30)),
 oP 5 (.mv (tP 31))]) (.skip)))
 (.seq (.seq (.region [oP 32 (.addOff 3 (tP 3)),
 oP 33 (.load none (tP 32))])
 (.cond (tP 33) (.region [oP 34 (.mv (tP 5)),
 oP 35 (.addOff 3 (tP 1)),
 oP 36 (.load none (tP 35)),
 oP 37 (.build [.int .i64 0, .str ⟨#[]⟩, .int .i64 0, .slice 1 [], .int .i64 0, .int .i64 0] [(0, 1, (iP 4)), (3, 1, (tP 36))]),
 oP 38 (.call (.fn 23) [(tP 37)]),
 oP 39 (.lit true 0 1 1 [.str ⟨#[]⟩] [(0, (tP 38))]),
 oP 40 (.app false 0 1 16 (tP 34) (tP 39)),
 oP 5 (.mv (tP 40))]) (.skip)))
 (.seq (.region [oP 41 (.mv (tP 5)),
 oP 42 (.call (.fn 24) [(tP 41), (.con (.str ⟨#[32]⟩))]),
 oP 2 (.mv (tP 42))])
 (.ret))))))))
def A9 : AFunc := { ntmps := 43, results := [.tmp 2], body := B9, coe := true, keep := 0 }
theorem tr9 : trFunc Tryz.prog M9 true Tryz.f9 = some A9 := by kernel_rfl
def M10 : Marks := { cut := fun _ => true, hd := fun | _ => [], ex := fun | _ => [], imm := fun | 1 => true | _ => false }
def B10 : ACode :=
 .seq (.region [oP 1 (.box true (tP 0)),
 oP 2 (.mv (.con (.str ⟨#[]⟩)))])
 (.seq (.seq (.region [oP 7 (.load (some 4) (tP 1)),
 oP 8 (.call (.fn 12) [(tP 7)]),
 oP 9 (.un .not (tP 8))])
 (.cond (tP 9) (.seq (.region [oP 2 (.mv (.con (.str ⟨#[]⟩)))])
 (.ret)) (.skip)))
 (.seq (.region [oP 11 (.addOff 0 (tP 1)),
 oP 12 (.load none (tP 11)),
 oP 13 (.call (.fn 25) [(tP 12)]),
 oP 10 (.mv (tP 13)),
 oP 14 (.ext 0 (tP 10)),
 oP 15 (.ext 1 (tP 10)),
 oP 16 (.ext 2 (tP 10)),
 oP 17 (.ext 3 (tP 10)),
 oP 3 (.mv (tP 14)),
 oP 4 (.mv (tP 15)),
 oP 5 (.mv (tP 16)),
 oP 6 (.mv (tP 17))])
 (.seq (.seq (.region [oP 18 (.mv (tP 4))])
 (.cond (tP 18) (.region [oP 19 (.mv (tP 3)),
 oP 20 (.bin .add (tP 19) (.con (.str ⟨#[32]⟩))),
 oP 21 (.addOff 1 (tP 1)),
 oP 22 (.load none (tP 21)),
 oP 23 (.call (.fn 26) [(tP 22)]),
 oP 24 (.bin .add (tP 20) (tP 23)),
 oP 3 (.mv (tP 24))]) (.skip)))
 (.seq (.seq (.region [oP 25 (.mv (tP 5))])
 (.cond (tP 25) (.region [oP 26 (.mv (tP 3)),
 oP 27 (.bin .add (tP 26) (.con (.str ⟨#[32]⟩))),
 oP 28 (.addOff 2 (tP 1)),
 oP 29 (.load none (tP 28)),
 oP 30 (.call (.fn 26) [(tP 29)]),
 oP 31 (.bin .add (tP 27) (tP 30)),
 oP 3 (.mv (tP 31))]) (.skip)))
 (.seq (.seq (.region [oP 32 (.mv (tP 6))])
 (.cond (tP 32) (.region [oP 33 (.mv (tP 3)),
 oP 34 (.bin .add (tP 33) (.con (.str ⟨#[32]⟩))),
 oP 35 (.addOff 3 (tP 1)),
 oP 36 (.load none (tP 35)),
 oP 37 (.build [.int .i64 0, .str ⟨#[]⟩, .int .i64 0, .slice 1 [], .int .i64 0, .int .i64 0] [(0, 1, (iP 4)), (3, 1, (tP 36))]),
 oP 38 (.call (.fn 27) [(tP 37)]),
 oP 39 (.bin .add (tP 34) (tP 38)),
 oP 3 (.mv (tP 39))]) (.skip)))
 (.seq (.region [oP 40 (.mv (tP 3)),
 oP 2 (.mv (tP 40))])
 (.ret)))))))
def A10 : AFunc := { ntmps := 41, results := [.tmp 2], body := B10, coe := true, keep := 0 }
theorem tr10 : trFunc Tryz.prog M10 true Tryz.f10 = some A10 := by kernel_rfl
def M11 : Marks := { cut := fun _ => true, hd := fun | _ => [], ex := fun | _ => [], imm := fun | 2 => true | 3 => true | 6 => true | 8 => true | _ => false }
def B11 : ACode :=
 .seq (.region [oP 2 (.box true (tP 0)),
 oP 3 (.box true (tP 1)),
 oP 4 (.mv (bP false))])
 (.seq (.region [oP 5 (.load (some 4) (tP 2)),
 oP 6 (.lit true 0 4 1 [.int .i64 0, .int .i64 0, .int .i64 0, .slice 1 []] [(0, (tP 5))]),
 oP 7 (.load (some 4) (tP 3)),
 oP 8 (.lit true 0 4 1 [.int .i64 0, .int .i64 0, .int .i64 0, .slice 1 []] [(0, (tP 7))]),
 oP 9 (.call (.fn 28) [(tP 6), (tP 8)]),
 oP 4 (.mv (tP 9))])
 (.ret))
def A11 : AFunc := { ntmps := 10, results := [.tmp 4], body := B11, coe := true, keep := 0 }
theorem tr11 : trFunc Tryz.prog M11 true Tryz.f11 = some A11 := by kernel_rfl
def M12 : Marks := { cut := fun _ => true, hd := fun | _ => [], ex := fun | _ => [], imm := fun | 1 => true | _ => false }
def B12 : ACode :=
 .seq (.region [oP 1 (.box true (tP 0)),
 oP 2 (.mv (bP false))])
 (.seq (.seq (.region [oP 7 (.addOff 0 (tP 1)),
 oP 8 (.load none (tP 7)),
 oP 9 (.bin .lss (tP 8) (iP 0)),
 oP 10 (.mv (tP 9)),
 gP 11 10 false (.addOff 0 (tP 1)),
 gP 12 10 false (.load none (tP 11)),
 gP 13 10 false (.bin .gtr (tP 12) (iP 9)),
 oP 14 (.pick (tP 10) (bP true) (tP 13))])
 (.cond (tP 14) (.seq (.region [oP 2 (.mv (bP false))])
 (.ret)) (.skip)))
 (.seq (.region [oP 16 (.addOff 0 (tP 1)),
 oP 17 (.load none (tP 16)),
 oP 18 (.call (.fn 25) [(tP 17)]),
 oP 15 (.mv (tP 18)),
 oP 19 (.ext 0 (tP 15)),
 oP 20 (.ext 1 (tP 15)),
 oP 21 (.ext 2 (tP 15)),
 oP 22 (.ext 3 (tP 15)),
 oP 3 (.mv (tP 19)),
 oP 4 (.mv (tP 20)),
 oP 5 (.mv (tP 21)),
 oP 6 (.mv (tP 22))])
 (.seq (.seq (.region [oP 23 (.mv (tP 4)),
 oP 24 (.mv (tP 23)),
 gP 25 24 true (.addOff 1 (tP 1)),
 gP 26 24 true (.load none (tP 25)),
 gP 27 24 true (.bin .lss (tP 26) (iP 1)),
 gP 28 24 true (.mv (tP 27)),
 gP 29 28 false (.addOff 1 (tP 1)),
 gP 30 28 false (.load none (tP 29)),
 gP 31 28 false (.bin .gtr (tP 30) (iP 1099511627776)),
 gP 32 24 true (.pick (tP 28) (bP true) (tP 31)),
 oP 33 (.pick (tP 24) (tP 32) (bP false)),
 oP 34 (.mv (tP 33)),
 gP 35 34 false (.mv (tP 4)),
 gP 36 34 false (.un .not (tP 35)),
 gP 37 34 false (.mv (tP 36)),
 gP 38 37 true (.addOff 1 (tP 1)),
 gP 39 37 true (.load none (tP 38)),
 gP 40 37 true (.bin .neq (tP 39) (iP 0)),
 gP 41 34 false (.pick (tP 37) (tP 40) (bP false)),
 oP 42 (.pick (tP 34) (bP true) (tP 41))])
 (.cond (tP 42) (.seq (.region [oP 2 (.mv (bP false))])
 (.ret)) (.skip)))
 (.seq (.seq (.region [oP 43 (.addOff 2 (tP 1)),
 oP 44 (.load none (tP 43)),
 oP 45 (.bin .lss (tP 44) (iP (-4611686018427387904))),
 oP 46 (.mv (tP 45)),
 gP 47 46 false (.addOff 2 (tP 1)),
 gP 48 46 false (.load none (tP 47)),
 gP 49 46 false (.bin .geq (tP 48) (iP 4611686018427387904)),
 oP 50 (.pick (tP 46) (bP true) (tP 49)),
 oP 51 (.mv (tP 50)),
 gP 52 51 false (.mv (tP 5)),
 gP 53 51 false (.un .not (tP 52)),
 gP 54 51 false (.mv (tP 53)),
 gP 55 54 true (.addOff 2 (tP 1)),
 gP 56 54 true (.load none (tP 55)),
 gP 57 54 true (.bin .neq (tP 56) (iP 0)),
 gP 58 51 false (.pick (tP 54) (tP 57) (bP false)),
 oP 59 (.pick (tP 51) (bP true) (tP 58))])
 (.cond (tP 59) (.seq (.region [oP 2 (.mv (bP false))])
 (.ret)) (.skip)))
 (.seq (.region [oP 60 (.addOff 3 (tP 1)),
 oP 61 (.load none (tP 60)),
 oP 62 (.len false (tP 61)),
 oP 63 (.bin .eql (tP 62) (iP 0)),
 oP 64 (.mv (tP 63)),
 gP 65 64 false (.mv (tP 6)),
 gP 66 64 false (.mv (tP 65)),
 gP 67 66 true (.addOff 3 (tP 1)),
 gP 68 66 true (.load none (tP 67)),
 gP 69 66 true (.len false (tP 68)),
 gP 70 66 true (.bin .leq (tP 69) (iP 64)),
 gP 71 64 false (.pick (tP 66) (tP 70) (bP false)),
 oP 72 (.pick (tP 64) (bP true) (tP 71)),
 oP 2 (.mv (tP 72))])
 (.ret))))))
def A12 : AFunc := { ntmps := 73, results := [.tmp 2], body := B12, coe := true, keep := 0 }
theorem tr12 : trFunc Tryz.prog M12 true Tryz.f12 = some A12 := by kernel_rfl
def M16 : Marks := { cut := fun _ => true, hd := fun | _ => [], ex := fun | _ => [], imm := fun | 0 => true | _ => false }
def B16 : ACode :=
 .seq (.region [oP 0 (.mv (.con (.slice 4 [])))])
 (.seq (.region [oP 1 (.build [.str ⟨#[]⟩, .bool false, .bool false, .bool false] [(0, 1, (.con (.str ⟨#[116, 97, 107, 101, 110]⟩))), (1, 1, (bP true))]),
 oP 2 (.build [.str ⟨#[]⟩, .bool false, .bool false, .bool false] [(0, 1, (.con (.str ⟨#[117, 110, 107, 110, 111, 119, 110]⟩)))]),
 oP 3 (.build [.str ⟨#[]⟩, .bool false, .bool false, .bool false] [(0, 1, (.con (.str ⟨#[109, 97, 108, 102, 111, 114, 109, 101, 100]⟩)))]),
 oP 4 (.build [.str ⟨#[]⟩, .bool false, .bool false, .bool false] [(0, 1, (.con (.str ⟨#[102, 117, 108, 108]⟩)))]),
 oP 5 (.build [.str ⟨#[]⟩, .bool false, .bool false, .bool false] [(0, 1, (.con (.str ⟨#[102, 105, 114, 101, 100]⟩))), (1, 1, (bP true)), (2, 1, (bP true))]),
 oP 6 (.build [.str ⟨#[]⟩, .bool false, .bool false, .bool false] [(0, 1, (.con (.str ⟨#[115, 97, 105, 100]⟩))), (2, 1, (bP true))]),
 oP 7 (.build [.str ⟨#[]⟩, .bool false, .bool false, .bool false] [(0, 1, (.con (.str ⟨#[116, 111, 108, 100]⟩))), (3, 1, (bP true))]),
 oP 8 (.build [.str ⟨#[]⟩, .bool false, .bool false, .bool false] [(0, 1, (.con (.str ⟨#[110, 111, 32, 116, 105, 109, 101, 114]⟩))), (2, 1, (bP true))]),
 oP 9 (.build [.str ⟨#[]⟩, .bool false, .bool false, .bool false] [(0, 1, (.con (.str ⟨#[107, 101, 112, 116]⟩)))]),
 oP 10 (.build [.str ⟨#[]⟩, .bool false, .bool false, .bool false] [(0, 1, (.con (.str ⟨#[100, 111, 110, 101]⟩))), (1, 1, (bP true))]),
 oP 11 (.lit false 0 4 10 [.str ⟨#[]⟩, .bool false, .bool false, .bool false] [(0, (tP 1)), (1, (tP 2)), (2, (tP 3)), (3, (tP 4)), (4, (tP 5)), (5, (tP 6)), (6, (tP 7)), (7, (tP 8)), (8, (tP 9)), (9, (tP 10))]),
 oP 0 (.mv (tP 11))])
 (.ret))
def A16 : AFunc := { ntmps := 12, results := [.tmp 0], body := B16, coe := true, keep := 0 }
theorem tr16 : trFunc Tryz.prog M16 true Tryz.f16 = some A16 := by kernel_rfl
def M17 : Marks := { cut := fun _ => true, hd := fun | _ => [], ex := fun | _ => [], imm := fun | _ => false }
def B17 : ACode :=
 .seq (.region [oP 4 (.mv (.con (.str ⟨#[]⟩))),
 oP 5 (.mv (bP false))])
 (.seq (.region [oP 6 (.mv (tP 0)),
 oP 7 (.mv (tP 1)),
 oP 8 (.call (.fn 31) [(tP 6), (tP 7)]),
 oP 9 (.ext 0 (tP 8)),
 oP 10 (.ext 1 (tP 8)),
 oP 4 (.mv (tP 9)),
 oP 5 (.mv (tP 10))])
 (.ret))
def A17 : AFunc := { ntmps := 11, results := [.tmp 4, .tmp 5], body := B17, coe := true, keep := 0 }
theorem tr17 : trFunc Tryz.prog M17 true Tryz.f17 = some A17 := by kernel_rfl
def M18 : Marks := { cut := fun _ => true, hd := fun | _ => [], ex := fun | _ => [], imm := fun | 4 => true | _ => false, alts := fun | 17 => [[0, 1, 2, 7, 3, 4, 5, 6, 8]] | _ => [] }
def B18 : ACode :=
 .seq (.region [oP 4 (.box true (tP 1)),
 oP 6 (.alloc [.ok (.int .i64 0), .ok (.int .i64 0), .ok (.int .i64 0), .error 1]),
 oP 7 (.mv (bP false))])
 (.seq (.region [oP 18 (.mv (tP 0)),
 oP 19 (.build [.int .i64 0, .int .i64 0, .int .i64 0, .slice 1 []] [(0, 1, (tP 18))]),
 oP 8 (.alloc [.ok (.int .i64 0), .ok (.int .i64 0), .ok (.int .i64 0), .error 1]),
 sP (.store 4 (tP 8) (tP 19))])
 (.seq (.seq (.region [oP 20 (.addOff 3 (tP 4)),
 oP 21 (.load none (tP 20))])
 (.cond (tP 21) (.seq (.region [oP 23 (.mv (tP 2)),
 oP 24 (.call (.fn 32) [(tP 23)]),
 oP 22 (.mv (tP 24)),
 oP 25 (.ext 0 (tP 22)),
 oP 26 (.ext 1 (tP 22)),
 oP 10 (.alloc [.ok (.int .i64 0), .ok (.int .i64 0), .ok (.int .i64 0)]),
 oP 9 (.mv (tP 25)),
 sP (.store 3 (tP 10) (tP 26))])
 (.seq (.seq (.region [oP 27 (.addOff 0 (tP 10)),
 oP 28 (.load none (tP 27)),
 oP 29 (.bin .neq (tP 28) (iP 0)),
 oP 30 (.mv (tP 29)),
 gP 31 30 false (.mv (tP 9)),
 gP 32 30 false (.len false (tP 31)),
 gP 33 30 false (.bin .neq (tP 32) (iP 2)),
 oP 34 (.pick (tP 30) (bP true) (tP 33)),
 oP 35 (.mv (tP 34)),
 gP 36 35 false (.mv (tP 9)),
 gP 37 35 false (.idxAddr 6 (tP 36) (iP 0)),
 gP 38 35 false (.addOff 0 (tP 37)),
 gP 39 35 false (.load none (tP 38)),
 gP 40 35 false (.bin .neq (tP 39) (iP 4)),
 oP 41 (.pick (tP 35) (bP true) (tP 40))])
 (.cond (tP 41) (.seq (.region [oP 42 (.load (some 4) (tP 8)),
 sP (.store 4 (tP 6) (tP 42)),
 oP 7 (.mv (bP false))])
 (.ret)) (.skip)))
 (.seq (.region [oP 43 (.mv (tP 9)),
 oP 44 (.idxAddr 6 (tP 43) (iP 0)),
 oP 45 (.addOff 3 (tP 44)),
 oP 46 (.load none (tP 45)),
 oP 47 (.addOff 3 (tP 8)),
 sP (.store 1 (tP 47) (tP 46))])
 (.seq (.region [oP 48 (.load (some 4) (tP 8)),
 sP (.store 4 (tP 6) (tP 48)),
 oP 7 (.mv (bP true))])
 (.ret))))) (.skip)))
 (.seq (.region [oP 49 (.mv (tP 2)),
 oP 50 (.call (.fn 33) [(tP 49), (.con (.str ⟨#[32]⟩))]),
 oP 11 (.alloc [.error 1]),
 sP (.store 1 (tP 11) (tP 50))])
 (.seq (.region [oP 51 (.mkf (.func 34) [] [(tP 11)]),
 oP 12 (.mv (tP 51))])
 (.seq (.region [oP 13 (.mv (bP true))])
 (.seq (.seq (.region [oP 52 (.addOff 1 (tP 4)),
 oP 53 (.load none (tP 52))])
 (.cond (tP 53) (.seq (.region [oP 55 (.mv (tP 12)),
 oP 56 (.call (tP 55) []),
 oP 54 (.mv (tP 56)),
 oP 57 (.ext 0 (tP 54)),
 oP 58 (.ext 1 (tP 54)),
 oP 14 (.mv (tP 57)),
 oP 15 (.mv (tP 58))])
 (.region [oP 59 (.mv (tP 14)),
 oP 60 (.mv (tP 15)),
 oP 61 (.addOff 1 (tP 8)),
 sP (.store 1 (tP 61) (tP 59)),
 oP 13 (.mv (tP 60))])) (.skip)))
 (.seq (.seq (.region [oP 62 (.addOff 2 (tP 4)),
 oP 63 (.load none (tP 62))])
 (.cond (tP 63) (.seq (.region [oP 65 (.mv (tP 12)),
 oP 66 (.call (tP 65) []),
 oP 64 (.mv (tP 66)),
 oP 67 (.ext 0 (tP 64)),
 oP 68 (.ext 1 (tP 64)),
 oP 16 (.mv (tP 67)),
 oP 17 (.mv (tP 68))])
 (.region [oP 69 (.mv (tP 16)),
 oP 70 (.mv (tP 13)),
 oP 71 (.mv (tP 70)),
 gP 72 71 true (.mv (tP 17)),
 oP 73 (.pick (tP 71) (tP 72) (bP false)),
 oP 74 (.addOff 2 (tP 8)),
 sP (.store 1 (tP 74) (tP 69)),
 oP 13 (.mv (tP 73))])) (.skip)))
 (.seq (.draw [oP 75 (.load (some 4) (tP 8)),
 oP 76 (.mv (tP 13)),
 oP 77 (.mv (tP 76)),
 gP 78 77 true (.load none (tP 11)),
 gP 79 77 true (.len false (tP 78)),
 gP 80 77 true (.bin .eql (tP 79) (iP 0)),
 oP 81 (.pick (tP 77) (tP 80) (bP false)),
 sP (.store 4 (tP 6) (tP 75)),
 oP 7 (.mv (tP 81))] [[oP 75 (.load (some 4) (tP 8)), oP 76 (.mv (tP 13)), oP 77 (.mv (tP 76)), sP (.store 4 (tP 6) (tP 75)), gP 78 77 true (.load none (tP 11)), gP 79 77 true (.len false (tP 78)), gP 80 77 true (.bin .eql (tP 79) (iP 0)), oP 81 (.pick (tP 77) (tP 80) (bP false)), oP 7 (.mv (tP 81))]])
 (.ret)))))))))
def A18 : AFunc := { ntmps := 82, results := [.cell (some 4) 6, .tmp 7], body := B18, coe := true, keep := 0 }
theorem tr18 : trFunc Tryz.prog M18 true Tryz.f18 = some A18 := by kernel_rfl
def M19 : Marks := { cut := fun _ => true, hd := fun | _ => [], ex := fun | _ => [], imm := fun | _ => false }
def B19 : ACode :=
 .seq (.region [oP 4 (.alloc [.ok (.int .i64 0), .ok (.int .i64 0), .ok (.int .i64 0), .error 1]),
 oP 5 (.mv (bP false))])
 (.seq (.region [oP 20 (.mv (tP 1)),
 oP 21 (.build [.int .i64 0, .int .i64 0, .int .i64 0, .slice 1 []] [(0, 1, (tP 20))]),
 oP 6 (.alloc [.ok (.int .i64 0), .ok (.int .i64 0), .ok (.int .i64 0), .error 1]),
 sP (.store 4 (tP 6) (tP 21))])
 (.seq (.region [oP 23 (.mv (tP 1)),
 oP 24 (.call (.fn 25) [(tP 23)]),
 oP 22 (.mv (tP 24)),
 oP 25 (.ext 0 (tP 22)),
 oP 26 (.ext 1 (tP 22)),
 oP 27 (.ext 2 (tP 22)),
 oP 28 (.ext 3 (tP 22)),
 oP 7 (.mv (tP 25)),
 oP 8 (.mv (tP 26)),
 oP 9 (.mv (tP 27)),
 oP 10 (.mv (tP 28))])
 (.seq (.seq (.region [oP 29 (.mv (tP 8)),
 oP 30 (.un .not (tP 29)),
 oP 31 (.mv (tP 30)),
 gP 32 31 true (.mv (tP 9)),
 gP 33 31 true (.un .not (tP 32)),
 oP 34 (.pick (tP 31) (tP 33) (bP false)),
 oP 35 (.mv (tP 34)),
 gP 36 35 true (.mv (tP 10)),
 gP 37 35 true (.un .not (tP 36)),
 oP 38 (.pick (tP 35) (tP 37) (bP false))])
 (.cond (tP 38) (.seq (.region [oP 39 (.load (some 4) (tP 6)),
 oP 40 (.mv (tP 0)),
 oP 41 (.mv (tP 7)),
 oP 42 (.bin .eql (tP 40) (tP 41)),
 sP (.store 4 (tP 4) (tP 39)),
 oP 5 (.mv (tP 42))])
 (.ret)) (.skip)))
 (.seq (.region [oP 44 (.mv (tP 0)),
 oP 45 (.mv (tP 7)),
 oP 46 (.call (.fn 36) [(tP 44), (tP 45)]),
 oP 43 (.mv (tP 46)),
 oP 47 (.ext 0 (tP 43)),
 oP 48 (.ext 1 (tP 43)),
 oP 0 (.mv (tP 47)),
 oP 11 (.mv (tP 48))])
 (.seq (.seq (.region [oP 49 (.mv (tP 8))])
 (.cond (tP 49) (.seq (.region [oP 51 (.mv (tP 0)),
 oP 52 (.call (.fn 37) [(tP 51)]),
 oP 50 (.mv (tP 52)),
 oP 53 (.ext 0 (tP 50)),
 oP 54 (.ext 1 (tP 50)),
 oP 55 (.ext 2 (tP 50)),
 oP 12 (.mv (tP 53)),
 oP 13 (.mv (tP 54)),
 oP 14 (.mv (tP 55))])
 (.seq (.region [oP 56 (.mv (tP 11)),
 oP 57 (.mv (tP 56)),
 gP 58 57 true (.mv (tP 14)),
 oP 59 (.pick (tP 57) (tP 58) (bP false)),
 oP 11 (.mv (tP 59))])
 (.seq (.region [oP 60 (.mv (tP 12)),
 oP 61 (.addOff 1 (tP 6)),
 sP (.store 1 (tP 61) (tP 60))])
 (.seq (.region [oP 62 (.mv (tP 13)),
 oP 0 (.mv (tP 62))])
 (.seq (.region [oP 63 (.mv (tP 9)),
 oP 64 (.mv (tP 63)),
 gP 65 64 true (.mv (tP 11)),
 oP 66 (.pick (tP 64) (tP 65) (bP false))])
 (.cond (tP 66) (.seq (.seq (.region [oP 67 (.mv (tP 13)),
 oP 68 (.len true (tP 67)),
 oP 69 (.bin .eql (tP 68) (iP 0)),
 oP 70 (.mv (tP 69)),
 gP 71 70 false (.mv (tP 13)),
 gP 72 70 false (.idxStr (tP 71) (iP 0)),
 gP 73 70 false (.bin .neq (tP 72) (.con (.int .u8 32))),
 oP 74 (.pick (tP 70) (bP true) (tP 73))])
 (.cond (tP 74) (.seq (.region [oP 75 (.load (some 4) (tP 6)),
 sP (.store 4 (tP 4) (tP 75)),
 oP 5 (.mv (bP false))])
 (.ret)) (.skip)))
 (.region [oP 76 (.mv (tP 13)),
 oP 77 (.slcStr (tP 76) (some (iP 1)) none),
 oP 0 (.mv (tP 77))])) (.skip))))))) (.skip)))
 (.seq (.seq (.region [oP 78 (.mv (tP 9)),
 oP 79 (.mv (tP 78)),
 gP 80 79 true (.mv (tP 11)),
 oP 81 (.pick (tP 79) (tP 80) (bP false))])
 (.cond (tP 81) (.seq (.region [oP 83 (.mv (tP 0)),
 oP 84 (.call (.fn 37) [(tP 83)]),
 oP 82 (.mv (tP 84)),
 oP 85 (.ext 0 (tP 82)),
 oP 86 (.ext 1 (tP 82)),
 oP 87 (.ext 2 (tP 82)),
 oP 15 (.mv (tP 85)),
 oP 16 (.mv (tP 86)),
 oP 17 (.mv (tP 87))])
 (.seq (.region [oP 88 (.mv (tP 17)),
 oP 11 (.mv (tP 88))])
 (.seq (.region [oP 89 (.mv (tP 15)),
 oP 90 (.addOff 2 (tP 6)),
 sP (.store 1 (tP 90) (tP 89))])
 (.region [oP 91 (.mv (tP 16)),
 oP 0 (.mv (tP 91))])))) (.skip)))
 (.seq (.seq (.region [oP 92 (.mv (tP 10)),
 oP 93 (.mv (tP 92)),
 gP 94 93 true (.mv (tP 11)),
 oP 95 (.pick (tP 93) (tP 94) (bP false))])
 (.cond (tP 95) (.seq (.region [oP 97 (.mv (tP 0)),
 oP 98 (.call (.fn 38) [(tP 97)]),
 oP 96 (.mv (tP 98)),
 oP 99 (.ext 0 (tP 96)),
 oP 100 (.ext 1 (tP 96)),
 oP 18 (.mv (tP 99)),
 oP 19 (.mv (tP 100))])
 (.seq (.region [oP 101 (.mv (tP 19)),
 oP 11 (.mv (tP 101))])
 (.seq (.region [oP 102 (.mv (tP 18)),
 oP 103 (.addOff 3 (tP 6)),
 sP (.store 1 (tP 103) (tP 102))])
 (.region [oP 0 (.mv (.con (.str ⟨#[]⟩)))])))) (.skip)))
 (.seq (.region [oP 104 (.load (some 4) (tP 6)),
 oP 105 (.mv (tP 11)),
 oP 106 (.mv (tP 105)),
 gP 107 106 true (.mv (tP 0)),
 gP 108 106 true (.bin .eql (tP 107) (.con (.str ⟨#[]⟩))),
 oP 109 (.pick (tP 106) (tP 108) (bP false)),
 sP (.store 4 (tP 4) (tP 104)),
 oP 5 (.mv (tP 109))])
 (.ret)))))))))
def A19 : AFunc := { ntmps := 110, results := [.cell (some 4) 4, .tmp 5], body := B19, coe := true, keep := 0 }
theorem tr19 : trFunc Tryz.prog M19 true Tryz.f19 = some A19 := by kernel_rfl
def M20 : Marks := { cut := fun _ => true, hd := fun | _ => [], ex := fun | _ => [], imm := fun | 1 => true | 14 => true | _ => false, alts := fun | 3 => [[0, 1, 2, 3, 5, 4, 6], [0, 1, 5, 2, 3, 4, 6]] | _ => [] }
def B20 : ACode :=
 .seq (.region [oP 1 (.box true (tP 0)),
 oP 2 (.alloc [.ok (.str ⟨#[]⟩), .ok (.bool false), .ok (.bool false), .ok (.bool false)]),
 oP 3 (.mv (bP false))])
 (.seq (.seq (.region [oP 5 (.addOff 0 (tP 1)),
 oP 6 (.load none (tP 5)),
 oP 7 (.bin .lss (tP 6) (iP 0)),
 oP 8 (.mv (tP 7)),
 gP 9 8 false (.addOff 0 (tP 1)),
 gP 10 8 false (.load none (tP 9)),
 gP 11 8 false (.bin .gtr (tP 10) (iP 9)),
 oP 12 (.pick (tP 8) (bP true) (tP 11))])
 (.cond (tP 12) (.seq (.region [oP 13 (.build [.str ⟨#[]⟩, .bool false, .bool false, .bool false] []),
 sP (.store 4 (tP 2) (tP 13)),
 oP 3 (.mv (bP false))])
 (.ret)) (.skip)))
 (.seq (.draw [oP 14 (.calld (.fn 16) []),
 oP 15 (.addOff 0 (tP 1)),
 oP 16 (.load none (tP 15)),
 oP 17 (.idxAddr 4 (tP 14) (tP 16)),
 oP 18 (.load (some 4) (tP 17)),
 oP 4 (.alloc [.ok (.str ⟨#[]⟩), .ok (.bool false), .ok (.bool false), .ok (.bool false)]),
 sP (.store 4 (tP 4) (tP 18))] [[oP 14 (.calld (.fn 16) []), oP 15 (.addOff 0 (tP 1)), oP 16 (.load none (tP 15)), oP 17 (.idxAddr 4 (tP 14) (tP 16)), oP 4 (.alloc [.ok (.str ⟨#[]⟩), .ok (.bool false), .ok (.bool false), .ok (.bool false)]), oP 18 (.load (some 4) (tP 17)), sP (.store 4 (tP 4) (tP 18))], [oP 14 (.calld (.fn 16) []), oP 15 (.addOff 0 (tP 1)), oP 4 (.alloc [.ok (.str ⟨#[]⟩), .ok (.bool false), .ok (.bool false), .ok (.bool false)]), oP 16 (.load none (tP 15)), oP 17 (.idxAddr 4 (tP 14) (tP 16)), oP 18 (.load (some 4) (tP 17)), sP (.store 4 (tP 4) (tP 18))]])
 (.seq (.block 0 (.seq (.seq (.region [oP 20 (.addOff 1 (tP 4)),
 oP 21 (.load none (tP 20)),
 oP 22 (.mv (tP 21)),
 gP 23 22 true (.addOff 1 (tP 1)),
 gP 24 22 true (.load none (tP 23)),
 gP 25 22 true (.bin .lss (tP 24) (iP 1)),
 gP 26 22 true (.mv (tP 25)),
 gP 27 26 false (.addOff 1 (tP 1)),
 gP 28 26 false (.load none (tP 27)),
 gP 29 26 false (.bin .gtr (tP 28) (iP 1099511627776)),
 gP 30 22 true (.pick (tP 26) (bP true) (tP 29)),
 oP 31 (.pick (tP 22) (tP 30) (bP false)),
 oP 19 (.mv (tP 31))])
 (.cond (tP 19) (.skip) (.region [oP 32 (.addOff 1 (tP 4)),
 oP 33 (.load none (tP 32)),
 oP 34 (.un .not (tP 33)),
 oP 35 (.mv (tP 34)),
 gP 36 35 true (.addOff 1 (tP 1)),
 gP 37 35 true (.load none (tP 36)),
 gP 38 35 true (.bin .neq (tP 37) (iP 0)),
 oP 39 (.pick (tP 35) (tP 38) (bP false)),
 oP 19 (.mv (tP 39))])))
 (.cond (tP 19) (.seq (.region [oP 40 (.load (some 4) (tP 4)),
 sP (.store 4 (tP 2) (tP 40)),
 oP 3 (.mv (bP false))])
 (.ret)) (.seq (.seq (.region [oP 42 (.addOff 2 (tP 1)),
 oP 43 (.load none (tP 42)),
 oP 44 (.bin .lss (tP 43) (iP (-4611686018427387904))),
 oP 41 (.mv (tP 44))])
 (.cond (tP 41) (.skip) (.seq (.region [oP 45 (.addOff 2 (tP 1)),
 oP 46 (.load none (tP 45)),
 oP 47 (.bin .geq (tP 46) (iP 4611686018427387904)),
 oP 41 (.mv (tP 47))])
 (.cond (tP 41) (.skip) (.region [oP 48 (.addOff 2 (tP 4)),
 oP 49 (.load none (tP 48)),
 oP 50 (.un .not (tP 49)),
 oP 51 (.mv (tP 50)),
 gP 52 51 true (.addOff 2 (tP 1)),
 gP 53 51 true (.load none (tP 52)),
 gP 54 51 true (.bin .neq (tP 53) (iP 0)),
 oP 55 (.pick (tP 51) (tP 54) (bP false)),
 oP 41 (.mv (tP 55))])))))
 (.cond (tP 41) (.seq (.region [oP 56 (.load (some 4) (tP 4)),
 sP (.store 4 (tP 2) (tP 56)),
 oP 3 (.mv (bP false))])
 (.ret)) (.seq (.seq (.region [oP 58 (.addOff 3 (tP 1)),
 oP 59 (.load none (tP 58)),
 oP 60 (.len false (tP 59)),
 oP 61 (.bin .gtr (tP 60) (iP 64)),
 oP 57 (.mv (tP 61))])
 (.cond (tP 57) (.skip) (.region [oP 62 (.addOff 3 (tP 4)),
 oP 63 (.load none (tP 62)),
 oP 64 (.un .not (tP 63)),
 oP 65 (.mv (tP 64)),
 gP 66 65 true (.addOff 3 (tP 1)),
 gP 67 65 true (.load none (tP 66)),
 gP 68 65 true (.len false (tP 67)),
 gP 69 65 true (.bin .gtr (tP 68) (iP 0)),
 oP 70 (.pick (tP 65) (tP 69) (bP false)),
 oP 57 (.mv (tP 70))])))
 (.cond (tP 57) (.seq (.region [oP 71 (.load (some 4) (tP 4)),
 sP (.store 4 (tP 2) (tP 71)),
 oP 3 (.mv (bP false))])
 (.ret)) (.skip))))))))
 (.seq (.region [oP 72 (.load (some 4) (tP 4)),
 sP (.store 4 (tP 2) (tP 72)),
 oP 3 (.mv (bP true))])
 (.ret)))))
def A20 : AFunc := { ntmps := 73, results := [.cell (some 4) 2, .tmp 3], body := B20, coe := true, keep := 0 }
theorem tr20 : trFunc Tryz.prog M20 true Tryz.f20 = some A20 := by kernel_rfl
abbrev H23L12 : List Bool := [false, false, false, true, false, false, false, false, false, false, false, false, false, false, false, false, false, false, false, false, false, false, false, false, false, true, true, true]
abbrev X23L12 : List Bool := [false, false, false, true]
def M23 : Marks := { cut := fun _ => true, hd := fun | 12 => H23L12 | _ => [], ex := fun | 12 => X23L12 | _ => [], imm := fun | 1 => true | 38 => true | 49 => true | 60 => true | 64 => true | _ => false }
def B23L12 : ACode :=
 .seq (.region [oP 28 (.bin .lss (tP 27) (tP 26))])
 (.seq (.cond (tP 28) (.skip) (.exit 1))
 (.seq (.block 2 (.seq (.region [oP 29 (.idxAddr 1 (tP 25) (tP 27)),
 oP 30 (.load none (tP 29)),
 oP 5 (.mv (tP 30))])
 (.block 3 (.seq (.region [oP 41 (.mv (tP 5)),
 oP 42 (.bin .eql (tP 41) (.con (.int .u8 34))),
 oP 43 (.mv (tP 42)),
 gP 44 43 false (.mv (tP 5)),
 gP 45 43 false (.bin .eql (tP 44) (.con (.int .u8 92))),
 oP 46 (.pick (tP 43) (bP true) (tP 45)),
 oP 40 (.mv (tP 46))])
 (.cond (tP 40) (.region [oP 47 (.mv (tP 3)),
 oP 48 (.mv (tP 5)),
 oP 49 (.lit true 5 1 2 [.int .u8 0] [(0, (.con (.int .u8 92))), (1, (tP 48))]),
 oP 50 (.app false 5 1 1 (tP 47) (tP 49)),
 oP 3 (.mv (tP 50))]) (.seq (.region [oP 52 (.mv (tP 5)),
 oP 53 (.bin .geq (tP 52) (.con (.int .u8 32))),
 oP 54 (.mv (tP 53)),
 gP 55 54 true (.mv (tP 5)),
 gP 56 54 true (.bin .leq (tP 55) (.con (.int .u8 126))),
 oP 57 (.pick (tP 54) (tP 56) (bP false)),
 oP 51 (.mv (tP 57))])
 (.cond (tP 51) (.region [oP 58 (.mv (tP 3)),
 oP 59 (.mv (tP 5)),
 oP 60 (.lit true 5 1 1 [.int .u8 0] [(0, (tP 59))]),
 oP 61 (.app false 5 1 1 (tP 58) (tP 60)),
 oP 3 (.mv (tP 61))]) (.draw [oP 31 (.mv (tP 3)),
 oP 32 (.mv (tP 5)),
 oP 33 (.bin .shr (tP 32) (.con (.int .u64 4))),
 oP 34 (.idxStr (.con (.str ⟨#[48, 49, 50, 51, 52, 53, 54, 55, 56, 57, 97, 98, 99, 100, 101, 102]⟩)) (tP 33)),
 oP 35 (.mv (tP 5)),
 oP 36 (.bin .and (tP 35) (.con (.int .u8 15))),
 oP 37 (.idxStr (.con (.str ⟨#[48, 49, 50, 51, 52, 53, 54, 55, 56, 57, 97, 98, 99, 100, 101, 102]⟩)) (tP 36)),
 oP 38 (.lit true 5 1 4 [.int .u8 0] [(0, (.con (.int .u8 92))), (1, (.con (.int .u8 120))), (2, (tP 34)), (3, (tP 37))]),
 oP 39 (.app false 5 1 1 (tP 31) (tP 38)),
 oP 3 (.mv (tP 39))] []))))))))
 (.region [oP 62 (.bin .add (tP 27) (iP 1)),
 oP 27 (.mv (tP 62))])))
def B23 : ACode :=
 .seq (.region [oP 1 (.box true (tP 0)),
 oP 2 (.mv (.con (.str ⟨#[]⟩)))])
 (.seq (.seq (.region [oP 6 (.addOff 0 (tP 1)),
 oP 7 (.load none (tP 6))])
 (.block 0 (.seq (.seq (.region [oP 9 (.bin .eql (tP 7) (iP 1)),
 oP 8 (.mv (tP 9))])
 (.cond (tP 8) (.skip) (.seq (.region [oP 10 (.bin .eql (tP 7) (iP 2)),
 oP 8 (.mv (tP 10))])
 (.cond (tP 8) (.skip) (.seq (.region [oP 11 (.bin .eql (tP 7) (iP 5)),
 oP 8 (.mv (tP 11))])
 (.cond (tP 8) (.skip) (.region [oP 12 (.bin .eql (tP 7) (iP 6)),
 oP 8 (.mv (tP 12))])))))))
 (.cond (tP 8) (.seq (.region [oP 13 (.addOff 1 (tP 1)),
 oP 14 (.load none (tP 13)),
 oP 2 (.mv (tP 14))])
 (.ret)) (.seq (.region [oP 16 (.bin .eql (tP 7) (iP 3)),
 oP 15 (.mv (tP 16))])
 (.cond (tP 15) (.seq (.region [oP 17 (.addOff 2 (tP 1)),
 oP 18 (.load none (tP 17)),
 oP 19 (.mnmx true [(tP 18), (iP 0)]),
 oP 20 (.call (.fn 22) [(tP 19), (iP 10)]),
 oP 2 (.mv (tP 20))])
 (.ret)) (.seq (.region [oP 22 (.bin .eql (tP 7) (iP 4)),
 oP 21 (.mv (tP 22))])
 (.cond (tP 21) (.seq (.region [oP 23 (.lit false 5 1 1 [.int .u8 0] [(0, (.con (.int .u8 34)))]),
 oP 3 (.mv (tP 23))])
 (.seq (.seq (.region [oP 24 (.addOff 3 (tP 1)),
 oP 25 (.load none (tP 24)),
 oP 26 (.len false (tP 25)),
 oP 27 (.mv (iP 0))])
 (.block 1 (.loop true H23L12 X23L12 B23L12)))
 (.seq (.region [oP 63 (.mv (tP 3)),
 oP 64 (.lit true 5 1 1 [.int .u8 0] [(0, (.con (.int .u8 34)))]),
 oP 65 (.app false 5 1 1 (tP 63) (tP 64)),
 oP 66 (.bstr (tP 65)),
 oP 2 (.mv (tP 66))])
 (.ret)))) (.skip)))))))))
 (.seq (.region [oP 2 (.mv (.con (.str ⟨#[]⟩)))])
 (.ret)))
def A23 : AFunc := { ntmps := 67, results := [.tmp 2], body := B23, coe := true, keep := 0 }
theorem tr23 : trFunc Tryz.prog M23 true Tryz.f23 = some A23 := by kernel_rfl
def M25 : Marks := { cut := fun _ => true, hd := fun | _ => [], ex := fun | _ => [], imm := fun | _ => false }
def B25 : ACode :=
 .seq (.region [oP 2 (.mv (.con (.str ⟨#[]⟩))),
 oP 3 (.mv (bP false)),
 oP 4 (.mv (bP false)),
 oP 5 (.mv (bP false))])
 (.seq (.region [oP 9 (.lit false 0 1 10 [.str ⟨#[]⟩] [(0, (.con (.str ⟨#[116, 97, 107, 101, 110]⟩))), (1, (.con (.str ⟨#[117, 110, 107, 110, 111, 119, 110]⟩))), (2, (.con (.str ⟨#[109, 97, 108, 102, 111, 114, 109, 101, 100]⟩))), (3, (.con (.str ⟨#[102, 117, 108, 108]⟩))), (4, (.con (.str ⟨#[102, 105, 114, 101, 100]⟩))), (5, (.con (.str ⟨#[115, 97, 105, 100]⟩))), (6, (.con (.str ⟨#[116, 111, 108, 100]⟩))), (7, (.con (.str ⟨#[110, 111, 32, 116, 105, 109, 101, 114]⟩))), (8, (.con (.str ⟨#[107, 101, 112, 116]⟩))), (9, (.con (.str ⟨#[100, 111, 110, 101]⟩)))]),
 oP 6 (.mv (tP 9))])
 (.seq (.region [oP 10 (.mv (tP 0)),
 oP 11 (.bin .eql (tP 10) (iP 0)),
 oP 12 (.mv (tP 11)),
 gP 13 12 false (.mv (tP 0)),
 gP 14 12 false (.bin .eql (tP 13) (iP 4)),
 oP 15 (.pick (tP 12) (bP true) (tP 14)),
 oP 16 (.mv (tP 15)),
 gP 17 16 false (.mv (tP 0)),
 gP 18 16 false (.bin .eql (tP 17) (iP 9)),
 oP 19 (.pick (tP 16) (bP true) (tP 18)),
 oP 7 (.mv (tP 19))])
 (.seq (.region [oP 20 (.mv (tP 0)),
 oP 21 (.bin .eql (tP 20) (iP 4)),
 oP 22 (.mv (tP 21)),
 gP 23 22 false (.mv (tP 0)),
 gP 24 22 false (.bin .eql (tP 23) (iP 5)),
 oP 25 (.pick (tP 22) (bP true) (tP 24)),
 oP 26 (.mv (tP 25)),
 gP 27 26 false (.mv (tP 0)),
 gP 28 26 false (.bin .eql (tP 27) (iP 7)),
 oP 29 (.pick (tP 26) (bP true) (tP 28)),
 oP 8 (.mv (tP 29))])
 (.seq (.region [oP 30 (.mv (tP 6)),
 oP 31 (.mv (tP 0)),
 oP 32 (.idxAddr 1 (tP 30) (tP 31)),
 oP 33 (.load none (tP 32)),
 oP 34 (.mv (tP 7)),
 oP 35 (.mv (tP 8)),
 oP 36 (.mv (tP 0)),
 oP 37 (.bin .eql (tP 36) (iP 6)),
 oP 2 (.mv (tP 33)),
 oP 3 (.mv (tP 34)),
 oP 4 (.mv (tP 35)),
 oP 5 (.mv (tP 37))])
 (.ret)))))
def A25 : AFunc := { ntmps := 38, results := [.tmp 2, .tmp 3, .tmp 4, .tmp 5], body := B25, coe := true, keep := 0 }
theorem tr25 : trFunc Tryz.prog M25 true Tryz.f25 = some A25 := by kernel_rfl
def M26 : Marks := { cut := fun _ => true, hd := fun | _ => [], ex := fun | _ => [], imm := fun | _ => false }
def B26 : ACode :=
 .seq (.region [oP 2 (.mv (.con (.str ⟨#[]⟩)))])
 (.seq (.seq (.region [oP 3 (.mv (tP 0)),
 oP 4 (.bin .lss (tP 3) (iP 0))])
 (.cond (tP 4) (.seq (.region [oP 5 (.mv (tP 0)),
 oP 6 (.un .neg (tP 5)),
 oP 7 (.call (.fn 44) [(tP 6)]),
 oP 8 (.bin .add (.con (.str ⟨#[45]⟩)) (tP 7)),
 oP 2 (.mv (tP 8))])
 (.ret)) (.skip)))
 (.seq (.region [oP 9 (.mv (tP 0)),
 oP 10 (.call (.fn 44) [(tP 9)]),
 oP 2 (.mv (tP 10))])
 (.ret)))
def A26 : AFunc := { ntmps := 11, results := [.tmp 2], body := B26, coe := true, keep := 0 }
theorem tr26 : trFunc Tryz.prog M26 true Tryz.f26 = some A26 := by kernel_rfl
abbrev H27L13 : List Bool := [false, true, false, true, true, true]
abbrev X27L13 : List Bool := [false, false, false, false, true]
def M27 : Marks := { cut := fun _ => true, hd := fun | 13 => H27L13 | _ => [], ex := fun | 13 => X27L13 | _ => [], imm := fun | 1 => true | _ => false }
def B27L13 : ACode :=
 .seq (.seq (.region [oP 23 (.mv (tP 5)),
 oP 24 (.addOff 3 (tP 1)),
 oP 25 (.load none (tP 24)),
 oP 26 (.len false (tP 25)),
 oP 27 (.bin .lss (tP 23) (tP 26))])
 (.cond (tP 27) (.skip) (.exit 1)))
 (.seq (.block 2 (.seq (.region [oP 30 (.addOff 3 (tP 1)),
 oP 31 (.load none (tP 30)),
 oP 32 (.mv (tP 5)),
 oP 33 (.idxAddr 1 (tP 31) (tP 32)),
 oP 34 (.load none (tP 33)),
 oP 6 (.mv (tP 34))])
 (.block 3 (.seq (.region [oP 48 (.mv (tP 6)),
 oP 49 (.bin .eql (tP 48) (.con (.int .u8 34))),
 oP 50 (.mv (tP 49)),
 gP 51 50 false (.mv (tP 6)),
 gP 52 50 false (.bin .eql (tP 51) (.con (.int .u8 92))),
 oP 53 (.pick (tP 50) (bP true) (tP 52)),
 oP 47 (.mv (tP 53))])
 (.cond (tP 47) (.region [oP 54 (.mv (tP 4)),
 oP 55 (.mv (tP 6)),
 oP 56 (.lit false 5 1 2 [.int .u8 0] [(0, (.con (.int .u8 92))), (1, (tP 55))]),
 oP 57 (.bstr (tP 56)),
 oP 58 (.bin .add (tP 54) (tP 57)),
 oP 4 (.mv (tP 58))]) (.seq (.region [oP 60 (.mv (tP 6)),
 oP 61 (.bin .geq (tP 60) (.con (.int .u8 32))),
 oP 62 (.mv (tP 61)),
 gP 63 62 true (.mv (tP 6)),
 gP 64 62 true (.bin .leq (tP 63) (.con (.int .u8 126))),
 oP 65 (.pick (tP 62) (tP 64) (bP false)),
 oP 59 (.mv (tP 65))])
 (.cond (tP 59) (.region [oP 66 (.mv (tP 4)),
 oP 67 (.mv (tP 6)),
 oP 68 (.lit false 5 1 1 [.int .u8 0] [(0, (tP 67))]),
 oP 69 (.bstr (tP 68)),
 oP 70 (.bin .add (tP 66) (tP 69)),
 oP 4 (.mv (tP 70))]) (.draw [oP 35 (.mv (tP 4)),
 oP 36 (.mv (tP 3)),
 oP 37 (.mv (tP 6)),
 oP 38 (.bin .quo (tP 37) (.con (.int .u8 16))),
 oP 39 (.idxStr (tP 36) (tP 38)),
 oP 40 (.mv (tP 3)),
 oP 41 (.mv (tP 6)),
 oP 42 (.bin .rem (tP 41) (.con (.int .u8 16))),
 oP 43 (.idxStr (tP 40) (tP 42)),
 oP 44 (.lit false 5 1 4 [.int .u8 0] [(0, (.con (.int .u8 92))), (1, (.con (.int .u8 120))), (2, (tP 39)), (3, (tP 43))]),
 oP 45 (.bstr (tP 44)),
 oP 46 (.bin .add (tP 35) (tP 45)),
 oP 4 (.mv (tP 46))] []))))))))
 (.region [oP 28 (.mv (tP 5)),
 oP 29 (.bin .add (tP 28) (iP 1)),
 oP 5 (.mv (tP 29))]))
def B27 : ACode :=
 .seq (.region [oP 1 (.box true (tP 0)),
 oP 2 (.mv (.con (.str ⟨#[]⟩)))])
 (.seq (.seq (.region [oP 7 (.addOff 0 (tP 1)),
 oP 8 (.load none (tP 7))])
 (.block 0 (.seq (.seq (.region [oP 10 (.bin .eql (tP 8) (iP 1)),
 oP 9 (.mv (tP 10))])
 (.cond (tP 9) (.skip) (.seq (.region [oP 11 (.bin .eql (tP 8) (iP 2)),
 oP 9 (.mv (tP 11))])
 (.cond (tP 9) (.skip) (.seq (.region [oP 12 (.bin .eql (tP 8) (iP 5)),
 oP 9 (.mv (tP 12))])
 (.cond (tP 9) (.skip) (.region [oP 13 (.bin .eql (tP 8) (iP 6)),
 oP 9 (.mv (tP 13))])))))))
 (.cond (tP 9) (.seq (.region [oP 14 (.addOff 1 (tP 1)),
 oP 15 (.load none (tP 14)),
 oP 2 (.mv (tP 15))])
 (.ret)) (.seq (.region [oP 17 (.bin .eql (tP 8) (iP 3)),
 oP 16 (.mv (tP 17))])
 (.cond (tP 16) (.seq (.region [oP 18 (.addOff 2 (tP 1)),
 oP 19 (.load none (tP 18)),
 oP 20 (.call (.fn 44) [(tP 19)]),
 oP 2 (.mv (tP 20))])
 (.ret)) (.seq (.region [oP 22 (.bin .eql (tP 8) (iP 4)),
 oP 21 (.mv (tP 22))])
 (.cond (tP 21) (.seq (.region [oP 3 (.mv (.con (.str ⟨#[48, 49, 50, 51, 52, 53, 54, 55, 56, 57, 97, 98, 99, 100, 101, 102]⟩)))])
 (.seq (.region [oP 4 (.mv (.con (.str ⟨#[34]⟩)))])
 (.seq (.seq (.region [oP 5 (.mv (iP 0))])
 (.block 1 (.loop true H27L13 X27L13 B27L13)))
 (.seq (.region [oP 71 (.mv (tP 4)),
 oP 72 (.bin .add (tP 71) (.con (.str ⟨#[34]⟩))),
 oP 2 (.mv (tP 72))])
 (.ret))))) (.skip)))))))))
 (.seq (.region [oP 2 (.mv (.con (.str ⟨#[]⟩)))])
 (.ret)))
def A27 : AFunc := { ntmps := 73, results := [.tmp 2], body := B27, coe := true, keep := 0 }
theorem tr27 : trFunc Tryz.prog M27 true Tryz.f27 = some A27 := by kernel_rfl
abbrev H28L4 : List Bool := [true, true, false, false, false, true]
abbrev X28L4 : List Bool := [false, false, false, false, true]
def M28 : Marks := { cut := fun _ => true, hd := fun | 4 => H28L4 | _ => [], ex := fun | 4 => X28L4 | _ => [], imm := fun | _ => false }
def B28L4 : ACode :=
 .seq (.seq (.region [oP 11 (.mv (tP 5)),
 oP 12 (.mv (tP 0)),
 oP 13 (.len false (tP 12)),
 oP 14 (.bin .lss (tP 11) (tP 13))])
 (.cond (tP 14) (.skip) (.exit 0)))
 (.seq (.block 1 (.seq (.draw [oP 17 (.mv (tP 0)),
 oP 18 (.mv (tP 5)),
 oP 19 (.idxAddr 4 (tP 17) (tP 18)),
 oP 20 (.addOff 0 (tP 19)),
 oP 21 (.load none (tP 20)),
 oP 22 (.mv (tP 1)),
 oP 23 (.mv (tP 5)),
 oP 24 (.idxAddr 4 (tP 22) (tP 23)),
 oP 25 (.addOff 0 (tP 24)),
 oP 26 (.load none (tP 25)),
 oP 27 (.bin .neq (tP 21) (tP 26)),
 oP 28 (.mv (tP 27)),
 gP 29 28 false (.mv (tP 0)),
 gP 30 28 false (.mv (tP 5)),
 gP 31 28 false (.idxAddr 4 (tP 29) (tP 30)),
 gP 32 28 false (.addOff 1 (tP 31)),
 gP 33 28 false (.load none (tP 32)),
 gP 34 28 false (.mv (tP 1)),
 gP 35 28 false (.mv (tP 5)),
 gP 36 28 false (.idxAddr 4 (tP 34) (tP 35)),
 gP 37 28 false (.addOff 1 (tP 36)),
 gP 38 28 false (.load none (tP 37)),
 gP 39 28 false (.bin .neq (tP 33) (tP 38)),
 oP 40 (.pick (tP 28) (bP true) (tP 39)),
 oP 41 (.mv (tP 40)),
 gP 42 41 false (.mv (tP 0)),
 gP 43 41 false (.mv (tP 5)),
 gP 44 41 false (.idxAddr 4 (tP 42) (tP 43)),
 gP 45 41 false (.addOff 2 (tP 44)),
 gP 46 41 false (.load none (tP 45)),
 gP 47 41 false (.mv (tP 1)),
 gP 48 41 false (.mv (tP 5)),
 gP 49 41 false (.idxAddr 4 (tP 47) (tP 48)),
 gP 50 41 false (.addOff 2 (tP 49)),
 gP 51 41 false (.load none (tP 50)),
 gP 52 41 false (.bin .neq (tP 46) (tP 51)),
 oP 53 (.pick (tP 41) (bP true) (tP 52)),
 oP 54 (.mv (tP 53)),
 gP 55 54 false (.mv (tP 0)),
 gP 56 54 false (.mv (tP 5)),
 gP 57 54 false (.idxAddr 4 (tP 55) (tP 56)),
 gP 58 54 false (.addOff 3 (tP 57)),
 gP 59 54 false (.load none (tP 58)),
 gP 60 54 false (.bstr (tP 59)),
 gP 61 54 false (.mv (tP 1)),
 gP 62 54 false (.mv (tP 5)),
 gP 63 54 false (.idxAddr 4 (tP 61) (tP 62)),
 gP 64 54 false (.addOff 3 (tP 63)),
 gP 65 54 false (.load none (tP 64)),
 gP 66 54 false (.bstr (tP 65)),
 gP 67 54 false (.bin .neq (tP 60) (tP 66)),
 oP 68 (.pick (tP 54) (bP true) (tP 67))] [])
 (.cond (tP 68) (.seq (.region [oP 4 (.mv (bP false))])
 (.ret)) (.skip))))
 (.region [oP 15 (.mv (tP 5)),
 oP 16 (.bin .add (tP 15) (iP 1)),
 oP 5 (.mv (tP 16))]))
def B28 : ACode :=
 .seq (.region [oP 4 (.mv (bP false))])
 (.seq (.seq (.region [oP 6 (.mv (tP 0)),
 oP 7 (.len false (tP 6)),
 oP 8 (.mv (tP 1)),
 oP 9 (.len false (tP 8)),
 oP 10 (.bin .neq (tP 7) (tP 9))])
 (.cond (tP 10) (.seq (.region [oP 4 (.mv (bP false))])
 (.ret)) (.skip)))
 (.seq (.seq (.region [oP 5 (.mv (iP 0))])
 (.block 0 (.loop true H28L4 X28L4 B28L4)))
 (.seq (.region [oP 4 (.mv (bP true))])
 (.ret))))
def A28 : AFunc := { ntmps := 69, results := [.tmp 4], body := B28, coe := true, keep := 0 }
theorem tr28 : trFunc Tryz.prog M28 true Tryz.f28 = some A28 := by kernel_rfl
def M31 : Marks := { cut := fun _ => true, hd := fun | _ => [], ex := fun | _ => [], imm := fun | _ => false }
def B31 : ACode :=
 .seq (.region [oP 4 (.mv (.con (.str ⟨#[]⟩))),
 oP 5 (.mv (bP false))])
 (.seq (.seq (.region [oP 6 (.mv (tP 0)),
 oP 7 (.mv (tP 1)),
 oP 8 (.call (.fn 46) [(tP 6), (tP 7)]),
 oP 9 (.un .not (tP 8))])
 (.cond (tP 9) (.seq (.region [oP 10 (.mv (tP 0)),
 oP 4 (.mv (tP 10)),
 oP 5 (.mv (bP false))])
 (.ret)) (.skip)))
 (.seq (.region [oP 11 (.mv (tP 0)),
 oP 12 (.mv (tP 1)),
 oP 13 (.len true (tP 12)),
 oP 14 (.slcStr (tP 11) (some (tP 13)) none),
 oP 4 (.mv (tP 14)),
 oP 5 (.mv (bP true))])
 (.ret)))
def A31 : AFunc := { ntmps := 15, results := [.tmp 4, .tmp 5], body := B31, coe := true, keep := 0 }
theorem tr31 : trFunc Tryz.prog M31 true Tryz.f31 = some A31 := by kernel_rfl
abbrev H32L7 : List Bool := [true, false, false, true, false, false, true, true]
abbrev X32L7 : List Bool := [true, false, true, true, false, false, false, true]
def M32 : Marks := { cut := fun _ => true, hd := fun | 7 => H32L7 | _ => [], ex := fun | 7 => X32L7 | _ => [], imm := fun | 2 => true | 50 => true | 65 => true | _ => false }
def B32L7 : ACode :=
 .seq (.seq (.region [oP 24 (.mv (tP 6)),
 oP 25 (.call (.fn 49) [(tP 24)]),
 oP 26 (.un .not (tP 25))])
 (.cond (tP 26) (.skip) (.exit 0)))
 (.seq (.block 1 (.seq (.region [oP 29 (.mv (tP 6)),
 oP 30 (.call (.fn 50) [(tP 29)]),
 oP 8 (.alloc [.ok (.int .i64 0), .ok (.str ⟨#[]⟩), .ok (.int .i64 0), .error 1, .ok (.int .i64 0), .ok (.int .i64 0)]),
 sP (.store 6 (tP 8) (tP 30))])
 (.seq (.seq (.region [oP 31 (.mv (tP 7)),
 oP 32 (.len false (tP 31)),
 oP 33 (.bin .eql (tP 32) (iP 4096))])
 (.cond (tP 33) (.region [oP 34 (.mv (tP 6)),
 oP 35 (.addOff 4 (tP 8)),
 oP 36 (.load (some 2) (tP 35)),
 oP 37 (.call (.fn 51) [(tP 34), (iP 27), (tP 36)])]) (.skip)))
 (.seq (.seq (.region [oP 38 (.mv (tP 6)),
 oP 39 (.nilchk (tP 38)),
 oP 40 (.addOff 2 (tP 39)),
 oP 41 (.addOff 0 (tP 40)),
 oP 42 (.load none (tP 41)),
 oP 43 (.bin .neq (tP 42) (iP 0))])
 (.cond (tP 43) (.seq (.draw [oP 44 (.mv (tP 6)),
 oP 45 (.nilchk (tP 44)),
 oP 46 (.addOff 2 (tP 45)),
 oP 47 (.load (some 3) (tP 46)),
 oP 2 (.mv (.con (.slice 6 []))),
 sP (.store 3 (tP 3) (tP 47))] [])
 (.ret)) (.skip)))
 (.region [oP 48 (.mv (tP 7)),
 oP 49 (.load (some 6) (tP 8)),
 oP 50 (.lit true 0 6 1 [.int .i64 0, .str ⟨#[]⟩, .int .i64 0, .slice 1 [], .int .i64 0, .int .i64 0] [(0, (tP 49))]),
 oP 51 (.app false 0 6 72 (tP 48) (tP 50)),
 oP 7 (.mv (tP 51))])))))
 (.region [oP 27 (.mv (tP 6)),
 oP 28 (.call (.fn 48) [(tP 27)])]))
def B32 : ACode :=
 .seq (.region [oP 2 (.mv (.con (.slice 6 []))),
 oP 3 (.alloc [.ok (.int .i64 0), .ok (.int .i64 0), .ok (.int .i64 0)])])
 (.seq (.region [oP 11 (.mv (tP 0)),
 oP 12 (.call (.fn 47) [(tP 11)]),
 oP 10 (.mv (tP 12)),
 oP 13 (.ext 0 (tP 10)),
 oP 14 (.ext 1 (tP 10)),
 oP 5 (.alloc [.ok (.int .i64 0), .ok (.int .i64 0), .ok (.int .i64 0)]),
 oP 4 (.mv (tP 13)),
 sP (.store 3 (tP 5) (tP 14))])
 (.seq (.seq (.region [oP 15 (.addOff 0 (tP 5)),
 oP 16 (.load none (tP 15)),
 oP 17 (.bin .neq (tP 16) (iP 0))])
 (.cond (tP 17) (.seq (.draw [oP 18 (.load (some 3) (tP 5)),
 oP 2 (.mv (.con (.slice 6 []))),
 sP (.store 3 (tP 3) (tP 18))] [])
 (.ret)) (.skip)))
 (.seq (.region [oP 19 (.mv (tP 4)),
 oP 20 (.build [.slice 4 [], .int .i64 0, .int .i64 0, .int .i64 0, .int .i64 0] [(0, 1, (tP 19))]),
 oP 21 (.box false (tP 20)),
 oP 6 (.mv (tP 21))])
 (.seq (.region [oP 7 (.nilrow 6)])
 (.seq (.seq (.region [oP 22 (.mv (tP 6)),
 oP 23 (.call (.fn 48) [(tP 22)])])
 (.block 0 (.loop true H32L7 X32L7 B32L7)))
 (.seq (.region [oP 52 (.mv (tP 0)),
 oP 53 (.mv (tP 0)),
 oP 54 (.len true (tP 53)),
 oP 55 (.call (.fn 52) [(tP 52), (tP 54)]),
 oP 56 (.build [.int .i64 0, .str ⟨#[]⟩, .int .i64 0, .slice 1 [], .int .i64 0, .int .i64 0] [(4, 2, (tP 55))]),
 oP 9 (.alloc [.ok (.int .i64 0), .ok (.str ⟨#[]⟩), .ok (.int .i64 0), .error 1, .ok (.int .i64 0), .ok (.int .i64 0)]),
 sP (.store 6 (tP 9) (tP 56))])
 (.seq (.seq (.region [oP 57 (.mv (tP 7)),
 oP 58 (.len false (tP 57)),
 oP 59 (.bin .eql (tP 58) (iP 4096))])
 (.cond (tP 59) (.seq (.draw [oP 60 (.addOff 4 (tP 9)),
 oP 61 (.load (some 2) (tP 60)),
 oP 62 (.build [.int .i64 0, .int .i64 0, .int .i64 0] [(0, 1, (iP 27)), (1, 2, (tP 61))]),
 oP 2 (.mv (.con (.slice 6 []))),
 sP (.store 3 (tP 3) (tP 62))] [])
 (.ret)) (.skip)))
 (.seq (.region [oP 63 (.mv (tP 7)),
 oP 64 (.load (some 6) (tP 9)),
 oP 65 (.lit true 0 6 1 [.int .i64 0, .str ⟨#[]⟩, .int .i64 0, .slice 1 [], .int .i64 0, .int .i64 0] [(0, (tP 64))]),
 oP 66 (.app false 0 6 72 (tP 63) (tP 65)),
 oP 67 (.build [.int .i64 0, .int .i64 0, .int .i64 0] []),
 oP 2 (.mv (tP 66)),
 sP (.store 3 (tP 3) (tP 67))])
 (.ret)))))))))
def A32 : AFunc := { ntmps := 68, results := [.tmp 2, .cell (some 3) 3], body := B32, coe := true, keep := 0 }
theorem tr32 : trFunc Tryz.prog M32 true Tryz.f32 = some A32 := by kernel_rfl
def M34 : Marks := { cut := fun _ => true, hd := fun | _ => [], ex := fun | _ => [], imm := fun | _ => false }
def B34 : ACode :=
 .seq (.region [oP 1 (.mv (iP 0)),
 oP 2 (.mv (bP false))])
 (.seq (.seq (.region [oP 5 (.load none (tP 0)),
 oP 6 (.len false (tP 5)),
 oP 7 (.bin .eql (tP 6) (iP 0))])
 (.cond (tP 7) (.seq (.region [oP 1 (.mv (iP 0)),
 oP 2 (.mv (bP false))])
 (.ret)) (.skip)))
 (.seq (.region [oP 9 (.load none (tP 0)),
 oP 10 (.idxAddr 1 (tP 9) (iP 0)),
 oP 11 (.load none (tP 10)),
 oP 12 (.call (.fn 35) [(tP 11), (iP 10), (iP 64)]),
 oP 8 (.mv (tP 12)),
 oP 13 (.ext 0 (tP 8)),
 oP 14 (.ext 1 (tP 8)),
 oP 3 (.mv (tP 13)),
 oP 4 (.mv (tP 14))])
 (.seq (.region [oP 15 (.load none (tP 0)),
 oP 16 (.slc 1 (tP 15) (some (iP 1)) none),
 sP (.store 1 (tP 0) (tP 16))])
 (.seq (.draw [oP 17 (.mv (tP 3)),
 oP 18 (.mv (tP 4)),
 oP 19 (.isnil 1 false (tP 18)),
 oP 1 (.mv (tP 17)),
 oP 2 (.mv (tP 19))] [])
 (.ret)))))
def A34 : AFunc := { ntmps := 20, results := [.tmp 1, .tmp 2], body := B34, coe := true, keep := 0 }
theorem tr34 : trFunc Tryz.prog M34 true Tryz.f34 = some A34 := by kernel_rfl
def M36 : Marks := { cut := fun _ => true, hd := fun | _ => [], ex := fun | _ => [], imm := fun | _ => false }
def B36 : ACode :=
 .seq (.region [oP 4 (.mv (.con (.str ⟨#[]⟩))),
 oP 5 (.mv (bP false))])
 (.seq (.region [oP 7 (.mv (tP 1)),
 oP 8 (.len true (tP 7)),
 oP 6 (.mv (tP 8))])
 (.seq (.seq (.region [oP 9 (.mv (tP 0)),
 oP 10 (.len true (tP 9)),
 oP 11 (.mv (tP 6)),
 oP 12 (.bin .add (tP 11) (iP 1)),
 oP 13 (.bin .leq (tP 10) (tP 12)),
 oP 14 (.mv (tP 13)),
 gP 15 14 false (.mv (tP 0)),
 gP 16 14 false (.mv (tP 6)),
 gP 17 14 false (.slcStr (tP 15) none (some (tP 16))),
 gP 18 14 false (.mv (tP 1)),
 gP 19 14 false (.bin .neq (tP 17) (tP 18)),
 oP 20 (.pick (tP 14) (bP true) (tP 19)),
 oP 21 (.mv (tP 20)),
 gP 22 21 false (.mv (tP 0)),
 gP 23 21 false (.mv (tP 6)),
 gP 24 21 false (.idxStr (tP 22) (tP 23)),
 gP 25 21 false (.bin .neq (tP 24) (.con (.int .u8 32))),
 oP 26 (.pick (tP 21) (bP true) (tP 25))])
 (.cond (tP 26) (.seq (.region [oP 4 (.mv (.con (.str ⟨#[]⟩))),
 oP 5 (.mv (bP false))])
 (.ret)) (.skip)))
 (.seq (.region [oP 27 (.mv (tP 0)),
 oP 28 (.mv (tP 6)),
 oP 29 (.bin .add (tP 28) (iP 1)),
 oP 30 (.slcStr (tP 27) (some (tP 29)) none),
 oP 4 (.mv (tP 30)),
 oP 5 (.mv (bP true))])
 (.ret))))
def A36 : AFunc := { ntmps := 31, results := [.tmp 4, .tmp 5], body := B36, coe := true, keep := 0 }
theorem tr36 : trFunc Tryz.prog M36 true Tryz.f36 = some A36 := by kernel_rfl
abbrev H37L6 : List Bool := [true, false, false, false, false, true, true, true]
abbrev X37L6 : List Bool := [true, false, true, true, true, true, true, true]
def M37 : Marks := { cut := fun _ => true, hd := fun | 6 => H37L6 | _ => [], ex := fun | 6 => X37L6 | _ => [], imm := fun | _ => false }
def B37L6 : ACode :=
 .seq (.seq (.region [oP 19 (.mv (tP 7)),
 oP 20 (.mv (tP 0)),
 oP 21 (.len true (tP 20)),
 oP 22 (.bin .lss (tP 19) (tP 21)),
 oP 23 (.mv (tP 22)),
 gP 24 23 true (.mv (tP 0)),
 gP 25 23 true (.mv (tP 7)),
 gP 26 23 true (.idxStr (tP 24) (tP 25)),
 gP 27 23 true (.bin .geq (tP 26) (.con (.int .u8 48))),
 oP 28 (.pick (tP 23) (tP 27) (bP false)),
 oP 29 (.mv (tP 28)),
 gP 30 29 true (.mv (tP 0)),
 gP 31 29 true (.mv (tP 7)),
 gP 32 29 true (.idxStr (tP 30) (tP 31)),
 gP 33 29 true (.bin .leq (tP 32) (.con (.int .u8 57))),
 oP 34 (.pick (tP 29) (tP 33) (bP false))])
 (.cond (tP 34) (.skip) (.exit 0)))
 (.block 1 (.seq (.seq (.region [oP 35 (.mv (tP 6)),
 oP 36 (.bin .gtr (tP 35) (iP 576460752303423488))])
 (.cond (tP 36) (.seq (.region [oP 2 (.mv (iP 0)),
 oP 3 (.mv (.con (.str ⟨#[]⟩))),
 oP 4 (.mv (bP false))])
 (.ret)) (.skip)))
 (.seq (.region [oP 37 (.mv (tP 6)),
 oP 38 (.bin .mul (tP 37) (iP 10)),
 oP 39 (.mv (tP 0)),
 oP 40 (.mv (tP 7)),
 oP 41 (.idxStr (tP 39) (tP 40)),
 oP 42 (.bin .sub (tP 41) (.con (.int .u8 48))),
 oP 43 (.cvt .i64 (tP 42)),
 oP 44 (.bin .add (tP 38) (tP 43)),
 oP 6 (.mv (tP 44))])
 (.region [oP 45 (.mv (tP 7)),
 oP 46 (.bin .add (tP 45) (iP 1)),
 oP 7 (.mv (tP 46))]))))
def B37 : ACode :=
 .seq (.region [oP 2 (.mv (iP 0)),
 oP 3 (.mv (.con (.str ⟨#[]⟩))),
 oP 4 (.mv (bP false))])
 (.seq (.region [oP 8 (.mv (tP 0)),
 oP 9 (.len true (tP 8)),
 oP 10 (.bin .gtr (tP 9) (iP 0)),
 oP 11 (.mv (tP 10)),
 gP 12 11 true (.mv (tP 0)),
 gP 13 11 true (.idxStr (tP 12) (iP 0)),
 gP 14 11 true (.bin .eql (tP 13) (.con (.int .u8 45))),
 oP 15 (.pick (tP 11) (tP 14) (bP false)),
 oP 5 (.mv (tP 15))])
 (.seq (.seq (.region [oP 16 (.mv (tP 5))])
 (.cond (tP 16) (.region [oP 17 (.mv (tP 0)),
 oP 18 (.slcStr (tP 17) (some (iP 1)) none),
 oP 0 (.mv (tP 18))]) (.skip)))
 (.seq (.region [oP 6 (.mv (iP 0))])
 (.seq (.region [oP 7 (.mv (iP 0))])
 (.seq (.block 0 (.loop true H37L6 X37L6 B37L6))
 (.seq (.seq (.region [oP 47 (.mv (tP 5))])
 (.cond (tP 47) (.region [oP 48 (.mv (tP 6)),
 oP 49 (.un .neg (tP 48)),
 oP 6 (.mv (tP 49))]) (.skip)))
 (.seq (.draw [oP 50 (.mv (tP 6)),
 oP 51 (.mv (tP 0)),
 oP 52 (.mv (tP 7)),
 oP 53 (.slcStr (tP 51) (some (tP 52)) none),
 oP 54 (.mv (tP 7)),
 oP 55 (.bin .gtr (tP 54) (iP 0)),
 oP 2 (.mv (tP 50)),
 oP 3 (.mv (tP 53)),
 oP 4 (.mv (tP 55))] [])
 (.ret))))))))
def A37 : AFunc := { ntmps := 56, results := [.tmp 2, .tmp 3, .tmp 4], body := B37, coe := true, keep := 0 }
theorem tr37 : trFunc Tryz.prog M37 true Tryz.f37 = some A37 := by kernel_rfl
def M38 : Marks := { cut := fun _ => true, hd := fun | _ => [], ex := fun | _ => [], imm := fun | 2 => true | _ => false }
def B38 : ACode :=
 .seq (.region [oP 2 (.mv (.con (.slice 1 []))),
 oP 3 (.mv (bP false))])
 (.seq (.region [oP 7 (.mv (tP 0)),
 oP 8 (.call (.fn 56) [(tP 7)]),
 oP 6 (.mv (tP 8)),
 oP 9 (.ext 0 (tP 6)),
 oP 10 (.ext 1 (tP 6)),
 oP 5 (.alloc [.ok (.int .i64 0), .ok (.int .i64 0), .ok (.int .i64 0)]),
 oP 4 (.mv (tP 9)),
 sP (.store 3 (tP 5) (tP 10))])
 (.seq (.seq (.region [oP 11 (.addOff 0 (tP 5)),
 oP 12 (.load none (tP 11)),
 oP 13 (.bin .neq (tP 12) (iP 0)),
 oP 14 (.mv (tP 13)),
 gP 15 14 false (.mv (tP 4)),
 gP 16 14 false (.len false (tP 15)),
 gP 17 14 false (.bin .neq (tP 16) (iP 2)),
 oP 18 (.pick (tP 14) (bP true) (tP 17)),
 oP 19 (.mv (tP 18)),
 gP 20 19 false (.mv (tP 4)),
 gP 21 19 false (.idxAddr 6 (tP 20) (iP 0)),
 gP 22 19 false (.addOff 0 (tP 21)),
 gP 23 19 false (.load none (tP 22)),
 gP 24 19 false (.bin .neq (tP 23) (iP 4)),
 oP 25 (.pick (tP 19) (bP true) (tP 24))])
 (.cond (tP 25) (.seq (.region [oP 2 (.mv (.con (.slice 1 []))),
 oP 3 (.mv (bP false))])
 (.ret)) (.skip)))
 (.seq (.region [oP 26 (.mv (tP 4)),
 oP 27 (.idxAddr 6 (tP 26) (iP 0)),
 oP 28 (.addOff 3 (tP 27)),
 oP 29 (.load none (tP 28)),
 oP 2 (.mv (tP 29)),
 oP 3 (.mv (bP true))])
 (.ret))))
def A38 : AFunc := { ntmps := 30, results := [.tmp 2, .tmp 3], body := B38, coe := true, keep := 0 }
theorem tr38 : trFunc Tryz.prog M38 true Tryz.f38 = some A38 := by kernel_rfl
def M42 : Marks := { cut := fun _ => true, hd := fun | _ => [], ex := fun | _ => [], imm := fun | _ => false }
def B42 : ACode :=
 .seq (.region [oP 4 (.mv (iP 0)),
 oP 5 (.mv (.con (.nili)))])
 (.seq (.region [oP 6 (.mv (tP 0)),
 oP 7 (.call (.fn 61) [(tP 6)])])
 (.seq (.region [oP 8 (.mv (tP 0)),
 oP 9 (.mv (tP 0)),
 oP 10 (.nilchk (tP 9)),
 oP 11 (.addOff 1 (tP 10)),
 oP 12 (.load none (tP 11)),
 oP 13 (.mv (tP 1)),
 oP 14 (.app true 5 1 1 (tP 12) (tP 13)),
 oP 15 (.nilchk (tP 8)),
 oP 16 (.addOff 1 (tP 15)),
 sP (.store 1 (tP 16) (tP 14))])
 (.seq (.region [oP 17 (.mv (tP 1)),
 oP 18 (.len true (tP 17)),
 oP 4 (.mv (tP 18)),
 oP 5 (.mv (.con (.nili)))])
 (.ret))))
def A42 : AFunc := { ntmps := 19, results := [.tmp 4, .tmp 5], body := B42, coe := true, keep := 0 }
theorem tr42 : trFunc Tryz.prog M42 true Tryz.f42 = some A42 := by kernel_rfl
def M43 : Marks := { cut := fun _ => true, hd := fun | _ => [], ex := fun | _ => [], imm := fun | _ => false, alts := fun | 1 => [[0, 1, 2, 3, 5, 6, 7, 8, 4, 9, 10, 11]] | _ => [] }
def B43 : ACode :=
 .seq (.region [oP 2 (.mv (.con (.str ⟨#[]⟩)))])
 (.seq (.draw [oP 3 (.mv (tP 0)),
 oP 4 (.nilchk (tP 3)),
 oP 5 (.addOff 1 (tP 4)),
 oP 6 (.load none (tP 5)),
 oP 7 (.usd (tP 6)),
 oP 8 (.mv (tP 0)),
 oP 9 (.nilchk (tP 8)),
 oP 10 (.addOff 1 (tP 9)),
 oP 11 (.load none (tP 10)),
 oP 12 (.len false (tP 11)),
 oP 13 (.ustr 5 (tP 7) (tP 12)),
 oP 2 (.mv (tP 13))] [[oP 3 (.mv (tP 0)), oP 4 (.nilchk (tP 3)), oP 5 (.addOff 1 (tP 4)), oP 6 (.load none (tP 5)), oP 8 (.mv (tP 0)), oP 9 (.nilchk (tP 8)), oP 10 (.addOff 1 (tP 9)), oP 11 (.load none (tP 10)), oP 7 (.usd (tP 6)), oP 12 (.len false (tP 11)), oP 13 (.ustr 5 (tP 7) (tP 12)), oP 2 (.mv (tP 13))]])
 (.ret))
def A43 : AFunc := { ntmps := 14, results := [.tmp 2], body := B43, coe := true, keep := 0 }
theorem tr43 : trFunc Tryz.prog M43 true Tryz.f43 = some A43 := by kernel_rfl
abbrev H44L2 : List Bool := [true, false, false, true]
abbrev X44L2 : List Bool := [true, false, false, true]
def M44 : Marks := { cut := fun _ => true, hd := fun | 2 => H44L2 | _ => [], ex := fun | 2 => X44L2 | _ => [], imm := fun | _ => false }
def B44L2 : ACode :=
 .seq (.seq (.region [oP 4 (.mv (tP 0)),
 oP 5 (.bin .gtr (tP 4) (iP 9))])
 (.cond (tP 5) (.skip) (.exit 0)))
 (.block 1 (.seq (.region [oP 6 (.mv (tP 0)),
 oP 7 (.bin .rem (tP 6) (iP 10)),
 oP 8 (.bin .add (iP 48) (tP 7)),
 oP 9 (.cvt .u8 (tP 8)),
 oP 10 (.lit false 5 1 1 [.int .u8 0] [(0, (tP 9))]),
 oP 11 (.bstr (tP 10)),
 oP 12 (.mv (tP 3)),
 oP 13 (.bin .add (tP 11) (tP 12)),
 oP 3 (.mv (tP 13))])
 (.region [oP 14 (.mv (tP 0)),
 oP 15 (.bin .quo (tP 14) (iP 10)),
 oP 0 (.mv (tP 15))])))
def B44 : ACode :=
 .seq (.region [oP 2 (.mv (.con (.str ⟨#[]⟩)))])
 (.seq (.region [oP 3 (.mv (.con (.str ⟨#[]⟩)))])
 (.seq (.block 0 (.loop true H44L2 X44L2 B44L2))
 (.seq (.region [oP 16 (.mv (tP 0)),
 oP 17 (.mnmx true [(tP 16), (iP 0)]),
 oP 18 (.bin .add (iP 48) (tP 17)),
 oP 19 (.cvt .u8 (tP 18)),
 oP 20 (.lit false 5 1 1 [.int .u8 0] [(0, (tP 19))]),
 oP 21 (.bstr (tP 20)),
 oP 22 (.mv (tP 3)),
 oP 23 (.bin .add (tP 21) (tP 22)),
 oP 2 (.mv (tP 23))])
 (.ret))))
def A44 : AFunc := { ntmps := 24, results := [.tmp 2], body := B44, coe := true, keep := 0 }
theorem tr44 : trFunc Tryz.prog M44 true Tryz.f44 = some A44 := by kernel_rfl
def M46 : Marks := { cut := fun _ => true, hd := fun | _ => [], ex := fun | _ => [], imm := fun | _ => false }
def B46 : ACode :=
 .seq (.region [oP 4 (.mv (bP false))])
 (.seq (.region [oP 5 (.mv (tP 0)),
 oP 6 (.len true (tP 5)),
 oP 7 (.mv (tP 1)),
 oP 8 (.len true (tP 7)),
 oP 9 (.bin .geq (tP 6) (tP 8)),
 oP 10 (.mv (tP 9)),
 gP 11 10 true (.mv (tP 0)),
 gP 12 10 true (.mv (tP 1)),
 gP 13 10 true (.len true (tP 12)),
 gP 14 10 true (.slcStr (tP 11) none (some (tP 13))),
 gP 15 10 true (.mv (tP 1)),
 gP 16 10 true (.bin .eql (tP 14) (tP 15)),
 oP 17 (.pick (tP 10) (tP 16) (bP false)),
 oP 4 (.mv (tP 17))])
 (.ret))
def A46 : AFunc := { ntmps := 18, results := [.tmp 4], body := B46, coe := true, keep := 0 }
theorem tr46 : trFunc Tryz.prog M46 true Tryz.f46 = some A46 := by kernel_rfl
abbrev H47L6 : List Bool := [true, false, false, true, true, true, false, false, false, false, false, false, false, false, false, false, false, false, true]
abbrev X47L6 : List Bool := [false, false, true, true, false, true]
def M47 : Marks := { cut := fun _ => true, hd := fun | 6 => H47L6 | _ => [], ex := fun | 6 => X47L6 | _ => [], imm := fun | 2 => true | 45 => true | _ => false }
def B47L6 : ACode :=
 .seq (.region [oP 19 (.next (tP 18)),
 oP 20 (.ext 0 (tP 19))])
 (.seq (.cond (tP 20) (.skip) (.exit 0))
 (.block 1 (.seq (.region [oP 21 (.ext 1 (tP 19)),
 oP 22 (.ext 2 (tP 19)),
 oP 6 (.mv (tP 21)),
 oP 7 (.mv (tP 22))])
 (.seq (.seq (.region [oP 23 (.mv (tP 7)),
 oP 24 (.bin .eql (tP 23) (.con (.int .i32 65533))),
 oP 25 (.mv (tP 24)),
 gP 26 25 true (.mv (tP 0)),
 gP 27 25 true (.mv (tP 6)),
 gP 28 25 true (.slcStr (tP 26) (some (tP 27)) none),
 gP 29 25 true (.call (.fn 64) [(tP 28), (.con (.str ⟨#[239, 191, 189]⟩))]),
 gP 30 25 true (.un .not (tP 29)),
 oP 31 (.pick (tP 25) (tP 30) (bP false))])
 (.cond (tP 31) (.seq (.draw [oP 32 (.mv (tP 4)),
 oP 33 (.nilchk (tP 32)),
 oP 34 (.addOff 0 (tP 33)),
 oP 35 (.load (some 2) (tP 34)),
 oP 36 (.build [.int .i64 0, .int .i64 0, .int .i64 0] [(0, 1, (iP 1)), (1, 2, (tP 35))]),
 oP 2 (.mv (.con (.slice 4 []))),
 sP (.store 3 (tP 3) (tP 36))] [])
 (.ret)) (.skip)))
 (.seq (.region [oP 37 (.mv (tP 5)),
 oP 38 (.mv (tP 7)),
 oP 39 (.mv (tP 6)),
 oP 40 (.mv (tP 4)),
 oP 41 (.nilchk (tP 40)),
 oP 42 (.addOff 0 (tP 41)),
 oP 43 (.load (some 2) (tP 42)),
 oP 44 (.build [.int .i32 0, .int .i64 0, .int .i64 0, .int .i64 0] [(0, 1, (tP 38)), (1, 1, (tP 39)), (2, 2, (tP 43))]),
 oP 45 (.lit true 0 4 1 [.int .i32 0, .int .i64 0, .int .i64 0, .int .i64 0] [(0, (tP 44))]),
 oP 46 (.app false 0 4 32 (tP 37) (tP 45)),
 oP 5 (.mv (tP 46))])
 (.region [oP 47 (.mv (tP 4)),
 oP 48 (.mv (tP 7)),
 oP 49 (.call (.fn 65) [(tP 47), (tP 48)])]))))))
def B47 : ACode :=
 .seq (.region [oP 2 (.mv (.con (.slice 4 []))),
 oP 3 (.alloc [.ok (.int .i64 0), .ok (.int .i64 0), .ok (.int .i64 0)])])
 (.seq (.region [oP 8 (.call (.fn 63) []),
 oP 4 (.mv (tP 8))])
 (.seq (.seq (.region [oP 9 (.mv (tP 0)),
 oP 10 (.len true (tP 9)),
 oP 11 (.bin .gtr (tP 10) (iP 16384))])
 (.cond (tP 11) (.seq (.draw [oP 12 (.mv (tP 4)),
 oP 13 (.nilchk (tP 12)),
 oP 14 (.addOff 0 (tP 13)),
 oP 15 (.load (some 2) (tP 14)),
 oP 16 (.build [.int .i64 0, .int .i64 0, .int .i64 0] [(0, 1, (iP 5)), (1, 2, (tP 15))]),
 oP 2 (.mv (.con (.slice 4 []))),
 sP (.store 3 (tP 3) (tP 16))] [])
 (.ret)) (.skip)))
 (.seq (.region [oP 5 (.nilrow 4)])
 (.seq (.seq (.region [oP 17 (.mv (tP 0)),
 oP 18 (.rng (tP 17))])
 (.block 0 (.loop true H47L6 X47L6 B47L6)))
 (.seq (.region [oP 50 (.mv (tP 5)),
 oP 51 (.build [.int .i64 0, .int .i64 0, .int .i64 0] []),
 oP 2 (.mv (tP 50)),
 sP (.store 3 (tP 3) (tP 51))])
 (.ret))))))
def A47 : AFunc := { ntmps := 52, results := [.tmp 2, .cell (some 3) 3], body := B47, coe := true, keep := 0 }
theorem tr47 : trFunc Tryz.prog M47 true Tryz.f47 = some A47 := by kernel_rfl
abbrev S48R0 : List Bool := []
abbrev S48R1 : List Bool := []
abbrev H48L0 : List Bool := [true]
abbrev X48L0 : List Bool := []
def M48 : Marks := { cut := fun _ => true, hd := fun | 0 => H48L0 | _ => [], ex := fun | 0 => X48L0 | _ => [], imm := fun | _ => false, sn := fun | 0 => [] | _ => [] }
def N48R0 : ACode :=
 .skip
def B48R0 : ACode :=
 .block 3 (.skip)
def N48R1 : ACode :=
 .skip
def B48R1 : ACode :=
 .block 5 (.skip)
def B48L0 : ACode :=
 .block 1 (.seq (.seq (.region [oP 2 (.mv (tP 0)),
 oP 3 (.call (.fn 66) [(tP 2), (.fn 67)])])
 (.block 2 (.rangeFn (tP 3) [4] [] N48R0 B48R0)))
 (.seq (.seq (.region [oP 5 (.mv (tP 0)),
 oP 6 (.call (.fn 68) [(tP 5), (iP 0)]),
 oP 7 (.bin .neq (tP 6) (.con (.int .i32 35)))])
 (.cond (tP 7) (.ret) (.skip)))
 (.seq (.region [oP 8 (.mv (tP 0)),
 oP 9 (.call (.fn 66) [(tP 8), (.fn 69)])])
 (.block 4 (.rangeFn (tP 9) [10] [] N48R1 B48R1)))))
def B48 : ACode :=
 .block 0 (.loop true H48L0 X48L0 B48L0)
def A48 : AFunc := { ntmps := 11, results := [], body := B48, coe := true, keep := 0 }
theorem tr48 : trFunc Tryz.prog M48 true Tryz.f48 = some A48 := by kernel_rfl
def M49 : Marks := { cut := fun _ => true, hd := fun | _ => [], ex := fun | _ => [], imm := fun | _ => false }
def B49 : ACode :=
 .seq (.region [oP 2 (.mv (bP false))])
 (.seq (.draw [oP 3 (.mv (tP 0)),
 oP 4 (.nilchk (tP 3)),
 oP 5 (.addOff 1 (tP 4)),
 oP 6 (.load none (tP 5)),
 oP 7 (.mv (tP 0)),
 oP 8 (.nilchk (tP 7)),
 oP 9 (.addOff 0 (tP 8)),
 oP 10 (.load none (tP 9)),
 oP 11 (.len false (tP 10)),
 oP 12 (.bin .geq (tP 6) (tP 11)),
 oP 2 (.mv (tP 12))] [])
 (.ret))
def A49 : AFunc := { ntmps := 13, results := [.tmp 2], body := B49, coe := true, keep := 0 }
theorem tr49 : trFunc Tryz.prog M49 true Tryz.f49 = some A49 := by kernel_rfl
def M50 : Marks := { cut := fun _ => true, hd := fun | _ => [], ex := fun | _ => [], imm := fun | 16 => true | _ => false, alts := fun | 1 => [[0, 1, 2, 3, 4, 5, 6, 7, 8, 9, 12, 10, 11, 13], [0, 1, 2, 3, 4, 5, 6, 12, 7, 8, 9, 10, 11, 13], [0, 1, 2, 4, 5, 6, 7, 12, 3, 8, 9, 10, 11, 13], [0, 1, 2, 4, 5, 6, 12, 3, 7, 8, 9, 10, 11, 13]] | _ => [] }
def B50 : ACode :=
 .seq (.region [oP 2 (.alloc [.ok (.int .i64 0), .ok (.str ⟨#[]⟩), .ok (.int .i64 0), .error 1, .ok (.int .i64 0), .ok (.int .i64 0)])])
 (.seq (.draw [oP 5 (.mv (tP 0)),
 oP 6 (.nilchk (tP 5)),
 oP 7 (.addOff 0 (tP 6)),
 oP 8 (.load none (tP 7)),
 oP 9 (.mv (tP 0)),
 oP 10 (.nilchk (tP 9)),
 oP 11 (.addOff 1 (tP 10)),
 oP 12 (.load none (tP 11)),
 oP 13 (.idxAddr 4 (tP 8) (tP 12)),
 oP 14 (.addOff 2 (tP 13)),
 oP 15 (.load (some 2) (tP 14)),
 oP 16 (.build [.int .i64 0, .str ⟨#[]⟩, .int .i64 0, .nils 1, .int .i64 0, .int .i64 0] [(4, 2, (tP 15))]),
 oP 3 (.alloc [.ok (.int .i64 0), .ok (.str ⟨#[]⟩), .ok (.int .i64 0), .error 1, .ok (.int .i64 0), .ok (.int .i64 0)]),
 sP (.storen 6 (tP 3) (tP 16))] [[oP 5 (.mv (tP 0)), oP 6 (.nilchk (tP 5)), oP 7 (.addOff 0 (tP 6)), oP 8 (.load none (tP 7)), oP 9 (.mv (tP 0)), oP 10 (.nilchk (tP 9)), oP 11 (.addOff 1 (tP 10)), oP 12 (.load none (tP 11)), oP 13 (.idxAddr 4 (tP 8) (tP 12)), oP 14 (.addOff 2 (tP 13)), oP 3 (.alloc [.ok (.int .i64 0), .ok (.str ⟨#[]⟩), .ok (.int .i64 0), .error 1, .ok (.int .i64 0), .ok (.int .i64 0)]), oP 15 (.load (some 2) (tP 14)), oP 16 (.build [.int .i64 0, .str ⟨#[]⟩, .int .i64 0, .nils 1, .int .i64 0, .int .i64 0] [(4, 2, (tP 15))]), sP (.storen 6 (tP 3) (tP 16))], [oP 5 (.mv (tP 0)), oP 6 (.nilchk (tP 5)), oP 7 (.addOff 0 (tP 6)), oP 8 (.load none (tP 7)), oP 9 (.mv (tP 0)), oP 10 (.nilchk (tP 9)), oP 11 (.addOff 1 (tP 10)), oP 3 (.alloc [.ok (.int .i64 0), .ok (.str ⟨#[]⟩), .ok (.int .i64 0), .error 1, .ok (.int .i64 0), .ok (.int .i64 0)]), oP 12 (.load none (tP 11)), oP 13 (.idxAddr 4 (tP 8) (tP 12)), oP 14 (.addOff 2 (tP 13)), oP 15 (.load (some 2) (tP 14)), oP 16 (.build [.int .i64 0, .str ⟨#[]⟩, .int .i64 0, .nils 1, .int .i64 0, .int .i64 0] [(4, 2, (tP 15))]), sP (.storen 6 (tP 3) (tP 16))], [oP 5 (.mv (tP 0)), oP 6 (.nilchk (tP 5)), oP 7 (.addOff 0 (tP 6)), oP 9 (.mv (tP 0)), oP 10 (.nilchk (tP 9)), oP 11 (.addOff 1 (tP 10)), oP 12 (.load none (tP 11)), oP 3 (.alloc [.ok (.int .i64 0), .ok (.str ⟨#[]⟩), .ok (.int .i64 0), .error 1, .ok (.int .i64 0), .ok (.int .i64 0)]), oP 8 (.load none (tP 7)), oP 13 (.idxAddr 4 (tP 8) (tP 12)), oP 14 (.addOff 2 (tP 13)), oP 15 (.load (some 2) (tP 14)), oP 16 (.build [.int .i64 0, .str ⟨#[]⟩, .int .i64 0, .nils 1, .int .i64 0, .int .i64 0] [(4, 2, (tP 15))]), sP (.storen 6 (tP 3) (tP 16))], [oP 5 (.mv (tP 0)), oP 6 (.nilchk (tP 5)), oP 7 (.addOff 0 (tP 6)), oP 9 (.mv (tP 0)), oP 10 (.nilchk (tP 9)), oP 11 (.addOff 1 (tP 10)), oP 3 (.alloc [.ok (.int .i64 0), .ok (.str ⟨#[]⟩), .ok (.int .i64 0), .error 1, .ok (.int .i64 0), .ok (.int .i64 0)]), oP 8 (.load none (tP 7)), oP 12 (.load none (tP 11)), oP 13 (.idxAddr 4 (tP 8) (tP 12)), oP 14 (.addOff 2 (tP 13)), oP 15 (.load (some 2) (tP 14)), oP 16 (.build [.int .i64 0, .str ⟨#[]⟩, .int .i64 0, .nils 1, .int .i64 0, .int .i64 0] [(4, 2, (tP 15))]), sP (.storen 6 (tP 3) (tP 16))]])
 (.seq (.seq (.region [oP 17 (.mv (tP 0)),
 oP 18 (.call (.fn 68) [(tP 17), (iP 0)]),
 oP 4 (.mv (tP 18))])
 (.block 0 (.seq (.region [oP 22 (.mv (tP 4)),
 oP 23 (.call (.fn 70) [(tP 22)]),
 oP 24 (.mv (tP 23)),
 gP 25 24 false (.mv (tP 4)),
 gP 26 24 false (.call (.fn 71) [(tP 25)]),
 oP 27 (.pick (tP 24) (bP true) (tP 26)),
 oP 21 (.mv (tP 27))])
 (.cond (tP 21) (.region [oP 28 (.mv (tP 0)),
 oP 29 (.call (.fn 72) [(tP 28), (tP 3)])]) (.seq (.region [oP 31 (.mv (tP 4)),
 oP 32 (.call (.fn 73) [(tP 31)]),
 oP 30 (.mv (tP 32))])
 (.cond (tP 30) (.region [oP 33 (.mv (tP 0)),
 oP 34 (.call (.fn 74) [(tP 33), (tP 3)])]) (.seq (.region [oP 36 (.mv (tP 4)),
 oP 37 (.bin .eql (tP 36) (.con (.int .i32 34))),
 oP 35 (.mv (tP 37))])
 (.cond (tP 35) (.region [oP 38 (.mv (tP 0)),
 oP 39 (.call (.fn 75) [(tP 38), (tP 3)])]) (.region [oP 19 (.mv (tP 0)),
 oP 20 (.call (.fn 76) [(tP 19), (tP 3)])])))))))))
 (.seq (.region [oP 40 (.load (some 6) (tP 3)),
 sP (.store 6 (tP 2) (tP 40))])
 (.ret))))
def A50 : AFunc := { ntmps := 41, results := [.cell (some 6) 2], body := B50, coe := true, keep := 0 }
theorem tr50 : trFunc Tryz.prog M50 true Tryz.f50 = some A50 := by kernel_rfl
def M51 : Marks := { cut := fun _ => true, hd := fun | _ => [], ex := fun | _ => [], imm := fun | 5 => true | _ => false }
def B51 : ACode :=
 .seq (.region [oP 5 (.box true (tP 2))])
 (.seq (.region [oP 6 (.mv (tP 0)),
 oP 7 (.nilchk (tP 6)),
 oP 8 (.addOff 2 (tP 7)),
 oP 9 (.addOff 0 (tP 8)),
 oP 10 (.load none (tP 9)),
 oP 11 (.bin .eql (tP 10) (iP 0))])
 (.cond (tP 11) (.region [oP 12 (.mv (tP 0)),
 oP 13 (.mv (tP 1)),
 oP 14 (.load (some 2) (tP 5)),
 oP 15 (.build [.int .i64 0, .int .i64 0, .int .i64 0] [(0, 1, (tP 13)), (1, 2, (tP 14))]),
 oP 16 (.nilchk (tP 12)),
 oP 17 (.addOff 2 (tP 16)),
 sP (.store 3 (tP 17) (tP 15))]) (.skip)))
def A51 : AFunc := { ntmps := 18, results := [], body := B51, coe := true, keep := 0 }
theorem tr51 : trFunc Tryz.prog M51 true Tryz.f51 = some A51 := by kernel_rfl
abbrev H52L6 : List Bool := [true, true, false, false, true, true, true, false, false, false, false, false, false, false, false, true]
abbrev X52L6 : List Bool := [true, true, false, false, true, true, true]
def M52 : Marks := { cut := fun _ => true, hd := fun | 6 => H52L6 | _ => [], ex := fun | 6 => X52L6 | _ => [], imm := fun | _ => false }
def B52L6 : ACode :=
 .seq (.region [oP 16 (.next (tP 15)),
 oP 17 (.ext 0 (tP 16))])
 (.seq (.cond (tP 17) (.skip) (.exit 0))
 (.block 1 (.seq (.region [oP 18 (.ext 1 (tP 16)),
 oP 19 (.ext 2 (tP 16)),
 oP 7 (.mv (tP 18)),
 oP 8 (.mv (tP 19))])
 (.seq (.seq (.region [oP 20 (.mv (tP 7)),
 oP 21 (.bin .gtr (tP 20) (iP 0))])
 (.cond (tP 21) (.seq (.seq (.region [oP 22 (.mv (tP 1)),
 oP 23 (.mv (tP 7)),
 oP 24 (.bin .lss (tP 22) (tP 23))])
 (.cond (tP 24) (.seq (.region [oP 25 (.mv (tP 5)),
 oP 26 (.nilchk (tP 25)),
 oP 27 (.addOff 0 (tP 26)),
 oP 28 (.load (some 2) (tP 27)),
 sP (.store 2 (tP 4) (tP 28))])
 (.ret)) (.skip)))
 (.region [oP 29 (.mv (tP 5)),
 oP 30 (.mv (tP 6)),
 oP 31 (.call (.fn 65) [(tP 29), (tP 30)])])) (.skip)))
 (.region [oP 32 (.mv (tP 8)),
 oP 6 (.mv (tP 32))])))))
def B52 : ACode :=
 .seq (.region [oP 4 (.alloc [.ok (.int .i64 0), .ok (.int .i64 0)])])
 (.seq (.seq (.region [oP 9 (.mv (tP 0)),
 oP 10 (.len true (tP 9)),
 oP 11 (.bin .gtr (tP 10) (iP 16384))])
 (.cond (tP 11) (.seq (.region [oP 12 (.build [.int .i64 0, .int .i64 0] []),
 sP (.store 2 (tP 4) (tP 12))])
 (.ret)) (.skip)))
 (.seq (.region [oP 13 (.call (.fn 63) []),
 oP 5 (.mv (tP 13))])
 (.seq (.region [oP 6 (.mv (.con (.int .i32 0)))])
 (.seq (.seq (.region [oP 14 (.mv (tP 0)),
 oP 15 (.rng (tP 14))])
 (.block 0 (.loop true H52L6 X52L6 B52L6)))
 (.seq (.seq (.region [oP 33 (.mv (tP 0)),
 oP 34 (.bin .neq (tP 33) (.con (.str ⟨#[]⟩))),
 oP 35 (.mv (tP 34)),
 gP 36 35 true (.mv (tP 1)),
 gP 37 35 true (.mv (tP 0)),
 gP 38 35 true (.len true (tP 37)),
 gP 39 35 true (.bin .geq (tP 36) (tP 38)),
 oP 40 (.pick (tP 35) (tP 39) (bP false))])
 (.cond (tP 40) (.region [oP 41 (.mv (tP 5)),
 oP 42 (.mv (tP 6)),
 oP 43 (.call (.fn 65) [(tP 41), (tP 42)])]) (.skip)))
 (.seq (.region [oP 44 (.mv (tP 5)),
 oP 45 (.nilchk (tP 44)),
 oP 46 (.addOff 0 (tP 45)),
 oP 47 (.load (some 2) (tP 46)),
 sP (.store 2 (tP 4) (tP 47))])
 (.ret)))))))
def A52 : AFunc := { ntmps := 48, results := [.cell (some 2) 4], body := B52, coe := true, keep := 0 }
theorem tr52 : trFunc Tryz.prog M52 true Tryz.f52 = some A52 := by kernel_rfl
abbrev H56L11 : List Bool := [true, false, false, true, true, false, true, true, true]
abbrev X56L11 : List Bool := [true, false, false, true, true, false, true, true, true]
abbrev H56L7 : List Bool := [true, false, false, true, true, false, true, true, true]
abbrev X56L7 : List Bool := [true, false, true, true, false, false, true, true]
def M56 : Marks := { cut := fun _ => true, hd := fun | 7 => H56L7 | 11 => H56L11 | _ => [], ex := fun | 7 => X56L7 | 11 => X56L11 | _ => [], imm := fun | 2 => true | 79 => true | 99 => true | _ => false }
def B56L11 : ACode :=
 .seq (.seq (.region [oP 40 (.mv (tP 8)),
 oP 41 (.mv (tP 4)),
 oP 42 (.len false (tP 41)),
 oP 43 (.bin .lss (tP 40) (tP 42)),
 oP 44 (.mv (tP 43)),
 gP 45 44 true (.mv (tP 4)),
 gP 46 44 true (.mv (tP 8)),
 gP 47 44 true (.idxAddr 4 (tP 45) (tP 46)),
 gP 48 44 true (.addOff 0 (tP 47)),
 gP 49 44 true (.load none (tP 48)),
 gP 50 44 true (.bin .neq (tP 49) (.con (.int .i32 10))),
 oP 51 (.pick (tP 44) (tP 50) (bP false))])
 (.cond (tP 51) (.skip) (.exit 2)))
 (.block 3 (.region [oP 52 (.mv (tP 8)),
 oP 53 (.bin .add (tP 52) (iP 1)),
 oP 8 (.mv (tP 53))]))
def B56L7 : ACode :=
 .seq (.seq (.region [oP 22 (.mv (tP 8)),
 oP 23 (.mv (tP 4)),
 oP 24 (.len false (tP 23)),
 oP 25 (.bin .lss (tP 22) (tP 24))])
 (.cond (tP 25) (.skip) (.exit 0)))
 (.block 1 (.seq (.seq (.region [oP 26 (.mv (tP 4)),
 oP 27 (.mv (tP 8)),
 oP 28 (.idxAddr 4 (tP 26) (tP 27)),
 oP 29 (.addOff 0 (tP 28)),
 oP 30 (.load none (tP 29)),
 oP 31 (.call (.fn 86) [(tP 30)])])
 (.cond (tP 31) (.seq (.region [oP 32 (.mv (tP 8)),
 oP 33 (.bin .add (tP 32) (iP 1)),
 oP 8 (.mv (tP 33))])
 (.exit 1)) (.skip)))
 (.seq (.seq (.region [oP 34 (.mv (tP 4)),
 oP 35 (.mv (tP 8)),
 oP 36 (.idxAddr 4 (tP 34) (tP 35)),
 oP 37 (.addOff 0 (tP 36)),
 oP 38 (.load none (tP 37)),
 oP 39 (.bin .eql (tP 38) (.con (.int .i32 35)))])
 (.cond (tP 39) (.seq (.block 2 (.loop true H56L11 X56L11 B56L11))
 (.exit 1)) (.skip)))
 (.seq (.region [oP 55 (.mv (tP 4)),
 oP 56 (.mv (tP 8)),
 oP 57 (.call (.fn 87) [(tP 55), (tP 56)]),
 oP 54 (.mv (tP 57)),
 oP 58 (.ext 0 (tP 54)),
 oP 59 (.ext 1 (tP 54)),
 oP 60 (.ext 2 (tP 54)),
 oP 9 (.alloc [.ok (.int .i64 0), .ok (.str ⟨#[]⟩), .ok (.int .i64 0), .error 1, .ok (.int .i64 0), .ok (.int .i64 0)]),
 sP (.store 6 (tP 9) (tP 58)),
 oP 10 (.mv (tP 59)),
 oP 11 (.mv (tP 60))])
 (.seq (.seq (.region [oP 61 (.mv (tP 11)),
 oP 62 (.bin .eql (tP 61) (iP 0)),
 oP 63 (.mv (tP 62)),
 gP 64 63 true (.mv (tP 6)),
 gP 65 63 true (.len false (tP 64)),
 gP 66 63 true (.bin .geq (tP 65) (iP 4096)),
 oP 67 (.pick (tP 63) (tP 66) (bP false))])
 (.cond (tP 67) (.region [oP 11 (.mv (iP 27))]) (.skip)))
 (.seq (.seq (.region [oP 68 (.mv (tP 11)),
 oP 69 (.bin .neq (tP 68) (iP 0))])
 (.cond (tP 69) (.seq (.draw [oP 70 (.mv (tP 11)),
 oP 71 (.mv (tP 4)),
 oP 72 (.mv (tP 8)),
 oP 73 (.idxAddr 4 (tP 71) (tP 72)),
 oP 74 (.addOff 2 (tP 73)),
 oP 75 (.load (some 2) (tP 74)),
 oP 76 (.build [.int .i64 0, .int .i64 0, .int .i64 0] [(0, 1, (tP 70)), (1, 2, (tP 75))]),
 oP 2 (.mv (.con (.slice 6 []))),
 sP (.store 3 (tP 3) (tP 76))] [])
 (.ret)) (.skip)))
 (.seq (.region [oP 77 (.mv (tP 6)),
 oP 78 (.load (some 6) (tP 9)),
 oP 79 (.lit true 0 6 1 [.int .i64 0, .str ⟨#[]⟩, .int .i64 0, .slice 1 [], .int .i64 0, .int .i64 0] [(0, (tP 78))]),
 oP 80 (.app false 0 6 72 (tP 77) (tP 79)),
 oP 6 (.mv (tP 80))])
 (.region [oP 81 (.mv (tP 8)),
 oP 82 (.mv (tP 10)),
 oP 83 (.bin .add (tP 81) (tP 82)),
 oP 8 (.mv (tP 83))]))))))))
def B56 : ACode :=
 .seq (.region [oP 2 (.mv (.con (.slice 6 []))),
 oP 3 (.alloc [.ok (.int .i64 0), .ok (.int .i64 0), .ok (.int .i64 0)])])
 (.seq (.region [oP 13 (.mv (tP 0)),
 oP 14 (.call (.fn 85) [(tP 13)]),
 oP 12 (.mv (tP 14)),
 oP 15 (.ext 0 (tP 12)),
 oP 16 (.ext 1 (tP 12)),
 oP 5 (.alloc [.ok (.int .i64 0), .ok (.int .i64 0), .ok (.int .i64 0)]),
 oP 4 (.mv (tP 15)),
 sP (.store 3 (tP 5) (tP 16))])
 (.seq (.seq (.region [oP 17 (.addOff 0 (tP 5)),
 oP 18 (.load none (tP 17)),
 oP 19 (.bin .neq (tP 18) (iP 0))])
 (.cond (tP 19) (.seq (.draw [oP 20 (.load (some 3) (tP 5)),
 oP 2 (.mv (.con (.slice 6 []))),
 sP (.store 3 (tP 3) (tP 20))] [])
 (.ret)) (.skip)))
 (.seq (.region [oP 6 (.nilrow 6)])
 (.seq (.region [oP 21 (.build [.int .i64 0, .int .i64 0] [(0, 1, (iP 1)), (1, 1, (iP 1))]),
 oP 7 (.alloc [.ok (.int .i64 0), .ok (.int .i64 0)]),
 sP (.store 2 (tP 7) (tP 21))])
 (.seq (.seq (.region [oP 8 (.mv (iP 0))])
 (.block 0 (.loop true H56L7 X56L7 B56L7)))
 (.seq (.seq (.region [oP 84 (.mv (tP 0)),
 oP 85 (.len true (tP 84)),
 oP 86 (.bin .gtr (tP 85) (iP 0))])
 (.cond (tP 86) (.region [oP 87 (.mv (tP 0)),
 oP 88 (.mv (tP 0)),
 oP 89 (.len true (tP 88)),
 oP 90 (.call (.fn 88) [(tP 87), (tP 89)]),
 sP (.store 2 (tP 7) (tP 90))]) (.skip)))
 (.seq (.seq (.region [oP 91 (.mv (tP 6)),
 oP 92 (.len false (tP 91)),
 oP 93 (.bin .geq (tP 92) (iP 4096))])
 (.cond (tP 93) (.seq (.draw [oP 94 (.load (some 2) (tP 7)),
 oP 95 (.build [.int .i64 0, .int .i64 0, .int .i64 0] [(0, 1, (iP 27)), (1, 2, (tP 94))]),
 oP 2 (.mv (.con (.slice 6 []))),
 sP (.store 3 (tP 3) (tP 95))] [])
 (.ret)) (.skip)))
 (.seq (.region [oP 96 (.mv (tP 6)),
 oP 97 (.load (some 2) (tP 7)),
 oP 98 (.build [.int .i64 0, .str ⟨#[]⟩, .int .i64 0, .slice 1 [], .int .i64 0, .int .i64 0] [(4, 2, (tP 97))]),
 oP 99 (.lit true 0 6 1 [.int .i64 0, .str ⟨#[]⟩, .int .i64 0, .slice 1 [], .int .i64 0, .int .i64 0] [(0, (tP 98))]),
 oP 100 (.app false 0 6 72 (tP 96) (tP 99)),
 oP 101 (.build [.int .i64 0, .int .i64 0, .int .i64 0] []),
 oP 2 (.mv (tP 100)),
 sP (.store 3 (tP 3) (tP 101))])
 (.ret)))))))))
def A56 : AFunc := { ntmps := 102, results := [.tmp 2, .cell (some 3) 3], body := B56, coe := true, keep := 0 }
theorem tr56 : trFunc Tryz.prog M56 true Tryz.f56 = some A56 := by kernel_rfl
def M63 : Marks := { cut := fun _ => true, hd := fun | _ => [], ex := fun | _ => [], imm := fun | _ => false, keep := 1 }
def B63 : ACode :=
 .seq (.region [oP 0 (.mv (.con (.nilp)))])
 (.seq (.region [oP 1 (.build [.int .i64 0, .int .i64 0] [(0, 1, (iP 1)), (1, 1, (iP 1))]),
 oP 2 (.build [.int .i64 0, .int .i64 0] [(0, 2, (tP 1))]),
 oP 3 (.box false (tP 2)),
 oP 0 (.mv (tP 3))])
 (.ret))
def A63 : AFunc := { ntmps := 4, results := [.tmp 0], body := B63, coe := true, keep := 1 }
theorem tr63 : trFunc Tryz.prog M63 true Tryz.f63 = some A63 := by kernel_rfl
def M64 : Marks := { cut := fun _ => true, hd := fun | _ => [], ex := fun | _ => [], imm := fun | _ => false }
def B64 : ACode :=
 .seq (.region [oP 4 (.mv (bP false))])
 (.seq (.region [oP 5 (.mv (tP 0)),
 oP 6 (.mv (tP 1)),
 oP 7 (.call (.fn 46) [(tP 5), (tP 6)]),
 oP 4 (.mv (tP 7))])
 (.ret))
def A64 : AFunc := { ntmps := 8, results := [.tmp 4], body := B64, coe := true, keep := 0 }
theorem tr64 : trFunc Tryz.prog M64 true Tryz.f64 = some A64 := by kernel_rfl
def M65 : Marks := { cut := fun _ => true, hd := fun | _ => [], ex := fun | _ => [], imm := fun | _ => false }
def B65 : ACode :=
 .seq (.region [oP 4 (.mv (tP 0)),
 oP 5 (.nilchk (tP 4)),
 oP 6 (.addOff 0 (tP 5)),
 oP 7 (.addOff 1 (tP 6)),
 oP 8 (.load none (tP 7)),
 oP 9 (.bin .add (tP 8) (iP 1)),
 oP 10 (.nilchk (tP 4)),
 oP 11 (.addOff 0 (tP 10)),
 oP 12 (.addOff 1 (tP 11)),
 sP (.store 1 (tP 12) (tP 9))])
 (.seq (.region [oP 13 (.mv (tP 1)),
 oP 14 (.bin .eql (tP 13) (.con (.int .i32 10)))])
 (.cond (tP 14) (.region [oP 15 (.mv (tP 0)),
 oP 16 (.mv (tP 0)),
 oP 17 (.mv (tP 0)),
 oP 18 (.nilchk (tP 17)),
 oP 19 (.addOff 0 (tP 18)),
 oP 20 (.addOff 0 (tP 19)),
 oP 21 (.load none (tP 20)),
 oP 22 (.bin .add (tP 21) (iP 1)),
 oP 23 (.nilchk (tP 15)),
 oP 24 (.addOff 0 (tP 23)),
 oP 25 (.addOff 0 (tP 24)),
 sP (.store 1 (tP 25) (tP 22)),
 oP 26 (.nilchk (tP 16)),
 oP 27 (.addOff 0 (tP 26)),
 oP 28 (.addOff 1 (tP 27)),
 sP (.store 1 (tP 28) (iP 1))]) (.skip)))
def A65 : AFunc := { ntmps := 29, results := [], body := B65, coe := true, keep := 0 }
theorem tr65 : trFunc Tryz.prog M65 true Tryz.f65 = some A65 := by kernel_rfl
def M66 : Marks := { cut := fun _ => true, hd := fun | _ => [], ex := fun | _ => [], imm := fun | _ => false, keep := 2 }
def B66 : ACode :=
 .seq (.region [oP 2 (.box false (tP 0)),
 oP 3 (.box false (tP 1)),
 oP 4 (.mv (.con (.nilf)))])
 (.seq (.region [oP 5 (.mkf (.func 96) [] [(tP 2), (tP 3)]),
 oP 4 (.mv (tP 5))])
 (.ret))
def A66 : AFunc := { ntmps := 6, results := [.tmp 4], body := B66, coe := true, keep := 2 }
theorem tr66 : trFunc Tryz.prog M66 true Tryz.f66 = some A66 := by kernel_rfl
def M67 : Marks := { cut := fun _ => true, hd := fun | _ => [], ex := fun | _ => [], imm := fun | _ => false }
def B67 : ACode :=
 .seq (.region [oP 2 (.mv (bP false))])
 (.seq (.seq (.region [oP 3 (.mv (tP 0))])
 (.block 0 (.seq (.seq (.region [oP 5 (.bin .eql (tP 3) (.con (.int .i32 9))),
 oP 4 (.mv (tP 5))])
 (.cond (tP 4) (.skip) (.seq (.region [oP 6 (.bin .eql (tP 3) (.con (.int .i32 10))),
 oP 4 (.mv (tP 6))])
 (.cond (tP 4) (.skip) (.seq (.region [oP 7 (.bin .eql (tP 3) (.con (.int .i32 13))),
 oP 4 (.mv (tP 7))])
 (.cond (tP 4) (.skip) (.region [oP 8 (.bin .eql (tP 3) (.con (.int .i32 32))),
 oP 4 (.mv (tP 8))])))))))
 (.cond (tP 4) (.seq (.region [oP 2 (.mv (bP true))])
 (.ret)) (.skip)))))
 (.seq (.region [oP 2 (.mv (bP false))])
 (.ret)))
def A67 : AFunc := { ntmps := 9, results := [.tmp 2], body := B67, coe := true, keep := 0 }
theorem tr67 : trFunc Tryz.prog M67 true Tryz.f67 = some A67 := by kernel_rfl
def M68 : Marks := { cut := fun _ => true, hd := fun | _ => [], ex := fun | _ => [], imm := fun | _ => false }
def B68 : ACode :=
 .seq (.region [oP 4 (.mv (.con (.int .i32 0)))])
 (.seq (.seq (.draw [oP 5 (.mv (tP 0)),
 oP 6 (.nilchk (tP 5)),
 oP 7 (.addOff 1 (tP 6)),
 oP 8 (.load none (tP 7)),
 oP 9 (.mv (tP 1)),
 oP 10 (.bin .add (tP 8) (tP 9)),
 oP 11 (.mv (tP 0)),
 oP 12 (.nilchk (tP 11)),
 oP 13 (.addOff 0 (tP 12)),
 oP 14 (.load none (tP 13)),
 oP 15 (.len false (tP 14)),
 oP 16 (.bin .geq (tP 10) (tP 15))] [])
 (.cond (tP 16) (.seq (.region [oP 4 (.mv (.con (.int .i32 (-1))))])
 (.ret)) (.skip)))
 (.seq (.draw [oP 17 (.mv (tP 0)),
 oP 18 (.nilchk (tP 17)),
 oP 19 (.addOff 0 (tP 18)),
 oP 20 (.load none (tP 19)),
 oP 21 (.mv (tP 0)),
 oP 22 (.nilchk (tP 21)),
 oP 23 (.addOff 1 (tP 22)),
 oP 24 (.load none (tP 23)),
 oP 25 (.mv (tP 1)),
 oP 26 (.bin .add (tP 24) (tP 25)),
 oP 27 (.idxAddr 4 (tP 20) (tP 26)),
 oP 28 (.addOff 0 (tP 27)),
 oP 29 (.load none (tP 28)),
 oP 4 (.mv (tP 29))] [])
 (.ret)))
def A68 : AFunc := { ntmps := 30, results := [.tmp 4], body := B68, coe := true, keep := 0 }
theorem tr68 : trFunc Tryz.prog M68 true Tryz.f68 = some A68 := by kernel_rfl
def M69 : Marks := { cut := fun _ => true, hd := fun | _ => [], ex := fun | _ => [], imm := fun | _ => false }
def B69 : ACode :=
 .seq (.region [oP 2 (.mv (bP false))])
 (.seq (.region [oP 3 (.mv (tP 0)),
 oP 4 (.bin .neq (tP 3) (.con (.int .i32 10))),
 oP 2 (.mv (tP 4))])
 (.ret))
def A69 : AFunc := { ntmps := 5, results := [.tmp 2], body := B69, coe := true, keep := 0 }
theorem tr69 : trFunc Tryz.prog M69 true Tryz.f69 = some A69 := by kernel_rfl
def M70 : Marks := { cut := fun _ => true, hd := fun | _ => [], ex := fun | _ => [], imm := fun | _ => false }
def B70 : ACode :=
 .seq (.region [oP 2 (.mv (bP false))])
 (.seq (.region [oP 3 (.mv (tP 0)),
 oP 4 (.bin .geq (tP 3) (.con (.int .i32 97))),
 oP 5 (.mv (tP 4)),
 gP 6 5 true (.mv (tP 0)),
 gP 7 5 true (.bin .leq (tP 6) (.con (.int .i32 122))),
 oP 8 (.pick (tP 5) (tP 7) (bP false)),
 oP 9 (.mv (tP 8)),
 gP 10 9 false (.mv (tP 0)),
 gP 11 9 false (.bin .geq (tP 10) (.con (.int .i32 128))),
 gP 12 9 false (.mv (tP 11)),
 gP 13 12 true (.mv (tP 0)),
 gP 14 12 true (.call (.fn 97) [(tP 13)]),
 gP 15 9 false (.pick (tP 12) (tP 14) (bP false)),
 oP 16 (.pick (tP 9) (bP true) (tP 15)),
 oP 2 (.mv (tP 16))])
 (.ret))
def A70 : AFunc := { ntmps := 17, results := [.tmp 2], body := B70, coe := true, keep := 0 }
theorem tr70 : trFunc Tryz.prog M70 true Tryz.f70 = some A70 := by kernel_rfl
def M71 : Marks := { cut := fun _ => true, hd := fun | _ => [], ex := fun | _ => [], imm := fun | _ => false }
def B71 : ACode :=
 .seq (.region [oP 2 (.mv (bP false))])
 (.seq (.region [oP 3 (.mv (tP 0)),
 oP 4 (.bin .geq (tP 3) (.con (.int .i32 65))),
 oP 5 (.mv (tP 4)),
 gP 6 5 true (.mv (tP 0)),
 gP 7 5 true (.bin .leq (tP 6) (.con (.int .i32 90))),
 oP 8 (.pick (tP 5) (tP 7) (bP false)),
 oP 2 (.mv (tP 8))])
 (.ret))
def A71 : AFunc := { ntmps := 9, results := [.tmp 2], body := B71, coe := true, keep := 0 }
theorem tr71 : trFunc Tryz.prog M71 true Tryz.f71 = some A71 := by kernel_rfl
abbrev S72R0 : List Bool := [false, false, false, false, true, true]
def M72 : Marks := { cut := fun _ => true, hd := fun | _ => [], ex := fun | _ => [], imm := fun | _ => false, sn := fun | 7 => [false, false, false, false, true, true] | _ => [] }
def N72R0 : ACode :=
 .region [oP 6 (.mv (tP 18))]
def B72R0 : ACode :=
 .block 1 (.seq (.region [oP 19 (.mv (tP 6)),
 oP 20 (.call (.fn 99) [(tP 4), (tP 19)])])
 (.region [oP 21 (.load none (tP 5)),
 oP 22 (.bin .add (tP 21) (iP 1)),
 sP (.store 1 (tP 5) (tP 22))]))
def B72 : ACode :=
 .seq (.region [oP 7 (.mv (tP 1)),
 oP 8 (.nilchk (tP 7)),
 oP 9 (.addOff 0 (tP 8)),
 sP (.store 1 (tP 9) (iP 1))])
 (.seq (.seq (.region [oP 10 (.mv (tP 0)),
 oP 11 (.call (.fn 68) [(tP 10), (iP 0)]),
 oP 12 (.call (.fn 71) [(tP 11)])])
 (.cond (tP 12) (.region [oP 13 (.mv (tP 1)),
 oP 14 (.nilchk (tP 13)),
 oP 15 (.addOff 0 (tP 14)),
 sP (.store 1 (tP 15) (iP 2))]) (.skip)))
 (.seq (.region [oP 4 (.alloc [.ok (.nilp), .error 1] 86)])
 (.seq (.region [oP 5 (.alloc [.ok (.int .i64 0)]),
 sP (.store 1 (tP 5) (iP 0))])
 (.seq (.seq (.region [oP 16 (.mv (tP 0)),
 oP 17 (.call (.fn 66) [(tP 16), (.fn 98)])])
 (.block 0 (.rangeFn (tP 17) [18] [false, false, false, false, true, true] N72R0 B72R0)))
 (.seq (.seq (.region [oP 23 (.mv (tP 1)),
 oP 24 (.call (.fn 43) [(tP 4)]),
 oP 25 (.nilchk (tP 23)),
 oP 26 (.addOff 1 (tP 25)),
 sP (.store 1 (tP 26) (tP 24))])
 (.seq (.region [oP 27 (.load none (tP 5)),
 oP 28 (.bin .gtr (tP 27) (iP 24))])
 (.cond (tP 28) (.region [oP 29 (.mv (tP 0)),
 oP 30 (.mv (tP 1)),
 oP 31 (.nilchk (tP 30)),
 oP 32 (.addOff 4 (tP 31)),
 oP 33 (.load (some 2) (tP 32)),
 oP 34 (.call (.fn 51) [(tP 29), (iP 5), (tP 33)])]) (.skip))))
 (.seq (.region [oP 35 (.mv (tP 1)),
 oP 36 (.nilchk (tP 35)),
 oP 37 (.addOff 1 (tP 36)),
 oP 38 (.load none (tP 37)),
 oP 39 (.call (.fn 100) [(tP 38)])])
 (.cond (tP 39) (.region [oP 40 (.mv (tP 1)),
 oP 41 (.nilchk (tP 40)),
 oP 42 (.addOff 0 (tP 41)),
 sP (.store 1 (tP 42) (iP 5))]) (.skip))))))))
def A72 : AFunc := { ntmps := 43, results := [], body := B72, coe := true, keep := 0 }
theorem tr72 : trFunc Tryz.prog M72 true Tryz.f72 = some A72 := by kernel_rfl
def M73 : Marks := { cut := fun _ => true, hd := fun | _ => [], ex := fun | _ => [], imm := fun | _ => false }
def B73 : ACode :=
 .seq (.region [oP 2 (.mv (bP false))])
 (.seq (.region [oP 3 (.mv (tP 0)),
 oP 4 (.bin .geq (tP 3) (.con (.int .i32 48))),
 oP 5 (.mv (tP 4)),
 gP 6 5 true (.mv (tP 0)),
 gP 7 5 true (.bin .leq (tP 6) (.con (.int .i32 57))),
 oP 8 (.pick (tP 5) (tP 7) (bP false)),
 oP 2 (.mv (tP 8))])
 (.ret))
def A73 : AFunc := { ntmps := 9, results := [.tmp 2], body := B73, coe := true, keep := 0 }
theorem tr73 : trFunc Tryz.prog M73 true Tryz.f73 = some A73 := by kernel_rfl
abbrev S74R0 : List Bool := [false, false, false, true, true]
def M74 : Marks := { cut := fun _ => true, hd := fun | _ => [], ex := fun | _ => [], imm := fun | _ => false, sn := fun | 5 => [false, false, false, true, true] | _ => [] }
def N74R0 : ACode :=
 .region [oP 5 (.mv (tP 12))]
def B74R0 : ACode :=
 .block 1 (.seq (.region [oP 13 (.mv (tP 5)),
 oP 14 (.bin .sub (tP 13) (.con (.int .i32 48))),
 oP 15 (.cvt .i64 (tP 14)),
 oP 6 (.mv (tP 15))])
 (.seq (.region [oP 16 (.load none (tP 4)),
 oP 17 (.mv (tP 16)),
 gP 18 17 false (.load none (tP 3)),
 gP 19 17 false (.nilchk (tP 18)),
 gP 20 17 false (.addOff 2 (tP 19)),
 gP 21 17 false (.load none (tP 20)),
 gP 22 17 false (.mv (tP 6)),
 gP 23 17 false (.bin .sub (iP 4611686018427387903) (tP 22)),
 gP 24 17 false (.bin .quo (tP 23) (iP 10)),
 gP 25 17 false (.bin .gtr (tP 21) (tP 24)),
 oP 26 (.pick (tP 17) (bP true) (tP 25)),
 sP (.store 1 (tP 4) (tP 26))])
 (.seq (.region [oP 27 (.load none (tP 4)),
 oP 28 (.un .not (tP 27))])
 (.cond (tP 28) (.draw [oP 29 (.load none (tP 3)),
 oP 30 (.load none (tP 3)),
 oP 31 (.nilchk (tP 30)),
 oP 32 (.addOff 2 (tP 31)),
 oP 33 (.load none (tP 32)),
 oP 34 (.bin .mul (tP 33) (iP 10)),
 oP 35 (.mv (tP 6)),
 oP 36 (.bin .add (tP 34) (tP 35)),
 oP 37 (.nilchk (tP 29)),
 oP 38 (.addOff 2 (tP 37)),
 sP (.store 1 (tP 38) (tP 36))] []) (.skip)))))
def B74 : ACode :=
 .seq (.region [oP 3 (.box false (tP 1))])
 (.seq (.region [oP 7 (.load none (tP 3)),
 oP 8 (.nilchk (tP 7)),
 oP 9 (.addOff 0 (tP 8)),
 sP (.store 1 (tP 9) (iP 3))])
 (.seq (.region [oP 4 (.alloc [.ok (.bool false)]),
 sP (.store 1 (tP 4) (bP false))])
 (.seq (.seq (.region [oP 10 (.mv (tP 0)),
 oP 11 (.call (.fn 66) [(tP 10), (.fn 73)])])
 (.block 0 (.rangeFn (tP 11) [12] [false, false, false, true, true] N74R0 B74R0)))
 (.seq (.region [oP 39 (.load none (tP 4))])
 (.cond (tP 39) (.region [oP 40 (.mv (tP 0)),
 oP 41 (.load none (tP 3)),
 oP 42 (.nilchk (tP 41)),
 oP 43 (.addOff 4 (tP 42)),
 oP 44 (.load (some 2) (tP 43)),
 oP 45 (.call (.fn 51) [(tP 40), (iP 3), (tP 44)])]) (.skip))))))
def A74 : AFunc := { ntmps := 46, results := [], body := B74, coe := true, keep := 0 }
theorem tr74 : trFunc Tryz.prog M74 true Tryz.f74 = some A74 := by kernel_rfl
abbrev H75L2 : List Bool := [true, true]
abbrev X75L2 : List Bool := []
def M75 : Marks := { cut := fun _ => true, hd := fun | 2 => H75L2 | _ => [], ex := fun | 2 => X75L2 | _ => [], imm := fun | 84 => true | _ => false, alts := fun | 7 => [[0, 1, 2, 3, 5, 6, 4, 7, 8, 9, 10]] | _ => [] }
def B75L2 : ACode :=
 .block 1 (.seq (.region [oP 17 (.mv (tP 0)),
 oP 18 (.call (.fn 68) [(tP 17), (iP 0)]),
 oP 4 (.mv (tP 18))])
 (.seq (.seq (.region [oP 19 (.mv (tP 4)),
 oP 20 (.bin .lss (tP 19) (.con (.int .i32 0))),
 oP 21 (.mv (tP 20)),
 gP 22 21 false (.mv (tP 4)),
 gP 23 21 false (.bin .eql (tP 22) (.con (.int .i32 10))),
 oP 24 (.pick (tP 21) (bP true) (tP 23))])
 (.cond (tP 24) (.seq (.region [oP 25 (.mv (tP 0)),
 oP 26 (.mv (tP 1)),
 oP 27 (.nilchk (tP 26)),
 oP 28 (.addOff 4 (tP 27)),
 oP 29 (.load (some 2) (tP 28)),
 oP 30 (.call (.fn 51) [(tP 25), (iP 4), (tP 29)])])
 (.ret)) (.skip)))
 (.seq (.region [oP 31 (.mv (tP 0)),
 oP 32 (.nilchk (tP 31)),
 oP 33 (.addOff 1 (tP 32)),
 oP 34 (.load none (tP 33)),
 oP 35 (.bin .add (tP 34) (iP 1)),
 oP 36 (.nilchk (tP 31)),
 oP 37 (.addOff 1 (tP 36)),
 sP (.store 1 (tP 37) (tP 35))])
 (.seq (.region [oP 38 (.mv (tP 4))])
 (.block 2 (.seq (.region [oP 50 (.bin .eql (tP 38) (.con (.int .i32 34))),
 oP 49 (.mv (tP 50))])
 (.cond (tP 49) (.seq (.seq (.region [oP 51 (.mv (tP 1)),
 oP 52 (.nilchk (tP 51)),
 oP 53 (.addOff 3 (tP 52)),
 oP 54 (.load none (tP 53)),
 oP 55 (.len false (tP 54)),
 oP 56 (.bin .gtr (tP 55) (iP 64))])
 (.cond (tP 56) (.region [oP 57 (.mv (tP 0)),
 oP 58 (.mv (tP 1)),
 oP 59 (.nilchk (tP 58)),
 oP 60 (.addOff 4 (tP 59)),
 oP 61 (.load (some 2) (tP 60)),
 oP 62 (.call (.fn 51) [(tP 57), (iP 5), (tP 61)])]) (.skip)))
 (.ret)) (.seq (.region [oP 64 (.bin .eql (tP 38) (.con (.int .i32 92))),
 oP 63 (.mv (tP 64))])
 (.cond (tP 63) (.seq (.region [oP 66 (.mv (tP 0)),
 oP 67 (.call (.fn 101) [(tP 66)]),
 oP 65 (.mv (tP 67)),
 oP 68 (.ext 0 (tP 65)),
 oP 69 (.ext 1 (tP 65)),
 oP 5 (.mv (tP 68)),
 oP 6 (.mv (tP 69))])
 (.seq (.seq (.region [oP 70 (.mv (tP 6)),
 oP 71 (.un .not (tP 70))])
 (.cond (tP 71) (.seq (.region [oP 72 (.mv (tP 0)),
 oP 73 (.mv (tP 1)),
 oP 74 (.nilchk (tP 73)),
 oP 75 (.addOff 4 (tP 74)),
 oP 76 (.load (some 2) (tP 75)),
 oP 77 (.call (.fn 51) [(tP 72), (iP 4), (tP 76)])])
 (.ret)) (.skip)))
 (.region [oP 78 (.mv (tP 1)),
 oP 79 (.mv (tP 1)),
 oP 80 (.nilchk (tP 79)),
 oP 81 (.addOff 3 (tP 80)),
 oP 82 (.load none (tP 81)),
 oP 83 (.mv (tP 5)),
 oP 84 (.lit true 5 1 1 [.int .u8 0] [(0, (tP 83))]),
 oP 85 (.app false 5 1 1 (tP 82) (tP 84)),
 oP 86 (.nilchk (tP 78)),
 oP 87 (.addOff 3 (tP 86)),
 sP (.store 1 (tP 87) (tP 85))]))) (.draw [oP 39 (.mv (tP 1)),
 oP 40 (.mv (tP 1)),
 oP 41 (.nilchk (tP 40)),
 oP 42 (.addOff 3 (tP 41)),
 oP 43 (.load none (tP 42)),
 oP 44 (.mv (tP 4)),
 oP 45 (.call (.fn 102) [(tP 44)]),
 oP 46 (.app false 5 1 1 (tP 43) (tP 45)),
 oP 47 (.nilchk (tP 39)),
 oP 48 (.addOff 3 (tP 47)),
 sP (.store 1 (tP 48) (tP 46))] [[oP 39 (.mv (tP 1)), oP 40 (.mv (tP 1)), oP 41 (.nilchk (tP 40)), oP 42 (.addOff 3 (tP 41)), oP 44 (.mv (tP 4)), oP 45 (.call (.fn 102) [(tP 44)]), oP 43 (.load none (tP 42)), oP 46 (.app false 5 1 1 (tP 43) (tP 45)), oP 47 (.nilchk (tP 39)), oP 48 (.addOff 3 (tP 47)), sP (.store 1 (tP 48) (tP 46))]]))))))))))
def B75 : ACode :=
 .seq (.region [oP 7 (.mv (tP 1)),
 oP 8 (.nilchk (tP 7)),
 oP 9 (.addOff 0 (tP 8)),
 sP (.store 1 (tP 9) (iP 4))])
 (.seq (.region [oP 10 (.mv (tP 0)),
 oP 11 (.nilchk (tP 10)),
 oP 12 (.addOff 1 (tP 11)),
 oP 13 (.load none (tP 12)),
 oP 14 (.bin .add (tP 13) (iP 1)),
 oP 15 (.nilchk (tP 10)),
 oP 16 (.addOff 1 (tP 15)),
 sP (.store 1 (tP 16) (tP 14))])
 (.block 0 (.loop true H75L2 X75L2 B75L2)))
def A75 : AFunc := { ntmps := 88, results := [], body := B75, coe := true, keep := 0 }
theorem tr75 : trFunc Tryz.prog M75 true Tryz.f75 = some A75 := by kernel_rfl
abbrev H76L10 : List Bool := [true, true, false, false, false, false, false, false, false, false, false, false, false, false, false, false, false, false, false, false, false, false, false, false, false, false, false, false, false, false, false, false, false, false, false, false, false, false, false, false, false, false, false, false, false, false, false, false, true, true]
abbrev X76L10 : List Bool := []
def M76 : Marks := { cut := fun _ => true, hd := fun | 10 => H76L10 | _ => [], ex := fun | 10 => X76L10 | _ => [], imm := fun | _ => false, alts := fun | 11 => [[0, 1, 2, 4, 5, 3, 6, 7, 8, 9, 10]] | _ => [] }
def B76L10 : ACode :=
 .seq (.region [oP 50 (.bin .lss (tP 49) (tP 48))])
 (.seq (.cond (tP 50) (.skip) (.exit 1))
 (.seq (.block 2 (.seq (.draw [oP 51 (.mv (tP 1)),
 oP 52 (.nilchk (tP 51)),
 oP 53 (.addOff 1 (tP 52)),
 oP 54 (.load none (tP 53)),
 oP 55 (.mv (tP 0)),
 oP 56 (.call (.fn 68) [(tP 55), (iP 0)]),
 oP 57 (.rstr (tP 56)),
 oP 58 (.bin .add (tP 54) (tP 57)),
 oP 59 (.nilchk (tP 51)),
 oP 60 (.addOff 1 (tP 59)),
 sP (.store 1 (tP 60) (tP 58))] [[oP 51 (.mv (tP 1)), oP 52 (.nilchk (tP 51)), oP 53 (.addOff 1 (tP 52)), oP 55 (.mv (tP 0)), oP 56 (.call (.fn 68) [(tP 55), (iP 0)]), oP 54 (.load none (tP 53)), oP 57 (.rstr (tP 56)), oP 58 (.bin .add (tP 54) (tP 57)), oP 59 (.nilchk (tP 51)), oP 60 (.addOff 1 (tP 59)), sP (.store 1 (tP 60) (tP 58))]])
 (.region [oP 61 (.mv (tP 0)),
 oP 62 (.nilchk (tP 61)),
 oP 63 (.addOff 1 (tP 62)),
 oP 64 (.load none (tP 63)),
 oP 65 (.bin .add (tP 64) (iP 1)),
 oP 66 (.nilchk (tP 61)),
 oP 67 (.addOff 1 (tP 66)),
 sP (.store 1 (tP 67) (tP 65))])))
 (.region [oP 68 (.bin .add (tP 49) (iP 1)),
 oP 49 (.mv (tP 68))])))
def B76 : ACode :=
 .seq (.region [oP 7 (.mv (tP 1)),
 oP 8 (.nilchk (tP 7)),
 oP 9 (.addOff 0 (tP 8)),
 sP (.store 1 (tP 9) (iP 6))])
 (.seq (.region [oP 10 (.mv (tP 0)),
 oP 11 (.call (.fn 68) [(tP 10), (iP 0)]),
 oP 12 (.mv (tP 0)),
 oP 13 (.call (.fn 68) [(tP 12), (iP 1)]),
 oP 4 (.mv (tP 11)),
 oP 5 (.mv (tP 13))])
 (.seq (.region [oP 6 (.mv (iP 1))])
 (.seq (.block 0 (.seq (.seq (.region [oP 15 (.mv (tP 4)),
 oP 16 (.bin .eql (tP 15) (.con (.int .i32 45))),
 oP 17 (.mv (tP 16)),
 gP 18 17 true (.mv (tP 5)),
 gP 19 17 true (.bin .eql (tP 18) (.con (.int .i32 62))),
 oP 20 (.pick (tP 17) (tP 19) (bP false)),
 oP 14 (.mv (tP 20))])
 (.cond (tP 14) (.skip) (.seq (.region [oP 21 (.mv (tP 4)),
 oP 22 (.bin .eql (tP 21) (.con (.int .i32 60))),
 oP 23 (.mv (tP 22)),
 gP 24 23 true (.mv (tP 5)),
 gP 25 23 true (.bin .eql (tP 24) (.con (.int .i32 61))),
 oP 26 (.pick (tP 23) (tP 25) (bP false)),
 oP 14 (.mv (tP 26))])
 (.cond (tP 14) (.skip) (.region [oP 27 (.mv (tP 4)),
 oP 28 (.bin .eql (tP 27) (.con (.int .i32 61))),
 oP 29 (.mv (tP 28)),
 gP 30 29 true (.mv (tP 5)),
 gP 31 29 true (.bin .eql (tP 30) (.con (.int .i32 61))),
 oP 32 (.pick (tP 29) (tP 31) (bP false)),
 oP 14 (.mv (tP 32))])))))
 (.cond (tP 14) (.region [oP 6 (.mv (iP 2))]) (.seq (.region [oP 34 (.mv (tP 4)),
 oP 35 (.bin .gtr (tP 34) (.con (.int .i32 126))),
 oP 36 (.mv (tP 35)),
 gP 37 36 false (.mv (tP 4)),
 gP 38 36 false (.cvt .u8 (tP 37)),
 gP 39 36 false (.call (.fn 103) [(.con (.str ⟨#[40, 41, 44, 124, 61, 58, 43, 45, 42, 47, 37, 60, 95, 126]⟩)), (tP 38)]),
 gP 40 36 false (.bin .lss (tP 39) (iP 0)),
 oP 41 (.pick (tP 36) (bP true) (tP 40)),
 oP 33 (.mv (tP 41))])
 (.cond (tP 33) (.seq (.region [oP 42 (.mv (tP 0)),
 oP 43 (.mv (tP 1)),
 oP 44 (.nilchk (tP 43)),
 oP 45 (.addOff 4 (tP 44)),
 oP 46 (.load (some 2) (tP 45)),
 oP 47 (.call (.fn 51) [(tP 42), (iP 2), (tP 46)])])
 (.ret)) (.skip))))))
 (.seq (.region [oP 48 (.mv (tP 6)),
 oP 49 (.mv (iP 0))])
 (.block 1 (.loop true H76L10 X76L10 B76L10))))))
def A76 : AFunc := { ntmps := 69, results := [], body := B76, coe := true, keep := 0 }
theorem tr76 : trFunc Tryz.prog M76 true Tryz.f76 = some A76 := by kernel_rfl
abbrev H85L6 : List Bool := [true, false, false, true, true, true, true]
abbrev X85L6 : List Bool := [false, false, true, true, false, true]
def M85 : Marks := { cut := fun _ => true, hd := fun | 6 => H85L6 | _ => [], ex := fun | 6 => X85L6 | _ => [], imm := fun | 2 => true | 34 => true | _ => false }
def B85L6 : ACode :=
 .seq (.seq (.region [oP 15 (.mv (tP 6)),
 oP 16 (.mv (tP 0)),
 oP 17 (.len true (tP 16)),
 oP 18 (.bin .lss (tP 15) (tP 17))])
 (.cond (tP 18) (.skip) (.exit 0)))
 (.block 1 (.seq (.region [oP 20 (.mv (tP 0)),
 oP 21 (.mv (tP 6)),
 oP 22 (.call (.fn 112) [(tP 20), (tP 21)]),
 oP 19 (.mv (tP 22)),
 oP 23 (.ext 0 (tP 19)),
 oP 24 (.ext 1 (tP 19)),
 oP 7 (.mv (tP 23)),
 oP 8 (.mv (tP 24))])
 (.seq (.seq (.region [oP 25 (.mv (tP 8)),
 oP 26 (.bin .eql (tP 25) (iP 0))])
 (.cond (tP 26) (.seq (.draw [oP 27 (.load (some 2) (tP 4)),
 oP 28 (.build [.int .i64 0, .int .i64 0, .int .i64 0] [(0, 1, (iP 1)), (1, 2, (tP 27))]),
 oP 2 (.mv (.con (.slice 4 []))),
 sP (.store 3 (tP 3) (tP 28))] [])
 (.ret)) (.skip)))
 (.seq (.region [oP 29 (.mv (tP 5)),
 oP 30 (.mv (tP 7)),
 oP 31 (.mv (tP 6)),
 oP 32 (.load (some 2) (tP 4)),
 oP 33 (.build [.int .i32 0, .int .i64 0, .int .i64 0, .int .i64 0] [(0, 1, (tP 30)), (1, 1, (tP 31)), (2, 2, (tP 32))]),
 oP 34 (.lit true 0 4 1 [.int .i32 0, .int .i64 0, .int .i64 0, .int .i64 0] [(0, (tP 33))]),
 oP 35 (.app false 0 4 32 (tP 29) (tP 34)),
 oP 5 (.mv (tP 35))])
 (.seq (.region [oP 36 (.load (some 2) (tP 4)),
 oP 37 (.mv (tP 7)),
 oP 38 (.call (.fn 113) [(tP 36), (tP 37)]),
 sP (.store 2 (tP 4) (tP 38))])
 (.region [oP 39 (.mv (tP 6)),
 oP 40 (.mv (tP 8)),
 oP 41 (.bin .add (tP 39) (tP 40)),
 oP 6 (.mv (tP 41))]))))))
def B85 : ACode :=
 .seq (.region [oP 2 (.mv (.con (.slice 4 []))),
 oP 3 (.alloc [.ok (.int .i64 0), .ok (.int .i64 0), .ok (.int .i64 0)])])
 (.seq (.region [oP 9 (.build [.int .i64 0, .int .i64 0] [(0, 1, (iP 1)), (1, 1, (iP 1))]),
 oP 4 (.alloc [.ok (.int .i64 0), .ok (.int .i64 0)]),
 sP (.store 2 (tP 4) (tP 9))])
 (.seq (.seq (.region [oP 10 (.mv (tP 0)),
 oP 11 (.len true (tP 10)),
 oP 12 (.bin .gtr (tP 11) (iP 16384))])
 (.cond (tP 12) (.seq (.draw [oP 13 (.load (some 2) (tP 4)),
 oP 14 (.build [.int .i64 0, .int .i64 0, .int .i64 0] [(0, 1, (iP 5)), (1, 2, (tP 13))]),
 oP 2 (.mv (.con (.slice 4 []))),
 sP (.store 3 (tP 3) (tP 14))] [])
 (.ret)) (.skip)))
 (.seq (.region [oP 5 (.nilrow 4)])
 (.seq (.seq (.region [oP 6 (.mv (iP 0))])
 (.block 0 (.loop true H85L6 X85L6 B85L6)))
 (.seq (.region [oP 42 (.mv (tP 5)),
 oP 43 (.build [.int .i64 0, .int .i64 0, .int .i64 0] []),
 oP 2 (.mv (tP 42)),
 sP (.store 3 (tP 3) (tP 43))])
 (.ret))))))
def A85 : AFunc := { ntmps := 44, results := [.tmp 2, .cell (some 3) 3], body := B85, coe := true, keep := 0 }
theorem tr85 : trFunc Tryz.prog M85 true Tryz.f85 = some A85 := by kernel_rfl
def M86 : Marks := { cut := fun _ => true, hd := fun | _ => [], ex := fun | _ => [], imm := fun | _ => false }
def B86 : ACode :=
 .seq (.region [oP 2 (.mv (bP false))])
 (.seq (.region [oP 3 (.mv (tP 0)),
 oP 4 (.bin .eql (tP 3) (.con (.int .i32 9))),
 oP 5 (.mv (tP 4)),
 gP 6 5 false (.mv (tP 0)),
 gP 7 5 false (.bin .eql (tP 6) (.con (.int .i32 10))),
 oP 8 (.pick (tP 5) (bP true) (tP 7)),
 oP 9 (.mv (tP 8)),
 gP 10 9 false (.mv (tP 0)),
 gP 11 9 false (.bin .eql (tP 10) (.con (.int .i32 13))),
 oP 12 (.pick (tP 9) (bP true) (tP 11)),
 oP 13 (.mv (tP 12)),
 gP 14 13 false (.mv (tP 0)),
 gP 15 13 false (.bin .eql (tP 14) (.con (.int .i32 32))),
 oP 16 (.pick (tP 13) (bP true) (tP 15)),
 oP 2 (.mv (tP 16))])
 (.ret))
def A86 : AFunc := { ntmps := 17, results := [.tmp 2], body := B86, coe := true, keep := 0 }
theorem tr86 : trFunc Tryz.prog M86 true Tryz.f86 = some A86 := by kernel_rfl
abbrev H87L17 : List Bool := [true, true, false, false, true, false, false, false, true, false, false, true]
abbrev X87L17 : List Bool := [false, false, false, false, true, true, true, false, true, false, false, true]
def M87 : Marks := { cut := fun _ => true, hd := fun | 17 => H87L17 | _ => [], ex := fun | 17 => X87L17 | _ => [], imm := fun | _ => false, alts := fun | 34 => [[0, 1, 4, 2, 3, 5, 6]] | _ => [] }
def B87L17 : ACode :=
 .seq (.seq (.region [oP 55 (.mv (tP 1)),
 oP 56 (.mv (tP 11)),
 oP 57 (.bin .add (tP 55) (tP 56)),
 oP 58 (.mv (tP 0)),
 oP 59 (.len false (tP 58)),
 oP 60 (.bin .lss (tP 57) (tP 59)),
 oP 61 (.mv (tP 60)),
 gP 62 61 true (.mv (tP 0)),
 gP 63 61 true (.mv (tP 1)),
 gP 64 61 true (.mv (tP 11)),
 gP 65 61 true (.bin .add (tP 63) (tP 64)),
 gP 66 61 true (.idxAddr 4 (tP 62) (tP 65)),
 gP 67 61 true (.addOff 0 (tP 66)),
 gP 68 61 true (.load none (tP 67)),
 gP 69 61 true (.call (.fn 118) [(tP 68)]),
 oP 70 (.pick (tP 61) (tP 69) (bP false))])
 (.cond (tP 70) (.skip) (.exit 0)))
 (.block 1 (.seq (.seq (.region [oP 71 (.addOff 2 (tP 8)),
 oP 72 (.load none (tP 71)),
 oP 73 (.bin .gtr (tP 72) (iP 461168601842738790))])
 (.cond (tP 73) (.seq (.region [oP 74 (.load (some 6) (tP 8)),
 sP (.store 6 (tP 4) (tP 74)),
 oP 5 (.mv (iP 0)),
 oP 6 (.mv (iP 3))])
 (.ret)) (.skip)))
 (.seq (.draw [oP 75 (.addOff 2 (tP 8)),
 oP 76 (.load none (tP 75)),
 oP 77 (.bin .mul (tP 76) (iP 10)),
 oP 78 (.mv (tP 0)),
 oP 79 (.mv (tP 1)),
 oP 80 (.mv (tP 11)),
 oP 81 (.bin .add (tP 79) (tP 80)),
 oP 82 (.idxAddr 4 (tP 78) (tP 81)),
 oP 83 (.addOff 0 (tP 82)),
 oP 84 (.load none (tP 83)),
 oP 85 (.bin .sub (tP 84) (.con (.int .i32 48))),
 oP 86 (.cvt .i64 (tP 85)),
 oP 87 (.bin .add (tP 77) (tP 86)),
 oP 88 (.addOff 2 (tP 8)),
 sP (.store 1 (tP 88) (tP 87))] [])
 (.seq (.seq (.region [oP 89 (.addOff 2 (tP 8)),
 oP 90 (.load none (tP 89)),
 oP 91 (.bin .gtr (tP 90) (iP 4611686018427387903))])
 (.cond (tP 91) (.seq (.region [oP 92 (.load (some 6) (tP 8)),
 sP (.store 6 (tP 4) (tP 92)),
 oP 5 (.mv (iP 0)),
 oP 6 (.mv (iP 3))])
 (.ret)) (.skip)))
 (.region [oP 93 (.mv (tP 11)),
 oP 94 (.bin .add (tP 93) (iP 1)),
 oP 11 (.mv (tP 94))])))))
def B87 : ACode :=
 .seq (.region [oP 4 (.alloc [.ok (.int .i64 0), .ok (.str ⟨#[]⟩), .ok (.int .i64 0), .error 1, .ok (.int .i64 0), .ok (.int .i64 0)]),
 oP 5 (.mv (iP 0)),
 oP 6 (.mv (iP 0))])
 (.seq (.region [oP 15 (.mv (tP 0)),
 oP 16 (.mv (tP 1)),
 oP 17 (.idxAddr 4 (tP 15) (tP 16)),
 oP 18 (.addOff 0 (tP 17)),
 oP 19 (.load none (tP 18)),
 oP 7 (.mv (tP 19))])
 (.seq (.region [oP 20 (.mv (tP 0)),
 oP 21 (.mv (tP 1)),
 oP 22 (.idxAddr 4 (tP 20) (tP 21)),
 oP 23 (.addOff 2 (tP 22)),
 oP 24 (.load (some 2) (tP 23)),
 oP 25 (.build [.int .i64 0, .str ⟨#[]⟩, .int .i64 0, .slice 1 [], .int .i64 0, .int .i64 0] [(4, 2, (tP 24))]),
 oP 8 (.alloc [.ok (.int .i64 0), .ok (.str ⟨#[]⟩), .ok (.int .i64 0), .error 1, .ok (.int .i64 0), .ok (.int .i64 0)]),
 sP (.store 6 (tP 8) (tP 25))])
 (.seq (.seq (.region [oP 26 (.mv (tP 7)),
 oP 27 (.call (.fn 114) [(tP 26)]),
 oP 28 (.mv (tP 27)),
 gP 29 28 false (.mv (tP 7)),
 gP 30 28 false (.call (.fn 115) [(tP 29)]),
 oP 31 (.pick (tP 28) (bP true) (tP 30))])
 (.cond (tP 31) (.seq (.region [oP 33 (.mv (tP 0)),
 oP 34 (.mv (tP 1)),
 oP 35 (.call (.fn 116) [(tP 33), (tP 34)]),
 oP 32 (.mv (tP 35)),
 oP 36 (.ext 0 (tP 32)),
 oP 37 (.ext 1 (tP 32)),
 oP 9 (.mv (tP 36)),
 oP 10 (.mv (tP 37))])
 (.seq (.region [oP 38 (.mv (tP 9)),
 oP 39 (.addOff 1 (tP 8)),
 sP (.store 1 (tP 39) (tP 38))])
 (.seq (.region [oP 40 (.addOff 0 (tP 8)),
 sP (.store 1 (tP 40) (iP 1))])
 (.seq (.seq (.region [oP 41 (.mv (tP 7)),
 oP 42 (.call (.fn 115) [(tP 41)])])
 (.cond (tP 42) (.region [oP 43 (.addOff 0 (tP 8)),
 sP (.store 1 (tP 43) (iP 2))]) (.skip)))
 (.seq (.seq (.region [oP 44 (.mv (tP 9)),
 oP 45 (.call (.fn 117) [(tP 44)])])
 (.cond (tP 45) (.region [oP 46 (.addOff 0 (tP 8)),
 sP (.store 1 (tP 46) (iP 5))]) (.skip)))
 (.seq (.seq (.region [oP 47 (.mv (tP 10)),
 oP 48 (.bin .gtr (tP 47) (iP 24))])
 (.cond (tP 48) (.seq (.region [oP 49 (.load (some 6) (tP 8)),
 sP (.store 6 (tP 4) (tP 49)),
 oP 5 (.mv (iP 0)),
 oP 6 (.mv (iP 5))])
 (.ret)) (.skip)))
 (.seq (.region [oP 50 (.load (some 6) (tP 8)),
 oP 51 (.mv (tP 10)),
 sP (.store 6 (tP 4) (tP 50)),
 oP 5 (.mv (tP 51)),
 oP 6 (.mv (iP 0))])
 (.ret)))))))) (.skip)))
 (.seq (.seq (.region [oP 52 (.mv (tP 7)),
 oP 53 (.call (.fn 118) [(tP 52)])])
 (.cond (tP 53) (.seq (.region [oP 54 (.addOff 0 (tP 8)),
 sP (.store 1 (tP 54) (iP 3))])
 (.seq (.region [oP 11 (.mv (iP 0))])
 (.seq (.block 0 (.loop true H87L17 X87L17 B87L17))
 (.seq (.region [oP 95 (.load (some 6) (tP 8)),
 oP 96 (.mv (tP 11)),
 sP (.store 6 (tP 4) (tP 95)),
 oP 5 (.mv (tP 96)),
 oP 6 (.mv (iP 0))])
 (.ret))))) (.skip)))
 (.seq (.seq (.region [oP 97 (.mv (tP 7)),
 oP 98 (.bin .eql (tP 97) (.con (.int .i32 34)))])
 (.cond (tP 98) (.seq (.region [oP 100 (.mv (tP 0)),
 oP 101 (.mv (tP 1)),
 oP 102 (.call (.fn 119) [(tP 100), (tP 101)]),
 oP 99 (.mv (tP 102)),
 oP 103 (.ext 0 (tP 99)),
 oP 104 (.ext 1 (tP 99)),
 oP 105 (.ext 2 (tP 99)),
 oP 12 (.mv (tP 103)),
 oP 13 (.mv (tP 104)),
 oP 14 (.mv (tP 105))])
 (.seq (.region [oP 106 (.addOff 0 (tP 8)),
 sP (.store 1 (tP 106) (iP 4))])
 (.seq (.region [oP 107 (.mv (tP 12)),
 oP 108 (.addOff 3 (tP 8)),
 sP (.store 1 (tP 108) (tP 107))])
 (.seq (.region [oP 109 (.load (some 6) (tP 8)),
 oP 110 (.mv (tP 13)),
 oP 111 (.mv (tP 14)),
 sP (.store 6 (tP 4) (tP 109)),
 oP 5 (.mv (tP 110)),
 oP 6 (.mv (tP 111))])
 (.ret))))) (.skip)))
 (.seq (.region [oP 112 (.addOff 0 (tP 8)),
 sP (.store 1 (tP 112) (iP 6))])
 (.seq (.region [oP 113 (.mv (tP 0)),
 oP 114 (.mv (tP 1)),
 oP 115 (.call (.fn 120) [(tP 113), (tP 114)]),
 oP 116 (.addOff 1 (tP 8)),
 sP (.store 1 (tP 116) (tP 115))])
 (.seq (.seq (.region [oP 117 (.addOff 1 (tP 8)),
 oP 118 (.load none (tP 117)),
 oP 119 (.bin .eql (tP 118) (.con (.str ⟨#[]⟩)))])
 (.cond (tP 119) (.seq (.region [oP 120 (.load (some 6) (tP 8)),
 sP (.store 6 (tP 4) (tP 120)),
 oP 5 (.mv (iP 0)),
 oP 6 (.mv (iP 2))])
 (.ret)) (.skip)))
 (.seq (.draw [oP 121 (.load (some 6) (tP 8)),
 oP 122 (.addOff 1 (tP 8)),
 oP 123 (.load none (tP 122)),
 oP 124 (.len true (tP 123)),
 sP (.store 6 (tP 4) (tP 121)),
 oP 5 (.mv (tP 124)),
 oP 6 (.mv (iP 0))] [[oP 121 (.load (some 6) (tP 8)), oP 122 (.addOff 1 (tP 8)), sP (.store 6 (tP 4) (tP 121)), oP 123 (.load none (tP 122)), oP 124 (.len true (tP 123)), oP 5 (.mv (tP 124)), oP 6 (.mv (iP 0))]])
 (.ret))))))))))
def A87 : AFunc := { ntmps := 125, results := [.cell (some 6) 4, .tmp 5, .tmp 6], body := B87, coe := true, keep := 0 }
theorem tr87 : trFunc Tryz.prog M87 true Tryz.f87 = some A87 := by kernel_rfl
abbrev H88L5 : List Bool := [true, true, false, false, true, true, true]
abbrev X88L5 : List Bool := [false, false, false, false, true, true]
def M88 : Marks := { cut := fun _ => true, hd := fun | 5 => H88L5 | _ => [], ex := fun | 5 => X88L5 | _ => [], imm := fun | _ => false }
def B88L5 : ACode :=
 .seq (.seq (.region [oP 14 (.mv (tP 6)),
 oP 15 (.mv (tP 0)),
 oP 16 (.len true (tP 15)),
 oP 17 (.bin .lss (tP 14) (tP 16))])
 (.cond (tP 17) (.skip) (.exit 0)))
 (.block 1 (.seq (.region [oP 19 (.mv (tP 0)),
 oP 20 (.mv (tP 6)),
 oP 21 (.call (.fn 112) [(tP 19), (tP 20)]),
 oP 18 (.mv (tP 21)),
 oP 22 (.ext 0 (tP 18)),
 oP 23 (.ext 1 (tP 18)),
 oP 7 (.mv (tP 22)),
 oP 8 (.mv (tP 23))])
 (.seq (.seq (.region [oP 24 (.mv (tP 8)),
 oP 25 (.bin .eql (tP 24) (iP 0))])
 (.cond (tP 25) (.seq (.region [oP 7 (.mv (.con (.int .i32 0)))])
 (.region [oP 8 (.mv (iP 1))])) (.skip)))
 (.seq (.seq (.region [oP 26 (.mv (tP 1)),
 oP 27 (.mv (tP 6)),
 oP 28 (.mv (tP 8)),
 oP 29 (.bin .add (tP 27) (tP 28)),
 oP 30 (.bin .lss (tP 26) (tP 29))])
 (.cond (tP 30) (.seq (.region [oP 31 (.load (some 2) (tP 5)),
 sP (.store 2 (tP 4) (tP 31))])
 (.ret)) (.skip)))
 (.seq (.region [oP 32 (.load (some 2) (tP 5)),
 oP 33 (.mv (tP 7)),
 oP 34 (.call (.fn 113) [(tP 32), (tP 33)]),
 sP (.store 2 (tP 5) (tP 34))])
 (.region [oP 35 (.mv (tP 6)),
 oP 36 (.mv (tP 8)),
 oP 37 (.bin .add (tP 35) (tP 36)),
 oP 6 (.mv (tP 37))]))))))
def B88 : ACode :=
 .seq (.region [oP 4 (.alloc [.ok (.int .i64 0), .ok (.int .i64 0)])])
 (.seq (.seq (.region [oP 9 (.mv (tP 0)),
 oP 10 (.len true (tP 9)),
 oP 11 (.bin .gtr (tP 10) (iP 16384))])
 (.cond (tP 11) (.seq (.region [oP 12 (.build [.int .i64 0, .int .i64 0] []),
 sP (.store 2 (tP 4) (tP 12))])
 (.ret)) (.skip)))
 (.seq (.region [oP 13 (.build [.int .i64 0, .int .i64 0] [(0, 1, (iP 1)), (1, 1, (iP 1))]),
 oP 5 (.alloc [.ok (.int .i64 0), .ok (.int .i64 0)]),
 sP (.store 2 (tP 5) (tP 13))])
 (.seq (.seq (.region [oP 6 (.mv (iP 0))])
 (.block 0 (.loop true H88L5 X88L5 B88L5)))
 (.seq (.region [oP 38 (.load (some 2) (tP 5)),
 sP (.store 2 (tP 4) (tP 38))])
 (.ret)))))
def A88 : AFunc := { ntmps := 39, results := [.cell (some 2) 4], body := B88, coe := true, keep := 0 }
theorem tr88 : trFunc Tryz.prog M88 true Tryz.f88 = some A88 := by kernel_rfl
abbrev H96L0 : List Bool := [true, true, true]
abbrev X96L0 : List Bool := []
def M96 : Marks := { cut := fun _ => true, hd := fun | 0 => H96L0 | _ => [], ex := fun | 0 => X96L0 | _ => [], imm := fun | _ => false, alts := fun | 0 => [[0, 1, 2, 3, 5, 6, 4, 7, 8]] | _ => [] }
def B96L0 : ACode :=
 .seq (.seq (.draw [oP 5 (.load none (tP 1)),
 oP 6 (.call (.fn 49) [(tP 5)]),
 oP 7 (.un .not (tP 6)),
 oP 8 (.mv (tP 7)),
 gP 9 8 true (.load none (tP 2)),
 gP 10 8 true (.load none (tP 1)),
 gP 11 8 true (.call (.fn 68) [(tP 10), (iP 0)]),
 gP 12 8 true (.call (tP 9) [(tP 11)]),
 oP 13 (.pick (tP 8) (tP 12) (bP false))] [[oP 5 (.load none (tP 1)), oP 6 (.call (.fn 49) [(tP 5)]), oP 7 (.un .not (tP 6)), oP 8 (.mv (tP 7)), gP 10 8 true (.load none (tP 1)), gP 11 8 true (.call (.fn 68) [(tP 10), (iP 0)]), gP 9 8 true (.load none (tP 2)), gP 12 8 true (.call (tP 9) [(tP 11)]), oP 13 (.pick (tP 8) (tP 12) (bP false))]])
 (.cond (tP 13) (.skip) (.exit 0)))
 (.block 1 (.seq (.region [oP 14 (.load none (tP 1)),
 oP 15 (.call (.fn 68) [(tP 14), (iP 0)]),
 oP 4 (.mv (tP 15))])
 (.seq (.region [oP 16 (.load none (tP 1)),
 oP 17 (.nilchk (tP 16)),
 oP 18 (.addOff 1 (tP 17)),
 oP 19 (.load none (tP 18)),
 oP 20 (.bin .add (tP 19) (iP 1)),
 oP 21 (.nilchk (tP 16)),
 oP 22 (.addOff 1 (tP 21)),
 sP (.store 1 (tP 22) (tP 20))])
 (.seq (.region [oP 23 (.mv (tP 0)),
 oP 24 (.mv (tP 4)),
 oP 25 (.call (tP 23) [(tP 24)]),
 oP 26 (.un .not (tP 25))])
 (.cond (tP 26) (.ret) (.skip))))))
def B96 : ACode :=
 .block 0 (.loop true H96L0 X96L0 B96L0)
def A96 : AFunc := { ntmps := 27, results := [], body := B96, coe := true, keep := 0 }
theorem tr96 : trFunc Tryz.prog M96 true Tryz.f96 = some A96 := by kernel_rfl
def M97 : Marks := { cut := fun _ => true, hd := fun | _ => [], ex := fun | _ => [], imm := fun | _ => false }
def B97 : ACode :=
 .seq (.region [oP 2 (.mv (bP false))])
 (.seq (.block 0 (.seq (.region [oP 4 (.mv (tP 0)),
 oP 5 (.bin .leq (.con (.int .i32 0)) (tP 4)),
 oP 6 (.mv (tP 5)),
 gP 7 6 true (.mv (tP 0)),
 gP 8 6 true (.bin .lss (tP 7) (.con (.int .i32 55296))),
 oP 9 (.pick (tP 6) (tP 8) (bP false)),
 oP 3 (.mv (tP 9))])
 (.cond (tP 3) (.seq (.region [oP 2 (.mv (bP true))])
 (.ret)) (.seq (.region [oP 11 (.mv (tP 0)),
 oP 12 (.bin .lss (.con (.int .i32 57343)) (tP 11)),
 oP 13 (.mv (tP 12)),
 gP 14 13 true (.mv (tP 0)),
 gP 15 13 true (.bin .leq (tP 14) (.con (.int .i32 1114111))),
 oP 16 (.pick (tP 13) (tP 15) (bP false)),
 oP 10 (.mv (tP 16))])
 (.cond (tP 10) (.seq (.region [oP 2 (.mv (bP true))])
 (.ret)) (.skip))))))
 (.seq (.region [oP 2 (.mv (bP false))])
 (.ret)))
def A97 : AFunc := { ntmps := 17, results := [.tmp 2], body := B97, coe := true, keep := 0 }
theorem tr97 : trFunc Tryz.prog M97 true Tryz.f97 = some A97 := by kernel_rfl
def M98 : Marks := { cut := fun _ => true, hd := fun | _ => [], ex := fun | _ => [], imm := fun | _ => false }
def B98 : ACode :=
 .seq (.region [oP 2 (.mv (bP false))])
 (.seq (.region [oP 3 (.mv (tP 0)),
 oP 4 (.call (.fn 70) [(tP 3)]),
 oP 5 (.mv (tP 4)),
 gP 6 5 false (.mv (tP 0)),
 gP 7 5 false (.call (.fn 71) [(tP 6)]),
 oP 8 (.pick (tP 5) (bP true) (tP 7)),
 oP 9 (.mv (tP 8)),
 gP 10 9 false (.mv (tP 0)),
 gP 11 9 false (.call (.fn 73) [(tP 10)]),
 oP 12 (.pick (tP 9) (bP true) (tP 11)),
 oP 13 (.mv (tP 12)),
 gP 14 13 false (.mv (tP 0)),
 gP 15 13 false (.bin .eql (tP 14) (.con (.int .i32 95))),
 oP 16 (.pick (tP 13) (bP true) (tP 15)),
 oP 2 (.mv (tP 16))])
 (.ret))
def A98 : AFunc := { ntmps := 17, results := [.tmp 2], body := B98, coe := true, keep := 0 }
theorem tr98 : trFunc Tryz.prog M98 true Tryz.f98 = some A98 := by kernel_rfl
def M99 : Marks := { cut := fun _ => true, hd := fun | _ => [], ex := fun | _ => [], imm := fun | _ => false }
def B99 : ACode :=
 .seq (.region [oP 4 (.mv (iP 0)),
 oP 5 (.mv (.con (.nili)))])
 (.seq (.region [oP 7 (.mv (tP 0)),
 oP 8 (.call (.fn 61) [(tP 7)])])
 (.seq (.region [oP 9 (.mv (tP 0)),
 oP 10 (.nilchk (tP 9)),
 oP 11 (.addOff 1 (tP 10)),
 oP 12 (.load none (tP 11)),
 oP 13 (.len false (tP 12)),
 oP 6 (.mv (tP 13))])
 (.seq (.region [oP 14 (.mv (tP 0)),
 oP 15 (.mv (tP 0)),
 oP 16 (.nilchk (tP 15)),
 oP 17 (.addOff 1 (tP 16)),
 oP 18 (.load none (tP 17)),
 oP 19 (.mv (tP 1)),
 oP 20 (.call (.fn 123) [(tP 18), (tP 19)]),
 oP 21 (.nilchk (tP 14)),
 oP 22 (.addOff 1 (tP 21)),
 sP (.store 1 (tP 22) (tP 20))])
 (.seq (.region [oP 23 (.mv (tP 0)),
 oP 24 (.nilchk (tP 23)),
 oP 25 (.addOff 1 (tP 24)),
 oP 26 (.load none (tP 25)),
 oP 27 (.len false (tP 26)),
 oP 28 (.mv (tP 6)),
 oP 29 (.bin .sub (tP 27) (tP 28)),
 oP 4 (.mv (tP 29)),
 oP 5 (.mv (.con (.nili)))])
 (.ret)))))
def A99 : AFunc := { ntmps := 30, results := [.tmp 4, .tmp 5], body := B99, coe := true, keep := 0 }
theorem tr99 : trFunc Tryz.prog M99 true Tryz.f99 = some A99 := by kernel_rfl
def M100 : Marks := { cut := fun _ => true, hd := fun | _ => [], ex := fun | _ => [], imm := fun | _ => false }
def B100 : ACode :=
 .seq (.region [oP 2 (.mv (bP false))])
 (.seq (.seq (.region [oP 3 (.mv (tP 0))])
 (.block 0 (.seq (.seq (.region [oP 5 (.bin .eql (tP 3) (.con (.str ⟨#[99, 97, 112]⟩))),
 oP 4 (.mv (tP 5))])
 (.cond (tP 4) (.skip) (.seq (.region [oP 6 (.bin .eql (tP 3) (.con (.str ⟨#[100, 111]⟩))),
 oP 4 (.mv (tP 6))])
 (.cond (tP 4) (.skip) (.seq (.region [oP 7 (.bin .eql (tP 3) (.con (.str ⟨#[101, 108, 115, 101]⟩))),
 oP 4 (.mv (tP 7))])
 (.cond (tP 4) (.skip) (.seq (.region [oP 8 (.bin .eql (tP 3) (.con (.str ⟨#[101, 110, 100]⟩))),
 oP 4 (.mv (tP 8))])
 (.cond (tP 4) (.skip) (.seq (.region [oP 9 (.bin .eql (tP 3) (.con (.str ⟨#[102, 111, 114]⟩))),
 oP 4 (.mv (tP 9))])
 (.cond (tP 4) (.skip) (.seq (.region [oP 10 (.bin .eql (tP 3) (.con (.str ⟨#[102, 117, 110]⟩))),
 oP 4 (.mv (tP 10))])
 (.cond (tP 4) (.skip) (.seq (.region [oP 11 (.bin .eql (tP 3) (.con (.str ⟨#[105, 102]⟩))),
 oP 4 (.mv (tP 11))])
 (.cond (tP 4) (.skip) (.seq (.region [oP 12 (.bin .eql (tP 3) (.con (.str ⟨#[105, 110]⟩))),
 oP 4 (.mv (tP 12))])
 (.cond (tP 4) (.skip) (.seq (.region [oP 13 (.bin .eql (tP 3) (.con (.str ⟨#[108, 101, 116]⟩))),
 oP 4 (.mv (tP 13))])
 (.cond (tP 4) (.skip) (.seq (.region [oP 14 (.bin .eql (tP 3) (.con (.str ⟨#[109, 97, 116, 99, 104]⟩))),
 oP 4 (.mv (tP 14))])
 (.cond (tP 4) (.skip) (.seq (.region [oP 15 (.bin .eql (tP 3) (.con (.str ⟨#[111, 102]⟩))),
 oP 4 (.mv (tP 15))])
 (.cond (tP 4) (.skip) (.seq (.region [oP 16 (.bin .eql (tP 3) (.con (.str ⟨#[111, 110]⟩))),
 oP 4 (.mv (tP 16))])
 (.cond (tP 4) (.skip) (.seq (.region [oP 17 (.bin .eql (tP 3) (.con (.str ⟨#[113, 117, 101, 117, 101]⟩))),
 oP 4 (.mv (tP 17))])
 (.cond (tP 4) (.skip) (.seq (.region [oP 18 (.bin .eql (tP 3) (.con (.str ⟨#[115, 116, 97, 116, 101]⟩))),
 oP 4 (.mv (tP 18))])
 (.cond (tP 4) (.skip) (.seq (.region [oP 19 (.bin .eql (tP 3) (.con (.str ⟨#[116, 104, 101, 110]⟩))),
 oP 4 (.mv (tP 19))])
 (.cond (tP 4) (.skip) (.seq (.region [oP 20 (.bin .eql (tP 3) (.con (.str ⟨#[116, 105, 109, 101, 114, 115]⟩))),
 oP 4 (.mv (tP 20))])
 (.cond (tP 4) (.skip) (.seq (.region [oP 21 (.bin .eql (tP 3) (.con (.str ⟨#[116, 121, 112, 101]⟩))),
 oP 4 (.mv (tP 21))])
 (.cond (tP 4) (.skip) (.region [oP 22 (.bin .eql (tP 3) (.con (.str ⟨#[119, 105, 116, 104]⟩))),
 oP 4 (.mv (tP 22))])))))))))))))))))))))))))))))))))))
 (.cond (tP 4) (.seq (.region [oP 2 (.mv (bP true))])
 (.ret)) (.skip)))))
 (.seq (.region [oP 2 (.mv (bP false))])
 (.ret)))
def A100 : AFunc := { ntmps := 23, results := [.tmp 2], body := B100, coe := true, keep := 0 }
theorem tr100 : trFunc Tryz.prog M100 true Tryz.f100 = some A100 := by kernel_rfl
def M101 : Marks := { cut := fun _ => true, hd := fun | _ => [], ex := fun | _ => [], imm := fun | _ => false }
def B101 : ACode :=
 .seq (.region [oP 2 (.mv (.con (.int .u8 0))),
 oP 3 (.mv (bP false))])
 (.seq (.region [oP 7 (.mv (tP 0)),
 oP 8 (.call (.fn 68) [(tP 7), (iP 0)]),
 oP 4 (.mv (tP 8))])
 (.seq (.region [oP 9 (.mv (tP 0)),
 oP 10 (.nilchk (tP 9)),
 oP 11 (.addOff 1 (tP 10)),
 oP 12 (.load none (tP 11)),
 oP 13 (.bin .add (tP 12) (iP 1)),
 oP 14 (.nilchk (tP 9)),
 oP 15 (.addOff 1 (tP 14)),
 sP (.store 1 (tP 15) (tP 13))])
 (.seq (.seq (.region [oP 16 (.mv (tP 4))])
 (.block 0 (.seq (.block 5 (.seq (.block 4 (.block 3 (.seq (.block 2 (.seq (.block 1 (.seq (.seq (.seq (.region [oP 18 (.bin .eql (tP 16) (.con (.int .i32 110))),
 oP 17 (.mv (tP 18))])
 (.cond (tP 17) (.exit 1) (.skip)))
 (.seq (.seq (.region [oP 20 (.bin .eql (tP 16) (.con (.int .i32 116))),
 oP 19 (.mv (tP 20))])
 (.cond (tP 19) (.exit 2) (.skip)))
 (.seq (.seq (.region [oP 22 (.bin .eql (tP 16) (.con (.int .i32 34))),
 oP 21 (.mv (tP 22))])
 (.cond (tP 21) (.exit 3) (.skip)))
 (.seq (.seq (.region [oP 24 (.bin .eql (tP 16) (.con (.int .i32 92))),
 oP 23 (.mv (tP 24))])
 (.cond (tP 23) (.exit 4) (.skip)))
 (.seq (.region [oP 26 (.bin .eql (tP 16) (.con (.int .i32 120))),
 oP 25 (.mv (tP 26))])
 (.cond (tP 25) (.exit 5) (.skip)))))))
 (.exit 0)))
 (.seq (.seq (.region [oP 2 (.mv (.con (.int .u8 10))),
 oP 3 (.mv (bP true))])
 (.ret))
 (.exit 0))))
 (.seq (.seq (.region [oP 2 (.mv (.con (.int .u8 9))),
 oP 3 (.mv (bP true))])
 (.ret))
 (.exit 0)))))
 (.seq (.seq (.region [oP 27 (.mv (tP 4)),
 oP 28 (.cvt .u8 (tP 27)),
 oP 2 (.mv (tP 28)),
 oP 3 (.mv (bP true))])
 (.ret))
 (.exit 0))))
 (.seq (.seq (.region [oP 29 (.mv (tP 0)),
 oP 30 (.call (.fn 68) [(tP 29), (iP 0)]),
 oP 31 (.call (.fn 124) [(.con (.str ⟨#[48, 49, 50, 51, 52, 53, 54, 55, 56, 57, 97, 98, 99, 100, 101, 102]⟩)), (tP 30)]),
 oP 32 (.mv (tP 0)),
 oP 33 (.call (.fn 68) [(tP 32), (iP 1)]),
 oP 34 (.call (.fn 124) [(.con (.str ⟨#[48, 49, 50, 51, 52, 53, 54, 55, 56, 57, 97, 98, 99, 100, 101, 102]⟩)), (tP 33)]),
 oP 5 (.mv (tP 31)),
 oP 6 (.mv (tP 34))])
 (.seq (.region [oP 35 (.mv (tP 0)),
 oP 36 (.nilchk (tP 35)),
 oP 37 (.addOff 1 (tP 36)),
 oP 38 (.load none (tP 37)),
 oP 39 (.bin .add (tP 38) (iP 2)),
 oP 40 (.nilchk (tP 35)),
 oP 41 (.addOff 1 (tP 40)),
 sP (.store 1 (tP 41) (tP 39))])
 (.seq (.region [oP 42 (.mv (tP 5)),
 oP 43 (.bin .shl (tP 42) (.con (.int .u64 4))),
 oP 44 (.mv (tP 6)),
 oP 45 (.bin .and (tP 44) (iP 15)),
 oP 46 (.bin .or (tP 43) (tP 45)),
 oP 47 (.cvt .u8 (tP 46)),
 oP 48 (.mv (tP 5)),
 oP 49 (.bin .geq (tP 48) (iP 0)),
 oP 50 (.mv (tP 49)),
 gP 51 50 true (.mv (tP 6)),
 gP 52 50 true (.bin .geq (tP 51) (iP 0)),
 oP 53 (.pick (tP 50) (tP 52) (bP false)),
 oP 2 (.mv (tP 47)),
 oP 3 (.mv (tP 53))])
 (.ret))))
 (.exit 0)))))
 (.seq (.region [oP 2 (.mv (.con (.int .u8 0))),
 oP 3 (.mv (bP false))])
 (.ret)))))
def A101 : AFunc := { ntmps := 54, results := [.tmp 2, .tmp 3], body := B101, coe := true, keep := 0 }
theorem tr101 : trFunc Tryz.prog M101 true Tryz.f101 = some A101 := by kernel_rfl
def M102 : Marks := { cut := fun _ => true, hd := fun | _ => [], ex := fun | _ => [], imm := fun | 2 => true | _ => false }
def B102 : ACode :=
 .seq (.region [oP 2 (.mv (.con (.slice 1 [])))])
 (.seq (.seq (.region [oP 3 (.mv (tP 0)),
 oP 4 (.call (.fn 97) [(tP 3)]),
 oP 5 (.un .not (tP 4))])
 (.cond (tP 5) (.seq (.region [oP 2 (.mv (.con (.slice 1 [])))])
 (.ret)) (.skip)))
 (.seq (.region [oP 6 (.mv (tP 0)),
 oP 7 (.calln 1 (.fn 123) [(tP 6)]),
 oP 2 (.mv (tP 7))])
 (.ret)))
def A102 : AFunc := { ntmps := 8, results := [.tmp 2], body := B102, coe := true, keep := 0 }
theorem tr102 : trFunc Tryz.prog M102 true Tryz.f102 = some A102 := by kernel_rfl
def M103 : Marks := { cut := fun _ => true, hd := fun | _ => [], ex := fun | _ => [], imm := fun | _ => false }
def B103 : ACode :=
 .seq (.region [oP 4 (.mv (iP 0))])
 (.seq (.region [oP 5 (.mv (tP 0)),
 oP 6 (.mv (tP 1)),
 oP 7 (.call (.fn 125) [(tP 5), (tP 6)]),
 oP 4 (.mv (tP 7))])
 (.ret))
def A103 : AFunc := { ntmps := 8, results := [.tmp 4], body := B103, coe := true, keep := 0 }
theorem tr103 : trFunc Tryz.prog M103 true Tryz.f103 = some A103 := by kernel_rfl
abbrev H104L2 : List Bool := [false, false, true, false, true]
abbrev X104L2 : List Bool := [false, false, true]
def M104 : Marks := { cut := fun _ => true, hd := fun | 2 => H104L2 | _ => [], ex := fun | 2 => X104L2 | _ => [], imm := fun | _ => false }
def B104L2 : ACode :=
 .seq (.region [oP 5 (.next (tP 4)),
 oP 6 (.ext 0 (tP 5))])
 (.seq (.cond (tP 6) (.skip) (.exit 0))
 (.block 1 (.region [oP 7 (.mv (tP 2)),
 oP 8 (.bin .add (tP 7) (iP 1)),
 oP 2 (.mv (tP 8))])))
def B104 : ACode :=
 .seq (.region [oP 2 (.mv (iP 0))])
 (.seq (.seq (.region [oP 3 (.mv (tP 0)),
 oP 4 (.rng (tP 3))])
 (.block 0 (.loop true H104L2 X104L2 B104L2)))
 (.seq (.region [oP 9 (.mv (tP 2)),
 oP 2 (.mv (tP 9))])
 (.ret)))
def A104 : AFunc := { ntmps := 10, results := [.tmp 2], body := B104, coe := true, keep := 0 }
theorem tr104 : trFunc Tryz.prog M104 true Tryz.f104 = some A104 := by kernel_rfl
def M105 : Marks := { cut := fun _ => true, hd := fun | _ => [], ex := fun | _ => [], imm := fun | _ => false }
def B105 : ACode :=
 .seq (.region [oP 2 (.mv (.con (.int .i32 0))),
 oP 3 (.mv (iP 0))])
 (.seq (.seq (.region [oP 4 (.mv (tP 0)),
 oP 5 (.bin .neq (tP 4) (.con (.str ⟨#[]⟩))),
 oP 6 (.mv (tP 5)),
 gP 7 6 true (.mv (tP 0)),
 gP 8 6 true (.idxStr (tP 7) (iP 0)),
 gP 9 6 true (.bin .lss (tP 8) (.con (.int .u8 128))),
 oP 10 (.pick (tP 6) (tP 9) (bP false))])
 (.cond (tP 10) (.seq (.region [oP 11 (.mv (tP 0)),
 oP 12 (.idxStr (tP 11) (iP 0)),
 oP 13 (.cvt .i32 (tP 12)),
 oP 2 (.mv (tP 13)),
 oP 3 (.mv (iP 1))])
 (.ret)) (.region [oP 15 (.mv (tP 0)),
 oP 16 (.call (.fn 126) [(tP 15)]),
 oP 14 (.mv (tP 16)),
 oP 17 (.ext 0 (tP 14)),
 oP 18 (.ext 1 (tP 14)),
 oP 2 (.mv (tP 17)),
 oP 3 (.mv (tP 18))])))
 (.ret))
def A105 : AFunc := { ntmps := 19, results := [.tmp 2, .tmp 3], body := B105, coe := true, keep := 0 }
theorem tr105 : trFunc Tryz.prog M105 true Tryz.f105 = some A105 := by kernel_rfl
def M112 : Marks := { cut := fun _ => true, hd := fun | _ => [], ex := fun | _ => [], imm := fun | _ => false }
def B112 : ACode :=
 .seq (.region [oP 4 (.mv (.con (.int .i32 0))),
 oP 5 (.mv (iP 0))])
 (.seq (.region [oP 12 (.mv (tP 0)),
 oP 13 (.mv (tP 1)),
 oP 14 (.idxStr (tP 12) (tP 13)),
 oP 6 (.mv (tP 14))])
 (.seq (.region [oP 7 (.mv (iP 0))])
 (.seq (.region [oP 15 (.mv (tP 6)),
 oP 16 (.cvt .i32 (tP 15)),
 oP 8 (.mv (tP 16))])
 (.seq (.region [oP 9 (.mv (.con (.int .i32 0)))])
 (.seq (.block 0 (.seq (.region [oP 18 (.mv (tP 6)),
 oP 19 (.bin .lss (tP 18) (.con (.int .u8 128))),
 oP 17 (.mv (tP 19))])
 (.cond (tP 17) (.seq (.region [oP 20 (.mv (tP 8)),
 oP 4 (.mv (tP 20)),
 oP 5 (.mv (iP 1))])
 (.ret)) (.seq (.region [oP 22 (.mv (tP 6)),
 oP 23 (.bin .geq (tP 22) (.con (.int .u8 192))),
 oP 24 (.mv (tP 23)),
 gP 25 24 true (.mv (tP 6)),
 gP 26 24 true (.bin .lss (tP 25) (.con (.int .u8 224))),
 oP 27 (.pick (tP 24) (tP 26) (bP false)),
 oP 21 (.mv (tP 27))])
 (.cond (tP 21) (.seq (.region [oP 7 (.mv (iP 1))])
 (.seq (.region [oP 28 (.mv (tP 8)),
 oP 29 (.bin .sub (tP 28) (.con (.int .i32 192))),
 oP 8 (.mv (tP 29))])
 (.region [oP 9 (.mv (.con (.int .i32 128)))]))) (.seq (.region [oP 31 (.mv (tP 6)),
 oP 32 (.bin .geq (tP 31) (.con (.int .u8 224))),
 oP 33 (.mv (tP 32)),
 gP 34 33 true (.mv (tP 6)),
 gP 35 33 true (.bin .lss (tP 34) (.con (.int .u8 240))),
 oP 36 (.pick (tP 33) (tP 35) (bP false)),
 oP 30 (.mv (tP 36))])
 (.cond (tP 30) (.seq (.region [oP 7 (.mv (iP 2))])
 (.seq (.region [oP 37 (.mv (tP 8)),
 oP 38 (.bin .sub (tP 37) (.con (.int .i32 224))),
 oP 8 (.mv (tP 38))])
 (.region [oP 9 (.mv (.con (.int .i32 2048)))]))) (.seq (.region [oP 40 (.mv (tP 6)),
 oP 41 (.bin .geq (tP 40) (.con (.int .u8 240))),
 oP 42 (.mv (tP 41)),
 gP 43 42 true (.mv (tP 6)),
 gP 44 42 true (.bin .lss (tP 43) (.con (.int .u8 248))),
 oP 45 (.pick (tP 42) (tP 44) (bP false)),
 oP 39 (.mv (tP 45))])
 (.cond (tP 39) (.seq (.region [oP 7 (.mv (iP 3))])
 (.seq (.region [oP 46 (.mv (tP 8)),
 oP 47 (.bin .sub (tP 46) (.con (.int .i32 240))),
 oP 8 (.mv (tP 47))])
 (.region [oP 9 (.mv (.con (.int .i32 65536)))]))) (.seq (.region [oP 4 (.mv (.con (.int .i32 0))),
 oP 5 (.mv (iP 0))])
 (.ret)))))))))))
 (.seq (.region [oP 49 (.mv (tP 0)),
 oP 50 (.mv (tP 1)),
 oP 51 (.bin .add (tP 50) (iP 1)),
 oP 52 (.mv (tP 7)),
 oP 53 (.call (.fn 130) [(tP 49), (tP 51), (tP 52)]),
 oP 48 (.mv (tP 53)),
 oP 54 (.ext 0 (tP 48)),
 oP 55 (.ext 1 (tP 48)),
 oP 10 (.mv (tP 54)),
 oP 11 (.mv (tP 55))])
 (.seq (.region [oP 56 (.mv (tP 8)),
 oP 57 (.mv (tP 7)),
 oP 58 (.bin .mul (iP 6) (tP 57)),
 oP 59 (.cvt .u64 (tP 58)),
 oP 60 (.bin .shl (tP 56) (tP 59)),
 oP 61 (.mv (tP 10)),
 oP 62 (.bin .add (tP 60) (tP 61)),
 oP 8 (.mv (tP 62))])
 (.seq (.seq (.region [oP 63 (.mv (tP 11)),
 oP 64 (.un .not (tP 63)),
 oP 65 (.mv (tP 64)),
 gP 66 65 false (.mv (tP 8)),
 gP 67 65 false (.mv (tP 9)),
 gP 68 65 false (.bin .lss (tP 66) (tP 67)),
 oP 69 (.pick (tP 65) (bP true) (tP 68)),
 oP 70 (.mv (tP 69)),
 gP 71 70 false (.mv (tP 8)),
 gP 72 70 false (.call (.fn 131) [(tP 71)]),
 gP 73 70 false (.un .not (tP 72)),
 oP 74 (.pick (tP 70) (bP true) (tP 73))])
 (.cond (tP 74) (.seq (.region [oP 4 (.mv (.con (.int .i32 0))),
 oP 5 (.mv (iP 0))])
 (.ret)) (.skip)))
 (.seq (.region [oP 75 (.mv (tP 8)),
 oP 76 (.mv (tP 7)),
 oP 77 (.bin .add (tP 76) (iP 1)),
 oP 4 (.mv (tP 75)),
 oP 5 (.mv (tP 77))])
 (.ret))))))))))
def A112 : AFunc := { ntmps := 78, results := [.tmp 4, .tmp 5], body := B112, coe := true, keep := 0 }
theorem tr112 : trFunc Tryz.prog M112 true Tryz.f112 = some A112 := by kernel_rfl
def M113 : Marks := { cut := fun _ => true, hd := fun | _ => [], ex := fun | _ => [], imm := fun | 2 => true | _ => false }
def B113 : ACode :=
 .seq (.region [oP 2 (.box true (tP 0)),
 oP 4 (.alloc [.ok (.int .i64 0), .ok (.int .i64 0)])])
 (.seq (.seq (.region [oP 5 (.mv (tP 1)),
 oP 6 (.bin .eql (tP 5) (.con (.int .i32 10)))])
 (.cond (tP 6) (.seq (.region [oP 7 (.addOff 0 (tP 2)),
 oP 8 (.load none (tP 7)),
 oP 9 (.bin .add (tP 8) (iP 1)),
 oP 10 (.build [.int .i64 0, .int .i64 0] [(0, 1, (tP 9)), (1, 1, (iP 1))]),
 sP (.store 2 (tP 4) (tP 10))])
 (.ret)) (.skip)))
 (.seq (.region [oP 11 (.addOff 0 (tP 2)),
 oP 12 (.load none (tP 11)),
 oP 13 (.addOff 1 (tP 2)),
 oP 14 (.load none (tP 13)),
 oP 15 (.bin .add (tP 14) (iP 1)),
 oP 16 (.build [.int .i64 0, .int .i64 0] [(0, 1, (tP 12)), (1, 1, (tP 15))]),
 sP (.store 2 (tP 4) (tP 16))])
 (.ret)))
def A113 : AFunc := { ntmps := 17, results := [.cell (some 2) 4], body := B113, coe := true, keep := 0 }
theorem tr113 : trFunc Tryz.prog M113 true Tryz.f113 = some A113 := by kernel_rfl
def M114 : Marks := { cut := fun _ => true, hd := fun | _ => [], ex := fun | _ => [], imm := fun | _ => false }
def B114 : ACode :=
 .seq (.region [oP 2 (.mv (bP false))])
 (.seq (.region [oP 3 (.mv (tP 0)),
 oP 4 (.bin .geq (tP 3) (.con (.int .i32 97))),
 oP 5 (.mv (tP 4)),
 gP 6 5 true (.mv (tP 0)),
 gP 7 5 true (.bin .leq (tP 6) (.con (.int .i32 122))),
 oP 8 (.pick (tP 5) (tP 7) (bP false)),
 oP 9 (.mv (tP 8)),
 gP 10 9 false (.mv (tP 0)),
 gP 11 9 false (.bin .geq (tP 10) (.con (.int .i32 128))),
 gP 12 9 false (.mv (tP 11)),
 gP 13 12 true (.mv (tP 0)),
 gP 14 12 true (.call (.fn 131) [(tP 13)]),
 gP 15 9 false (.pick (tP 12) (tP 14) (bP false)),
 oP 16 (.pick (tP 9) (bP true) (tP 15)),
 oP 2 (.mv (tP 16))])
 (.ret))
def A114 : AFunc := { ntmps := 17, results := [.tmp 2], body := B114, coe := true, keep := 0 }
theorem tr114 : trFunc Tryz.prog M114 true Tryz.f114 = some A114 := by kernel_rfl
def M115 : Marks := { cut := fun _ => true, hd := fun | _ => [], ex := fun | _ => [], imm := fun | _ => false }
def B115 : ACode :=
 .seq (.region [oP 2 (.mv (bP false))])
 (.seq (.region [oP 3 (.mv (tP 0)),
 oP 4 (.bin .geq (tP 3) (.con (.int .i32 65))),
 oP 5 (.mv (tP 4)),
 gP 6 5 true (.mv (tP 0)),
 gP 7 5 true (.bin .leq (tP 6) (.con (.int .i32 90))),
 oP 8 (.pick (tP 5) (tP 7) (bP false)),
 oP 2 (.mv (tP 8))])
 (.ret))
def A115 : AFunc := { ntmps := 9, results := [.tmp 2], body := B115, coe := true, keep := 0 }
theorem tr115 : trFunc Tryz.prog M115 true Tryz.f115 = some A115 := by kernel_rfl
abbrev H116L4 : List Bool := [true, false, false, false, false, false, true, true, true]
abbrev X116L4 : List Bool := [false, false, false, false, false, false, true, true]
def M116 : Marks := { cut := fun _ => true, hd := fun | 4 => H116L4 | _ => [], ex := fun | 4 => X116L4 | _ => [], imm := fun | _ => false }
def B116L4 : ACode :=
 .seq (.seq (.region [oP 10 (.mv (tP 8)),
 oP 11 (.mv (tP 0)),
 oP 12 (.len false (tP 11)),
 oP 13 (.bin .lss (tP 10) (tP 12)),
 oP 14 (.mv (tP 13)),
 gP 15 14 true (.mv (tP 0)),
 gP 16 14 true (.mv (tP 8)),
 gP 17 14 true (.idxAddr 4 (tP 15) (tP 16)),
 gP 18 14 true (.addOff 0 (tP 17)),
 gP 19 14 true (.load none (tP 18)),
 gP 20 14 true (.call (.fn 132) [(tP 19)]),
 oP 21 (.pick (tP 14) (tP 20) (bP false))])
 (.cond (tP 21) (.skip) (.exit 0)))
 (.seq (.block 1 (.seq (.region [oP 24 (.mv (tP 6)),
 oP 25 (.mv (tP 0)),
 oP 26 (.mv (tP 8)),
 oP 27 (.idxAddr 4 (tP 25) (tP 26)),
 oP 28 (.addOff 0 (tP 27)),
 oP 29 (.load none (tP 28)),
 oP 30 (.call (.fn 133) [(tP 29)]),
 oP 31 (.bstr (tP 30)),
 oP 32 (.bin .add (tP 24) (tP 31)),
 oP 6 (.mv (tP 32))])
 (.region [oP 33 (.mv (tP 7)),
 oP 34 (.bin .add (tP 33) (iP 1)),
 oP 7 (.mv (tP 34))])))
 (.region [oP 22 (.mv (tP 8)),
 oP 23 (.bin .add (tP 22) (iP 1)),
 oP 8 (.mv (tP 23))]))
def B116 : ACode :=
 .seq (.region [oP 4 (.mv (.con (.str ⟨#[]⟩))),
 oP 5 (.mv (iP 0))])
 (.seq (.region [oP 6 (.mv (.con (.str ⟨#[]⟩)))])
 (.seq (.region [oP 7 (.mv (iP 0))])
 (.seq (.seq (.region [oP 9 (.mv (tP 1)),
 oP 8 (.mv (tP 9))])
 (.block 0 (.loop true H116L4 X116L4 B116L4)))
 (.seq (.region [oP 35 (.mv (tP 6)),
 oP 36 (.mv (tP 7)),
 oP 4 (.mv (tP 35)),
 oP 5 (.mv (tP 36))])
 (.ret)))))
def A116 : AFunc := { ntmps := 37, results := [.tmp 4, .tmp 5], body := B116, coe := true, keep := 0 }
theorem tr116 : trFunc Tryz.prog M116 true Tryz.f116 = some A116 := by kernel_rfl
def M117 : Marks := { cut := fun _ => true, hd := fun | _ => [], ex := fun | _ => [], imm := fun | _ => false }
def B117 : ACode :=
 .seq (.region [oP 2 (.mv (bP false))])
 (.seq (.seq (.region [oP 3 (.mv (tP 0))])
 (.block 0 (.seq (.seq (.region [oP 5 (.bin .eql (tP 3) (.con (.str ⟨#[99, 97, 112]⟩))),
 oP 4 (.mv (tP 5))])
 (.cond (tP 4) (.skip) (.seq (.region [oP 6 (.bin .eql (tP 3) (.con (.str ⟨#[100, 111]⟩))),
 oP 4 (.mv (tP 6))])
 (.cond (tP 4) (.skip) (.seq (.region [oP 7 (.bin .eql (tP 3) (.con (.str ⟨#[101, 108, 115, 101]⟩))),
 oP 4 (.mv (tP 7))])
 (.cond (tP 4) (.skip) (.seq (.region [oP 8 (.bin .eql (tP 3) (.con (.str ⟨#[101, 110, 100]⟩))),
 oP 4 (.mv (tP 8))])
 (.cond (tP 4) (.skip) (.seq (.region [oP 9 (.bin .eql (tP 3) (.con (.str ⟨#[102, 111, 114]⟩))),
 oP 4 (.mv (tP 9))])
 (.cond (tP 4) (.skip) (.seq (.region [oP 10 (.bin .eql (tP 3) (.con (.str ⟨#[102, 117, 110]⟩))),
 oP 4 (.mv (tP 10))])
 (.cond (tP 4) (.skip) (.seq (.region [oP 11 (.bin .eql (tP 3) (.con (.str ⟨#[105, 102]⟩))),
 oP 4 (.mv (tP 11))])
 (.cond (tP 4) (.skip) (.seq (.region [oP 12 (.bin .eql (tP 3) (.con (.str ⟨#[105, 110]⟩))),
 oP 4 (.mv (tP 12))])
 (.cond (tP 4) (.skip) (.seq (.region [oP 13 (.bin .eql (tP 3) (.con (.str ⟨#[108, 101, 116]⟩))),
 oP 4 (.mv (tP 13))])
 (.cond (tP 4) (.skip) (.seq (.region [oP 14 (.bin .eql (tP 3) (.con (.str ⟨#[109, 97, 116, 99, 104]⟩))),
 oP 4 (.mv (tP 14))])
 (.cond (tP 4) (.skip) (.seq (.region [oP 15 (.bin .eql (tP 3) (.con (.str ⟨#[111, 102]⟩))),
 oP 4 (.mv (tP 15))])
 (.cond (tP 4) (.skip) (.seq (.region [oP 16 (.bin .eql (tP 3) (.con (.str ⟨#[111, 110]⟩))),
 oP 4 (.mv (tP 16))])
 (.cond (tP 4) (.skip) (.seq (.region [oP 17 (.bin .eql (tP 3) (.con (.str ⟨#[113, 117, 101, 117, 101]⟩))),
 oP 4 (.mv (tP 17))])
 (.cond (tP 4) (.skip) (.seq (.region [oP 18 (.bin .eql (tP 3) (.con (.str ⟨#[115, 116, 97, 116, 101]⟩))),
 oP 4 (.mv (tP 18))])
 (.cond (tP 4) (.skip) (.seq (.region [oP 19 (.bin .eql (tP 3) (.con (.str ⟨#[116, 104, 101, 110]⟩))),
 oP 4 (.mv (tP 19))])
 (.cond (tP 4) (.skip) (.seq (.region [oP 20 (.bin .eql (tP 3) (.con (.str ⟨#[116, 105, 109, 101, 114, 115]⟩))),
 oP 4 (.mv (tP 20))])
 (.cond (tP 4) (.skip) (.seq (.region [oP 21 (.bin .eql (tP 3) (.con (.str ⟨#[116, 121, 112, 101]⟩))),
 oP 4 (.mv (tP 21))])
 (.cond (tP 4) (.skip) (.region [oP 22 (.bin .eql (tP 3) (.con (.str ⟨#[119, 105, 116, 104]⟩))),
 oP 4 (.mv (tP 22))])))))))))))))))))))))))))))))))))))
 (.cond (tP 4) (.seq (.region [oP 2 (.mv (bP true))])
 (.ret)) (.skip)))))
 (.seq (.region [oP 2 (.mv (bP false))])
 (.ret)))
def A117 : AFunc := { ntmps := 23, results := [.tmp 2], body := B117, coe := true, keep := 0 }
theorem tr117 : trFunc Tryz.prog M117 true Tryz.f117 = some A117 := by kernel_rfl
def M118 : Marks := { cut := fun _ => true, hd := fun | _ => [], ex := fun | _ => [], imm := fun | _ => false }
def B118 : ACode :=
 .seq (.region [oP 2 (.mv (bP false))])
 (.seq (.region [oP 3 (.mv (tP 0)),
 oP 4 (.bin .geq (tP 3) (.con (.int .i32 48))),
 oP 5 (.mv (tP 4)),
 gP 6 5 true (.mv (tP 0)),
 gP 7 5 true (.bin .leq (tP 6) (.con (.int .i32 57))),
 oP 8 (.pick (tP 5) (tP 7) (bP false)),
 oP 2 (.mv (tP 8))])
 (.ret))
def A118 : AFunc := { ntmps := 9, results := [.tmp 2], body := B118, coe := true, keep := 0 }
theorem tr118 : trFunc Tryz.prog M118 true Tryz.f118 = some A118 := by kernel_rfl
abbrev H119L3 : List Bool := [true, true, false, false, false, false, false, true, true]
abbrev X119L3 : List Bool := [true, true, false, false, true, true, true, true, true]
def M119 : Marks := { cut := fun _ => true, hd := fun | 3 => H119L3 | _ => [], ex := fun | 3 => X119L3 | _ => [], imm := fun | 4 => true | 61 => true | 66 => true | 79 => true | 126 => true | _ => false, alts := fun | 21 => [[0, 1, 2, 3, 4, 5, 6, 9, 10, 11, 12, 13, 14, 7, 8, 15, 16, 17, 18, 19, 20]] | _ => [] }
def B119L3 : ACode :=
 .seq (.seq (.region [oP 11 (.mv (tP 8)),
 oP 12 (.mv (tP 0)),
 oP 13 (.len false (tP 12)),
 oP 14 (.bin .lss (tP 11) (tP 13)),
 oP 15 (.mv (tP 14)),
 gP 16 15 true (.mv (tP 0)),
 gP 17 15 true (.mv (tP 8)),
 gP 18 15 true (.idxAddr 4 (tP 16) (tP 17)),
 gP 19 15 true (.addOff 0 (tP 18)),
 gP 20 15 true (.load none (tP 19)),
 gP 21 15 true (.bin .neq (tP 20) (.con (.int .i32 34))),
 oP 22 (.pick (tP 15) (tP 21) (bP false)),
 oP 23 (.mv (tP 22)),
 gP 24 23 true (.mv (tP 0)),
 gP 25 23 true (.mv (tP 8)),
 gP 26 23 true (.idxAddr 4 (tP 24) (tP 25)),
 gP 27 23 true (.addOff 0 (tP 26)),
 gP 28 23 true (.load none (tP 27)),
 gP 29 23 true (.bin .neq (tP 28) (.con (.int .i32 10))),
 oP 30 (.pick (tP 23) (tP 29) (bP false))])
 (.cond (tP 30) (.skip) (.exit 0)))
 (.block 1 (.seq (.seq (.region [oP 31 (.mv (tP 0)),
 oP 32 (.mv (tP 8)),
 oP 33 (.idxAddr 4 (tP 31) (tP 32)),
 oP 34 (.addOff 0 (tP 33)),
 oP 35 (.load none (tP 34)),
 oP 36 (.bin .neq (tP 35) (.con (.int .i32 92)))])
 (.cond (tP 36) (.seq (.region [oP 37 (.mv (tP 7)),
 oP 38 (.mv (tP 0)),
 oP 39 (.mv (tP 8)),
 oP 40 (.idxAddr 4 (tP 38) (tP 39)),
 oP 41 (.addOff 0 (tP 40)),
 oP 42 (.load none (tP 41)),
 oP 43 (.call (.fn 133) [(tP 42)]),
 oP 44 (.app false 5 1 1 (tP 37) (tP 43)),
 oP 7 (.mv (tP 44))])
 (.seq (.region [oP 45 (.mv (tP 8)),
 oP 46 (.bin .add (tP 45) (iP 1)),
 oP 8 (.mv (tP 46))])
 (.exit 1))) (.skip)))
 (.seq (.seq (.region [oP 47 (.mv (tP 8)),
 oP 48 (.bin .add (tP 47) (iP 1)),
 oP 49 (.mv (tP 0)),
 oP 50 (.len false (tP 49)),
 oP 51 (.bin .geq (tP 48) (tP 50))])
 (.cond (tP 51) (.seq (.region [oP 4 (.mv (.con (.slice 1 []))),
 oP 5 (.mv (iP 0)),
 oP 6 (.mv (iP 4))])
 (.ret)) (.skip)))
 (.seq (.seq (.region [oP 52 (.mv (tP 0)),
 oP 53 (.mv (tP 8)),
 oP 54 (.bin .add (tP 53) (iP 1)),
 oP 55 (.idxAddr 4 (tP 52) (tP 54)),
 oP 56 (.addOff 0 (tP 55)),
 oP 57 (.load none (tP 56))])
 (.block 2 (.seq (.region [oP 59 (.bin .eql (tP 57) (.con (.int .i32 110))),
 oP 58 (.mv (tP 59))])
 (.cond (tP 58) (.region [oP 60 (.mv (tP 7)),
 oP 61 (.lit true 5 1 1 [.int .u8 0] [(0, (.con (.int .u8 10)))]),
 oP 62 (.app false 5 1 1 (tP 60) (tP 61)),
 oP 7 (.mv (tP 62))]) (.seq (.region [oP 64 (.bin .eql (tP 57) (.con (.int .i32 116))),
 oP 63 (.mv (tP 64))])
 (.cond (tP 63) (.region [oP 65 (.mv (tP 7)),
 oP 66 (.lit true 5 1 1 [.int .u8 0] [(0, (.con (.int .u8 9)))]),
 oP 67 (.app false 5 1 1 (tP 65) (tP 66)),
 oP 7 (.mv (tP 67))]) (.seq (.seq (.region [oP 69 (.bin .eql (tP 57) (.con (.int .i32 34))),
 oP 68 (.mv (tP 69))])
 (.cond (tP 68) (.skip) (.region [oP 70 (.bin .eql (tP 57) (.con (.int .i32 92))),
 oP 68 (.mv (tP 70))])))
 (.cond (tP 68) (.region [oP 71 (.mv (tP 7)),
 oP 72 (.mv (tP 0)),
 oP 73 (.mv (tP 8)),
 oP 74 (.bin .add (tP 73) (iP 1)),
 oP 75 (.idxAddr 4 (tP 72) (tP 74)),
 oP 76 (.addOff 0 (tP 75)),
 oP 77 (.load none (tP 76)),
 oP 78 (.cvt .u8 (tP 77)),
 oP 79 (.lit true 5 1 1 [.int .u8 0] [(0, (tP 78))]),
 oP 80 (.app false 5 1 1 (tP 71) (tP 79)),
 oP 7 (.mv (tP 80))]) (.seq (.region [oP 82 (.bin .eql (tP 57) (.con (.int .i32 120))),
 oP 81 (.mv (tP 82))])
 (.cond (tP 81) (.seq (.seq (.region [oP 83 (.mv (tP 8)),
 oP 84 (.bin .add (tP 83) (iP 3)),
 oP 85 (.mv (tP 0)),
 oP 86 (.len false (tP 85)),
 oP 87 (.bin .geq (tP 84) (tP 86)),
 oP 88 (.mv (tP 87)),
 gP 89 88 false (.mv (tP 0)),
 gP 90 88 false (.mv (tP 8)),
 gP 91 88 false (.bin .add (tP 90) (iP 2)),
 gP 92 88 false (.idxAddr 4 (tP 89) (tP 91)),
 gP 93 88 false (.addOff 0 (tP 92)),
 gP 94 88 false (.load none (tP 93)),
 gP 95 88 false (.call (.fn 134) [(tP 94)]),
 gP 96 88 false (.bin .lss (tP 95) (iP 0)),
 oP 97 (.pick (tP 88) (bP true) (tP 96)),
 oP 98 (.mv (tP 97)),
 gP 99 98 false (.mv (tP 0)),
 gP 100 98 false (.mv (tP 8)),
 gP 101 98 false (.bin .add (tP 100) (iP 3)),
 gP 102 98 false (.idxAddr 4 (tP 99) (tP 101)),
 gP 103 98 false (.addOff 0 (tP 102)),
 gP 104 98 false (.load none (tP 103)),
 gP 105 98 false (.call (.fn 134) [(tP 104)]),
 gP 106 98 false (.bin .lss (tP 105) (iP 0)),
 oP 107 (.pick (tP 98) (bP true) (tP 106))])
 (.cond (tP 107) (.seq (.region [oP 4 (.mv (.con (.slice 1 []))),
 oP 5 (.mv (iP 0)),
 oP 6 (.mv (iP 4))])
 (.ret)) (.skip)))
 (.seq (.draw [oP 108 (.mv (tP 7)),
 oP 109 (.mv (tP 0)),
 oP 110 (.mv (tP 8)),
 oP 111 (.bin .add (tP 110) (iP 2)),
 oP 112 (.idxAddr 4 (tP 109) (tP 111)),
 oP 113 (.addOff 0 (tP 112)),
 oP 114 (.load none (tP 113)),
 oP 115 (.call (.fn 134) [(tP 114)]),
 oP 116 (.bin .mul (iP 16) (tP 115)),
 oP 117 (.mv (tP 0)),
 oP 118 (.mv (tP 8)),
 oP 119 (.bin .add (tP 118) (iP 3)),
 oP 120 (.idxAddr 4 (tP 117) (tP 119)),
 oP 121 (.addOff 0 (tP 120)),
 oP 122 (.load none (tP 121)),
 oP 123 (.call (.fn 134) [(tP 122)]),
 oP 124 (.bin .add (tP 116) (tP 123)),
 oP 125 (.cvt .u8 (tP 124)),
 oP 126 (.lit true 5 1 1 [.int .u8 0] [(0, (tP 125))]),
 oP 127 (.app false 5 1 1 (tP 108) (tP 126)),
 oP 7 (.mv (tP 127))] [[oP 108 (.mv (tP 7)), oP 109 (.mv (tP 0)), oP 110 (.mv (tP 8)), oP 111 (.bin .add (tP 110) (iP 2)), oP 112 (.idxAddr 4 (tP 109) (tP 111)), oP 113 (.addOff 0 (tP 112)), oP 114 (.load none (tP 113)), oP 117 (.mv (tP 0)), oP 118 (.mv (tP 8)), oP 119 (.bin .add (tP 118) (iP 3)), oP 120 (.idxAddr 4 (tP 117) (tP 119)), oP 121 (.addOff 0 (tP 120)), oP 122 (.load none (tP 121)), oP 115 (.call (.fn 134) [(tP 114)]), oP 116 (.bin .mul (iP 16) (tP 115)), oP 123 (.call (.fn 134) [(tP 122)]), oP 124 (.bin .add (tP 116) (tP 123)), oP 125 (.cvt .u8 (tP 124)), oP 126 (.lit true 5 1 1 [.int .u8 0] [(0, (tP 125))]), oP 127 (.app false 5 1 1 (tP 108) (tP 126)), oP 7 (.mv (tP 127))]])
 (.region [oP 128 (.mv (tP 8)),
 oP 129 (.bin .add (tP 128) (iP 2)),
 oP 8 (.mv (tP 129))]))) (.seq (.region [oP 4 (.mv (.con (.slice 1 []))),
 oP 5 (.mv (iP 0)),
 oP 6 (.mv (iP 4))])
 (.ret))))))))))))
 (.region [oP 130 (.mv (tP 8)),
 oP 131 (.bin .add (tP 130) (iP 2)),
 oP 8 (.mv (tP 131))])))))
def B119 : ACode :=
 .seq (.region [oP 4 (.mv (.con (.slice 1 []))),
 oP 5 (.mv (iP 0)),
 oP 6 (.mv (iP 0))])
 (.seq (.region [oP 7 (.nilrow 1)])
 (.seq (.region [oP 9 (.mv (tP 1)),
 oP 10 (.bin .add (tP 9) (iP 1)),
 oP 8 (.mv (tP 10))])
 (.seq (.block 0 (.loop true H119L3 X119L3 B119L3))
 (.seq (.seq (.region [oP 132 (.mv (tP 8)),
 oP 133 (.mv (tP 0)),
 oP 134 (.len false (tP 133)),
 oP 135 (.bin .geq (tP 132) (tP 134)),
 oP 136 (.mv (tP 135)),
 gP 137 136 false (.mv (tP 0)),
 gP 138 136 false (.mv (tP 8)),
 gP 139 136 false (.idxAddr 4 (tP 137) (tP 138)),
 gP 140 136 false (.addOff 0 (tP 139)),
 gP 141 136 false (.load none (tP 140)),
 gP 142 136 false (.bin .neq (tP 141) (.con (.int .i32 34))),
 oP 143 (.pick (tP 136) (bP true) (tP 142))])
 (.cond (tP 143) (.seq (.region [oP 4 (.mv (.con (.slice 1 []))),
 oP 5 (.mv (iP 0)),
 oP 6 (.mv (iP 4))])
 (.ret)) (.skip)))
 (.seq (.seq (.region [oP 144 (.mv (tP 7)),
 oP 145 (.len false (tP 144)),
 oP 146 (.bin .gtr (tP 145) (iP 64))])
 (.cond (tP 146) (.seq (.region [oP 4 (.mv (.con (.slice 1 []))),
 oP 5 (.mv (iP 0)),
 oP 6 (.mv (iP 5))])
 (.ret)) (.skip)))
 (.seq (.region [oP 147 (.mv (tP 7)),
 oP 148 (.mv (tP 8)),
 oP 149 (.bin .add (tP 148) (iP 1)),
 oP 150 (.mv (tP 1)),
 oP 151 (.bin .sub (tP 149) (tP 150)),
 oP 4 (.mv (tP 147)),
 oP 5 (.mv (tP 151)),
 oP 6 (.mv (iP 0))])
 (.ret)))))))
def A119 : AFunc := { ntmps := 152, results := [.tmp 4, .tmp 5, .tmp 6], body := B119, coe := true, keep := 0 }
theorem tr119 : trFunc Tryz.prog M119 true Tryz.f119 = some A119 := by kernel_rfl
abbrev H120L13 : List Bool := [false, false, false, false, false, true, false, true, true]
abbrev X120L13 : List Bool := [false, false, false, false, true]
def M120 : Marks := { cut := fun _ => true, hd := fun | 13 => H120L13 | _ => [], ex := fun | 13 => X120L13 | _ => [], imm := fun | _ => false }
def B120L13 : ACode :=
 .seq (.seq (.region [oP 46 (.mv (tP 8)),
 oP 47 (.mv (tP 7)),
 oP 48 (.len true (tP 47)),
 oP 49 (.bin .lss (tP 46) (tP 48))])
 (.cond (tP 49) (.skip) (.exit 1)))
 (.seq (.block 2 (.seq (.region [oP 52 (.mv (tP 7)),
 oP 53 (.mv (tP 8)),
 oP 54 (.idxStr (tP 52) (tP 53)),
 oP 55 (.cvt .i32 (tP 54)),
 oP 56 (.mv (tP 5)),
 oP 57 (.bin .eql (tP 55) (tP 56))])
 (.cond (tP 57) (.seq (.region [oP 58 (.mv (tP 7)),
 oP 59 (.mv (tP 8)),
 oP 60 (.mv (tP 8)),
 oP 61 (.bin .add (tP 60) (iP 1)),
 oP 62 (.slcStr (tP 58) (some (tP 59)) (some (tP 61))),
 oP 4 (.mv (tP 62))])
 (.ret)) (.skip))))
 (.region [oP 50 (.mv (tP 8)),
 oP 51 (.bin .add (tP 50) (iP 1)),
 oP 8 (.mv (tP 51))]))
def B120 : ACode :=
 .seq (.region [oP 4 (.mv (.con (.str ⟨#[]⟩)))])
 (.seq (.region [oP 9 (.mv (tP 0)),
 oP 10 (.mv (tP 1)),
 oP 11 (.idxAddr 4 (tP 9) (tP 10)),
 oP 12 (.addOff 0 (tP 11)),
 oP 13 (.load none (tP 12)),
 oP 5 (.mv (tP 13))])
 (.seq (.region [oP 6 (.mv (.con (.int .i32 0)))])
 (.seq (.seq (.region [oP 14 (.mv (tP 1)),
 oP 15 (.bin .add (tP 14) (iP 1)),
 oP 16 (.mv (tP 0)),
 oP 17 (.len false (tP 16)),
 oP 18 (.bin .lss (tP 15) (tP 17))])
 (.cond (tP 18) (.region [oP 19 (.mv (tP 0)),
 oP 20 (.mv (tP 1)),
 oP 21 (.bin .add (tP 20) (iP 1)),
 oP 22 (.idxAddr 4 (tP 19) (tP 21)),
 oP 23 (.addOff 0 (tP 22)),
 oP 24 (.load none (tP 23)),
 oP 6 (.mv (tP 24))]) (.skip)))
 (.seq (.block 0 (.seq (.region [oP 26 (.mv (tP 5)),
 oP 27 (.bin .eql (tP 26) (.con (.int .i32 45))),
 oP 28 (.mv (tP 27)),
 gP 29 28 true (.mv (tP 6)),
 gP 30 28 true (.bin .eql (tP 29) (.con (.int .i32 62))),
 oP 31 (.pick (tP 28) (tP 30) (bP false)),
 oP 25 (.mv (tP 31))])
 (.cond (tP 25) (.seq (.region [oP 4 (.mv (.con (.str ⟨#[45, 62]⟩)))])
 (.ret)) (.seq (.region [oP 33 (.mv (tP 5)),
 oP 34 (.bin .eql (tP 33) (.con (.int .i32 60))),
 oP 35 (.mv (tP 34)),
 gP 36 35 true (.mv (tP 6)),
 gP 37 35 true (.bin .eql (tP 36) (.con (.int .i32 61))),
 oP 38 (.pick (tP 35) (tP 37) (bP false)),
 oP 32 (.mv (tP 38))])
 (.cond (tP 32) (.seq (.region [oP 4 (.mv (.con (.str ⟨#[60, 61]⟩)))])
 (.ret)) (.seq (.region [oP 40 (.mv (tP 5)),
 oP 41 (.bin .eql (tP 40) (.con (.int .i32 61))),
 oP 42 (.mv (tP 41)),
 gP 43 42 true (.mv (tP 6)),
 gP 44 42 true (.bin .eql (tP 43) (.con (.int .i32 61))),
 oP 45 (.pick (tP 42) (tP 44) (bP false)),
 oP 39 (.mv (tP 45))])
 (.cond (tP 39) (.seq (.region [oP 4 (.mv (.con (.str ⟨#[61, 61]⟩)))])
 (.ret)) (.skip))))))))
 (.seq (.region [oP 7 (.mv (.con (.str ⟨#[40, 41, 44, 124, 61, 58, 43, 45, 42, 47, 37, 60, 95, 126]⟩)))])
 (.seq (.seq (.region [oP 8 (.mv (iP 0))])
 (.block 1 (.loop true H120L13 X120L13 B120L13)))
 (.seq (.region [oP 4 (.mv (.con (.str ⟨#[]⟩)))])
 (.ret))))))))
def A120 : AFunc := { ntmps := 63, results := [.tmp 4], body := B120, coe := true, keep := 0 }
theorem tr120 : trFunc Tryz.prog M120 true Tryz.f120 = some A120 := by kernel_rfl
def M123 : Marks := { cut := fun _ => true, hd := fun | _ => [], ex := fun | _ => [], imm := fun | 4 => true | 11 => true | _ => false }
def B123 : ACode :=
 .seq (.region [oP 4 (.mv (.con (.slice 1 [])))])
 (.seq (.seq (.region [oP 5 (.mv (tP 1)),
 oP 6 (.cvt .u32 (tP 5)),
 oP 7 (.bin .leq (tP 6) (.con (.int .u32 127)))])
 (.cond (tP 7) (.seq (.region [oP 8 (.mv (tP 0)),
 oP 9 (.mv (tP 1)),
 oP 10 (.cvt .u8 (tP 9)),
 oP 11 (.lit true 5 1 1 [.int .u8 0] [(0, (tP 10))]),
 oP 12 (.app false 5 1 1 (tP 8) (tP 11)),
 oP 4 (.mv (tP 12))])
 (.ret)) (.skip)))
 (.seq (.region [oP 13 (.mv (tP 0)),
 oP 14 (.mv (tP 1)),
 oP 15 (.call (.fn 135) [(tP 13), (tP 14)]),
 oP 4 (.mv (tP 15))])
 (.ret)))
def A123 : AFunc := { ntmps := 16, results := [.tmp 4], body := B123, coe := false, keep := 0 }
theorem tr123 : trFunc Tryz.prog M123 false Tryz.f123 = some A123 := by kernel_rfl
abbrev H124L38 : List Bool := [false, false, false, false, false, false, false, false, false, false, false, false, false, false, false, false, false, false, false, false, false, false, false, false, false, false, false, false, false, false, false, false, false, false, false, false, false, false, false, false, false, false, false, false, false, false, false, false, false, false, false, false, false, false, false, false, false, false, false, false, false, false, false, false, false, false, false, false, false, false, false, false, false, false, false, false, false, false, false, false, false, false, false, false, false, false, false, false, false, false, false, false, false, false, false, false, false, false, false, false, false, false, false, false, false, false, false, false, false, false, false, false, false, false, false, false, false, false, false, false, false, false, false, false, false, false, false, false, false, false, false, false, false, false, false, false, false, false, false, false, false, false, false, false, false, false, false, false, false, false, false, false, false, false, false, false, false, false, false, false, false, false, false, false, false, false, false, false, false, false, false, false, false, false, false, true]
abbrev X124L38 : List Bool := [false, false, false, false, true]
abbrev H124L12 : List Bool := [true, false, false, false, false, false, false, true, true, true, false, false, true]
abbrev X124L12 : List Bool := [false, false, false, false, false, false, false, false, true, true]
abbrev H124L5 : List Bool := [true, false, false, false, false, false, false, true, true, true]
abbrev X124L5 : List Bool := [false, false, false, false, true]
abbrev H124L29 : List Bool := [true, false, false, false, false, false, false, true, true, true, false, false, false, false, true, true, true]
abbrev X124L29 : List Bool := [true, false, false, false, false, false, false, true, true, true, false, false, false, false, true, true]
abbrev H124L25 : List Bool := [true, false, false, false, false, false, false, true, true, true, false, false, false, false, true, true]
abbrev X124L25 : List Bool := [false, false, false, false, true]
def M124 : Marks := { cut := fun _ => true, hd := fun | 5 => H124L5 | 12 => H124L12 | 25 => H124L25 | 29 => H124L29 | 38 => H124L38 | _ => [], ex := fun | 5 => X124L5 | 12 => X124L12 | 25 => X124L25 | 29 => X124L29 | 38 => X124L38 | _ => [], imm := fun | _ => false }
def B124L38 : ACode :=
 .seq (.region [oP 176 (.next (tP 175)),
 oP 177 (.ext 0 (tP 176))])
 (.seq (.cond (tP 177) (.skip) (.exit 9))
 (.block 10 (.seq (.region [oP 178 (.ext 1 (tP 176)),
 oP 179 (.ext 2 (tP 176)),
 oP 5 (.mv (tP 178)),
 oP 6 (.mv (tP 179))])
 (.seq (.region [oP 180 (.mv (tP 6)),
 oP 181 (.bin .eql (tP 180) (.con (.int .i32 65533)))])
 (.cond (tP 181) (.seq (.region [oP 182 (.mv (tP 5)),
 oP 4 (.mv (tP 182))])
 (.ret)) (.skip))))))
def B124L12 : ACode :=
 .seq (.seq (.region [oP 48 (.mv (tP 12)),
 oP 49 (.mv (tP 7)),
 oP 50 (.len true (tP 49)),
 oP 51 (.bin .lss (tP 48) (tP 50))])
 (.cond (tP 51) (.skip) (.exit 3)))
 (.seq (.block 4 (.seq (.draw [oP 54 (.mv (tP 0)),
 oP 55 (.mv (tP 9)),
 oP 56 (.mv (tP 12)),
 oP 57 (.bin .sub (tP 55) (tP 56)),
 oP 58 (.idxStr (tP 54) (tP 57)),
 oP 59 (.mv (tP 7)),
 oP 60 (.mv (tP 8)),
 oP 61 (.mv (tP 12)),
 oP 62 (.bin .sub (tP 60) (tP 61)),
 oP 63 (.idxStr (tP 59) (tP 62)),
 oP 64 (.bin .neq (tP 58) (tP 63))] [])
 (.cond (tP 64) (.stuck) (.skip))))
 (.region [oP 52 (.mv (tP 12)),
 oP 53 (.bin .add (tP 52) (iP 1)),
 oP 12 (.mv (tP 53))]))
def B124L5 : ACode :=
 .seq (.seq (.region [oP 23 (.mv (tP 9)),
 oP 24 (.mv (tP 0)),
 oP 25 (.len true (tP 24)),
 oP 26 (.bin .lss (tP 23) (tP 25))])
 (.cond (tP 26) (.skip) (.exit 1)))
 (.block 2 (.seq (.seq (.draw [oP 27 (.mv (tP 0)),
 oP 28 (.mv (tP 9)),
 oP 29 (.idxStr (tP 27) (tP 28)),
 oP 30 (.mv (tP 7)),
 oP 31 (.mv (tP 8)),
 oP 32 (.idxStr (tP 30) (tP 31)),
 oP 33 (.bin .neq (tP 29) (tP 32))] [])
 (.cond (tP 33) (.seq (.draw [oP 34 (.mv (tP 0)),
 oP 35 (.mv (tP 9)),
 oP 36 (.bin .add (tP 35) (iP 1)),
 oP 37 (.slcStr (tP 34) (some (tP 36)) none),
 oP 38 (.mv (tP 7)),
 oP 39 (.mv (tP 8)),
 oP 40 (.idxStr (tP 38) (tP 39)),
 oP 41 (.call (.fn 103) [(tP 37), (tP 40)]),
 oP 11 (.mv (tP 41))] [])
 (.seq (.seq (.region [oP 42 (.mv (tP 11)),
 oP 43 (.bin .lss (tP 42) (iP 0))])
 (.cond (tP 43) (.seq (.region [oP 4 (.mv (iP (-1)))])
 (.ret)) (.skip)))
 (.region [oP 44 (.mv (tP 9)),
 oP 45 (.mv (tP 11)),
 oP 46 (.bin .add (tP 45) (iP 1)),
 oP 47 (.bin .add (tP 44) (tP 46)),
 oP 9 (.mv (tP 47))]))) (.skip)))
 (.seq (.seq (.region [oP 12 (.mv (iP 1))])
 (.block 3 (.loop true H124L12 X124L12 B124L12)))
 (.seq (.seq (.region [oP 65 (.mv (tP 9)),
 oP 66 (.mv (tP 8)),
 oP 67 (.bin .sub (tP 65) (tP 66)),
 oP 4 (.mv (tP 67))])
 (.ret))
 (.seq (.skip)
 (.seq (.region [oP 68 (.mv (tP 10)),
 oP 69 (.bin .add (tP 68) (iP 1)),
 oP 10 (.mv (tP 69))])
 (.seq (.region [oP 70 (.mv (tP 9)),
 oP 71 (.bin .add (tP 70) (iP 1)),
 oP 9 (.mv (tP 71))])
 (.seq (.region [oP 72 (.mv (bP true)),
 gP 73 72 true (.mv (tP 10)),
 gP 74 72 true (.mv (tP 9)),
 gP 75 72 true (.call (.fn 128) [(tP 74)]),
 gP 76 72 true (.bin .gtr (tP 73) (tP 75)),
 oP 77 (.pick (tP 72) (tP 76) (bP false)),
 oP 78 (.mv (tP 77)),
 gP 79 78 true (.mv (tP 9)),
 gP 80 78 true (.mv (tP 0)),
 gP 81 78 true (.len true (tP 80)),
 gP 82 78 true (.bin .lss (tP 79) (tP 81)),
 oP 83 (.pick (tP 78) (tP 82) (bP false)),
 oP 84 (.mv (tP 83)),
 gP 85 84 false (.mv (bP false)),
 gP 86 85 true (.mv (tP 10)),
 gP 87 85 true (.mv (tP 9)),
 gP 88 85 true (.bin .shr (tP 87) (.con (.int .u64 4))),
 gP 89 85 true (.bin .add (iP 4) (tP 88)),
 gP 90 85 true (.bin .geq (tP 86) (tP 89)),
 gP 91 84 false (.pick (tP 85) (tP 90) (bP false)),
 gP 92 84 false (.mv (tP 91)),
 gP 93 92 true (.mv (tP 9)),
 gP 94 92 true (.mv (tP 0)),
 gP 95 92 true (.len true (tP 94)),
 gP 96 92 true (.bin .lss (tP 93) (tP 95)),
 gP 97 84 false (.pick (tP 92) (tP 96) (bP false)),
 oP 98 (.pick (tP 84) (bP true) (tP 97))])
 (.cond (tP 98) (.stuck) (.skip))))))))))
def B124L29 : ACode :=
 .seq (.seq (.region [oP 140 (.mv (tP 16)),
 oP 141 (.mv (tP 7)),
 oP 142 (.len true (tP 141)),
 oP 143 (.bin .lss (tP 140) (tP 142))])
 (.cond (tP 143) (.skip) (.exit 7)))
 (.seq (.block 8 (.seq (.draw [oP 146 (.mv (tP 0)),
 oP 147 (.mv (tP 9)),
 oP 148 (.mv (tP 16)),
 oP 149 (.bin .sub (tP 147) (tP 148)),
 oP 150 (.idxStr (tP 146) (tP 149)),
 oP 151 (.mv (tP 7)),
 oP 152 (.mv (tP 8)),
 oP 153 (.mv (tP 16)),
 oP 154 (.bin .sub (tP 152) (tP 153)),
 oP 155 (.idxStr (tP 151) (tP 154)),
 oP 156 (.bin .neq (tP 150) (tP 155))] [])
 (.cond (tP 156) (.exit 6) (.skip))))
 (.region [oP 144 (.mv (tP 16)),
 oP 145 (.bin .add (tP 144) (iP 1)),
 oP 16 (.mv (tP 145))]))
def B124L25 : ACode :=
 .seq (.seq (.region [oP 121 (.mv (tP 9)),
 oP 122 (.mv (tP 0)),
 oP 123 (.len true (tP 122)),
 oP 124 (.bin .lss (tP 121) (tP 123))])
 (.cond (tP 124) (.skip) (.exit 5)))
 (.seq (.block 6 (.seq (.region [oP 127 (.mv (tP 0)),
 oP 128 (.mv (tP 9)),
 oP 129 (.idxStr (tP 127) (tP 128)),
 oP 130 (.mv (tP 14)),
 oP 131 (.bin .eql (tP 129) (tP 130)),
 oP 132 (.mv (tP 131)),
 gP 133 132 true (.mv (tP 0)),
 gP 134 132 true (.mv (tP 9)),
 gP 135 132 true (.bin .sub (tP 134) (iP 1)),
 gP 136 132 true (.idxStr (tP 133) (tP 135)),
 gP 137 132 true (.mv (tP 15)),
 gP 138 132 true (.bin .eql (tP 136) (tP 137)),
 oP 139 (.pick (tP 132) (tP 138) (bP false))])
 (.cond (tP 139) (.seq (.seq (.region [oP 16 (.mv (iP 2))])
 (.block 7 (.loop true H124L29 X124L29 B124L29)))
 (.seq (.region [oP 157 (.mv (tP 9)),
 oP 158 (.mv (tP 8)),
 oP 159 (.bin .sub (tP 157) (tP 158)),
 oP 4 (.mv (tP 159))])
 (.ret))) (.skip))))
 (.region [oP 125 (.mv (tP 9)),
 oP 126 (.bin .add (tP 125) (iP 1)),
 oP 9 (.mv (tP 126))]))
def B124 : ACode :=
 .seq (.region [oP 4 (.mv (iP 0))])
 (.block 0 (.seq (.region [oP 161 (.mv (tP 1)),
 oP 162 (.bin .leq (.con (.int .i32 0)) (tP 161)),
 oP 163 (.mv (tP 162)),
 gP 164 163 true (.mv (tP 1)),
 gP 165 163 true (.bin .lss (tP 164) (.con (.int .i32 128))),
 oP 166 (.pick (tP 163) (tP 165) (bP false)),
 oP 160 (.mv (tP 166))])
 (.cond (tP 160) (.seq (.region [oP 167 (.mv (tP 0)),
 oP 168 (.mv (tP 1)),
 oP 169 (.cvt .u8 (tP 168)),
 oP 170 (.call (.fn 103) [(tP 167), (tP 169)]),
 oP 4 (.mv (tP 170))])
 (.ret)) (.seq (.region [oP 172 (.mv (tP 1)),
 oP 173 (.bin .eql (tP 172) (.con (.int .i32 65533))),
 oP 171 (.mv (tP 173))])
 (.cond (tP 171) (.seq (.seq (.region [oP 174 (.mv (tP 0)),
 oP 175 (.rng (tP 174))])
 (.block 9 (.loop true H124L38 X124L38 B124L38)))
 (.seq (.region [oP 4 (.mv (iP (-1)))])
 (.ret))) (.seq (.region [oP 184 (.mv (tP 1)),
 oP 185 (.call (.fn 97) [(tP 184)]),
 oP 186 (.un .not (tP 185)),
 oP 183 (.mv (tP 186))])
 (.cond (tP 183) (.seq (.region [oP 4 (.mv (iP (-1)))])
 (.ret)) (.seq (.region [oP 17 (.mv (tP 1)),
 oP 18 (.rstr (tP 17)),
 oP 7 (.mv (tP 18))])
 (.seq (.region [oP 19 (.mv (tP 7)),
 oP 20 (.len true (tP 19)),
 oP 21 (.bin .sub (tP 20) (iP 1)),
 oP 8 (.mv (tP 21))])
 (.seq (.region [oP 22 (.mv (tP 8)),
 oP 9 (.mv (tP 22))])
 (.seq (.region [oP 10 (.mv (iP 0))])
 (.seq (.block 1 (.loop true H124L5 X124L5 B124L5))
 (.seq (.seq (.region [oP 4 (.mv (iP (-1)))])
 (.ret))
 (.seq (.skip)
 (.seq (.cond (bP true) (.seq (.region [oP 99 (.mv (tP 0)),
 oP 100 (.mv (tP 9)),
 oP 101 (.mv (tP 8)),
 oP 102 (.bin .sub (tP 100) (tP 101)),
 oP 103 (.slcStr (tP 99) (some (tP 102)) none),
 oP 104 (.mv (tP 1)),
 oP 105 (.rstr (tP 104)),
 oP 106 (.call (.fn 127) [(tP 103), (tP 105)]),
 oP 13 (.mv (tP 106))])
 (.seq (.region [oP 107 (.mv (tP 13)),
 oP 108 (.bin .geq (tP 107) (iP 0))])
 (.cond (tP 108) (.seq (.region [oP 109 (.mv (tP 9)),
 oP 110 (.mv (tP 13)),
 oP 111 (.bin .add (tP 109) (tP 110)),
 oP 112 (.mv (tP 8)),
 oP 113 (.bin .sub (tP 111) (tP 112)),
 oP 4 (.mv (tP 113))])
 (.ret)) (.skip)))) (.seq (.region [oP 114 (.mv (tP 7)),
 oP 115 (.mv (tP 8)),
 oP 116 (.idxStr (tP 114) (tP 115)),
 oP 14 (.mv (tP 116))])
 (.seq (.region [oP 117 (.mv (tP 7)),
 oP 118 (.mv (tP 8)),
 oP 119 (.bin .sub (tP 118) (iP 1)),
 oP 120 (.idxStr (tP 117) (tP 119)),
 oP 15 (.mv (tP 120))])
 (.seq (.skip)
 (.block 5 (.loop true H124L25 X124L25 B124L25))))))
 (.seq (.region [oP 4 (.mv (iP (-1)))])
 (.ret)))))))))))))))))
def A124 : AFunc := { ntmps := 187, results := [.tmp 4], body := B124, coe := true, keep := 0 }
theorem tr124 : trFunc Tryz.prog M124 true Tryz.f124 = some A124 := by kernel_rfl
def M125 : Marks := { cut := fun _ => true, hd := fun | _ => [], ex := fun | _ => [], imm := fun | _ => false }
def B125 : ACode :=
 .seq (.region [oP 4 (.mv (iP 0))])
 (.seq (.region [oP 5 (.mv (tP 0)),
 oP 6 (.mv (tP 1)),
 oP 7 (.idxB (tP 5) (tP 6)),
 oP 4 (.mv (tP 7))])
 (.ret))
def A125 : AFunc := { ntmps := 8, results := [.tmp 4], body := B125, coe := true, keep := 0 }
theorem tr125 : trFunc Tryz.prog M125 true Tryz.f125 = some A125 := by kernel_rfl
abbrev H130L3 : List Bool := [true, true, true, false, false, false, false, false, true, true]
abbrev X130L3 : List Bool := [false, false, false, false, false, false, true, true, true]
def M130 : Marks := { cut := fun _ => true, hd := fun | 3 => H130L3 | _ => [], ex := fun | 3 => X130L3 | _ => [], imm := fun | _ => false }
def B130L3 : ACode :=
 .seq (.seq (.region [oP 11 (.mv (tP 9)),
 oP 12 (.mv (tP 1)),
 oP 13 (.mv (tP 2)),
 oP 14 (.bin .add (tP 12) (tP 13)),
 oP 15 (.bin .lss (tP 11) (tP 14))])
 (.cond (tP 15) (.skip) (.exit 0)))
 (.seq (.block 1 (.seq (.seq (.region [oP 18 (.mv (tP 9)),
 oP 19 (.mv (tP 0)),
 oP 20 (.len true (tP 19)),
 oP 21 (.bin .geq (tP 18) (tP 20)),
 oP 22 (.mv (tP 21)),
 gP 23 22 false (.mv (tP 0)),
 gP 24 22 false (.mv (tP 9)),
 gP 25 22 false (.idxStr (tP 23) (tP 24)),
 gP 26 22 false (.bin .lss (tP 25) (.con (.int .u8 128))),
 oP 27 (.pick (tP 22) (bP true) (tP 26)),
 oP 28 (.mv (tP 27)),
 gP 29 28 false (.mv (tP 0)),
 gP 30 28 false (.mv (tP 9)),
 gP 31 28 false (.idxStr (tP 29) (tP 30)),
 gP 32 28 false (.bin .gtr (tP 31) (.con (.int .u8 191))),
 oP 33 (.pick (tP 28) (bP true) (tP 32))])
 (.cond (tP 33) (.seq (.region [oP 6 (.mv (.con (.int .i32 0))),
 oP 7 (.mv (bP false))])
 (.ret)) (.skip)))
 (.region [oP 34 (.mv (tP 8)),
 oP 35 (.bin .mul (tP 34) (.con (.int .i32 64))),
 oP 36 (.mv (tP 0)),
 oP 37 (.mv (tP 9)),
 oP 38 (.idxStr (tP 36) (tP 37)),
 oP 39 (.bin .sub (tP 38) (.con (.int .u8 128))),
 oP 40 (.cvt .i32 (tP 39)),
 oP 41 (.bin .add (tP 35) (tP 40)),
 oP 8 (.mv (tP 41))])))
 (.region [oP 16 (.mv (tP 9)),
 oP 17 (.bin .add (tP 16) (iP 1)),
 oP 9 (.mv (tP 17))]))
def B130 : ACode :=
 .seq (.region [oP 6 (.mv (.con (.int .i32 0))),
 oP 7 (.mv (bP false))])
 (.seq (.region [oP 8 (.mv (.con (.int .i32 0)))])
 (.seq (.seq (.region [oP 10 (.mv (tP 1)),
 oP 9 (.mv (tP 10))])
 (.block 0 (.loop true H130L3 X130L3 B130L3)))
 (.seq (.region [oP 42 (.mv (tP 8)),
 oP 6 (.mv (tP 42)),
 oP 7 (.mv (bP true))])
 (.ret))))
def A130 : AFunc := { ntmps := 43, results := [.tmp 6, .tmp 7], body := B130, coe := true, keep := 0 }
theorem tr130 : trFunc Tryz.prog M130 true Tryz.f130 = some A130 := by kernel_rfl
def M131 : Marks := { cut := fun _ => true, hd := fun | _ => [], ex := fun | _ => [], imm := fun | _ => false }
def B131 : ACode :=
 .seq (.region [oP 2 (.mv (bP false))])
 (.seq (.region [oP 3 (.mv (tP 0)),
 oP 4 (.bin .geq (tP 3) (.con (.int .i32 0))),
 oP 5 (.mv (tP 4)),
 gP 6 5 true (.mv (tP 0)),
 gP 7 5 true (.bin .leq (tP 6) (.con (.int .i32 1114111))),
 oP 8 (.pick (tP 5) (tP 7) (bP false)),
 oP 9 (.mv (tP 8)),
 gP 10 9 true (.mv (tP 0)),
 gP 11 9 true (.bin .lss (tP 10) (.con (.int .i32 55296))),
 gP 12 9 true (.mv (tP 11)),
 gP 13 12 false (.mv (tP 0)),
 gP 14 12 false (.bin .gtr (tP 13) (.con (.int .i32 57343))),
 gP 15 9 true (.pick (tP 12) (bP true) (tP 14)),
 oP 16 (.pick (tP 9) (tP 15) (bP false)),
 oP 2 (.mv (tP 16))])
 (.ret))
def A131 : AFunc := { ntmps := 17, results := [.tmp 2], body := B131, coe := true, keep := 0 }
theorem tr131 : trFunc Tryz.prog M131 true Tryz.f131 = some A131 := by kernel_rfl
def M132 : Marks := { cut := fun _ => true, hd := fun | _ => [], ex := fun | _ => [], imm := fun | _ => false }
def B132 : ACode :=
 .seq (.region [oP 2 (.mv (bP false))])
 (.seq (.region [oP 3 (.mv (tP 0)),
 oP 4 (.call (.fn 114) [(tP 3)]),
 oP 5 (.mv (tP 4)),
 gP 6 5 false (.mv (tP 0)),
 gP 7 5 false (.call (.fn 115) [(tP 6)]),
 oP 8 (.pick (tP 5) (bP true) (tP 7)),
 oP 9 (.mv (tP 8)),
 gP 10 9 false (.mv (tP 0)),
 gP 11 9 false (.call (.fn 118) [(tP 10)]),
 oP 12 (.pick (tP 9) (bP true) (tP 11)),
 oP 13 (.mv (tP 12)),
 gP 14 13 false (.mv (tP 0)),
 gP 15 13 false (.bin .eql (tP 14) (.con (.int .i32 95))),
 oP 16 (.pick (tP 13) (bP true) (tP 15)),
 oP 2 (.mv (tP 16))])
 (.ret))
def A132 : AFunc := { ntmps := 17, results := [.tmp 2], body := B132, coe := true, keep := 0 }
theorem tr132 : trFunc Tryz.prog M132 true Tryz.f132 = some A132 := by kernel_rfl
def M133 : Marks := { cut := fun _ => true, hd := fun | _ => [], ex := fun | _ => [], imm := fun | 2 => true | _ => false }
def B133 : ACode :=
 .seq (.region [oP 2 (.mv (.con (.slice 1 [])))])
 (.seq (.block 0 (.seq (.region [oP 4 (.mv (tP 0)),
 oP 5 (.call (.fn 131) [(tP 4)]),
 oP 6 (.un .not (tP 5)),
 oP 3 (.mv (tP 6))])
 (.cond (tP 3) (.seq (.region [oP 2 (.mv (.con (.slice 1 [])))])
 (.ret)) (.seq (.region [oP 8 (.mv (tP 0)),
 oP 9 (.bin .lss (tP 8) (.con (.int .i32 128))),
 oP 7 (.mv (tP 9))])
 (.cond (tP 7) (.seq (.region [oP 10 (.mv (tP 0)),
 oP 11 (.cvt .u8 (tP 10)),
 oP 12 (.lit false 5 1 1 [.int .u8 0] [(0, (tP 11))]),
 oP 2 (.mv (tP 12))])
 (.ret)) (.seq (.region [oP 14 (.mv (tP 0)),
 oP 15 (.bin .lss (tP 14) (.con (.int .i32 2048))),
 oP 13 (.mv (tP 15))])
 (.cond (tP 13) (.seq (.region [oP 16 (.mv (tP 0)),
 oP 17 (.bin .quo (tP 16) (.con (.int .i32 64))),
 oP 18 (.bin .add (.con (.int .i32 192)) (tP 17)),
 oP 19 (.cvt .u8 (tP 18)),
 oP 20 (.mv (tP 0)),
 oP 21 (.bin .rem (tP 20) (.con (.int .i32 64))),
 oP 22 (.bin .add (.con (.int .i32 128)) (tP 21)),
 oP 23 (.cvt .u8 (tP 22)),
 oP 24 (.lit false 5 1 2 [.int .u8 0] [(0, (tP 19)), (1, (tP 23))]),
 oP 2 (.mv (tP 24))])
 (.ret)) (.seq (.region [oP 26 (.mv (tP 0)),
 oP 27 (.bin .lss (tP 26) (.con (.int .i32 65536))),
 oP 25 (.mv (tP 27))])
 (.cond (tP 25) (.seq (.region [oP 28 (.mv (tP 0)),
 oP 29 (.bin .quo (tP 28) (.con (.int .i32 4096))),
 oP 30 (.bin .add (.con (.int .i32 224)) (tP 29)),
 oP 31 (.cvt .u8 (tP 30)),
 oP 32 (.mv (tP 0)),
 oP 33 (.bin .quo (tP 32) (.con (.int .i32 64))),
 oP 34 (.bin .rem (tP 33) (.con (.int .i32 64))),
 oP 35 (.bin .add (.con (.int .i32 128)) (tP 34)),
 oP 36 (.cvt .u8 (tP 35)),
 oP 37 (.mv (tP 0)),
 oP 38 (.bin .rem (tP 37) (.con (.int .i32 64))),
 oP 39 (.bin .add (.con (.int .i32 128)) (tP 38)),
 oP 40 (.cvt .u8 (tP 39)),
 oP 41 (.lit false 5 1 3 [.int .u8 0] [(0, (tP 31)), (1, (tP 36)), (2, (tP 40))]),
 oP 2 (.mv (tP 41))])
 (.ret)) (.skip))))))))))
 (.seq (.region [oP 42 (.mv (tP 0)),
 oP 43 (.bin .quo (tP 42) (.con (.int .i32 262144))),
 oP 44 (.bin .add (.con (.int .i32 240)) (tP 43)),
 oP 45 (.cvt .u8 (tP 44)),
 oP 46 (.mv (tP 0)),
 oP 47 (.bin .quo (tP 46) (.con (.int .i32 4096))),
 oP 48 (.bin .rem (tP 47) (.con (.int .i32 64))),
 oP 49 (.bin .add (.con (.int .i32 128)) (tP 48)),
 oP 50 (.cvt .u8 (tP 49)),
 oP 51 (.mv (tP 0)),
 oP 52 (.bin .quo (tP 51) (.con (.int .i32 64))),
 oP 53 (.bin .rem (tP 52) (.con (.int .i32 64))),
 oP 54 (.bin .add (.con (.int .i32 128)) (tP 53)),
 oP 55 (.cvt .u8 (tP 54)),
 oP 56 (.mv (tP 0)),
 oP 57 (.bin .rem (tP 56) (.con (.int .i32 64))),
 oP 58 (.bin .add (.con (.int .i32 128)) (tP 57)),
 oP 59 (.cvt .u8 (tP 58)),
 oP 60 (.lit false 5 1 4 [.int .u8 0] [(0, (tP 45)), (1, (tP 50)), (2, (tP 55)), (3, (tP 59))]),
 oP 2 (.mv (tP 60))])
 (.ret)))
def A133 : AFunc := { ntmps := 61, results := [.tmp 2], body := B133, coe := true, keep := 0 }
theorem tr133 : trFunc Tryz.prog M133 true Tryz.f133 = some A133 := by kernel_rfl
def M134 : Marks := { cut := fun _ => true, hd := fun | _ => [], ex := fun | _ => [], imm := fun | _ => false }
def B134 : ACode :=
 .seq (.region [oP 2 (.mv (iP 0))])
 (.seq (.seq (.region [oP 3 (.mv (tP 0)),
 oP 4 (.bin .geq (tP 3) (.con (.int .i32 48))),
 oP 5 (.mv (tP 4)),
 gP 6 5 true (.mv (tP 0)),
 gP 7 5 true (.bin .leq (tP 6) (.con (.int .i32 57))),
 oP 8 (.pick (tP 5) (tP 7) (bP false))])
 (.cond (tP 8) (.seq (.region [oP 9 (.mv (tP 0)),
 oP 10 (.bin .sub (tP 9) (.con (.int .i32 48))),
 oP 11 (.cvt .i64 (tP 10)),
 oP 2 (.mv (tP 11))])
 (.ret)) (.skip)))
 (.seq (.seq (.region [oP 12 (.mv (tP 0)),
 oP 13 (.bin .geq (tP 12) (.con (.int .i32 97))),
 oP 14 (.mv (tP 13)),
 gP 15 14 true (.mv (tP 0)),
 gP 16 14 true (.bin .leq (tP 15) (.con (.int .i32 102))),
 oP 17 (.pick (tP 14) (tP 16) (bP false))])
 (.cond (tP 17) (.seq (.region [oP 18 (.mv (tP 0)),
 oP 19 (.bin .sub (tP 18) (.con (.int .i32 97))),
 oP 20 (.cvt .i64 (tP 19)),
 oP 21 (.bin .add (tP 20) (iP 10)),
 oP 2 (.mv (tP 21))])
 (.ret)) (.skip)))
 (.seq (.region [oP 2 (.mv (iP (-1)))])
 (.ret))))
def A134 : AFunc := { ntmps := 22, results := [.tmp 2], body := B134, coe := true, keep := 0 }
theorem tr134 : trFunc Tryz.prog M134 true Tryz.f134 = some A134 := by kernel_rfl
def M135 : Marks := { cut := fun _ => true, hd := fun | _ => [], ex := fun | _ => [], imm := fun | 4 => true | 9 => true | 23 => true | 48 => true | 76 => true | _ => false }
def B135 : ACode :=
 .seq (.region [oP 4 (.mv (.con (.slice 1 [])))])
 (.seq (.region [oP 6 (.mv (tP 1)),
 oP 7 (.cvt .u32 (tP 6)),
 oP 5 (.mv (tP 7))])
 (.block 0 (.seq (.region [oP 12 (.mv (tP 5)),
 oP 13 (.bin .leq (tP 12) (.con (.int .u32 2047))),
 oP 11 (.mv (tP 13))])
 (.cond (tP 11) (.seq (.region [oP 14 (.mv (tP 0)),
 oP 15 (.mv (tP 1)),
 oP 16 (.bin .shr (tP 15) (.con (.int .u64 6))),
 oP 17 (.cvt .u8 (tP 16)),
 oP 18 (.bin .or (.con (.int .u8 192)) (tP 17)),
 oP 19 (.mv (tP 1)),
 oP 20 (.cvt .u8 (tP 19)),
 oP 21 (.bin .and (tP 20) (.con (.int .u8 63))),
 oP 22 (.bin .or (.con (.int .u8 128)) (tP 21)),
 oP 23 (.lit true 5 1 2 [.int .u8 0] [(0, (tP 18)), (1, (tP 22))]),
 oP 24 (.app false 5 1 1 (tP 14) (tP 23)),
 oP 4 (.mv (tP 24))])
 (.ret)) (.seq (.seq (.region [oP 26 (.mv (tP 5)),
 oP 27 (.bin .lss (tP 26) (.con (.int .u32 55296))),
 oP 25 (.mv (tP 27))])
 (.cond (tP 25) (.skip) (.region [oP 28 (.mv (tP 5)),
 oP 29 (.bin .lss (.con (.int .u32 57343)) (tP 28)),
 oP 30 (.mv (tP 29)),
 gP 31 30 true (.mv (tP 5)),
 gP 32 30 true (.bin .leq (tP 31) (.con (.int .u32 65535))),
 oP 33 (.pick (tP 30) (tP 32) (bP false)),
 oP 25 (.mv (tP 33))])))
 (.cond (tP 25) (.seq (.region [oP 34 (.mv (tP 0)),
 oP 35 (.mv (tP 1)),
 oP 36 (.bin .shr (tP 35) (.con (.int .u64 12))),
 oP 37 (.cvt .u8 (tP 36)),
 oP 38 (.bin .or (.con (.int .u8 224)) (tP 37)),
 oP 39 (.mv (tP 1)),
 oP 40 (.bin .shr (tP 39) (.con (.int .u64 6))),
 oP 41 (.cvt .u8 (tP 40)),
 oP 42 (.bin .and (tP 41) (.con (.int .u8 63))),
 oP 43 (.bin .or (.con (.int .u8 128)) (tP 42)),
 oP 44 (.mv (tP 1)),
 oP 45 (.cvt .u8 (tP 44)),
 oP 46 (.bin .and (tP 45) (.con (.int .u8 63))),
 oP 47 (.bin .or (.con (.int .u8 128)) (tP 46)),
 oP 48 (.lit true 5 1 3 [.int .u8 0] [(0, (tP 38)), (1, (tP 43)), (2, (tP 47))]),
 oP 49 (.app false 5 1 1 (tP 34) (tP 48)),
 oP 4 (.mv (tP 49))])
 (.ret)) (.seq (.region [oP 51 (.mv (tP 5)),
 oP 52 (.bin .gtr (tP 51) (.con (.int .u32 65535))),
 oP 53 (.mv (tP 52)),
 gP 54 53 true (.mv (tP 5)),
 gP 55 53 true (.bin .leq (tP 54) (.con (.int .u32 1114111))),
 oP 56 (.pick (tP 53) (tP 55) (bP false)),
 oP 50 (.mv (tP 56))])
 (.cond (tP 50) (.seq (.region [oP 57 (.mv (tP 0)),
 oP 58 (.mv (tP 1)),
 oP 59 (.bin .shr (tP 58) (.con (.int .u64 18))),
 oP 60 (.cvt .u8 (tP 59)),
 oP 61 (.bin .or (.con (.int .u8 240)) (tP 60)),
 oP 62 (.mv (tP 1)),
 oP 63 (.bin .shr (tP 62) (.con (.int .u64 12))),
 oP 64 (.cvt .u8 (tP 63)),
 oP 65 (.bin .and (tP 64) (.con (.int .u8 63))),
 oP 66 (.bin .or (.con (.int .u8 128)) (tP 65)),
 oP 67 (.mv (tP 1)),
 oP 68 (.bin .shr (tP 67) (.con (.int .u64 6))),
 oP 69 (.cvt .u8 (tP 68)),
 oP 70 (.bin .and (tP 69) (.con (.int .u8 63))),
 oP 71 (.bin .or (.con (.int .u8 128)) (tP 70)),
 oP 72 (.mv (tP 1)),
 oP 73 (.cvt .u8 (tP 72)),
 oP 74 (.bin .and (tP 73) (.con (.int .u8 63))),
 oP 75 (.bin .or (.con (.int .u8 128)) (tP 74)),
 oP 76 (.lit true 5 1 4 [.int .u8 0] [(0, (tP 61)), (1, (tP 66)), (2, (tP 71)), (3, (tP 75))]),
 oP 77 (.app false 5 1 1 (tP 57) (tP 76)),
 oP 4 (.mv (tP 77))])
 (.ret)) (.seq (.region [oP 8 (.mv (tP 0)),
 oP 9 (.lit true 5 1 3 [.int .u8 0] [(0, (.con (.int .u8 239))), (1, (.con (.int .u8 191))), (2, (.con (.int .u8 189)))]),
 oP 10 (.app false 5 1 1 (tP 8) (tP 9)),
 oP 4 (.mv (tP 10))])
 (.ret))))))))))
def A135 : AFunc := { ntmps := 78, results := [.tmp 4], body := B135, coe := false, keep := 0 }
theorem tr135 : trFunc Tryz.prog M135 false Tryz.f135 = some A135 := by kernel_rfl
def ext : FuncId → Option (List DV → List Res → Option DOut) := fun | 21 => some (xItoa) | 22 => some (xFormat) | 24 => some (xJoin) | 33 => some (xSplit) | 35 => some (xParse 130) | 61 => some (xCopy 86) | _ => none
def env : Env := { af := fun | 3 => some A3 | 4 => some A4 | 6 => some A6 | 7 => some A7 | 8 => some A8 | 9 => some A9 | 10 => some A10 | 11 => some A11 | 12 => some A12 | 16 => some A16 | 17 => some A17 | 18 => some A18 | 19 => some A19 | 20 => some A20 | 23 => some A23 | 25 => some A25 | 26 => some A26 | 27 => some A27 | 28 => some A28 | 31 => some A31 | 32 => some A32 | 34 => some A34 | 36 => some A36 | 37 => some A37 | 38 => some A38 | 42 => some A42 | 43 => some A43 | 44 => some A44 | 46 => some A46 | 47 => some A47 | 48 => some A48 | 49 => some A49 | 50 => some A50 | 51 => some A51 | 52 => some A52 | 56 => some A56 | 63 => some A63 | 64 => some A64 | 65 => some A65 | 66 => some A66 | 67 => some A67 | 68 => some A68 | 69 => some A69 | 70 => some A70 | 71 => some A71 | 72 => some A72 | 73 => some A73 | 74 => some A74 | 75 => some A75 | 76 => some A76 | 85 => some A85 | 86 => some A86 | 87 => some A87 | 88 => some A88 | 96 => some A96 | 97 => some A97 | 98 => some A98 | 99 => some A99 | 100 => some A100 | 101 => some A101 | 102 => some A102 | 103 => some A103 | 104 => some A104 | 105 => some A105 | 112 => some A112 | 113 => some A113 | 114 => some A114 | 115 => some A115 | 116 => some A116 | 117 => some A117 | 118 => some A118 | 119 => some A119 | 120 => some A120 | 123 => some A123 | 124 => some A124 | 125 => some A125 | 130 => some A130 | 131 => some A131 | 132 => some A132 | 133 => some A133 | 134 => some A134 | 135 => some A135 | _ => none, ext := ext }
theorem env_ok {G : Glob} (hx : ExtOk Tryz.prog G ext) : EnvOk Tryz.prog G env where
  af := fun g F h => by
    unfold env at h
    simp only at h
    split at h
    · cases h; exact ⟨Tryz.f3, M3, true, by kernel_rfl, by kernel_rfl, tr3⟩
    · cases h; exact ⟨Tryz.f4, M4, true, by kernel_rfl, by kernel_rfl, tr4⟩
    · cases h; exact ⟨Tryz.f6, M6, true, by kernel_rfl, by kernel_rfl, tr6⟩
    · cases h; exact ⟨Tryz.f7, M7, true, by kernel_rfl, by kernel_rfl, tr7⟩
    · cases h; exact ⟨Tryz.f8, M8, true, by kernel_rfl, by kernel_rfl, tr8⟩
    · cases h; exact ⟨Tryz.f9, M9, true, by kernel_rfl, by kernel_rfl, tr9⟩
    · cases h; exact ⟨Tryz.f10, M10, true, by kernel_rfl, by kernel_rfl, tr10⟩
    · cases h; exact ⟨Tryz.f11, M11, true, by kernel_rfl, by kernel_rfl, tr11⟩
    · cases h; exact ⟨Tryz.f12, M12, true, by kernel_rfl, by kernel_rfl, tr12⟩
    · cases h; exact ⟨Tryz.f16, M16, true, by kernel_rfl, by kernel_rfl, tr16⟩
    · cases h; exact ⟨Tryz.f17, M17, true, by kernel_rfl, by kernel_rfl, tr17⟩
    · cases h; exact ⟨Tryz.f18, M18, true, by kernel_rfl, by kernel_rfl, tr18⟩
    · cases h; exact ⟨Tryz.f19, M19, true, by kernel_rfl, by kernel_rfl, tr19⟩
    · cases h; exact ⟨Tryz.f20, M20, true, by kernel_rfl, by kernel_rfl, tr20⟩
    · cases h; exact ⟨Tryz.f23, M23, true, by kernel_rfl, by kernel_rfl, tr23⟩
    · cases h; exact ⟨Tryz.f25, M25, true, by kernel_rfl, by kernel_rfl, tr25⟩
    · cases h; exact ⟨Tryz.f26, M26, true, by kernel_rfl, by kernel_rfl, tr26⟩
    · cases h; exact ⟨Tryz.f27, M27, true, by kernel_rfl, by kernel_rfl, tr27⟩
    · cases h; exact ⟨Tryz.f28, M28, true, by kernel_rfl, by kernel_rfl, tr28⟩
    · cases h; exact ⟨Tryz.f31, M31, true, by kernel_rfl, by kernel_rfl, tr31⟩
    · cases h; exact ⟨Tryz.f32, M32, true, by kernel_rfl, by kernel_rfl, tr32⟩
    · cases h; exact ⟨Tryz.f34, M34, true, by kernel_rfl, by kernel_rfl, tr34⟩
    · cases h; exact ⟨Tryz.f36, M36, true, by kernel_rfl, by kernel_rfl, tr36⟩
    · cases h; exact ⟨Tryz.f37, M37, true, by kernel_rfl, by kernel_rfl, tr37⟩
    · cases h; exact ⟨Tryz.f38, M38, true, by kernel_rfl, by kernel_rfl, tr38⟩
    · cases h; exact ⟨Tryz.f42, M42, true, by kernel_rfl, by kernel_rfl, tr42⟩
    · cases h; exact ⟨Tryz.f43, M43, true, by kernel_rfl, by kernel_rfl, tr43⟩
    · cases h; exact ⟨Tryz.f44, M44, true, by kernel_rfl, by kernel_rfl, tr44⟩
    · cases h; exact ⟨Tryz.f46, M46, true, by kernel_rfl, by kernel_rfl, tr46⟩
    · cases h; exact ⟨Tryz.f47, M47, true, by kernel_rfl, by kernel_rfl, tr47⟩
    · cases h; exact ⟨Tryz.f48, M48, true, by kernel_rfl, by kernel_rfl, tr48⟩
    · cases h; exact ⟨Tryz.f49, M49, true, by kernel_rfl, by kernel_rfl, tr49⟩
    · cases h; exact ⟨Tryz.f50, M50, true, by kernel_rfl, by kernel_rfl, tr50⟩
    · cases h; exact ⟨Tryz.f51, M51, true, by kernel_rfl, by kernel_rfl, tr51⟩
    · cases h; exact ⟨Tryz.f52, M52, true, by kernel_rfl, by kernel_rfl, tr52⟩
    · cases h; exact ⟨Tryz.f56, M56, true, by kernel_rfl, by kernel_rfl, tr56⟩
    · cases h; exact ⟨Tryz.f63, M63, true, by kernel_rfl, by kernel_rfl, tr63⟩
    · cases h; exact ⟨Tryz.f64, M64, true, by kernel_rfl, by kernel_rfl, tr64⟩
    · cases h; exact ⟨Tryz.f65, M65, true, by kernel_rfl, by kernel_rfl, tr65⟩
    · cases h; exact ⟨Tryz.f66, M66, true, by kernel_rfl, by kernel_rfl, tr66⟩
    · cases h; exact ⟨Tryz.f67, M67, true, by kernel_rfl, by kernel_rfl, tr67⟩
    · cases h; exact ⟨Tryz.f68, M68, true, by kernel_rfl, by kernel_rfl, tr68⟩
    · cases h; exact ⟨Tryz.f69, M69, true, by kernel_rfl, by kernel_rfl, tr69⟩
    · cases h; exact ⟨Tryz.f70, M70, true, by kernel_rfl, by kernel_rfl, tr70⟩
    · cases h; exact ⟨Tryz.f71, M71, true, by kernel_rfl, by kernel_rfl, tr71⟩
    · cases h; exact ⟨Tryz.f72, M72, true, by kernel_rfl, by kernel_rfl, tr72⟩
    · cases h; exact ⟨Tryz.f73, M73, true, by kernel_rfl, by kernel_rfl, tr73⟩
    · cases h; exact ⟨Tryz.f74, M74, true, by kernel_rfl, by kernel_rfl, tr74⟩
    · cases h; exact ⟨Tryz.f75, M75, true, by kernel_rfl, by kernel_rfl, tr75⟩
    · cases h; exact ⟨Tryz.f76, M76, true, by kernel_rfl, by kernel_rfl, tr76⟩
    · cases h; exact ⟨Tryz.f85, M85, true, by kernel_rfl, by kernel_rfl, tr85⟩
    · cases h; exact ⟨Tryz.f86, M86, true, by kernel_rfl, by kernel_rfl, tr86⟩
    · cases h; exact ⟨Tryz.f87, M87, true, by kernel_rfl, by kernel_rfl, tr87⟩
    · cases h; exact ⟨Tryz.f88, M88, true, by kernel_rfl, by kernel_rfl, tr88⟩
    · cases h; exact ⟨Tryz.f96, M96, true, by kernel_rfl, by kernel_rfl, tr96⟩
    · cases h; exact ⟨Tryz.f97, M97, true, by kernel_rfl, by kernel_rfl, tr97⟩
    · cases h; exact ⟨Tryz.f98, M98, true, by kernel_rfl, by kernel_rfl, tr98⟩
    · cases h; exact ⟨Tryz.f99, M99, true, by kernel_rfl, by kernel_rfl, tr99⟩
    · cases h; exact ⟨Tryz.f100, M100, true, by kernel_rfl, by kernel_rfl, tr100⟩
    · cases h; exact ⟨Tryz.f101, M101, true, by kernel_rfl, by kernel_rfl, tr101⟩
    · cases h; exact ⟨Tryz.f102, M102, true, by kernel_rfl, by kernel_rfl, tr102⟩
    · cases h; exact ⟨Tryz.f103, M103, true, by kernel_rfl, by kernel_rfl, tr103⟩
    · cases h; exact ⟨Tryz.f104, M104, true, by kernel_rfl, by kernel_rfl, tr104⟩
    · cases h; exact ⟨Tryz.f105, M105, true, by kernel_rfl, by kernel_rfl, tr105⟩
    · cases h; exact ⟨Tryz.f112, M112, true, by kernel_rfl, by kernel_rfl, tr112⟩
    · cases h; exact ⟨Tryz.f113, M113, true, by kernel_rfl, by kernel_rfl, tr113⟩
    · cases h; exact ⟨Tryz.f114, M114, true, by kernel_rfl, by kernel_rfl, tr114⟩
    · cases h; exact ⟨Tryz.f115, M115, true, by kernel_rfl, by kernel_rfl, tr115⟩
    · cases h; exact ⟨Tryz.f116, M116, true, by kernel_rfl, by kernel_rfl, tr116⟩
    · cases h; exact ⟨Tryz.f117, M117, true, by kernel_rfl, by kernel_rfl, tr117⟩
    · cases h; exact ⟨Tryz.f118, M118, true, by kernel_rfl, by kernel_rfl, tr118⟩
    · cases h; exact ⟨Tryz.f119, M119, true, by kernel_rfl, by kernel_rfl, tr119⟩
    · cases h; exact ⟨Tryz.f120, M120, true, by kernel_rfl, by kernel_rfl, tr120⟩
    · cases h; exact ⟨Tryz.f123, M123, false, by kernel_rfl, by kernel_rfl, tr123⟩
    · cases h; exact ⟨Tryz.f124, M124, true, by kernel_rfl, by kernel_rfl, tr124⟩
    · cases h; exact ⟨Tryz.f125, M125, true, by kernel_rfl, by kernel_rfl, tr125⟩
    · cases h; exact ⟨Tryz.f130, M130, true, by kernel_rfl, by kernel_rfl, tr130⟩
    · cases h; exact ⟨Tryz.f131, M131, true, by kernel_rfl, by kernel_rfl, tr131⟩
    · cases h; exact ⟨Tryz.f132, M132, true, by kernel_rfl, by kernel_rfl, tr132⟩
    · cases h; exact ⟨Tryz.f133, M133, true, by kernel_rfl, by kernel_rfl, tr133⟩
    · cases h; exact ⟨Tryz.f134, M134, true, by kernel_rfl, by kernel_rfl, tr134⟩
    · cases h; exact ⟨Tryz.f135, M135, false, by kernel_rfl, by kernel_rfl, tr135⟩
    · cases h
  ext := hx
end Go.Proofs.YtpemlmhggiaflaaGreatDoor.Codes
