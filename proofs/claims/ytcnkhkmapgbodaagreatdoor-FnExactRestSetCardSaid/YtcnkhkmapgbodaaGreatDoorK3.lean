/-
Texts of our own, put together: Ir.
-/
import Derived.Test.YtcnkhkmapgbodaaGreatDoorK2
import Derived.Test.YtcnkhkmapgbodaaGreatDoorProg
import Derived.KernelRfl
section
namespace Go.Proofs.YtcnkhkmapgbodaaGreatDoor.W
set_option linter.unusedVariables false
open Go.B
noncomputable def sq (t : Nat) : Bool := !Tryz.prog.stoodInHeld t && !Tryz.prog.eqGuardType Tryz.prog.depth t
theorem sqOk (t : Nat) (h : sq t = true) : Tryz.prog.stoodInHeld t = false ∧ Tryz.prog.eqGuardType Tryz.prog.depth t = false := by
  simpa [sq] using h
abbrev oP (d : Nat) (o : BOp) : BOper := ⟨some d, o, none, []⟩
abbrev oS (o : BOp) : BOper := ⟨none, o, none, []⟩
abbrev oG (d g : Nat) (b : Bool) (o : BOp) : BOper := ⟨some d, o, some (g, b), []⟩
abbrev rS (l : List BOper) (c : BCode) : BCode := .seq (.region l) c
def ir8 : BFun := ⟨[.tmp 4], rS [oP 4 (.mov (.c (.bool false)))] (rS [oP 14 (.mov (.t 0)), oP 15 (.mov (.t 1)), oP 16 (.call (.c (.fn 26 [])) [.t 14, .t 15]), oP 13 (.mov (.t 16)), oP 17 (.ext 0 (.t 13)), oP 18 (.ext 1 (.t 13)), oP 5 (.new 29 [.int .i64 0, .int .i64 0, .nils, .nils]), oS (.store none
 4 (.t 5) (.t 17)), oP 6 (.mov (.t 18))] (rS [oP 20 (.mov (.t 0)), oP 21 (.mov (.t 1)), oP 22 (.call (.c (.fn 27 [])) [.t 20, .t 21]), oP 19 (.mov (.t 22)), oP 23 (.ext 0 (.t 19)), oP 24 (.ext 1 (.t 19)), oP 7 (.new 29 [.int .i64 0, .int .i64 0, .nils, .nils]), oS (.store none 4 (.t 7) (.t 23)), oP 8
 (.mov (.t 24))] (.seq (rS [oP 25 (.load none (some 4) (.t 7)), oP 26 (.load none (some 4) (.t 5)), oP 27 (.call (.c (.fn 15 [])) [.t 25, .t 26]), oP 28 (.not (.t 27)), oP 29 (.mov (.t 28)), oG 30 29 false (.mov (.t 8)), oG 31 29 false (.mov (.t 6)), oG 32 29 false (.bin .neq (.t 30) (.t 31)), oP 33
 (.pick (.t 29) (.c (.bool true)) (.t 32))] (.cond (.t 33) (rS [oP 4 (.mov (.c (.bool false)))] .ret) .skip)) (rS [oP 9 (.mov (.c (.int .i64 1)))] (rS [oP 34 (.load none (some 4) (.t 7)), oP 35 (.mov (.t 9)), oP 36 (.call (.c (.fn 18 [])) [.t 34, .t 35]), oP 9 (.mov (.t 36))] (rS [oP 10 (.mov (.c
 (.int .i64 1)))] (rS [oP 37 (.load none (some 4) (.t 7)), oP 38 (.mov (.t 10)), oP 39 (.call (.c (.fn 19 [])) [.t 37, .t 38]), oP 10 (.mov (.t 39))] (.seq (rS [oP 40 (.mov (.t 10)), oP 41 (.bin .lss (.t 40) (.c (.int .i64 0)))] (.cond (.t 41) (rS [oP 4 (.mov (.c (.bool false)))] .ret) .skip)) (.seq
 (rS [oP 42 (.mov (.t 10)), oP 43 (.mov (.t 9)), oP 44 (.bin .neq (.t 42) (.t 43))] (.cond (.t 44) (rS [oP 4 (.mov (.c (.bool false)))] .ret) .skip)) (rS [oP 46 (.mov (.t 0)), oP 47 (.mov (.t 1)), oP 48 (.call (.c (.fn 27 [])) [.t 46, .t 47]), oP 45 (.mov (.t 48)), oP 49 (.ext 0 (.t 45)), oP 50 (.ext
 1 (.t 45)), oP 11 (.new 29 [.int .i64 0, .int .i64 0, .nils, .nils]), oS (.store none 4 (.t 11) (.t 49)), oP 12 (.mov (.t 50))] (.seq (rS [oP 51 (.load none (some 4) (.t 11)), oP 52 (.load none (some 4) (.t 5)), oP 53 (.call (.c (.fn 15 [])) [.t 51, .t 52]), oP 54 (.not (.t 53)), oP 55 (.mov (.t
 54)), oG 56 55 false (.mov (.t 12)), oG 57 55 false (.mov (.t 6)), oG 58 55 false (.bin .neq (.t 56) (.t 57)), oP 59 (.pick (.t 55) (.c (.bool true)) (.t 58))] (.cond (.t 59) (rS [oP 4 (.mov (.c (.bool false)))] .ret) .skip)) (rS [oP 10 (.mov (.c (.int .i64 1)))] (rS [oP 60 (.load none (some 4) (.t
 7)), oP 61 (.mov (.t 10)), oP 62 (.call (.c (.fn 19 [])) [.t 60, .t 61]), oP 10 (.mov (.t 62))] (.seq (rS [oP 63 (.mov (.t 10)), oP 64 (.bin .lss (.t 63) (.c (.int .i64 0)))] (.cond (.t 64) (rS [oP 4 (.mov (.c (.bool false)))] .ret) .skip)) (.seq (rS [oP 65 (.mov (.t 10)), oP 66 (.mov (.t 9)), oP 67
 (.bin .neq (.t 65) (.t 66))] (.cond (.t 67) (rS [oP 4 (.mov (.c (.bool false)))] .ret) .skip)) (rS [oP 4 (.mov (.c (.bool true)))] .ret))))))))))))))))⟩
theorem irOk8 : compFun Tryz.prog.underlying Tryz.prog.info? sq Tryz.f8 = some ir8 := by kernel_rfl
def ir15 : BFun := ⟨[.tmp 4], rS [oP 2 (.box 29 (.t 0)), oP 3 (.box 29 (.t 1)), oP 4 (.mov (.c (.bool false)))] (.seq (rS [oP 5 (.lea 0 (.t 2)), oP 6 (.load none none (.t 5)), oP 7 (.lea 0 (.t 3)), oP 8 (.load none none (.t 7)), oP 9 (.bin .neq (.t 6) (.t 8))] (.cond (.t 9) (rS [oP 4 (.mov (.c (.bool
 false)))] .ret) .skip)) (.seq (rS [oP 10 (.lea 1 (.t 2)), oP 11 (.load none none (.t 10)), oP 12 (.lea 1 (.t 3)), oP 13 (.load none none (.t 12)), oP 14 (.bin .neq (.t 11) (.t 13))] (.cond (.t 14) (rS [oP 4 (.mov (.c (.bool false)))] .ret) .skip)) (.seq (rS [oP 15 (.lea 2 (.t 2)), oP 16 (.load none
 none (.t 15)), oP 17 (.lea 2 (.t 3)), oP 18 (.load none none (.t 17)), oP 19 (.call (.c (.fn 40 [])) [.t 16, .t 18]), oP 20 (.not (.t 19))] (.cond (.t 20) (rS [oP 4 (.mov (.c (.bool false)))] .ret) .skip)) (.seq (rS [oP 21 (.lea 3 (.t 2)), oP 22 (.load none none (.t 21)), oP 23 (.lea 3 (.t 3)), oP
 24 (.load none none (.t 23)), oP 25 (.call (.c (.fn 41 [])) [.t 22, .t 24]), oP 26 (.not (.t 25))] (.cond (.t 26) (rS [oP 4 (.mov (.c (.bool false)))] .ret) .skip)) (rS [oP 4 (.mov (.c (.bool true)))] .ret)))))⟩
theorem irOk15 : compFun Tryz.prog.underlying Tryz.prog.info? sq Tryz.f15 = some ir15 := by kernel_rfl
def ir18 : BFun := ⟨[.tmp 4], rS [oP 2 (.box 29 (.t 0)), oP 4 (.mov (.c (.int .i64 0)))] (rS [oP 5 (.lea 2 (.t 2)), oP 6 (.load none none (.t 5)), oP 7 (.mov (.t 1)), oP 8 (.call (.c (.fn 52 [])) [.t 6, .t 7]), oP 1 (.mov (.t 8))] (rS [oP 9 (.lea 3 (.t 2)), oP 10 (.load none none (.t 9)), oP 11 (.mov
 (.t 1)), oP 12 (.call (.c (.fn 53 [])) [.t 10, .t 11]), oP 1 (.mov (.t 12))] (rS [oP 13 (.mov (.t 1)), oP 4 (.mov (.t 13))] .ret)))⟩
theorem irOk18 : compFun Tryz.prog.underlying Tryz.prog.info? sq Tryz.f18 = some ir18 := by kernel_rfl
def ir19 : BFun := ⟨[.tmp 4], rS [oP 2 (.box 29 (.t 0)), oP 4 (.mov (.c (.int .i64 0)))] (rS [oP 5 (.lea 2 (.t 2)), oP 6 (.load none none (.t 5)), oP 7 (.mov (.t 1)), oP 8 (.call (.c (.fn 54 [])) [.t 6, .t 7]), oP 1 (.mov (.t 8))] (.seq (rS [oP 9 (.mov (.t 1)), oP 10 (.bin .lss (.t 9) (.c (.int .i64
 0)))] (.cond (.t 10) (rS [oP 4 (.mov (.c (.int .i64 (-1))))] .ret) .skip)) (rS [oP 11 (.lea 3 (.t 2)), oP 12 (.load none none (.t 11)), oP 13 (.mov (.t 1)), oP 14 (.call (.c (.fn 55 [])) [.t 12, .t 13]), oP 1 (.mov (.t 14))] (.seq (rS [oP 15 (.mov (.t 1)), oP 16 (.bin .lss (.t 15) (.c (.int .i64
 0)))] (.cond (.t 16) (rS [oP 4 (.mov (.c (.int .i64 (-1))))] .ret) .skip)) (rS [oP 17 (.mov (.t 1)), oP 4 (.mov (.t 17))] .ret)))))⟩
theorem irOk19 : compFun Tryz.prog.underlying Tryz.prog.info? sq Tryz.f19 = some ir19 := by kernel_rfl
def ir26 : BFun := ⟨[.cell 4 (some 4), .tmp 5], rS [oP 4 (.new 29 [.int .i64 0, .int .i64 0, .nils, .nils]), oP 5 (.mov (.c (.int .i64 0)))] (.seq (rS [oP 8 (.mov (.t 0)), oP 9 (.call (.c (.fn 56 [])) [.t 8, .c (.int .i64 1), .c (.int .i64 20)]), oP 10 (.not (.t 9)), oP 11 (.mov (.t 10)), oG 12 11
 false (.mov (.t 1)), oG 13 11 false (.mov (.t 0)), oG 14 11 false (.bin .sub (.t 13) (.c (.int .i64 1))), oG 15 11 false (.call (.c (.fn 56 [])) [.t 12, .c (.int .i64 0), .t 14]), oG 16 11 false (.not (.t 15)), oP 17 (.pick (.t 11) (.c (.bool true)) (.t 16))] (.cond (.t 17) (rS [oP 18 (.build [.int
 .i64 0, .int .i64 0, .nils, .nils] []), oS (.store none 4 (.t 4) (.t 18)), oP 5 (.mov (.c (.int .i64 2)))] .ret) .skip)) (rS [oP 20 (.mov (.t 0)), oP 21 (.neg (.t 20)), oP 22 (.mk 2 2 [.int .i64 0, .int .i64 0] [(0, 1, .c (.int .i64 1)), (1, 1, .t 21)]), oP 23 (.mov (.t 1)), oP 24 (.call (.c (.fn 61
 [])) [.c (.int .i64 1), .t 22, .t 23]), oP 19 (.mov (.t 24)), oP 25 (.ext 0 (.t 19)), oP 26 (.ext 1 (.t 19)), oP 6 (.new 29 [.int .i64 0, .int .i64 0, .nils, .nils]), oS (.store none 4 (.t 6) (.t 25)), oP 7 (.mov (.t 26))] (.seq (rS [oP 27 (.mov (.t 7)), oP 28 (.bin .neq (.t 27) (.c (.int .i64 0)))]
 (.cond (.t 28) (rS [oP 29 (.build [.int .i64 0, .int .i64 0, .nils, .nils] []), oP 30 (.mov (.t 7)), oS (.store none 4 (.t 4) (.t 29)), oP 5 (.mov (.t 30))] .ret) .skip)) (rS [oP 31 (.load none (some 4) (.t 6)), oP 32 (.call (.c (.fn 46 [])) [.t 31, .c (.int .i64 1)]), oP 33 (.ext 0 (.t 32)), oP 34
 (.ext 1 (.t 32)), oS (.store none 4 (.t 4) (.t 33)), oP 5 (.mov (.t 34))] .ret))))⟩
theorem irOk26 : compFun Tryz.prog.underlying Tryz.prog.info? sq Tryz.f26 = some ir26 := by kernel_rfl
def ir27 : BFun := ⟨[.cell 4 (some 4), .tmp 5], rS [oP 4 (.new 29 [.int .i64 0, .int .i64 0, .nils, .nils]), oP 5 (.mov (.c (.int .i64 0)))] (.seq (rS [oP 8 (.mov (.t 0)), oP 9 (.call (.c (.fn 58 [])) [.t 8, .c (.int .i64 1), .c (.int .i64 20)]), oP 10 (.not (.t 9)), oP 11 (.mov (.t 10)), oG 12 11
 false (.mov (.t 1)), oG 13 11 false (.mov (.t 0)), oG 14 11 false (.bin .sub (.t 13) (.c (.int .i64 1))), oG 15 11 false (.call (.c (.fn 58 [])) [.t 12, .c (.int .i64 0), .t 14]), oG 16 11 false (.not (.t 15)), oP 17 (.pick (.t 11) (.c (.bool true)) (.t 16))] (.cond (.t 17) (rS [oP 18 (.build [.int
 .i64 0, .int .i64 0, .nils, .nils] []), oS (.store none 4 (.t 4) (.t 18)), oP 5 (.mov (.c (.int .i64 2)))] .ret) .skip)) (rS [oP 20 (.mov (.t 0)), oP 21 (.neg (.t 20)), oP 22 (.mk 2 2 [.int .i64 0, .int .i64 0] [(0, 1, .c (.int .i64 1)), (1, 1, .t 21)]), oP 23 (.mov (.t 1)), oP 24 (.call (.c (.fn 64
 [])) [.c (.int .i64 1), .t 22, .t 23]), oP 19 (.mov (.t 24)), oP 25 (.ext 0 (.t 19)), oP 26 (.ext 1 (.t 19)), oP 6 (.new 29 [.int .i64 0, .int .i64 0, .nils, .nils]), oS (.store none 4 (.t 6) (.t 25)), oP 7 (.mov (.t 26))] (.seq (rS [oP 27 (.mov (.t 7)), oP 28 (.bin .neq (.t 27) (.c (.int .i64 0)))]
 (.cond (.t 28) (rS [oP 29 (.build [.int .i64 0, .int .i64 0, .nils, .nils] []), oP 30 (.mov (.t 7)), oS (.store none 4 (.t 4) (.t 29)), oP 5 (.mov (.t 30))] .ret) .skip)) (rS [oP 31 (.load none (some 4) (.t 6)), oP 32 (.call (.c (.fn 50 [])) [.t 31, .c (.int .i64 1)]), oP 33 (.ext 0 (.t 32)), oP 34
 (.ext 1 (.t 32)), oS (.store none 4 (.t 4) (.t 33)), oP 5 (.mov (.t 34))] .ret))))⟩
theorem irOk27 : compFun Tryz.prog.underlying Tryz.prog.info? sq Tryz.f27 = some ir27 := by kernel_rfl
def ir40 : BFun := ⟨[.tmp 4], rS [oP 4 (.mov (.c (.bool false)))] (.seq (rS [oP 6 (.mov (.t 0)), oP 7 (.len 1 (.t 6)), oP 8 (.mov (.t 1)), oP 9 (.len 1 (.t 8)), oP 10 (.bin .neq (.t 7) (.t 9))] (.cond (.t 10) (rS [oP 4 (.mov (.c (.bool false)))] .ret) .skip)) (.seq (rS [oP 5 (.mov (.c (.int .i64
 0)))] (.block 0 (.loop (.seq (rS [oP 11 (.mov (.t 5)), oP 12 (.mov (.t 0)), oP 13 (.len 1 (.t 12)), oP 14 (.bin .lss (.t 11) (.t 13))] (.cond (.t 14) .skip (.exit 0))) (.seq (.block 1 (rS [oP 17 (.mov (.t 0)), oP 18 (.mov (.t 5)), oP 19 (.idx 1 (.t 17) (.t 18)), oP 20 (.load none none (.t 19)), oP
 21 (.mov (.t 1)), oP 22 (.mov (.t 5)), oP 23 (.idx 1 (.t 21) (.t 22)), oP 24 (.load none none (.t 23)), oP 25 (.beq true (.t 20) (.t 24))] (.cond (.t 25) (rS [oP 4 (.mov (.c (.bool false)))] .ret) .skip))) (.region [oP 15 (.mov (.t 5)), oP 16 (.bin .add (.t 15) (.c (.int .i64 1))), oP 5 (.mov (.t
 16))])))))) (rS [oP 4 (.mov (.c (.bool true)))] .ret)))⟩
theorem irOk40 : compFun Tryz.prog.underlying Tryz.prog.info? sq Tryz.f40 = some ir40 := by kernel_rfl
def ir41 : BFun := ⟨[.tmp 4], rS [oP 4 (.mov (.c (.bool false)))] (.seq (rS [oP 6 (.mov (.t 0)), oP 7 (.len 1 (.t 6)), oP 8 (.mov (.t 1)), oP 9 (.len 1 (.t 8)), oP 10 (.bin .neq (.t 7) (.t 9))] (.cond (.t 10) (rS [oP 4 (.mov (.c (.bool false)))] .ret) .skip)) (.seq (rS [oP 5 (.mov (.c (.int .i64
 0)))] (.block 0 (.loop (.seq (rS [oP 11 (.mov (.t 5)), oP 12 (.mov (.t 0)), oP 13 (.len 1 (.t 12)), oP 14 (.bin .lss (.t 11) (.t 13))] (.cond (.t 14) .skip (.exit 0))) (.seq (.block 1 (rS [oP 17 (.mov (.t 0)), oP 18 (.mov (.t 5)), oP 19 (.idx 1 (.t 17) (.t 18)), oP 20 (.load none none (.t 19)), oP
 21 (.mov (.t 1)), oP 22 (.mov (.t 5)), oP 23 (.idx 1 (.t 21) (.t 22)), oP 24 (.load none none (.t 23)), oP 25 (.call (.c (.fn 82 [])) [.t 20, .t 24]), oP 26 (.not (.t 25))] (.cond (.t 26) (rS [oP 4 (.mov (.c (.bool false)))] .ret) .skip))) (.region [oP 15 (.mov (.t 5)), oP 16 (.bin .add (.t 15) (.c
 (.int .i64 1))), oP 5 (.mov (.t 16))])))))) (rS [oP 4 (.mov (.c (.bool true)))] .ret)))⟩
theorem irOk41 : compFun Tryz.prog.underlying Tryz.prog.info? sq Tryz.f41 = some ir41 := by kernel_rfl
def ir42 : BFun := ⟨[.tmp 2], rS [oP 2 (.mov (.c (.bool false)))] (rS [oP 3 (.mov (.t 0)), oP 4 (.nilck (.t 3)), oP 5 (.lea 2 (.t 4)), oP 6 (.load none none (.t 5)), oP 7 (.len 1 (.t 6)), oP 8 (.bin .leq (.t 7) (.c (.int .i64 150))), oP 9 (.mov (.t 8)), oG 10 9 true (.mov (.t 0)), oG 11 9 true (.call
 (.c (.fn 83 [])) [.t 10]), oP 12 (.pick (.t 9) (.t 11) (.c (.bool false))), oP 2 (.mov (.t 12))] .ret)⟩
theorem irOk42 : compFun Tryz.prog.underlying Tryz.prog.info? sq Tryz.f42 = some ir42 := by kernel_rfl
def ir45 : BFun := ⟨[.cell 4 (some 4), .tmp 5], rS [oP 2 (.box 29 (.t 0)), oP 3 (.box 29 (.t 1)), oP 4 (.new 29 [.int .i64 0, .int .i64 0, .nils, .nils]), oP 5 (.mov (.c (.int .i64 0)))] (rS [oP 6 (.call (.c (.fn 88 [])) [.t 2, .t 3, .c (.int .i64 1)]), oP 7 (.ext 0 (.t 6)), oP 8 (.ext 1 (.t 6)), oS
 (.store none 4 (.t 4) (.t 7)), oP 5 (.mov (.t 8))] .ret)⟩
theorem irOk45 : compFun Tryz.prog.underlying Tryz.prog.info? sq Tryz.f45 = some ir45 := by kernel_rfl
def ir46 : BFun := ⟨[.cell 4 (some 4), .tmp 5], rS [oP 2 (.box 29 (.t 0)), oP 4 (.new 29 [.int .i64 0, .int .i64 0, .nils, .nils]), oP 5 (.mov (.c (.int .i64 0)))] (.seq (rS [oP 7 (.mov (.t 1)), oP 8 (.call (.c (.fn 89 [])) [.t 2, .t 7]), oP 6 (.mov (.t 8))] (rS [oP 9 (.mov (.t 6)), oP 10 (.bin .neq
 (.t 9) (.c (.int .i64 0)))] (.cond (.t 10) (rS [oP 11 (.build [.int .i64 0, .int .i64 0, .nils, .nils] []), oP 12 (.mov (.t 6)), oS (.store none 4 (.t 4) (.t 11)), oP 5 (.mov (.t 12))] .ret) .skip))) (rS [oP 13 (.mov (.t 1)), oP 14 (.call (.c (.fn 90 [])) [.t 2, .t 13]), oP 15 (.ext 0 (.t 14)), oP
 16 (.ext 1 (.t 14)), oS (.store none 4 (.t 4) (.t 15)), oP 5 (.mov (.t 16))] .ret))⟩
theorem irOk46 : compFun Tryz.prog.underlying Tryz.prog.info? sq Tryz.f46 = some ir46 := by kernel_rfl
def ir47 : BFun := ⟨[.cell 4 (some 4), .tmp 5], rS [oP 2 (.box 29 (.t 0)), oP 4 (.new 29 [.int .i64 0, .int .i64 0, .nils, .nils]), oP 5 (.mov (.c (.int .i64 0)))] (.seq (rS [oP 10 (.mov (.t 1)), oP 11 (.len 1 (.t 10)), oP 12 (.mov (.c (.int .i64 0)))] (.block 0 (.loop (rS [oP 13 (.bin .lss (.t 12)
 (.t 11))] (.seq (.cond (.t 13) .skip (.exit 0)) (.seq (.block 1 (rS [oP 14 (.idx 1 (.t 10) (.t 12)), oP 15 (.load none none (.t 14)), oP 7 (.mov (.t 15))] (rS [oP 17 (.load none (some 4) (.t 2)), oP 18 (.mov (.t 7)), oP 19 (.call (.c (.fn 91 [])) [.t 17, .t 18]), oP 16 (.mov (.t 19)), oP 20 (.ext 0
 (.t 16)), oP 21 (.ext 1 (.t 16)), oP 8 (.new 29 [.int .i64 0, .int .i64 0, .nils, .nils]), oS (.store none 4 (.t 8) (.t 20)), oP 9 (.mov (.t 21))] (.seq (rS [oP 22 (.mov (.t 9)), oP 23 (.bin .neq (.t 22) (.c (.int .i64 0)))] (.cond (.t 23) (rS [oP 24 (.build [.int .i64 0, .int .i64 0, .nils, .nils]
 []), oP 25 (.mov (.t 9)), oS (.store none 4 (.t 4) (.t 24)), oP 5 (.mov (.t 25))] .ret) .skip)) (.region [oP 26 (.load none (some 4) (.t 8)), oS (.store none 4 (.t 2) (.t 26))]))))) (.region [oP 27 (.bin .add (.t 12) (.c (.int .i64 1))), oP 12 (.mov (.t 27))]))))))) (rS [oP 28 (.load none (some 4)
 (.t 2)), oS (.store none 4 (.t 4) (.t 28)), oP 5 (.mov (.c (.int .i64 0)))] .ret))⟩
theorem irOk47 : compFun Tryz.prog.underlying Tryz.prog.info? sq Tryz.f47 = some ir47 := by kernel_rfl
def ir48 : BFun := ⟨[.cell 8 (some 4), .tmp 9], rS [oP 4 (.box 29 (.t 0)), oP 6 (.box 29 (.t 2)), oP 8 (.new 29 [.int .i64 0, .int .i64 0, .nils, .nils]), oP 9 (.mov (.c (.int .i64 0)))] (.seq (.block 0 (rS [oP 11 (.mov (.t 1)), oP 12 (.bin .neq (.t 11) (.c (.int .i64 0))), oP 10 (.mov (.t 12))]
 (.cond (.t 10) (rS [oP 13 (.build [.int .i64 0, .int .i64 0, .nils, .nils] []), oP 14 (.mov (.t 1)), oS (.store none 4 (.t 8) (.t 13)), oP 9 (.mov (.t 14))] .ret) (rS [oP 16 (.mov (.t 3)), oP 17 (.bin .neq (.t 16) (.c (.int .i64 0))), oP 15 (.mov (.t 17))] (.cond (.t 15) (rS [oP 18 (.build [.int
 .i64 0, .int .i64 0, .nils, .nils] []), oP 19 (.mov (.t 3)), oS (.store none 4 (.t 8) (.t 18)), oP 9 (.mov (.t 19))] .ret) .skip))))) (rS [oP 20 (.load none (some 4) (.t 4)), oP 21 (.load none (some 4) (.t 6)), oP 22 (.call (.c (.fn 92 [])) [.t 20, .t 21]), oP 23 (.ext 0 (.t 22)), oP 24 (.ext 1 (.t
 22)), oS (.store none 4 (.t 8) (.t 23)), oP 9 (.mov (.t 24))] .ret))⟩
theorem irOk48 : compFun Tryz.prog.underlying Tryz.prog.info? sq Tryz.f48 = some ir48 := by kernel_rfl
def ir50 : BFun := ⟨[.cell 4 (some 4), .tmp 5], rS [oP 2 (.box 29 (.t 0)), oP 4 (.new 29 [.int .i64 0, .int .i64 0, .nils, .nils]), oP 5 (.mov (.c (.int .i64 0)))] (.seq (rS [oP 9 (.load none (some 4) (.t 2)), oP 10 (.mov (.t 1)), oP 11 (.call (.c (.fn 93 [])) [.t 9, .t 10]), oP 6 (.mov (.t 11))] (rS
 [oP 12 (.mov (.t 6)), oP 13 (.bin .neq (.t 12) (.c (.int .i64 0)))] (.cond (.t 13) (rS [oP 14 (.build [.int .i64 0, .int .i64 0, .nils, .nils] []), oP 15 (.mov (.t 6)), oS (.store none 4 (.t 4) (.t 14)), oP 5 (.mov (.t 15))] .ret) .skip))) (rS [oP 17 (.load none (some 4) (.t 2)), oP 18 (.call (.c
 (.fn 75 [])) [.t 17]), oP 19 (.mov (.t 1)), oP 20 (.call (.c (.fn 94 [])) [.t 18, .t 19]), oP 16 (.mov (.t 20)), oP 21 (.ext 0 (.t 16)), oP 22 (.ext 1 (.t 16)), oP 7 (.new 80 [.int .i64 0, .int .i64 0, .nils, .nils]), oS (.store none 4 (.t 7) (.t 21)), oP 8 (.mov (.t 22))] (.seq (rS [oP 23 (.mov (.t
 8)), oP 24 (.not (.t 23))] (.cond (.t 24) (rS [oP 25 (.build [.int .i64 0, .int .i64 0, .nils, .nils] []), oS (.store none 4 (.t 4) (.t 25)), oP 5 (.mov (.c (.int .i64 3)))] .ret) .skip)) (rS [oP 26 (.load none (some 4) (.t 7)), oP 27 (.call (.c (.fn 95 [])) [.t 26]), oP 28 (.ext 0 (.t 27)), oP 29
 (.ext 1 (.t 27)), oS (.store none 4 (.t 4) (.t 28)), oP 5 (.mov (.t 29))] .ret))))⟩
theorem irOk50 : compFun Tryz.prog.underlying Tryz.prog.info? sq Tryz.f50 = some ir50 := by kernel_rfl
def ir52 : BFun := ⟨[.tmp 4], rS [oP 4 (.mov (.c (.int .i64 0)))] (.seq (rS [oP 5 (.mov (.c (.int .i64 0)))] (.block 0 (.loop (.seq (rS [oP 6 (.mov (.t 5)), oP 7 (.mov (.t 0)), oP 8 (.len 1 (.t 7)), oP 9 (.bin .lss (.t 6) (.t 8))] (.cond (.t 9) .skip (.exit 0))) (.seq (.block 1 (rS [oP 12 (.mov (.t
 0)), oP 13 (.mov (.t 5)), oP 14 (.mov (.t 1)), oP 15 (.bin .rem (.t 14) (.c (.int .i64 3))), oP 16 (.bin .eql (.t 15) (.c (.int .i64 0))), oP 17 (.idx 1 (.t 12) (.t 13)), oS (.store none 1 (.t 17) (.t 16))] (.region [oP 18 (.mov (.t 1)), oP 19 (.bin .add (.t 18) (.c (.int .i64 1))), oP 1 (.mov (.t
 19))]))) (.region [oP 10 (.mov (.t 5)), oP 11 (.bin .add (.t 10) (.c (.int .i64 1))), oP 5 (.mov (.t 11))])))))) (rS [oP 20 (.mov (.t 1)), oP 4 (.mov (.t 20))] .ret))⟩
theorem irOk52 : compFun Tryz.prog.underlying Tryz.prog.info? sq Tryz.f52 = some ir52 := by kernel_rfl
def ir53 : BFun := ⟨[.tmp 4], rS [oP 4 (.mov (.c (.int .i64 0)))] (.seq (rS [oP 5 (.mov (.c (.int .i64 0)))] (.block 0 (.loop (.seq (rS [oP 6 (.mov (.t 5)), oP 7 (.mov (.t 0)), oP 8 (.len 1 (.t 7)), oP 9 (.bin .lss (.t 6) (.t 8))] (.cond (.t 9) .skip (.exit 0))) (.seq (.block 1 (.region [oP 12 (.mov
 (.t 0)), oP 13 (.mov (.t 5)), oP 14 (.idx 1 (.t 12) (.t 13)), oP 15 (.load none none (.t 14)), oP 16 (.mov (.t 1)), oP 17 (.call (.c (.fn 96 [])) [.t 15, .t 16]), oP 1 (.mov (.t 17))])) (.region [oP 10 (.mov (.t 5)), oP 11 (.bin .add (.t 10) (.c (.int .i64 1))), oP 5 (.mov (.t 11))])))))) (rS [oP 18
 (.mov (.t 1)), oP 4 (.mov (.t 18))] .ret))⟩
theorem irOk53 : compFun Tryz.prog.underlying Tryz.prog.info? sq Tryz.f53 = some ir53 := by kernel_rfl
def ir54 : BFun := ⟨[.tmp 4], rS [oP 4 (.mov (.c (.int .i64 0)))] (.seq (rS [oP 5 (.mov (.c (.int .i64 0)))] (.block 0 (.loop (.seq (rS [oP 6 (.mov (.t 5)), oP 7 (.mov (.t 0)), oP 8 (.len 1 (.t 7)), oP 9 (.bin .lss (.t 6) (.t 8))] (.cond (.t 9) .skip (.exit 0))) (.seq (.block 1 (.seq (rS [oP 12 (.mov
 (.t 0)), oP 13 (.mov (.t 5)), oP 14 (.idx 1 (.t 12) (.t 13)), oP 15 (.load none none (.t 14)), oP 16 (.mov (.t 1)), oP 17 (.bin .rem (.t 16) (.c (.int .i64 3))), oP 18 (.bin .eql (.t 17) (.c (.int .i64 0))), oP 19 (.beq true (.t 15) (.t 18))] (.cond (.t 19) (rS [oP 4 (.mov (.c (.int .i64 (-1))))]
 .ret) .skip)) (.region [oP 20 (.mov (.t 1)), oP 21 (.bin .add (.t 20) (.c (.int .i64 1))), oP 1 (.mov (.t 21))]))) (.region [oP 10 (.mov (.t 5)), oP 11 (.bin .add (.t 10) (.c (.int .i64 1))), oP 5 (.mov (.t 11))])))))) (rS [oP 22 (.mov (.t 1)), oP 4 (.mov (.t 22))] .ret))⟩
theorem irOk54 : compFun Tryz.prog.underlying Tryz.prog.info? sq Tryz.f54 = some ir54 := by kernel_rfl
def ir55 : BFun := ⟨[.tmp 4], rS [oP 4 (.mov (.c (.int .i64 0)))] (.seq (rS [oP 5 (.mov (.c (.int .i64 0)))] (.block 0 (.loop (.seq (rS [oP 6 (.mov (.t 5)), oP 7 (.mov (.t 0)), oP 8 (.len 1 (.t 7)), oP 9 (.bin .lss (.t 6) (.t 8))] (.cond (.t 9) .skip (.exit 0))) (.seq (.block 1 (rS [oP 12 (.mov (.t
 0)), oP 13 (.mov (.t 5)), oP 14 (.idx 1 (.t 12) (.t 13)), oP 15 (.load none none (.t 14)), oP 16 (.mov (.t 1)), oP 17 (.call (.c (.fn 97 [])) [.t 15, .t 16]), oP 1 (.mov (.t 17))] (rS [oP 18 (.mov (.t 1)), oP 19 (.bin .lss (.t 18) (.c (.int .i64 0)))] (.cond (.t 19) (rS [oP 4 (.mov (.c (.int .i64
 (-1))))] .ret) .skip)))) (.region [oP 10 (.mov (.t 5)), oP 11 (.bin .add (.t 10) (.c (.int .i64 1))), oP 5 (.mov (.t 11))])))))) (rS [oP 20 (.mov (.t 1)), oP 4 (.mov (.t 20))] .ret))⟩
theorem irOk55 : compFun Tryz.prog.underlying Tryz.prog.info? sq Tryz.f55 = some ir55 := by kernel_rfl
def ir56 : BFun := ⟨[.tmp 6], rS [oP 6 (.mov (.c (.bool false)))] (rS [oP 7 (.mov (.t 0)), oP 8 (.mov (.t 1)), oP 9 (.bin .geq (.t 7) (.t 8)), oP 10 (.mov (.t 9)), oG 11 10 true (.mov (.t 0)), oG 12 10 true (.mov (.t 2)), oG 13 10 true (.bin .leq (.t 11) (.t 12)), oP 14 (.pick (.t 10) (.t 13) (.c
 (.bool false))), oP 6 (.mov (.t 14))] .ret)⟩
theorem irOk56 : compFun Tryz.prog.underlying Tryz.prog.info? sq Tryz.f56 = some ir56 := by kernel_rfl
def ir58 : BFun := ⟨[.tmp 6], rS [oP 6 (.mov (.c (.bool false)))] (rS [oP 7 (.mov (.t 1)), oP 8 (.mov (.t 0)), oP 9 (.bin .leq (.t 7) (.t 8)), oP 10 (.mov (.t 9)), oG 11 10 true (.mov (.t 0)), oG 12 10 true (.mov (.t 2)), oG 13 10 true (.bin .leq (.t 11) (.t 12)), oP 14 (.pick (.t 10) (.t 13) (.c
 (.bool false))), oP 6 (.mov (.t 14))] .ret)⟩
theorem irOk58 : compFun Tryz.prog.underlying Tryz.prog.info? sq Tryz.f58 = some ir58 := by kernel_rfl
def ir61 : BFun := ⟨[.cell 6 (some 4), .tmp 7], rS [oP 6 (.new 29 [.int .i64 0, .int .i64 0, .nils, .nils]), oP 7 (.mov (.c (.int .i64 0)))] (.seq (rS [oP 16 (.mov (.t 0)), oP 17 (.bin .neq (.t 16) (.c (.int .i64 1))), oP 18 (.mov (.t 17)), oG 19 18 true (.mov (.t 0)), oG 20 18 true (.bin .neq (.t
 19) (.c (.int .i64 2))), oP 21 (.pick (.t 18) (.t 20) (.c (.bool false))), oP 22 (.mov (.t 21)), oG 23 22 false (.mov (.t 1)), oG 24 22 false (.len 1 (.t 23)), oG 25 22 false (.call (.c (.fn 56 [])) [.t 24, .c (.int .i64 1), .c (.int .i64 3)]), oG 26 22 false (.not (.t 25)), oP 27 (.pick (.t 22) (.c
 (.bool true)) (.t 26)), oP 28 (.mov (.t 27)), oG 29 28 false (.mov (.t 2)), oG 30 28 false (.call (.c (.fn 56 [])) [.t 29, .c (.int .i64 (-1000)), .c (.int .i64 1000)]), oG 31 28 false (.not (.t 30)), oP 32 (.pick (.t 28) (.c (.bool true)) (.t 31))] (.cond (.t 32) (rS [oP 33 (.build [.int .i64 0,
 .int .i64 0, .nils, .nils] []), oS (.store none 4 (.t 6) (.t 33)), oP 7 (.mov (.c (.int .i64 2)))] .ret) .skip)) (.seq (rS [oP 8 (.mov (.c (.int .i64 0)))] (.block 0 (.loop (.seq (rS [oP 34 (.mov (.t 8)), oP 35 (.mov (.t 1)), oP 36 (.len 1 (.t 35)), oP 37 (.bin .lss (.t 34) (.t 36))] (.cond (.t 37)
 .skip (.exit 0))) (.seq (.block 1 (rS [oP 40 (.mov (.t 1)), oP 41 (.mov (.t 8)), oP 42 (.idx 1 (.t 40) (.t 41)), oP 43 (.load none none (.t 42)), oP 44 (.call (.c (.fn 56 [])) [.t 43, .c (.int .i64 (-20)), .c (.int .i64 20)]), oP 45 (.not (.t 44))] (.cond (.t 45) (rS [oP 46 (.build [.int .i64 0,
 .int .i64 0, .nils, .nils] []), oS (.store none 4 (.t 6) (.t 46)), oP 7 (.mov (.c (.int .i64 2)))] .ret) .skip))) (.region [oP 38 (.mov (.t 8)), oP 39 (.bin .add (.t 38) (.c (.int .i64 1))), oP 8 (.mov (.t 39))])))))) (rS [oP 48 (.mov (.t 0)), oP 49 (.mov (.t 1)), oP 50 (.mov (.t 2)), oP 51 (.call
 (.c (.fn 106 [])) [.t 48, .t 49, .t 50]), oP 47 (.mov (.t 51)), oP 52 (.ext 0 (.t 47)), oP 53 (.ext 1 (.t 47)), oP 9 (.new 29 [.int .i64 0, .int .i64 0, .nils, .nils]), oS (.store none 4 (.t 9) (.t 52)), oP 10 (.mov (.t 53))] (.seq (rS [oP 54 (.mov (.t 10)), oP 55 (.bin .neq (.t 54) (.c (.int .i64
 0)))] (.cond (.t 55) (rS [oP 56 (.build [.int .i64 0, .int .i64 0, .nils, .nils] []), oP 57 (.mov (.t 10)), oS (.store none 4 (.t 6) (.t 56)), oP 7 (.mov (.t 57))] .ret) .skip)) (rS [oP 59 (.load none (some 4) (.t 9)), oP 60 (.call (.c (.fn 86 [])) [.t 59]), oP 58 (.mov (.t 60)), oP 61 (.ext 0 (.t
 58)), oP 62 (.ext 1 (.t 58)), oP 11 (.new 29 [.int .i64 0, .int .i64 0, .nils, .nils]), oS (.store none 4 (.t 11) (.t 61)), oP 12 (.mov (.t 62))] (.seq (rS [oP 63 (.mov (.t 12)), oP 64 (.bin .neq (.t 63) (.c (.int .i64 0)))] (.cond (.t 64) (rS [oP 65 (.build [.int .i64 0, .int .i64 0, .nils, .nils]
 []), oP 66 (.mov (.t 12)), oS (.store none 4 (.t 6) (.t 65)), oP 7 (.mov (.t 66))] .ret) .skip)) (rS [oP 67 (.call (.c (.fn 85 [])) []), oP 68 (.build [.int .i64 0, .int .i64 0, .nils, .nils, .nils] [(0, 4, .t 67)]), oP 13 (.new 101 [.int .i64 0, .int .i64 0, .nils, .nils, .nils]), oS (.store none 5
 (.t 13) (.t 68))] (rS [oP 70 (.mov (.t 1)), oP 71 (.len 1 (.t 70)), oP 72 (.call (.c (.fn 107 [])) [.t 13, .t 71]), oP 69 (.mov (.t 72)), oP 73 (.ext 0 (.t 69)), oP 74 (.ext 1 (.t 69)), oP 14 (.new 29 [.int .i64 0, .int .i64 0, .nils, .nils]), oS (.store none 4 (.t 14) (.t 73)), oP 15 (.mov (.t
 74))] (.seq (rS [oP 75 (.mov (.t 15)), oP 76 (.bin .neq (.t 75) (.c (.int .i64 0)))] (.cond (.t 76) (rS [oP 77 (.build [.int .i64 0, .int .i64 0, .nils, .nils] []), oP 78 (.mov (.t 15)), oS (.store none 4 (.t 6) (.t 77)), oP 7 (.mov (.t 78))] .ret) .skip)) (rS [oP 79 (.load none (some 4) (.t 11)),
 oP 80 (.load none (some 4) (.t 14)), oP 81 (.call (.c (.fn 45 [])) [.t 79, .t 80]), oP 82 (.ext 0 (.t 81)), oP 83 (.ext 1 (.t 81)), oS (.store none 4 (.t 6) (.t 82)), oP 7 (.mov (.t 83))] .ret))))))))))⟩
theorem irOk61 : compFun Tryz.prog.underlying Tryz.prog.info? sq Tryz.f61 = some ir61 := by kernel_rfl
def ir64 : BFun := ⟨[.cell 6 (some 4), .tmp 7], rS [oP 3 (.box 2 (.t 0)), oP 6 (.new 29 [.int .i64 0, .int .i64 0, .nils, .nils]), oP 7 (.mov (.c (.int .i64 0)))] (rS [oP 19 (.mov (.t 1)), oP 20 (.len 1 (.t 19)), oP 8 (.mov (.t 20))] (rS [oP 21 (.mov (.t 8)), oP 22 (.call (.c (.fn 110 [])) [.t 21]),
 oP 23 (.mksl 2 8 [.int .i64 0] (.t 22) (.t 22)), oP 9 (.new 67 [.nils]), oS (.store none 1 (.t 9) (.t 23))] (.seq (rS [oP 24 (.load none none (.t 9)), oP 25 (.len 1 (.t 24)), oP 26 (.mov (.c (.int .i64 0)))] (.block 0 (.loop (rS [oP 27 (.bin .lss (.t 26) (.t 25))] (.seq (.cond (.t 27) .skip (.exit
 0)) (.seq (.block 1 (rS [oP 28 (.mov (.t 26)), oP 10 (.mov (.t 28))] (rS [oP 29 (.mov (.t 8)), oP 30 (.mov (.t 10)), oP 31 (.call (.c (.fn 111 [])) [.t 29, .t 30]), oP 32 (.len 1 (.t 31)), oP 33 (.mov (.c (.int .i64 0)))] (.block 2 (.loop (rS [oP 34 (.bin .lss (.t 33) (.t 32))] (.seq (.cond (.t 34)
 .skip (.exit 2)) (.seq (.block 3 (rS [oP 35 (.mov (.t 33)), oP 36 (.idx 1 (.t 31) (.t 33)), oP 37 (.load none none (.t 36)), oP 11 (.mov (.t 35)), oP 12 (.mov (.t 37))] (rS [oP 38 (.mov (.t 12)), oP 39 (.bin .eql (.t 38) (.c (.int .i64 1)))] (.cond (.t 39) (.region [oP 40 (.load none none (.t 9)),
 oP 41 (.mov (.t 10)), oP 42 (.idx 1 (.t 40) (.t 41)), oP 43 (.load none none (.t 42)), oP 44 (.mov (.t 1)), oP 45 (.mov (.t 11)), oP 46 (.idx 1 (.t 44) (.t 45)), oP 47 (.load none none (.t 46)), oP 48 (.bin .add (.t 43) (.t 47)), oP 49 (.idx 1 (.t 40) (.t 41)), oS (.store none 1 (.t 49) (.t 48))])
 .skip)))) (.region [oP 50 (.bin .add (.t 33) (.c (.int .i64 1))), oP 33 (.mov (.t 50))]))))))))) (.region [oP 51 (.bin .add (.t 26) (.c (.int .i64 1))), oP 26 (.mov (.t 51))]))))))) (rS [oP 53 (.mov (.t 8)), oP 54 (.mov (.t 2)), oP 55 (.mkfn 113 [.t 3]), oP 56 (.mkfn 114 [.t 9, .t 3]), oP 57 (.call
 (.c (.fn 112 [])) [.t 53, .t 54, .c (.int .i64 1000), .t 55, .t 56]), oP 52 (.mov (.t 57)), oP 58 (.ext 0 (.t 52)), oP 59 (.ext 1 (.t 52)), oP 13 (.new 80 [.int .i64 0, .int .i64 0, .nils, .nils]), oS (.store none 4 (.t 13) (.t 58)), oP 14 (.mov (.t 59))] (.seq (rS [oP 60 (.mov (.t 14)), oP 61 (.not
 (.t 60))] (.cond (.t 61) (rS [oP 62 (.build [.int .i64 0, .int .i64 0, .nils, .nils] []), oS (.store none 4 (.t 6) (.t 62)), oP 7 (.mov (.c (.int .i64 3)))] .ret) .skip)) (rS [oP 64 (.load none (some 4) (.t 13)), oP 65 (.call (.c (.fn 95 [])) [.t 64]), oP 63 (.mov (.t 65)), oP 66 (.ext 0 (.t 63)),
 oP 67 (.ext 1 (.t 63)), oP 15 (.new 29 [.int .i64 0, .int .i64 0, .nils, .nils]), oS (.store none 4 (.t 15) (.t 66)), oP 16 (.mov (.t 67))] (rS [oP 69 (.mov (.t 8)), oP 70 (.call (.c (.fn 115 [])) [.t 69]), oP 68 (.mov (.t 70)), oP 71 (.ext 0 (.t 68)), oP 72 (.ext 1 (.t 68)), oP 17 (.new 29 [.int
 .i64 0, .int .i64 0, .nils, .nils]), oS (.store none 4 (.t 17) (.t 71)), oP 18 (.mov (.t 72))] (rS [oP 73 (.load none (some 4) (.t 15)), oP 74 (.mov (.t 16)), oP 75 (.load none (some 4) (.t 17)), oP 76 (.mov (.t 18)), oP 77 (.call (.c (.fn 48 [])) [.t 73, .t 74, .t 75, .t 76]), oP 78 (.ext 0 (.t
 77)), oP 79 (.ext 1 (.t 77)), oS (.store none 4 (.t 6) (.t 78)), oP 7 (.mov (.t 79))] .ret))))))))⟩
theorem irOk64 : compFun Tryz.prog.underlying Tryz.prog.info? sq Tryz.f64 = some ir64 := by kernel_rfl
def ir67 : BFun := ⟨[.cell 2 (some 4)], rS [oP 2 (.new 29 [.int .i64 0, .int .i64 0, .nils, .nils])] (rS [oP 17 (.mov (.t 0)), oP 18 (.call (.c (.fn 116 [])) [.t 17]), oP 3 (.new 29 [.int .i64 0, .int .i64 0, .nils, .nils]), oS (.store none 4 (.t 3) (.t 18))] (rS [oP 19 (.lea 2 (.t 3)), oP 20 (.load
 none none (.t 19)), oP 21 (.len 1 (.t 20)), oP 22 (.mksl 2 8 [.int .i64 0] (.t 21) (.t 21)), oP 4 (.mov (.t 22))] (.seq (rS [oP 5 (.mov (.c (.int .i64 0)))] (.block 0 (.loop (.seq (rS [oP 23 (.mov (.t 5)), oP 24 (.lea 2 (.t 3)), oP 25 (.load none none (.t 24)), oP 26 (.len 1 (.t 25)), oP 27 (.bin
 .lss (.t 23) (.t 26))] (.cond (.t 27) .skip (.exit 0))) (.seq (.block 1 (rS [oP 30 (.lea 2 (.t 3)), oP 31 (.load none none (.t 30)), oP 32 (.mov (.t 5)), oP 33 (.idx 1 (.t 31) (.t 32)), oP 34 (.load none none (.t 33))] (.cond (.t 34) (.region [oP 35 (.mov (.t 4)), oP 36 (.mov (.t 5)), oP 37 (.idx 1
 (.t 35) (.t 36)), oS (.store none 1 (.t 37) (.c (.int .i64 1)))]) .skip))) (.region [oP 28 (.mov (.t 5)), oP 29 (.bin .add (.t 28) (.c (.int .i64 1))), oP 5 (.mov (.t 29))])))))) (rS [oP 6 (.mov (.c (.int .i64 0)))] (.seq (.block 2 (.loop (.block 3 (rS [oP 39 (.mov (.t 4)), oP 40 (.call (.c (.fn 117
 [])) [.t 3, .t 39]), oP 38 (.mov (.t 40)), oP 41 (.ext 0 (.t 38)), oP 42 (.ext 1 (.t 38)), oP 7 (.mov (.t 41)), oP 8 (.mov (.t 42))] (rS [oP 43 (.mov (.t 7)), oP 4 (.mov (.t 43))] (.seq (rS [oP 44 (.mov (.t 8)), oP 45 (.mov (.t 6)), oP 46 (.bin .eql (.t 44) (.t 45))] (.cond (.t 46) (.exit 2) .skip))
 (.region [oP 47 (.mov (.t 8)), oP 6 (.mov (.t 47))]))))))) (rS [oP 48 (.mov (.t 6)), oP 49 (.mksl 2 8 [.int .i64 0] (.t 48) (.t 48)), oP 9 (.mov (.t 49))] (.seq (rS [oP 10 (.mov (.c (.int .i64 0)))] (.block 4 (.loop (.seq (rS [oP 50 (.mov (.t 10)), oP 51 (.mov (.t 6)), oP 52 (.bin .lss (.t 50) (.t
 51))] (.cond (.t 52) .skip (.exit 4))) (.seq (.block 5 (.region [oP 55 (.mov (.t 9)), oP 56 (.mov (.t 10)), oP 57 (.idx 1 (.t 55) (.t 56)), oS (.store none 1 (.t 57) (.c (.int .i64 (-1))))])) (.region [oP 53 (.mov (.t 10)), oP 54 (.bin .add (.t 53) (.c (.int .i64 1))), oP 10 (.mov (.t 54))]))))))
 (rS [oP 58 (.lea 1 (.t 3)), oP 59 (.load none none (.t 58)), oP 60 (.mk 2 1 [.int .i64 0] [(0, 1, .t 59)]), oP 11 (.mov (.t 60))] (rS [oP 61 (.mov (.t 9)), oP 62 (.mov (.t 4)), oP 63 (.lea 1 (.t 3)), oP 64 (.load none none (.t 63)), oP 65 (.idx 1 (.t 62) (.t 64)), oP 66 (.load none none (.t 65)), oP
 67 (.idx 1 (.t 61) (.t 66)), oS (.store none 1 (.t 67) (.c (.int .i64 0)))] (rS [oP 68 (.mov (.t 0)), oP 69 (.nilck (.t 68)), oP 70 (.lea 0 (.t 69)), oP 71 (.load none none (.t 70)), oP 72 (.build [.int .i64 0, .int .i64 0, .nils, .nils] [(0, 1, .t 71)]), oP 12 (.new 29 [.int .i64 0, .int .i64 0,
 .nils, .nils]), oS (.store none 4 (.t 12) (.t 72))] (.seq (rS [oP 13 (.mov (.c (.int .i64 0)))] (.block 6 (.loop (.seq (rS [oP 73 (.mov (.t 13)), oP 74 (.mov (.t 11)), oP 75 (.len 1 (.t 74)), oP 76 (.bin .lss (.t 73) (.t 75))] (.cond (.t 76) .skip (.exit 6))) (.seq (.block 7 (rS [oP 79 (.mk 2 0 []
 []), oP 14 (.mov (.t 79))] (.seq (rS [oP 15 (.mov (.c (.int .i64 0)))] (.block 8 (.loop (.seq (rS [oP 80 (.mov (.t 15)), oP 81 (.lea 3 (.t 3)), oP 82 (.load none none (.t 81)), oP 83 (.mov (.t 11)), oP 84 (.mov (.t 13)), oP 85 (.idx 1 (.t 83) (.t 84)), oP 86 (.load none none (.t 85)), oP 87 (.idx 1
 (.t 82) (.t 86)), oP 88 (.load none none (.t 87)), oP 89 (.len 1 (.t 88)), oP 90 (.bin .lss (.t 80) (.t 89))] (.cond (.t 90) .skip (.exit 8))) (.seq (.block 9 (rS [oP 93 (.lea 3 (.t 3)), oP 94 (.load none none (.t 93)), oP 95 (.mov (.t 11)), oP 96 (.mov (.t 13)), oP 97 (.idx 1 (.t 95) (.t 96)), oP
 98 (.load none none (.t 97)), oP 99 (.idx 1 (.t 94) (.t 98)), oP 100 (.load none none (.t 99)), oP 101 (.mov (.t 15)), oP 102 (.idx 1 (.t 100) (.t 101)), oP 103 (.load none none (.t 102)), oP 16 (.mov (.t 103))] (.seq (rS [oP 104 (.mov (.t 9)), oP 105 (.mov (.t 4)), oP 106 (.mov (.t 16)), oP 107
 (.idx 1 (.t 105) (.t 106)), oP 108 (.load none none (.t 107)), oP 109 (.idx 1 (.t 104) (.t 108)), oP 110 (.load none none (.t 109)), oP 111 (.bin .lss (.t 110) (.c (.int .i64 0)))] (.cond (.t 111) (rS [oP 112 (.mov (.t 9)), oP 113 (.mov (.t 4)), oP 114 (.mov (.t 16)), oP 115 (.idx 1 (.t 113) (.t
 114)), oP 116 (.load none none (.t 115)), oP 117 (.mov (.t 11)), oP 118 (.len 1 (.t 117)), oP 119 (.idx 1 (.t 112) (.t 116)), oS (.store none 1 (.t 119) (.t 118))] (.region [oP 120 (.mov (.t 11)), oP 121 (.mov (.t 16)), oP 122 (.mk 2 1 [.int .i64 0] [(0, 1, .t 121)]), oP 123 (.app 2 1 8 (.t 120) (.t
 122)), oP 11 (.mov (.t 123))])) .skip)) (.region [oP 124 (.mov (.t 14)), oP 125 (.mov (.t 9)), oP 126 (.mov (.t 4)), oP 127 (.mov (.t 16)), oP 128 (.idx 1 (.t 126) (.t 127)), oP 129 (.load none none (.t 128)), oP 130 (.idx 1 (.t 125) (.t 129)), oP 131 (.load none none (.t 130)), oP 132 (.mk 2 1
 [.int .i64 0] [(0, 1, .t 131)]), oP 133 (.app 2 1 8 (.t 124) (.t 132)), oP 14 (.mov (.t 133))])))) (.region [oP 91 (.mov (.t 15)), oP 92 (.bin .add (.t 91) (.c (.int .i64 1))), oP 15 (.mov (.t 92))])))))) (rS [oP 134 (.lea 2 (.t 12)), oP 135 (.load none none (.t 134)), oP 136 (.lea 2 (.t 3)), oP 137
 (.load none none (.t 136)), oP 138 (.mov (.t 11)), oP 139 (.mov (.t 13)), oP 140 (.idx 1 (.t 138) (.t 139)), oP 141 (.load none none (.t 140)), oP 142 (.idx 1 (.t 137) (.t 141)), oP 143 (.load none none (.t 142)), oP 144 (.mk 4 1 [.bool false] [(0, 1, .t 143)]), oP 145 (.app 4 1 1 (.t 135) (.t
 144)), oP 146 (.lea 2 (.t 12)), oS (.store none 1 (.t 146) (.t 145))] (.region [oP 147 (.lea 3 (.t 12)), oP 148 (.load none none (.t 147)), oP 149 (.mov (.t 14)), oP 150 (.mk 67 1 [.nils] [(0, 1, .t 149)]), oP 151 (.app 67 1 24 (.t 148) (.t 150)), oP 152 (.lea 3 (.t 12)), oS (.store none 1 (.t 152)
 (.t 151))]))))) (.region [oP 77 (.mov (.t 13)), oP 78 (.bin .add (.t 77) (.c (.int .i64 1))), oP 13 (.mov (.t 78))])))))) (rS [oP 153 (.load none (some 4) (.t 12)), oS (.store none 4 (.t 2) (.t 153))] .ret))))))))))))⟩
theorem irOk67 : compFun Tryz.prog.underlying Tryz.prog.info? sq Tryz.f67 = some ir67 := by kernel_rfl
def ir73 : BFun := ⟨[.tmp 2], rS [oP 1 (.box 29 (.t 0)), oP 2 (.mov (.c (.bool false)))] (rS [oP 8 (.lea 2 (.t 1)), oP 9 (.load none none (.t 8)), oP 10 (.len 1 (.t 9)), oP 3 (.mov (.t 10))] (.seq (rS [oP 11 (.lea 0 (.t 1)), oP 12 (.load none none (.t 11)), oP 13 (.call (.c (.fn 123 [])) [.t 12]), oP
 14 (.not (.t 13)), oP 15 (.mov (.t 14)), oG 16 15 false (.mov (.t 3)), oG 17 15 false (.call (.c (.fn 58 [])) [.t 16, .c (.int .i64 1), .c (.int .i64 150)]), oG 18 15 false (.not (.t 17)), oP 19 (.pick (.t 15) (.c (.bool true)) (.t 18)), oP 20 (.mov (.t 19)), oG 21 20 false (.lea 3 (.t 1)), oG 22 20
 false (.load none none (.t 21)), oG 23 20 false (.len 1 (.t 22)), oG 24 20 false (.mov (.t 3)), oG 25 20 false (.bin .neq (.t 23) (.t 24)), oP 26 (.pick (.t 20) (.c (.bool true)) (.t 25)), oP 27 (.mov (.t 26)), oG 28 27 false (.lea 1 (.t 1)), oG 29 27 false (.load none none (.t 28)), oG 30 27 false
 (.mov (.t 3)), oG 31 27 false (.bin .sub (.t 30) (.c (.int .i64 1))), oG 32 27 false (.call (.c (.fn 58 [])) [.t 29, .c (.int .i64 0), .t 31]), oG 33 27 false (.not (.t 32)), oP 34 (.pick (.t 27) (.c (.bool true)) (.t 33))] (.cond (.t 34) (rS [oP 2 (.mov (.c (.bool false)))] .ret) .skip)) (.seq (rS
 [oP 35 (.lea 3 (.t 1)), oP 36 (.load none none (.t 35)), oP 37 (.len 1 (.t 36)), oP 38 (.mov (.c (.int .i64 0)))] (.block 0 (.loop (rS [oP 39 (.bin .lss (.t 38) (.t 37))] (.seq (.cond (.t 39) .skip (.exit 0)) (.seq (.block 1 (rS [oP 40 (.idx 1 (.t 36) (.t 38)), oP 41 (.load none none (.t 40)), oP 5
 (.mov (.t 41))] (.seq (rS [oP 42 (.mov (.t 5)), oP 43 (.len 1 (.t 42)), oP 44 (.lea 0 (.t 1)), oP 45 (.load none none (.t 44)), oP 46 (.call (.c (.fn 110 [])) [.t 45]), oP 47 (.bin .neq (.t 43) (.t 46))] (.cond (.t 47) (rS [oP 2 (.mov (.c (.bool false)))] .ret) .skip)) (rS [oP 48 (.mov (.t 5)), oP
 49 (.len 1 (.t 48)), oP 50 (.mov (.c (.int .i64 0)))] (.block 2 (.loop (rS [oP 51 (.bin .lss (.t 50) (.t 49))] (.seq (.cond (.t 51) .skip (.exit 2)) (.seq (.block 3 (rS [oP 52 (.idx 1 (.t 48) (.t 50)), oP 53 (.load none none (.t 52)), oP 7 (.mov (.t 53))] (rS [oP 54 (.mov (.t 7)), oP 55 (.mov (.t
 3)), oP 56 (.bin .sub (.t 55) (.c (.int .i64 1))), oP 57 (.call (.c (.fn 58 [])) [.t 54, .c (.int .i64 0), .t 56]), oP 58 (.not (.t 57))] (.cond (.t 58) (rS [oP 2 (.mov (.c (.bool false)))] .ret) .skip)))) (.region [oP 59 (.bin .add (.t 50) (.c (.int .i64 1))), oP 50 (.mov (.t 59))]))))))))))
 (.region [oP 60 (.bin .add (.t 38) (.c (.int .i64 1))), oP 38 (.mov (.t 60))]))))))) (rS [oP 2 (.mov (.c (.bool true)))] .ret))))⟩
theorem irOk73 : compFun Tryz.prog.underlying Tryz.prog.info? sq Tryz.f73 = some ir73 := by kernel_rfl
def ir75 : BFun := ⟨[.cell 2 (some 4)], rS [oP 1 (.box 29 (.t 0)), oP 2 (.new 80 [.int .i64 0, .int .i64 0, .nils, .nils])] (rS [oP 3 (.load none (some 4) (.t 1)), oP 4 (.call (.c (.fn 126 [])) [.t 3]), oP 5 (.call (.c (.fn 127 [])) [.t 4]), oS (.store none 4 (.t 2) (.t 5))] .ret)⟩
theorem irOk75 : compFun Tryz.prog.underlying Tryz.prog.info? sq Tryz.f75 = some ir75 := by kernel_rfl
def ir82 : BFun := ⟨[.tmp 4], rS [oP 4 (.mov (.c (.bool false)))] (.seq (rS [oP 6 (.mov (.t 0)), oP 7 (.len 1 (.t 6)), oP 8 (.mov (.t 1)), oP 9 (.len 1 (.t 8)), oP 10 (.bin .neq (.t 7) (.t 9))] (.cond (.t 10) (rS [oP 4 (.mov (.c (.bool false)))] .ret) .skip)) (.seq (rS [oP 5 (.mov (.c (.int .i64
 0)))] (.block 0 (.loop (.seq (rS [oP 11 (.mov (.t 5)), oP 12 (.mov (.t 0)), oP 13 (.len 1 (.t 12)), oP 14 (.bin .lss (.t 11) (.t 13))] (.cond (.t 14) .skip (.exit 0))) (.seq (.block 1 (rS [oP 17 (.mov (.t 0)), oP 18 (.mov (.t 5)), oP 19 (.idx 1 (.t 17) (.t 18)), oP 20 (.load none none (.t 19)), oP
 21 (.mov (.t 1)), oP 22 (.mov (.t 5)), oP 23 (.idx 1 (.t 21) (.t 22)), oP 24 (.load none none (.t 23)), oP 25 (.bin .neq (.t 20) (.t 24))] (.cond (.t 25) (rS [oP 4 (.mov (.c (.bool false)))] .ret) .skip))) (.region [oP 15 (.mov (.t 5)), oP 16 (.bin .add (.t 15) (.c (.int .i64 1))), oP 5 (.mov (.t
 16))])))))) (rS [oP 4 (.mov (.c (.bool true)))] .ret)))⟩
theorem irOk82 : compFun Tryz.prog.underlying Tryz.prog.info? sq Tryz.f82 = some ir82 := by kernel_rfl
def ir83 : BFun := ⟨[.tmp 2], rS [oP 2 (.mov (.c (.bool false)))] (rS [oP 6 (.mov (.t 0)), oP 7 (.nilck (.t 6)), oP 8 (.lea 2 (.t 7)), oP 9 (.load none none (.t 8)), oP 10 (.len 1 (.t 9)), oP 3 (.mov (.t 10))] (.seq (rS [oP 11 (.mov (.t 0)), oP 12 (.nilck (.t 11)), oP 13 (.lea 0 (.t 12)), oP 14
 (.load none none (.t 13)), oP 15 (.call (.c (.fn 56 [])) [.t 14, .c (.int .i64 1), .c (.int .i64 3)]), oP 16 (.not (.t 15)), oP 17 (.mov (.t 16)), oG 18 17 false (.mov (.t 3)), oG 19 17 false (.bin .lss (.t 18) (.c (.int .i64 1))), oP 20 (.pick (.t 17) (.c (.bool true)) (.t 19)), oP 21 (.mov (.t
 20)), oG 22 21 false (.mov (.t 0)), oG 23 21 false (.nilck (.t 22)), oG 24 21 false (.lea 1 (.t 23)), oG 25 21 false (.load none none (.t 24)), oG 26 21 false (.mov (.t 3)), oG 27 21 false (.bin .sub (.t 26) (.c (.int .i64 1))), oG 28 21 false (.call (.c (.fn 56 [])) [.t 25, .c (.int .i64 0), .t
 27]), oG 29 21 false (.not (.t 28)), oP 30 (.pick (.t 21) (.c (.bool true)) (.t 29)), oP 31 (.mov (.t 30)), oG 32 31 false (.mov (.t 0)), oG 33 31 false (.nilck (.t 32)), oG 34 31 false (.lea 3 (.t 33)), oG 35 31 false (.load none none (.t 34)), oG 36 31 false (.len 1 (.t 35)), oG 37 31 false (.mov
 (.t 3)), oG 38 31 false (.bin .neq (.t 36) (.t 37)), oP 39 (.pick (.t 31) (.c (.bool true)) (.t 38))] (.cond (.t 39) (rS [oP 2 (.mov (.c (.bool false)))] .ret) .skip)) (.seq (rS [oP 4 (.mov (.c (.int .i64 0)))] (.block 0 (.loop (.seq (rS [oP 40 (.mov (.t 4)), oP 41 (.mov (.t 0)), oP 42 (.nilck (.t
 41)), oP 43 (.lea 3 (.t 42)), oP 44 (.load none none (.t 43)), oP 45 (.len 1 (.t 44)), oP 46 (.bin .lss (.t 40) (.t 45))] (.cond (.t 46) .skip (.exit 0))) (.seq (.block 1 (.seq (rS [oP 49 (.mov (.t 0)), oP 50 (.nilck (.t 49)), oP 51 (.lea 3 (.t 50)), oP 52 (.load (some 29) none (.t 51)), oP 53 (.mov
 (.t 4)), oP 54 (.idx 1 (.t 52) (.t 53)), oP 55 (.load (some 67) none (.t 54)), oP 56 (.len 1 (.t 55)), oP 57 (.mov (.t 0)), oP 58 (.nilck (.t 57)), oP 59 (.lea 0 (.t 58)), oP 60 (.load none none (.t 59)), ⟨some 61, .call (.c (.fn 135 [])) [.t 60], none, [29, 67]⟩, oP 62 (.bin .neq (.t 56) (.t 61))]
 (.cond (.t 62) (rS [oP 2 (.mov (.c (.bool false)))] .ret) .skip)) (rS [oP 5 (.mov (.c (.int .i64 0)))] (.block 2 (.loop (.seq (rS [oP 63 (.mov (.t 5)), oP 64 (.mov (.t 0)), oP 65 (.nilck (.t 64)), oP 66 (.lea 3 (.t 65)), oP 67 (.load none none (.t 66)), oP 68 (.mov (.t 4)), oP 69 (.idx 1 (.t 67) (.t
 68)), oP 70 (.load none none (.t 69)), oP 71 (.len 1 (.t 70)), oP 72 (.bin .lss (.t 63) (.t 71))] (.cond (.t 72) .skip (.exit 2))) (.seq (.block 3 (rS [oP 75 (.mov (.t 0)), oP 76 (.nilck (.t 75)), oP 77 (.lea 3 (.t 76)), oP 78 (.load none none (.t 77)), oP 79 (.mov (.t 4)), oP 80 (.idx 1 (.t 78) (.t
 79)), oP 81 (.load none none (.t 80)), oP 82 (.mov (.t 5)), oP 83 (.idx 1 (.t 81) (.t 82)), oP 84 (.load none none (.t 83)), oP 85 (.mov (.t 3)), oP 86 (.bin .sub (.t 85) (.c (.int .i64 1))), oP 87 (.call (.c (.fn 56 [])) [.t 84, .c (.int .i64 0), .t 86]), oP 88 (.not (.t 87))] (.cond (.t 88) (rS
 [oP 2 (.mov (.c (.bool false)))] .ret) .skip))) (.region [oP 73 (.mov (.t 5)), oP 74 (.bin .add (.t 73) (.c (.int .i64 1))), oP 5 (.mov (.t 74))])))))))) (.region [oP 47 (.mov (.t 4)), oP 48 (.bin .add (.t 47) (.c (.int .i64 1))), oP 4 (.mov (.t 48))])))))) (rS [oP 2 (.mov (.c (.bool true)))]
 .ret))))⟩
theorem irOk83 : compFun Tryz.prog.underlying Tryz.prog.info? sq Tryz.f83 = some ir83 := by kernel_rfl
def ir85 : BFun := ⟨[.cell 0 (some 4)], rS [oP 0 (.new 29 [.int .i64 0, .int .i64 0, .nils, .nils])] (rS [oP 1 (.mk 4 2 [.bool false, .bool false] [(0, 1, .c (.bool true)), (1, 1, .c (.bool false))]), oP 2 (.mk 2 2 [.int .i64 0, .int .i64 0] [(0, 1, .c (.int .i64 1)), (1, 1, .c (.int .i64 0))]), oP 3
 (.mk 2 2 [.int .i64 0, .int .i64 0] [(0, 1, .c (.int .i64 1)), (1, 1, .c (.int .i64 0))]), oP 4 (.mk 67 2 [.nils, .nils] [(0, 1, .t 2), (1, 1, .t 3)]), oP 5 (.build [.int .i64 0, .int .i64 0, .nils, .nils] [(0, 1, .c (.int .i64 1)), (2, 1, .t 1), (3, 1, .t 4)]), oP 6 (.box 29 (.t 5)), oP 7 (.call
 (.c (.fn 67 [])) [.t 6]), oS (.store none 4 (.t 0) (.t 7))] .ret)⟩
theorem irOk85 : compFun Tryz.prog.underlying Tryz.prog.info? sq Tryz.f85 = some ir85 := by kernel_rfl
def ir86 : BFun := ⟨[.cell 2 (some 4), .tmp 3], rS [oP 1 (.box 29 (.t 0)), oP 2 (.new 29 [.int .i64 0, .int .i64 0, .nils, .nils]), oP 3 (.mov (.c (.int .i64 0)))] (.seq (rS [oP 4 (.lea 2 (.t 1)), oP 5 (.load none none (.t 4)), oP 6 (.len 1 (.t 5)), oP 7 (.bin .gtr (.t 6) (.c (.int .i64 150)))]
 (.cond (.t 7) (rS [oP 8 (.build [.int .i64 0, .int .i64 0, .nils, .nils] []), oS (.store none 4 (.t 2) (.t 8)), oP 3 (.mov (.c (.int .i64 3)))] .ret) .skip)) (rS [oP 9 (.load none (some 4) (.t 1)), oS (.store none 4 (.t 2) (.t 9)), oP 3 (.mov (.c (.int .i64 0)))] .ret))⟩
theorem irOk86 : compFun Tryz.prog.underlying Tryz.prog.info? sq Tryz.f86 = some ir86 := by kernel_rfl
def ir87 : BFun := ⟨[.cell 4 (some 4)], rS [oP 4 (.new 29 [.int .i64 0, .int .i64 0, .nils, .nils])] (rS [oP 11 (.mov (.t 0)), oP 12 (.nilck (.t 11)), oP 13 (.lea 0 (.t 12)), oP 14 (.load none none (.t 13)), oP 15 (.bin .add (.t 14) (.c (.int .i64 1))), oP 5 (.mov (.t 15))] (rS [oP 16 (.mov (.t 5)),
 oP 17 (.mov (.t 0)), oP 18 (.nilck (.t 17)), oP 19 (.lea 1 (.t 18)), oP 20 (.load (some 29) none (.t 19)), oP 22 (.mov (.t 0)), oP 23 (.nilck (.t 22)), oP 24 (.lea 2 (.t 23)), oP 25 (.load none none (.t 24)), oP 21 (.mk 4 0 [] []), oP 26 (.app 4 1 1 (.t 21) (.t 25)), oP 27 (.build [.int .i64 0, .int
 .i64 0, .nils, .nils] [(0, 1, .t 16), (1, 1, .t 20), (2, 1, .t 26)]), oP 6 (.new 29 [.int .i64 0, .int .i64 0, .nils, .nils]), oS (.store none 4 (.t 6) (.t 27))] (.seq (rS [oP 7 (.mov (.c (.int .i64 0)))] (.block 0 (.loop (.seq (rS [oP 28 (.mov (.t 7)), oP 29 (.mov (.t 0)), oP 30 (.nilck (.t 29)),
 oP 31 (.lea 2 (.t 30)), oP 32 (.load none none (.t 31)), oP 33 (.len 1 (.t 32)), oP 34 (.bin .lss (.t 28) (.t 33))] (.cond (.t 34) .skip (.exit 0))) (.seq (.block 1 (rS [oP 37 (.mk 2 0 [] []), oP 8 (.mov (.t 37))] (.seq (rS [oP 9 (.mov (.c (.int .i64 0)))] (.block 2 (.loop (.seq (rS [oP 38 (.mov (.t
 9)), oP 39 (.mov (.t 5)), oP 40 (.call (.c (.fn 135 [])) [.t 39]), oP 41 (.bin .lss (.t 38) (.t 40))] (.cond (.t 41) .skip (.exit 2))) (.seq (.block 3 (rS [oP 44 (.mov (.t 9)), oP 45 (.mov (.t 5)), oP 46 (.mov (.t 1)), oP 47 (.call (.c (.fn 138 [])) [.t 44, .t 45, .t 46]), oP 10 (.mov (.t 47))] (rS
 [oP 48 (.mov (.t 10)), oP 49 (.mov (.t 0)), oP 50 (.nilck (.t 49)), oP 51 (.lea 0 (.t 50)), oP 52 (.load none none (.t 51)), oP 53 (.call (.c (.fn 135 [])) [.t 52]), oP 54 (.bin .eql (.t 48) (.t 53))] (.cond (.t 54) (.region [oP 55 (.mov (.t 8)), oP 56 (.mov (.t 7)), oP 57 (.mk 2 1 [.int .i64 0]
 [(0, 1, .t 56)]), oP 58 (.app 2 1 8 (.t 55) (.t 57)), oP 8 (.mov (.t 58))]) (.region [oP 59 (.mov (.t 8)), oP 60 (.mov (.t 0)), oP 61 (.nilck (.t 60)), oP 62 (.lea 3 (.t 61)), oP 63 (.load none none (.t 62)), oP 64 (.mov (.t 7)), oP 65 (.idx 1 (.t 63) (.t 64)), oP 66 (.load none none (.t 65)), oP 67
 (.mov (.t 10)), oP 68 (.idx 1 (.t 66) (.t 67)), oP 69 (.load none none (.t 68)), oP 70 (.mk 2 1 [.int .i64 0] [(0, 1, .t 69)]), oP 71 (.app 2 1 8 (.t 59) (.t 70)), oP 8 (.mov (.t 71))]))))) (.region [oP 42 (.mov (.t 9)), oP 43 (.bin .add (.t 42) (.c (.int .i64 1))), oP 9 (.mov (.t 43))]))))))
 (.region [oP 72 (.lea 3 (.t 6)), oP 73 (.load none none (.t 72)), oP 74 (.mov (.t 8)), oP 75 (.mk 67 1 [.nils] [(0, 1, .t 74)]), oP 76 (.app 67 1 24 (.t 73) (.t 75)), oP 77 (.lea 3 (.t 6)), oS (.store none 1 (.t 77) (.t 76))])))) (.region [oP 35 (.mov (.t 7)), oP 36 (.bin .add (.t 35) (.c (.int .i64
 1))), oP 7 (.mov (.t 36))])))))) (rS [oP 78 (.call (.c (.fn 67 [])) [.t 6]), oS (.store none 4 (.t 4) (.t 78))] .ret))))⟩
theorem irOk87 : compFun Tryz.prog.underlying Tryz.prog.info? sq Tryz.f87 = some ir87 := by kernel_rfl
def ir88 : BFun := ⟨[.cell 6 (some 4), .tmp 7], rS [oP 6 (.new 29 [.int .i64 0, .int .i64 0, .nils, .nils]), oP 7 (.mov (.c (.int .i64 0)))] (.seq (rS [oP 9 (.mov (.t 0)), oP 10 (.mov (.t 1)), oP 11 (.call (.c (.fn 136 [])) [.t 9, .t 10]), oP 8 (.mov (.t 11))] (rS [oP 12 (.mov (.t 8)), oP 13 (.bin
 .neq (.t 12) (.c (.int .i64 0)))] (.cond (.t 13) (rS [oP 14 (.build [.int .i64 0, .int .i64 0, .nils, .nils] []), oP 15 (.mov (.t 8)), oS (.store none 4 (.t 6) (.t 14)), oP 7 (.mov (.t 15))] .ret) .skip))) (rS [oP 16 (.mov (.t 0)), oP 17 (.mov (.t 1)), oP 18 (.mov (.t 2)), oP 19 (.call (.c (.fn 139
 [])) [.t 16, .t 17, .t 18]), oP 20 (.ext 0 (.t 19)), oP 21 (.ext 1 (.t 19)), oS (.store none 4 (.t 6) (.t 20)), oP 7 (.mov (.t 21))] .ret))⟩
theorem irOk88 : compFun Tryz.prog.underlying Tryz.prog.info? sq Tryz.f88 = some ir88 := by kernel_rfl
def ir89 : BFun := ⟨[.tmp 4], rS [oP 4 (.mov (.c (.int .i64 0)))] (rS [oP 6 (.mov (.t 0)), oP 7 (.mov (.t 1)), oP 8 (.call (.c (.fn 140 [])) [.t 6, .t 7]), oP 5 (.mov (.t 8))] (.seq (rS [oP 9 (.mov (.t 5)), oP 10 (.bin .eql (.t 9) (.c (.int .i64 0))), oP 11 (.mov (.t 10)), oG 12 11 true (.mov (.t
 0)), oG 13 11 true (.nilck (.t 12)), oG 14 11 true (.lea 0 (.t 13)), oG 15 11 true (.load none none (.t 14)), oG 16 11 true (.bin .eql (.t 15) (.c (.int .i64 1))), oP 17 (.pick (.t 11) (.t 16) (.c (.bool false)))] (.cond (.t 17) (.region [oP 5 (.mov (.c (.int .i64 2)))]) .skip)) (rS [oP 18 (.mov (.t
 5)), oP 4 (.mov (.t 18))] .ret)))⟩
theorem irOk89 : compFun Tryz.prog.underlying Tryz.prog.info? sq Tryz.f89 = some ir89 := by kernel_rfl
def ir90 : BFun := ⟨[.cell 4 (some 4), .tmp 5], rS [oP 4 (.new 29 [.int .i64 0, .int .i64 0, .nils, .nils]), oP 5 (.mov (.c (.int .i64 0)))] (rS [oP 15 (.mov (.t 0)), oP 16 (.call (.c (.fn 67 [])) [.t 15]), oP 6 (.new 29 [.int .i64 0, .int .i64 0, .nils, .nils]), oS (.store none 4 (.t 6) (.t 16))]
 (rS [oP 17 (.lea 1 (.t 6)), oP 18 (.load none none (.t 17)), oP 19 (.mk 2 1 [.int .i64 0] [(0, 1, .t 18)]), oP 20 (.mk 67 1 [.nils] [(0, 1, .t 19)]), oP 7 (.mov (.t 20))] (rS [oP 21 (.lea 0 (.t 6)), oP 22 (.load none none (.t 21)), oP 23 (.bin .sub (.t 22) (.c (.int .i64 1))), oP 24 (.build [.int
 .i64 0, .int .i64 0, .nils, .nils] [(0, 1, .t 23)]), oP 8 (.new 29 [.int .i64 0, .int .i64 0, .nils, .nils]), oS (.store none 4 (.t 8) (.t 24))] (.seq (rS [oP 9 (.mov (.c (.int .i64 0)))] (.block 0 (.loop (.seq (rS [oP 25 (.mov (.t 9)), oP 26 (.mov (.t 7)), oP 27 (.len 1 (.t 26)), oP 28 (.bin .lss
 (.t 25) (.t 27))] (.cond (.t 28) .skip (.exit 0))) (.seq (.block 1 (rS [oP 31 (.mk 2 0 [] []), oP 10 (.mov (.t 31))] (.seq (rS [oP 11 (.mov (.c (.int .i64 0)))] (.block 2 (.loop (.seq (rS [oP 32 (.mov (.t 11)), oP 33 (.lea 0 (.t 8)), oP 34 (.load none none (.t 33)), oP 35 (.call (.c (.fn 135 []))
 [.t 34]), oP 36 (.bin .lss (.t 32) (.t 35))] (.cond (.t 36) .skip (.exit 2))) (.seq (.block 3 (rS [oP 39 (.mov (.t 7)), oP 40 (.mov (.t 9)), oP 41 (.idx 1 (.t 39) (.t 40)), oP 42 (.load none none (.t 41)), oP 43 (.mov (.t 11)), oP 44 (.mov (.t 1)), oP 45 (.call (.c (.fn 141 [])) [.t 6, .t 42, .t 43,
 .t 44, .c (.bool true)]), oP 12 (.mov (.t 45))] (rS [oP 13 (.mov (.c (.int .i64 (-1))))] (.seq (rS [oP 14 (.mov (.c (.int .i64 0)))] (.block 4 (.loop (.seq (rS [oP 46 (.mov (.t 14)), oP 47 (.mov (.t 7)), oP 48 (.len 1 (.t 47)), oP 49 (.bin .lss (.t 46) (.t 48)), oP 50 (.mov (.t 49)), oG 51 50 true
 (.mov (.t 13)), oG 52 50 true (.bin .lss (.t 51) (.c (.int .i64 0))), oP 53 (.pick (.t 50) (.t 52) (.c (.bool false)))] (.cond (.t 53) .skip (.exit 4))) (.seq (.block 5 (rS [oP 56 (.mov (.t 7)), oP 57 (.mov (.t 14)), oP 58 (.idx 1 (.t 56) (.t 57)), oP 59 (.load none none (.t 58)), oP 60 (.mov (.t
 12)), oP 61 (.call (.c (.fn 142 [])) [.t 59, .t 60])] (.cond (.t 61) (.region [oP 62 (.mov (.t 14)), oP 13 (.mov (.t 62))]) .skip))) (.region [oP 54 (.mov (.t 14)), oP 55 (.bin .add (.t 54) (.c (.int .i64 1))), oP 14 (.mov (.t 55))])))))) (.seq (rS [oP 63 (.mov (.t 13)), oP 64 (.bin .lss (.t 63) (.c
 (.int .i64 0)))] (.cond (.t 64) (rS [oP 65 (.mov (.t 7)), oP 66 (.len 1 (.t 65)), oP 13 (.mov (.t 66))] (.region [oP 67 (.mov (.t 7)), oP 68 (.mov (.t 12)), oP 69 (.mk 67 1 [.nils] [(0, 1, .t 68)]), oP 70 (.app 67 1 24 (.t 67) (.t 69)), oP 7 (.mov (.t 70))])) .skip)) (.region [oP 71 (.mov (.t 10)),
 oP 72 (.mov (.t 13)), oP 73 (.mk 2 1 [.int .i64 0] [(0, 1, .t 72)]), oP 74 (.app 2 1 8 (.t 71) (.t 73)), oP 10 (.mov (.t 74))])))))) (.region [oP 37 (.mov (.t 11)), oP 38 (.bin .add (.t 37) (.c (.int .i64 1))), oP 11 (.mov (.t 38))])))))) (.seq (rS [oP 75 (.mov (.t 7)), oP 76 (.len 1 (.t 75)), oP 77
 (.bin .gtr (.t 76) (.c (.int .i64 1000)))] (.cond (.t 77) (rS [oP 78 (.build [.int .i64 0, .int .i64 0, .nils, .nils] []), oS (.store none 4 (.t 4) (.t 78)), oP 5 (.mov (.c (.int .i64 3)))] .ret) .skip)) (rS [oP 79 (.lea 2 (.t 8)), oP 80 (.load (some 29) none (.t 79)), oP 81 (.mov (.t 7)), oP 82
 (.mov (.t 9)), oP 83 (.idx 1 (.t 81) (.t 82)), oP 84 (.load none none (.t 83)), oP 85 (.mov (.t 1)), ⟨some 86, .call (.c (.fn 143 [])) [.t 6, .t 84, .t 85], none, [29]⟩, oP 87 (.mk 4 1 [.bool false] [(0, 1, .t 86)]), oP 88 (.app 4 1 1 (.t 80) (.t 87)), oP 89 (.lea 2 (.t 8)), oS (.store none 1 (.t
 89) (.t 88))] (.region [oP 90 (.lea 3 (.t 8)), oP 91 (.load none none (.t 90)), oP 92 (.mov (.t 10)), oP 93 (.mk 67 1 [.nils] [(0, 1, .t 92)]), oP 94 (.app 67 1 24 (.t 91) (.t 93)), oP 95 (.lea 3 (.t 8)), oS (.store none 1 (.t 95) (.t 94))])))))) (.region [oP 29 (.mov (.t 9)), oP 30 (.bin .add (.t
 29) (.c (.int .i64 1))), oP 9 (.mov (.t 30))])))))) (rS [oP 96 (.call (.c (.fn 67 [])) [.t 8]), oP 97 (.call (.c (.fn 86 [])) [.t 96]), oP 98 (.ext 0 (.t 97)), oP 99 (.ext 1 (.t 97)), oS (.store none 4 (.t 4) (.t 98)), oP 5 (.mov (.t 99))] .ret)))))⟩
theorem irOk90 : compFun Tryz.prog.underlying Tryz.prog.info? sq Tryz.f90 = some ir90 := by kernel_rfl
def ir91 : BFun := ⟨[.cell 4 (some 4), .tmp 5], rS [oP 2 (.box 29 (.t 0)), oP 3 (.box 2 (.t 1)), oP 4 (.new 29 [.int .i64 0, .int .i64 0, .nils, .nils]), oP 5 (.mov (.c (.int .i64 0)))] (.seq (.block 0 (rS [oP 7 (.load none (some 4) (.t 2)), oP 8 (.call (.c (.fn 73 [])) [.t 7]), oP 9 (.not (.t 8)),
 oP 6 (.mov (.t 9))] (.cond (.t 6) (rS [oP 10 (.build [.int .i64 0, .int .i64 0, .nils, .nils] []), oS (.store none 4 (.t 4) (.t 10)), oP 5 (.mov (.c (.int .i64 1)))] .ret) (rS [oP 12 (.load none none (.t 3)), oP 13 (.lea 0 (.t 2)), oP 14 (.load none none (.t 13)), oP 15 (.call (.c (.fn 58 [])) [.t
 12, .c (.int .i64 0), .t 14]), oP 16 (.not (.t 15)), oP 17 (.mov (.t 16)), oG 18 17 false (.lea 0 (.t 2)), oG 19 17 false (.load none none (.t 18)), oG 20 17 false (.bin .eql (.t 19) (.c (.int .i64 3))), oP 21 (.pick (.t 17) (.c (.bool true)) (.t 20)), oP 11 (.mov (.t 21))] (.cond (.t 11) (rS [oP 22
 (.build [.int .i64 0, .int .i64 0, .nils, .nils] []), oS (.store none 4 (.t 4) (.t 22)), oP 5 (.mov (.c (.int .i64 2)))] .ret) .skip))))) (rS [oP 23 (.load none (some 4) (.t 2)), oP 25 (.lea 0 (.t 2)), oP 26 (.load (some 29) none (.t 25)), oP 27 (.bin .add (.t 26) (.c (.int .i64 1))), oP 28 (.mkfn
 145 [.t 3]), ⟨some 24, .call (.c (.fn 75 [])) [.t 23], none, [29]⟩, oP 29 (.call (.c (.fn 144 [])) [.t 24, .t 27, .t 28]), oP 30 (.call (.c (.fn 95 [])) [.t 29]), oP 31 (.ext 0 (.t 30)), oP 32 (.ext 1 (.t 30)), oS (.store none 4 (.t 4) (.t 31)), oP 5 (.mov (.t 32))] .ret))⟩
theorem irOk91 : compFun Tryz.prog.underlying Tryz.prog.info? sq Tryz.f91 = some ir91 := by kernel_rfl
def ir92 : BFun := ⟨[.cell 4 (some 4), .tmp 5], rS [oP 2 (.box 29 (.t 0)), oP 3 (.box 29 (.t 1)), oP 4 (.new 29 [.int .i64 0, .int .i64 0, .nils, .nils]), oP 5 (.mov (.c (.int .i64 0)))] (rS [oP 6 (.load none (some 4) (.t 2)), oP 7 (.load none (some 4) (.t 3)), oP 8 (.call (.c (.fn 147 [])) [.t 6, .t
 7, .c (.fn 148 [])]), oP 9 (.ext 0 (.t 8)), oP 10 (.ext 1 (.t 8)), oS (.store none 4 (.t 4) (.t 9)), oP 5 (.mov (.t 10))] .ret)⟩
theorem irOk92 : compFun Tryz.prog.underlying Tryz.prog.info? sq Tryz.f92 = some ir92 := by kernel_rfl
def ir93 : BFun := ⟨[.tmp 4], rS [oP 2 (.box 29 (.t 0)), oP 4 (.mov (.c (.int .i64 0)))] (.seq (.block 0 (rS [oP 6 (.load none (some 4) (.t 2)), oP 7 (.call (.c (.fn 73 [])) [.t 6]), oP 8 (.not (.t 7)), oP 5 (.mov (.t 8))] (.cond (.t 5) (rS [oP 4 (.mov (.c (.int .i64 1)))] .ret) (rS [oP 10 (.load
 none (some 4) (.t 2)), oP 11 (.mov (.t 1)), oP 12 (.call (.c (.fn 149 [])) [.t 10, .t 11]), oP 13 (.not (.t 12)), oP 14 (.mov (.t 13)), oG 15 14 false (.lea 0 (.t 2)), oG 16 14 false (.load none none (.t 15)), oG 17 14 false (.bin .eql (.t 16) (.c (.int .i64 1))), oP 18 (.pick (.t 14) (.c (.bool
 true)) (.t 17)), oP 9 (.mov (.t 18))] (.cond (.t 9) (rS [oP 4 (.mov (.c (.int .i64 2)))] .ret) .skip))))) (rS [oP 4 (.mov (.c (.int .i64 0)))] .ret))⟩
theorem irOk93 : compFun Tryz.prog.underlying Tryz.prog.info? sq Tryz.f93 = some ir93 := by kernel_rfl
def ir94 : BFun := ⟨[.cell 4 (some 4), .tmp 5], rS [oP 2 (.box 80 (.t 0)), oP 3 (.box 3 (.t 1)), oP 4 (.new 80 [.int .i64 0, .int .i64 0, .nils, .nils]), oP 5 (.mov (.c (.bool false)))] (rS [oP 12 (.lea 2 (.t 2)), oP 13 (.load none none (.t 12)), oP 14 (.call (.c (.fn 134 [])) [.t 13]), oP 6 (.new 22
 [.nils]), oS (.store none 1 (.t 6) (.t 14))] (rS [oP 15 (.lea 0 (.t 2)), oP 16 (.load none none (.t 15)), oP 17 (.bin .sub (.t 16) (.c (.int .i64 1))), oP 19 (.load (some 3) none (.t 3)), oP 21 (.lea 0 (.t 2)), oP 22 (.load (some 80) none (.t 21)), oP 23 (.bin .sub (.t 22) (.c (.int .i64 1))), oP 25
 (.load (some 3) none (.t 3)), ⟨some 18, .call (.c (.fn 151 [])) [.t 17], none, [3, 80]⟩, ⟨some 20, .call (.c (.fn 150 [])) [.t 18, .t 19, .c (.int .i64 0)], none, [80, 3]⟩, ⟨some 24, .call (.c (.fn 151 [])) [.t 23], none, [3]⟩, oP 26 (.call (.c (.fn 150 [])) [.t 24, .t 25, .c (.int .i64 1)]), oP 27
 (.mk 3 2 [.int .i64 0, .int .i64 0] [(0, 1, .t 20), (1, 1, .t 26)]), oP 7 (.mov (.t 27))] (.seq (rS [oP 8 (.mov (.c (.bool true)))] (.block 0 (.loop (.seq (rS [oP 28 (.mov (.t 8))] (.cond (.t 28) .skip (.exit 0))) (.block 1 (rS [oP 8 (.mov (.c (.bool false)))] (rS [oP 29 (.lea 3 (.t 2)), oP 30
 (.load none none (.t 29)), oP 31 (.len 1 (.t 30)), oP 32 (.mov (.c (.int .i64 0)))] (.block 2 (.loop (rS [oP 33 (.bin .lss (.t 32) (.t 31))] (.seq (.cond (.t 33) .skip (.exit 2)) (.seq (.block 3 (rS [oP 34 (.mov (.t 32)), oP 35 (.idx 1 (.t 30) (.t 32)), oP 36 (.load none none (.t 35)), oP 9 (.mov
 (.t 34)), oP 10 (.mov (.t 36))] (rS [oP 37 (.load none none (.t 6)), oP 38 (.mov (.t 9)), oP 39 (.idx 1 (.t 37) (.t 38)), oP 40 (.load none none (.t 39)), oP 41 (.not (.t 40)), oP 42 (.mov (.t 41)), oG 43 42 true (.load none none (.t 6)), oG 44 42 true (.mov (.t 10)), oG 45 42 true (.mov (.t 7)), oG
 46 42 true (.idx 1 (.t 45) (.c (.int .i64 0))), oG 47 42 true (.load none none (.t 46)), oG 48 42 true (.idx 1 (.t 44) (.t 47)), oG 49 42 true (.load none none (.t 48)), oG 50 42 true (.idx 1 (.t 43) (.t 49)), oG 51 42 true (.load none none (.t 50)), oG 52 42 true (.mov (.t 51)), oG 53 52 false
 (.load none none (.t 6)), oG 54 52 false (.mov (.t 10)), oG 55 52 false (.mov (.t 7)), oG 56 52 false (.idx 1 (.t 55) (.c (.int .i64 1))), oG 57 52 false (.load none none (.t 56)), oG 58 52 false (.idx 1 (.t 54) (.t 57)), oG 59 52 false (.load none none (.t 58)), oG 60 52 false (.idx 1 (.t 53) (.t
 59)), oG 61 52 false (.load none none (.t 60)), oG 62 42 true (.pick (.t 52) (.c (.bool true)) (.t 61)), oP 63 (.pick (.t 42) (.t 62) (.c (.bool false)))] (.cond (.t 63) (.region [oP 64 (.load none none (.t 6)), oP 65 (.mov (.t 9)), oP 66 (.idx 1 (.t 64) (.t 65)), oS (.store none 1 (.t 66) (.c
 (.bool true))), oP 8 (.mov (.c (.bool true)))]) .skip)))) (.region [oP 67 (.bin .add (.t 32) (.c (.int .i64 1))), oP 32 (.mov (.t 67))]))))))))))))) (rS [oP 68 (.lea 2 (.t 2)), oP 69 (.load none none (.t 68)), oP 70 (.len 1 (.t 69)), oP 71 (.mksl 4 1 [.bool false] (.t 70) (.t 70)), oP 11 (.mov (.t
 71))] (rS [oP 72 (.mov (.t 11)), oP 73 (.lea 1 (.t 2)), oP 74 (.load none none (.t 73)), oP 75 (.idx 1 (.t 72) (.t 74)), oS (.store none 1 (.t 75) (.c (.bool true)))] (rS [oP 76 (.lea 0 (.t 2)), oP 77 (.load (some 80) none (.t 76)), oP 78 (.bin .sub (.t 77) (.c (.int .i64 1))), oP 79 (.mov (.t 11)),
 oP 81 (.mkfn 154 [.t 6]), oP 82 (.mkfn 155 [.t 2, .t 3]), ⟨some 80, .call (.c (.fn 153 [])) [.t 79], none, [80]⟩, oP 83 (.call (.c (.fn 152 [])) [.t 78, .t 80, .c (.int .i64 1000), .t 81, .t 82]), oP 84 (.ext 0 (.t 83)), oP 85 (.ext 1 (.t 83)), oS (.store none 4 (.t 4) (.t 84)), oP 5 (.mov (.t 85))]
 .ret))))))⟩
theorem irOk94 : compFun Tryz.prog.underlying Tryz.prog.info? sq Tryz.f94 = some ir94 := by kernel_rfl
def ir95 : BFun := ⟨[.cell 2 (some 4), .tmp 3], rS [oP 1 (.box 80 (.t 0)), oP 2 (.new 29 [.int .i64 0, .int .i64 0, .nils, .nils]), oP 3 (.mov (.c (.int .i64 0)))] (rS [oP 4 (.load none (some 4) (.t 1)), oP 5 (.call (.c (.fn 127 [])) [.t 4]), oP 6 (.call (.c (.fn 156 [])) [.t 5]), oP 7 (.ext 0 (.t
 6)), oP 8 (.ext 1 (.t 6)), oS (.store none 4 (.t 2) (.t 7)), oP 3 (.mov (.t 8))] .ret)⟩
theorem irOk95 : compFun Tryz.prog.underlying Tryz.prog.info? sq Tryz.f95 = some ir95 := by kernel_rfl
def ir96 : BFun := ⟨[.tmp 4], rS [oP 4 (.mov (.c (.int .i64 0)))] (.seq (rS [oP 5 (.mov (.c (.int .i64 0)))] (.block 0 (.loop (.seq (rS [oP 6 (.mov (.t 5)), oP 7 (.mov (.t 0)), oP 8 (.len 1 (.t 7)), oP 9 (.bin .lss (.t 6) (.t 8))] (.cond (.t 9) .skip (.exit 0))) (.seq (.block 1 (rS [oP 12 (.mov (.t
 0)), oP 13 (.mov (.t 5)), oP 14 (.mov (.t 1)), oP 15 (.idx 1 (.t 12) (.t 13)), oS (.store none 1 (.t 15) (.t 14))] (.region [oP 16 (.mov (.t 1)), oP 17 (.bin .add (.t 16) (.c (.int .i64 1))), oP 1 (.mov (.t 17))]))) (.region [oP 10 (.mov (.t 5)), oP 11 (.bin .add (.t 10) (.c (.int .i64 1))), oP 5
 (.mov (.t 11))])))))) (rS [oP 18 (.mov (.t 1)), oP 4 (.mov (.t 18))] .ret))⟩
theorem irOk96 : compFun Tryz.prog.underlying Tryz.prog.info? sq Tryz.f96 = some ir96 := by kernel_rfl
def ir97 : BFun := ⟨[.tmp 4], rS [oP 4 (.mov (.c (.int .i64 0)))] (.seq (rS [oP 5 (.mov (.c (.int .i64 0)))] (.block 0 (.loop (.seq (rS [oP 6 (.mov (.t 5)), oP 7 (.mov (.t 0)), oP 8 (.len 1 (.t 7)), oP 9 (.bin .lss (.t 6) (.t 8))] (.cond (.t 9) .skip (.exit 0))) (.seq (.block 1 (.seq (rS [oP 12 (.mov
 (.t 0)), oP 13 (.mov (.t 5)), oP 14 (.idx 1 (.t 12) (.t 13)), oP 15 (.load none none (.t 14)), oP 16 (.mov (.t 1)), oP 17 (.bin .neq (.t 15) (.t 16))] (.cond (.t 17) (rS [oP 4 (.mov (.c (.int .i64 (-1))))] .ret) .skip)) (.region [oP 18 (.mov (.t 1)), oP 19 (.bin .add (.t 18) (.c (.int .i64 1))), oP
 1 (.mov (.t 19))]))) (.region [oP 10 (.mov (.t 5)), oP 11 (.bin .add (.t 10) (.c (.int .i64 1))), oP 5 (.mov (.t 11))])))))) (rS [oP 20 (.mov (.t 1)), oP 4 (.mov (.t 20))] .ret))⟩
theorem irOk97 : compFun Tryz.prog.underlying Tryz.prog.info? sq Tryz.f97 = some ir97 := by kernel_rfl
def ir106 : BFun := ⟨[.cell 6 (some 4), .tmp 7], rS [oP 6 (.new 29 [.int .i64 0, .int .i64 0, .nils, .nils]), oP 7 (.mov (.c (.int .i64 0)))] (rS [oP 19 (.mov (.t 1)), oP 20 (.len 1 (.t 19)), oP 8 (.mov (.t 20))] (rS [oP 21 (.mov (.t 8)), oP 22 (.build [.int .i64 0, .int .i64 0, .nils, .nils] [(0, 1,
 .t 21)]), oP 9 (.new 29 [.int .i64 0, .int .i64 0, .nils, .nils]), oS (.store none 4 (.t 9) (.t 22))] (rS [oP 23 (.mov (.t 2)), oP 24 (.mk 2 1 [.int .i64 0] [(0, 1, .t 23)]), oP 10 (.mov (.t 24))] (rS [oP 11 (.mov (.c (.int .i64 (-1))))] (.seq (rS [oP 12 (.mov (.c (.int .i64 0)))] (.block 0 (.loop
 (.seq (rS [oP 25 (.mov (.t 12)), oP 26 (.mov (.t 10)), oP 27 (.len 1 (.t 26)), oP 28 (.bin .lss (.t 25) (.t 27))] (.cond (.t 28) .skip (.exit 0))) (.seq (.block 1 (rS [oP 31 (.mk 2 0 [] []), oP 13 (.mov (.t 31))] (.seq (rS [oP 14 (.mov (.c (.int .i64 0)))] (.block 2 (.loop (.seq (rS [oP 32 (.mov (.t
 14)), oP 33 (.mov (.t 8)), oP 34 (.call (.c (.fn 135 [])) [.t 33]), oP 35 (.bin .lss (.t 32) (.t 34))] (.cond (.t 35) .skip (.exit 2))) (.seq (.block 3 (rS [oP 38 (.mov (.t 10)), oP 39 (.mov (.t 12)), oP 40 (.idx 1 (.t 38) (.t 39)), oP 41 (.load (some 2) none (.t 40)), oP 42 (.mov (.t 1)), oP 43
 (.mov (.t 14)), ⟨some 44, .call (.c (.fn 162 [])) [.t 42, .t 43], none, [2]⟩, oP 45 (.bin .sub (.t 41) (.t 44)), oP 15 (.mov (.t 45))] (.seq (rS [oP 46 (.mov (.t 12)), oP 47 (.mov (.t 11)), oP 48 (.bin .eql (.t 46) (.t 47)), oP 49 (.mov (.t 48)), oG 50 49 false (.mov (.t 0)), oG 51 49 false (.bin
 .eql (.t 50) (.c (.int .i64 1))), oG 52 49 false (.mov (.t 51)), oG 53 52 true (.mov (.t 15)), oG 54 52 true (.bin .rem (.t 53) (.c (.int .i64 2))), oG 55 52 true (.bin .neq (.t 54) (.c (.int .i64 0))), oG 56 49 false (.pick (.t 52) (.t 55) (.c (.bool false))), oP 57 (.pick (.t 49) (.c (.bool true))
 (.t 56))] (.cond (.t 57) (.seq (rS [oP 58 (.mov (.t 11)), oP 59 (.bin .lss (.t 58) (.c (.int .i64 0)))] (.cond (.t 59) (rS [oP 60 (.mov (.t 10)), oP 61 (.len 1 (.t 60)), oP 11 (.mov (.t 61))] (.region [oP 62 (.mov (.t 10)), oP 63 (.mk 2 1 [.int .i64 0] [(0, 1, .c (.int .i64 0))]), oP 64 (.app 2 1 8
 (.t 62) (.t 63)), oP 10 (.mov (.t 64))])) .skip)) (rS [oP 65 (.mov (.t 13)), oP 66 (.mov (.t 11)), oP 67 (.mk 2 1 [.int .i64 0] [(0, 1, .t 66)]), oP 68 (.app 2 1 8 (.t 65) (.t 67)), oP 13 (.mov (.t 68))] (.exit 3))) .skip)) (rS [oP 69 (.mov (.t 15)), oP 70 (.mov (.t 15)), oP 71 (.bin .rem (.t 70)
 (.c (.int .i64 2))), oP 72 (.bin .add (.t 71) (.c (.int .i64 2))), oP 73 (.bin .rem (.t 72) (.c (.int .i64 2))), oP 74 (.bin .sub (.t 69) (.t 73)), oP 75 (.bin .quo (.t 74) (.c (.int .i64 2))), oP 16 (.mov (.t 75))] (rS [oP 17 (.mov (.c (.int .i64 (-1))))] (.seq (rS [oP 18 (.mov (.c (.int .i64 0)))]
 (.block 4 (.loop (.seq (rS [oP 76 (.mov (.t 18)), oP 77 (.mov (.t 10)), oP 78 (.len 1 (.t 77)), oP 79 (.bin .lss (.t 76) (.t 78))] (.cond (.t 79) .skip (.exit 4))) (.seq (.block 5 (rS [oP 82 (.mov (.t 18)), oP 83 (.mov (.t 11)), oP 84 (.bin .neq (.t 82) (.t 83)), oP 85 (.mov (.t 84)), oG 86 85 true
 (.mov (.t 10)), oG 87 85 true (.mov (.t 18)), oG 88 85 true (.idx 1 (.t 86) (.t 87)), oG 89 85 true (.load none none (.t 88)), oG 90 85 true (.mov (.t 16)), oG 91 85 true (.bin .eql (.t 89) (.t 90)), oP 92 (.pick (.t 85) (.t 91) (.c (.bool false)))] (.cond (.t 92) (.region [oP 93 (.mov (.t 18)), oP
 17 (.mov (.t 93))]) .skip))) (.region [oP 80 (.mov (.t 18)), oP 81 (.bin .add (.t 80) (.c (.int .i64 1))), oP 18 (.mov (.t 81))])))))) (.seq (rS [oP 94 (.mov (.t 17)), oP 95 (.bin .lss (.t 94) (.c (.int .i64 0)))] (.cond (.t 95) (rS [oP 96 (.mov (.t 10)), oP 97 (.len 1 (.t 96)), oP 17 (.mov (.t
 97))] (.region [oP 98 (.mov (.t 10)), oP 99 (.mov (.t 16)), oP 100 (.mk 2 1 [.int .i64 0] [(0, 1, .t 99)]), oP 101 (.app 2 1 8 (.t 98) (.t 100)), oP 10 (.mov (.t 101))])) .skip)) (.region [oP 102 (.mov (.t 13)), oP 103 (.mov (.t 17)), oP 104 (.mk 2 1 [.int .i64 0] [(0, 1, .t 103)]), oP 105 (.app 2 1
 8 (.t 102) (.t 104)), oP 13 (.mov (.t 105))])))))))) (.region [oP 36 (.mov (.t 14)), oP 37 (.bin .add (.t 36) (.c (.int .i64 1))), oP 14 (.mov (.t 37))])))))) (.seq (rS [oP 106 (.mov (.t 10)), oP 107 (.len 1 (.t 106)), oP 108 (.bin .gtr (.t 107) (.c (.int .i64 1000)))] (.cond (.t 108) (rS [oP 109
 (.build [.int .i64 0, .int .i64 0, .nils, .nils] []), oS (.store none 4 (.t 6) (.t 109)), oP 7 (.mov (.c (.int .i64 3)))] .ret) .skip)) (rS [oP 110 (.lea 2 (.t 9)), oP 111 (.load none none (.t 110)), oP 112 (.mov (.t 12)), oP 113 (.mov (.t 11)), oP 114 (.bin .neq (.t 112) (.t 113)), oP 115 (.mov (.t
 114)), oG 116 115 true (.mov (.t 10)), oG 117 115 true (.mov (.t 12)), oG 118 115 true (.idx 1 (.t 116) (.t 117)), oG 119 115 true (.load none none (.t 118)), oG 120 115 true (.bin .eql (.t 119) (.c (.int .i64 0))), oG 121 115 true (.mov (.t 120)), oG 122 121 false (.mov (.t 0)), oG 123 121 false
 (.bin .eql (.t 122) (.c (.int .i64 2))), oG 124 121 false (.mov (.t 123)), oG 125 124 true (.mov (.t 10)), oG 126 124 true (.mov (.t 12)), oG 127 124 true (.idx 1 (.t 125) (.t 126)), oG 128 124 true (.load none none (.t 127)), oG 129 124 true (.bin .gtr (.t 128) (.c (.int .i64 0))), oG 130 121 false
 (.pick (.t 124) (.t 129) (.c (.bool false))), oG 131 115 true (.pick (.t 121) (.c (.bool true)) (.t 130)), oP 132 (.pick (.t 115) (.t 131) (.c (.bool false))), oP 133 (.mk 4 1 [.bool false] [(0, 1, .t 132)]), oP 134 (.app 4 1 1 (.t 111) (.t 133)), oP 135 (.lea 2 (.t 9)), oS (.store none 1 (.t 135)
 (.t 134))] (.region [oP 136 (.lea 3 (.t 9)), oP 137 (.load none none (.t 136)), oP 138 (.mov (.t 13)), oP 139 (.mk 67 1 [.nils] [(0, 1, .t 138)]), oP 140 (.app 67 1 24 (.t 137) (.t 139)), oP 141 (.lea 3 (.t 9)), oS (.store none 1 (.t 141) (.t 140))])))))) (.region [oP 29 (.mov (.t 12)), oP 30 (.bin
 .add (.t 29) (.c (.int .i64 1))), oP 12 (.mov (.t 30))])))))) (rS [oP 142 (.load none (some 4) (.t 9)), oS (.store none 4 (.t 6) (.t 142)), oP 7 (.mov (.c (.int .i64 0)))] .ret))))))⟩
theorem irOk106 : compFun Tryz.prog.underlying Tryz.prog.info? sq Tryz.f106 = some ir106 := by kernel_rfl
def ir107 : BFun := ⟨[.cell 4 (some 4), .tmp 5], rS [oP 4 (.new 29 [.int .i64 0, .int .i64 0, .nils, .nils]), oP 5 (.mov (.c (.int .i64 0)))] (rS [oP 10 (.mov (.t 0)), oP 11 (.nilck (.t 10)), oP 12 (.lea 0 (.t 11)), oP 13 (.load none (some 4) (.t 12)), oP 14 (.call (.c (.fn 163 [])) [.t 13]), oP 9
 (.mov (.t 14)), oP 15 (.ext 0 (.t 9)), oP 16 (.ext 1 (.t 9)), oP 6 (.new 29 [.int .i64 0, .int .i64 0, .nils, .nils]), oS (.store none 4 (.t 6) (.t 15)), oP 7 (.mov (.t 16))] (.seq (rS [oP 8 (.mov (.c (.int .i64 1)))] (.block 0 (.loop (.seq (rS [oP 17 (.mov (.t 8)), oP 18 (.mov (.t 1)), oP 19 (.bin
 .lss (.t 17) (.t 18)), oP 20 (.mov (.t 19)), oG 21 20 true (.mov (.t 7)), oG 22 20 true (.bin .eql (.t 21) (.c (.int .i64 0))), oP 23 (.pick (.t 20) (.t 22) (.c (.bool false)))] (.cond (.t 23) .skip (.exit 0))) (.seq (.block 1 (.region [oP 27 (.mov (.t 0)), oP 28 (.nilck (.t 27)), oP 29 (.lea 0 (.t
 28)), oP 30 (.load none (some 4) (.t 29)), oP 31 (.load none (some 4) (.t 6)), oP 32 (.call (.c (.fn 164 [])) [.t 30, .t 31]), oP 26 (.mov (.t 32)), oP 33 (.ext 0 (.t 26)), oP 34 (.ext 1 (.t 26)), oS (.store none 4 (.t 6) (.t 33)), oP 7 (.mov (.t 34))])) (.region [oP 24 (.mov (.t 8)), oP 25 (.bin
 .add (.t 24) (.c (.int .i64 1))), oP 8 (.mov (.t 25))])))))) (rS [oP 35 (.load none (some 4) (.t 6)), oP 36 (.mov (.t 7)), oS (.store none 4 (.t 4) (.t 35)), oP 5 (.mov (.t 36))] .ret)))⟩
theorem irOk107 : compFun Tryz.prog.underlying Tryz.prog.info? sq Tryz.f107 = some ir107 := by kernel_rfl
def ir110 : BFun := ⟨[.tmp 2], rS [oP 2 (.mov (.c (.int .i64 0)))] (rS [oP 3 (.mov (.t 0)), oP 4 (.call (.c (.fn 167 [])) [.t 3]), oP 5 (.bin .sub (.t 4) (.c (.int .i64 1))), oP 2 (.mov (.t 5))] .ret)⟩
theorem irOk110 : compFun Tryz.prog.underlying Tryz.prog.info? sq Tryz.f110 = some ir110 := by kernel_rfl
def ir111 : BFun := ⟨[.tmp 4], rS [oP 4 (.mov (.c .nils))] (rS [oP 5 (.mov (.c .nils))] (.seq (.block 0 (.loop (.seq (rS [oP 6 (.mov (.t 0)), oP 7 (.bin .gtr (.t 6) (.c (.int .i64 0)))] (.cond (.t 7) .skip (.exit 0))) (.seq (.block 1 (rS [oP 10 (.mov (.t 5)), oP 11 (.mov (.t 1)), oP 12 (.bin .rem (.t
 11) (.c (.int .i64 3))), oP 13 (.mk 3 1 [.int .i64 0] [(0, 1, .t 12)]), oP 14 (.app 3 1 8 (.t 10) (.t 13)), oP 5 (.mov (.t 14))] (.region [oP 15 (.mov (.t 1)), oP 16 (.bin .quo (.t 15) (.c (.int .i64 3))), oP 1 (.mov (.t 16))]))) (.region [oP 8 (.mov (.t 0)), oP 9 (.bin .sub (.t 8) (.c (.int .i64
 1))), oP 0 (.mov (.t 9))]))))) (rS [oP 17 (.mov (.t 5)), oP 4 (.mov (.t 17))] .ret)))⟩
theorem irOk111 : compFun Tryz.prog.underlying Tryz.prog.info? sq Tryz.f111 = some ir111 := by kernel_rfl
def ir112 : BFun := ⟨[.cell 10 (some 4), .tmp 11], rS [oP 10 (.new 80 [.int .i64 0, .int .i64 0, .nils, .nils]), oP 11 (.mov (.c (.bool false)))] (rS [oP 22 (.mov (.t 0)), oP 23 (.build [.int .i64 0, .int .i64 0, .nils, .nils] [(0, 1, .t 22)]), oP 12 (.new 80 [.int .i64 0, .int .i64 0, .nils,
 .nils]), oS (.store none 4 (.t 12) (.t 23))] (rS [oP 24 .mkmap, oP 25 (.mov (.t 1)), oS (.mset 0 (.t 24) (.t 25) (.c (.int .i64 0))), oP 26 (.mov (.t 24)), oP 13 (.mov (.t 26))] (rS [oP 27 (.mov (.t 1)), oP 28 (.mk 2 1 [.int .i64 0] [(0, 1, .t 27)]), oP 14 (.mov (.t 28))] (.seq (rS [oP 15 (.mov (.c
 (.int .i64 0)))] (.block 0 (.loop (.seq (rS [oP 29 (.mov (.t 15)), oP 30 (.mov (.t 14)), oP 31 (.len 1 (.t 30)), oP 32 (.bin .lss (.t 29) (.t 31))] (.cond (.t 32) .skip (.exit 0))) (.seq (.block 1 (rS [oP 35 (.mov (.t 14)), oP 36 (.mov (.t 15)), oP 37 (.idx 1 (.t 35) (.t 36)), oP 38 (.load none none
 (.t 37)), oP 16 (.mov (.t 38))] (rS [oP 17 (.mov (.c .nils))] (.seq (rS [oP 18 (.mov (.c (.int .i64 0)))] (.block 2 (.loop (.seq (rS [oP 39 (.mov (.t 18)), oP 40 (.mov (.t 0)), oP 41 (.call (.c (.fn 110 [])) [.t 40]), oP 42 (.bin .lss (.t 39) (.t 41))] (.cond (.t 42) .skip (.exit 2))) (.seq (.block
 3 (rS [oP 45 (.mov (.t 4)), oP 46 (.mov (.t 16)), oP 47 (.mov (.t 18)), oP 48 (.call (.t 45) [.t 46, .t 47]), oP 19 (.mov (.t 48))] (rS [oP 50 (.mov (.t 13)), oP 51 (.mov (.t 19)), oP 52 (.look 0 true (.int .i64 0) (.t 50) (.t 51)), oP 49 (.mov (.t 52)), oP 53 (.ext 0 (.t 49)), oP 54 (.ext 1 (.t
 49)), oP 20 (.mov (.t 53)), oP 21 (.mov (.t 54))] (.seq (rS [oP 55 (.mov (.t 21)), oP 56 (.not (.t 55))] (.cond (.t 56) (rS [oP 57 (.mov (.t 14)), oP 58 (.len 1 (.t 57)), oP 20 (.mov (.t 58))] (rS [oP 59 (.mov (.t 13)), oP 60 (.mov (.t 19)), oP 61 (.mov (.t 20)), oS (.mset 0 (.t 59) (.t 60) (.t
 61))] (rS [oP 62 (.mov (.t 14)), oP 63 (.mov (.t 19)), oP 64 (.mk 2 1 [.int .i64 0] [(0, 1, .t 63)]), oP 65 (.app 2 1 8 (.t 62) (.t 64)), oP 14 (.mov (.t 65))] (rS [oP 66 (.mov (.t 2)), oP 67 (.bin .gtr (.t 66) (.c (.int .i64 0))), oP 68 (.mov (.t 67)), oG 69 68 true (.mov (.t 14)), oG 70 68 true
 (.len 1 (.t 69)), oG 71 68 true (.mov (.t 2)), oG 72 68 true (.bin .gtr (.t 70) (.t 71)), oP 73 (.pick (.t 68) (.t 72) (.c (.bool false)))] (.cond (.t 73) (rS [oP 74 (.build [.int .i64 0, .int .i64 0, .nils, .nils] []), oS (.store none 4 (.t 10) (.t 74)), oP 11 (.mov (.c (.bool false)))] .ret)
 .skip))))) .skip)) (.region [oP 75 (.mov (.t 17)), oP 76 (.mov (.t 20)), oP 77 (.mk 3 1 [.int .i64 0] [(0, 1, .t 76)]), oP 78 (.app 3 1 8 (.t 75) (.t 77)), oP 17 (.mov (.t 78))]))))) (.region [oP 43 (.mov (.t 18)), oP 44 (.bin .add (.t 43) (.c (.int .i64 1))), oP 18 (.mov (.t 44))])))))) (rS [oP 79
 (.lea 2 (.t 12)), oP 80 (.load (some 80) none (.t 79)), oP 81 (.mov (.t 3)), oP 82 (.mov (.t 16)), ⟨some 83, .call (.t 81) [.t 82], none, [80]⟩, oP 84 (.mk 4 1 [.bool false] [(0, 1, .t 83)]), oP 85 (.app 4 1 1 (.t 80) (.t 84)), oP 86 (.lea 2 (.t 12)), oS (.store none 1 (.t 86) (.t 85))] (.region [oP
 87 (.lea 3 (.t 12)), oP 88 (.load none none (.t 87)), oP 89 (.mov (.t 17)), oP 90 (.mk 84 1 [.nils] [(0, 1, .t 89)]), oP 91 (.app 84 1 24 (.t 88) (.t 90)), oP 92 (.lea 3 (.t 12)), oS (.store none 1 (.t 92) (.t 91))])))))) (.region [oP 33 (.mov (.t 15)), oP 34 (.bin .add (.t 33) (.c (.int .i64 1))),
 oP 15 (.mov (.t 34))])))))) (rS [oP 93 (.load none (some 4) (.t 12)), oS (.store none 4 (.t 10) (.t 93)), oP 11 (.mov (.c (.bool true)))] .ret)))))⟩
theorem irOk112 : compFun Tryz.prog.underlying Tryz.prog.info? sq Tryz.f112 = some ir112 := by kernel_rfl
def ir113 : BFun := ⟨[.tmp 3], rS [oP 3 (.mov (.c (.bool false)))] (rS [oP 4 (.mov (.t 0)), oP 5 (.bin .eql (.t 4) (.c (.int .i64 0))), oP 6 (.mov (.t 5)), oG 7 6 false (.mov (.t 0)), oG 8 6 false (.bin .gtr (.t 7) (.c (.int .i64 0))), oG 9 6 false (.mov (.t 8)), oG 10 9 true (.mov (.t 0)), oG 11 9
 true (.bin .neq (.t 10) (.c (.int .i64 1099511627776))), oG 12 6 false (.pick (.t 9) (.t 11) (.c (.bool false))), oG 13 6 false (.mov (.t 12)), oG 14 13 true (.load none none (.t 1)), oG 15 13 true (.bin .eql (.t 14) (.c (.int .i64 2))), oG 16 6 false (.pick (.t 13) (.t 15) (.c (.bool false))), oP
 17 (.pick (.t 6) (.c (.bool true)) (.t 16)), oP 3 (.mov (.t 17))] .ret)⟩
theorem irOk113 : compFun Tryz.prog.underlying Tryz.prog.info? sq Tryz.f113 = some ir113 := by kernel_rfl
def ir114 : BFun := ⟨[.tmp 6], rS [oP 6 (.mov (.c (.int .i64 0)))] (.seq (rS [oP 8 (.mov (.t 0)), oP 9 (.bin .eql (.t 8) (.c (.int .i64 1099511627776)))] (.cond (.t 9) (rS [oP 6 (.mov (.c (.int .i64 1099511627776)))] .ret) .skip)) (rS [oP 10 (.mov (.t 0)), oP 11 (.load none none (.t 2)), oP 12 (.mov
 (.t 1)), oP 13 (.idx 1 (.t 11) (.t 12)), oP 14 (.load none none (.t 13)), oP 15 (.bin .sub (.t 10) (.t 14)), oP 7 (.mov (.t 15))] (.seq (rS [oP 16 (.load none none (.t 3)), oP 17 (.bin .eql (.t 16) (.c (.int .i64 1))), oP 18 (.mov (.t 17)), oG 19 18 true (.mov (.t 7)), oG 20 18 true (.bin .rem (.t
 19) (.c (.int .i64 2))), oG 21 18 true (.bin .neq (.t 20) (.c (.int .i64 0))), oP 22 (.pick (.t 18) (.t 21) (.c (.bool false)))] (.cond (.t 22) (rS [oP 6 (.mov (.c (.int .i64 1099511627776)))] .ret) .skip)) (rS [oP 23 (.mov (.t 7)), oP 24 (.bin .shr (.t 23) (.c (.int .u64 1))), oP 6 (.mov (.t 24))]
 .ret))))⟩
theorem irOk114 : compFun Tryz.prog.underlying Tryz.prog.info? sq Tryz.f114 = some ir114 := by kernel_rfl
def ir115 : BFun := ⟨[.cell 2 (some 4), .tmp 3], rS [oP 2 (.new 29 [.int .i64 0, .int .i64 0, .nils, .nils]), oP 3 (.mov (.c (.int .i64 0)))] (rS [oP 7 (.mov (.t 0)), oP 8 (.sslice (.c (.str ⟨#[120, 121, 122]⟩)) none (some (.t 7))), oP 4 (.call (.c (.fn 125 [])) []), oP 5 (.call (.c (.fn 168 [])) [.t
 4, .c .nils]), oP 6 (.build [.int .i64 0, .int .i64 0, .nils, .nils, .nils] [(0, 5, .t 5)]), oP 9 (.call (.c (.fn 169 [])) [.t 6, .t 8]), oP 10 (.ext 0 (.t 9)), oP 11 (.ext 1 (.t 9)), oS (.store none 4 (.t 2) (.t 10)), oP 3 (.mov (.t 11))] .ret)⟩
theorem irOk115 : compFun Tryz.prog.underlying Tryz.prog.info? sq Tryz.f115 = some ir115 := by kernel_rfl
def ir116 : BFun := ⟨[.cell 2 (some 4)], rS [oP 2 (.new 29 [.int .i64 0, .int .i64 0, .nils, .nils])] (rS [oP 20 (.mov (.t 0)), oP 21 (.nilck (.t 20)), oP 22 (.lea 2 (.t 21)), oP 23 (.load none none (.t 22)), oP 24 (.len 1 (.t 23)), oP 3 (.mov (.t 24))] (rS [oP 25 (.mov (.t 0)), oP 26 (.nilck (.t
 25)), oP 27 (.lea 0 (.t 26)), oP 28 (.load none none (.t 27)), oP 29 (.conv .u64 (.t 28)), oP 30 (.bin .shl (.c (.int .i64 1)) (.t 29)), oP 4 (.mov (.t 30))] (rS [oP 31 (.mov (.t 3)), oP 32 (.mov (.t 4)), oP 33 (.bin .mul (.t 31) (.t 32)), oP 34 (.mksl 2 8 [.int .i64 0] (.t 33) (.t 33)), oP 5 (.mov
 (.t 34))] (.seq (rS [oP 6 (.mov (.c (.int .i64 0)))] (.block 0 (.loop (.seq (rS [oP 35 (.mov (.t 6)), oP 36 (.mov (.t 5)), oP 37 (.len 1 (.t 36)), oP 38 (.bin .lss (.t 35) (.t 37))] (.cond (.t 38) .skip (.exit 0))) (.seq (.block 1 (.region [oP 41 (.mov (.t 5)), oP 42 (.mov (.t 6)), oP 43 (.idx 1 (.t
 41) (.t 42)), oS (.store none 1 (.t 43) (.c (.int .i64 (-1))))])) (.region [oP 39 (.mov (.t 6)), oP 40 (.bin .add (.t 39) (.c (.int .i64 1))), oP 6 (.mov (.t 40))])))))) (rS [oP 44 (.mov (.t 0)), oP 45 (.nilck (.t 44)), oP 46 (.lea 1 (.t 45)), oP 47 (.load none none (.t 46)), oP 48 (.mov (.t 4)), oP
 49 (.bin .mul (.t 47) (.t 48)), oP 50 (.mk 2 1 [.int .i64 0] [(0, 1, .t 49)]), oP 7 (.mov (.t 50))] (rS [oP 51 (.mov (.t 5)), oP 52 (.mov (.t 0)), oP 53 (.nilck (.t 52)), oP 54 (.lea 1 (.t 53)), oP 55 (.load none none (.t 54)), oP 56 (.mov (.t 4)), oP 57 (.bin .mul (.t 55) (.t 56)), oP 58 (.idx 1
 (.t 51) (.t 57)), oS (.store none 1 (.t 58) (.c (.int .i64 0)))] (rS [oP 59 (.mov (.t 0)), oP 60 (.nilck (.t 59)), oP 61 (.lea 0 (.t 60)), oP 62 (.load none none (.t 61)), oP 63 (.build [.int .i64 0, .int .i64 0, .nils, .nils] [(0, 1, .t 62)]), oP 8 (.new 29 [.int .i64 0, .int .i64 0, .nils,
 .nils]), oS (.store none 4 (.t 8) (.t 63))] (.seq (rS [oP 9 (.mov (.c (.int .i64 0)))] (.block 2 (.loop (.seq (rS [oP 64 (.mov (.t 9)), oP 65 (.mov (.t 7)), oP 66 (.len 1 (.t 65)), oP 67 (.bin .lss (.t 64) (.t 66))] (.cond (.t 67) .skip (.exit 2))) (.seq (.block 3 (rS [oP 70 (.mov (.t 7)), oP 71
 (.mov (.t 9)), oP 72 (.idx 1 (.t 70) (.t 71)), oP 73 (.load none none (.t 72)), oP 74 (.mov (.t 4)), oP 75 (.bin .quo (.t 73) (.t 74)), oP 10 (.mov (.t 75))] (rS [oP 76 (.mk 2 0 [] []), oP 11 (.mov (.t 76))] (.seq (rS [oP 12 (.mov (.c (.int .i64 0)))] (.block 4 (.loop (.seq (rS [oP 77 (.mov (.t
 12)), oP 78 (.mov (.t 0)), oP 79 (.nilck (.t 78)), oP 80 (.lea 0 (.t 79)), oP 81 (.load none none (.t 80)), oP 82 (.call (.c (.fn 135 [])) [.t 81]), oP 83 (.bin .lss (.t 77) (.t 82))] (.cond (.t 83) .skip (.exit 4))) (.seq (.block 5 (rS [oP 86 (.mov (.t 0)), oP 87 (.nilck (.t 86)), oP 88 (.lea 0 (.t
 87)), oP 89 (.load none none (.t 88)), oP 90 (.mov (.t 7)), oP 91 (.mov (.t 9)), oP 92 (.idx 1 (.t 90) (.t 91)), oP 93 (.load none none (.t 92)), oP 94 (.mov (.t 4)), oP 95 (.bin .rem (.t 93) (.t 94)), oP 96 (.mov (.t 12)), oP 97 (.call (.c (.fn 170 [])) [.t 89, .t 95, .t 96]), oP 13 (.mov (.t 97))]
 (.seq (rS [oP 98 (.mov (.t 13)), oP 99 (.bin .lss (.t 98) (.c (.int .i64 0)))] (.cond (.t 99) (rS [oP 100 (.mov (.t 11)), oP 101 (.mk 2 1 [.int .i64 0] [(0, 1, .c (.int .i64 (-1)))]), oP 102 (.app 2 1 8 (.t 100) (.t 101)), oP 11 (.mov (.t 102))] (.exit 5)) .skip)) (rS [oP 103 (.mov (.t 0)), oP 104
 (.nilck (.t 103)), oP 105 (.lea 3 (.t 104)), oP 106 (.load none none (.t 105)), oP 107 (.mov (.t 10)), oP 108 (.idx 1 (.t 106) (.t 107)), oP 109 (.load none none (.t 108)), oP 110 (.mov (.t 12)), oP 111 (.idx 1 (.t 109) (.t 110)), oP 112 (.load none none (.t 111)), oP 113 (.mov (.t 4)), oP 114 (.bin
 .mul (.t 112) (.t 113)), oP 115 (.mov (.t 13)), oP 116 (.bin .add (.t 114) (.t 115)), oP 14 (.mov (.t 116))] (.seq (rS [oP 117 (.mov (.t 5)), oP 118 (.mov (.t 14)), oP 119 (.idx 1 (.t 117) (.t 118)), oP 120 (.load none none (.t 119)), oP 121 (.bin .lss (.t 120) (.c (.int .i64 0)))] (.cond (.t 121)
 (rS [oP 122 (.mov (.t 5)), oP 123 (.mov (.t 14)), oP 124 (.mov (.t 7)), oP 125 (.len 1 (.t 124)), oP 126 (.idx 1 (.t 122) (.t 123)), oS (.store none 1 (.t 126) (.t 125))] (.region [oP 127 (.mov (.t 7)), oP 128 (.mov (.t 14)), oP 129 (.mk 2 1 [.int .i64 0] [(0, 1, .t 128)]), oP 130 (.app 2 1 8 (.t
 127) (.t 129)), oP 7 (.mov (.t 130))])) .skip)) (.region [oP 131 (.mov (.t 11)), oP 132 (.mov (.t 5)), oP 133 (.mov (.t 14)), oP 134 (.idx 1 (.t 132) (.t 133)), oP 135 (.load none none (.t 134)), oP 136 (.mk 2 1 [.int .i64 0] [(0, 1, .t 135)]), oP 137 (.app 2 1 8 (.t 131) (.t 136)), oP 11 (.mov (.t
 137))])))))) (.region [oP 84 (.mov (.t 12)), oP 85 (.bin .add (.t 84) (.c (.int .i64 1))), oP 12 (.mov (.t 85))])))))) (rS [oP 138 (.lea 2 (.t 8)), oP 139 (.load none none (.t 138)), oP 140 (.mov (.t 0)), oP 141 (.nilck (.t 140)), oP 142 (.lea 2 (.t 141)), oP 143 (.load none none (.t 142)), oP 144
 (.mov (.t 10)), oP 145 (.idx 1 (.t 143) (.t 144)), oP 146 (.load none none (.t 145)), oP 147 (.mk 4 1 [.bool false] [(0, 1, .t 146)]), oP 148 (.app 4 1 1 (.t 139) (.t 147)), oP 149 (.lea 2 (.t 8)), oS (.store none 1 (.t 149) (.t 148))] (.region [oP 150 (.lea 3 (.t 8)), oP 151 (.load none none (.t
 150)), oP 152 (.mov (.t 11)), oP 153 (.mk 67 1 [.nils] [(0, 1, .t 152)]), oP 154 (.app 67 1 24 (.t 151) (.t 153)), oP 155 (.lea 3 (.t 8)), oS (.store none 1 (.t 155) (.t 154))])))))) (.region [oP 68 (.mov (.t 9)), oP 69 (.bin .add (.t 68) (.c (.int .i64 1))), oP 9 (.mov (.t 69))])))))) (rS [oP 156
 (.mov (.t 7)), oP 157 (.len 1 (.t 156)), oP 15 (.mov (.t 157))] (.seq (rS [oP 16 (.mov (.c (.int .i64 0)))] (.block 6 (.loop (.seq (rS [oP 158 (.mov (.t 16)), oP 159 (.lea 3 (.t 8)), oP 160 (.load none none (.t 159)), oP 161 (.len 1 (.t 160)), oP 162 (.bin .lss (.t 158) (.t 161))] (.cond (.t 162)
 .skip (.exit 6))) (.seq (.block 7 (rS [oP 17 (.mov (.c (.int .i64 0)))] (.block 8 (.loop (.seq (rS [oP 165 (.mov (.t 17)), oP 166 (.lea 3 (.t 8)), oP 167 (.load none none (.t 166)), oP 168 (.mov (.t 16)), oP 169 (.idx 1 (.t 167) (.t 168)), oP 170 (.load none none (.t 169)), oP 171 (.len 1 (.t 170)),
 oP 172 (.bin .lss (.t 165) (.t 171))] (.cond (.t 172) .skip (.exit 8))) (.seq (.block 9 (rS [oP 175 (.lea 3 (.t 8)), oP 176 (.load none none (.t 175)), oP 177 (.mov (.t 16)), oP 178 (.idx 1 (.t 176) (.t 177)), oP 179 (.load none none (.t 178)), oP 180 (.mov (.t 17)), oP 181 (.idx 1 (.t 179) (.t
 180)), oP 182 (.load none none (.t 181)), oP 183 (.bin .lss (.t 182) (.c (.int .i64 0)))] (.cond (.t 183) (.region [oP 184 (.lea 3 (.t 8)), oP 185 (.load none none (.t 184)), oP 186 (.mov (.t 16)), oP 187 (.idx 1 (.t 185) (.t 186)), oP 188 (.load none none (.t 187)), oP 189 (.mov (.t 17)), oP 190
 (.mov (.t 15)), oP 191 (.idx 1 (.t 188) (.t 189)), oS (.store none 1 (.t 191) (.t 190))]) .skip))) (.region [oP 173 (.mov (.t 17)), oP 174 (.bin .add (.t 173) (.c (.int .i64 1))), oP 17 (.mov (.t 174))]))))))) (.region [oP 163 (.mov (.t 16)), oP 164 (.bin .add (.t 163) (.c (.int .i64 1))), oP 16
 (.mov (.t 164))])))))) (rS [oP 192 (.mk 2 0 [] []), oP 18 (.mov (.t 192))] (.seq (rS [oP 19 (.mov (.c (.int .i64 0)))] (.block 10 (.loop (.seq (rS [oP 193 (.mov (.t 19)), oP 194 (.mov (.t 0)), oP 195 (.nilck (.t 194)), oP 196 (.lea 0 (.t 195)), oP 197 (.load none none (.t 196)), oP 198 (.call (.c
 (.fn 135 [])) [.t 197]), oP 199 (.bin .lss (.t 193) (.t 198))] (.cond (.t 199) .skip (.exit 10))) (.seq (.block 11 (.region [oP 202 (.mov (.t 18)), oP 203 (.mov (.t 15)), oP 204 (.mk 2 1 [.int .i64 0] [(0, 1, .t 203)]), oP 205 (.app 2 1 8 (.t 202) (.t 204)), oP 18 (.mov (.t 205))])) (.region [oP 200
 (.mov (.t 19)), oP 201 (.bin .add (.t 200) (.c (.int .i64 1))), oP 19 (.mov (.t 201))])))))) (rS [oP 206 (.lea 2 (.t 8)), oP 207 (.load none none (.t 206)), oP 208 (.mk 4 1 [.bool false] [(0, 1, .c (.bool false))]), oP 209 (.app 4 1 1 (.t 207) (.t 208)), oP 210 (.lea 2 (.t 8)), oS (.store none 1 (.t
 210) (.t 209))] (rS [oP 211 (.lea 3 (.t 8)), oP 212 (.load none none (.t 211)), oP 213 (.mov (.t 18)), oP 214 (.mk 67 1 [.nils] [(0, 1, .t 213)]), oP 215 (.app 67 1 24 (.t 212) (.t 214)), oP 216 (.lea 3 (.t 8)), oS (.store none 1 (.t 216) (.t 215))] (rS [oP 217 (.load none (some 4) (.t 8)), oS
 (.store none 4 (.t 2) (.t 217))] .ret)))))))))))))))⟩
theorem irOk116 : compFun Tryz.prog.underlying Tryz.prog.info? sq Tryz.f116 = some ir116 := by kernel_rfl
def ir117 : BFun := ⟨[.tmp 4, .tmp 5], rS [oP 4 (.mov (.c .nils)), oP 5 (.mov (.c (.int .i64 0)))] (rS [oP 11 (.mov (.t 1)), oP 12 (.len 1 (.t 11)), oP 6 (.mov (.t 12))] (rS [oP 13 (.mov (.t 6)), oP 14 (.mksl 2 8 [.int .i64 0] (.t 13) (.t 13)), oP 7 (.mov (.t 14))] (rS [oP 15 (.mk 2 0 [] []), oP 8
 (.mov (.t 15))] (.seq (rS [oP 9 (.mov (.c (.int .i64 0)))] (.block 0 (.loop (.seq (rS [oP 16 (.mov (.t 9)), oP 17 (.mov (.t 6)), oP 18 (.bin .lss (.t 16) (.t 17))] (.cond (.t 18) .skip (.exit 0))) (.seq (.block 1 (rS [oP 21 (.mov (.t 7)), oP 22 (.mov (.t 9)), oP 23 (.idx 1 (.t 21) (.t 22)), oS
 (.store none 1 (.t 23) (.c (.int .i64 (-1))))] (.seq (rS [oP 10 (.mov (.c (.int .i64 0)))] (.block 2 (.loop (.seq (rS [oP 24 (.mov (.t 10)), oP 25 (.mov (.t 8)), oP 26 (.len 1 (.t 25)), oP 27 (.bin .lss (.t 24) (.t 26)), oP 28 (.mov (.t 27)), oG 29 28 true (.mov (.t 7)), oG 30 28 true (.mov (.t 9)),
 oG 31 28 true (.idx 1 (.t 29) (.t 30)), oG 32 28 true (.load none none (.t 31)), oG 33 28 true (.bin .lss (.t 32) (.c (.int .i64 0))), oP 34 (.pick (.t 28) (.t 33) (.c (.bool false)))] (.cond (.t 34) .skip (.exit 2))) (.seq (.block 3 (rS [oP 37 (.mov (.t 1)), oP 38 (.mov (.t 8)), oP 39 (.mov (.t
 10)), oP 40 (.idx 1 (.t 38) (.t 39)), oP 41 (.load none none (.t 40)), oP 42 (.idx 1 (.t 37) (.t 41)), oP 43 (.load none none (.t 42)), oP 44 (.mov (.t 1)), oP 45 (.mov (.t 9)), oP 46 (.idx 1 (.t 44) (.t 45)), oP 47 (.load none none (.t 46)), oP 48 (.bin .eql (.t 43) (.t 47)), oP 49 (.mov (.t 48)),
 oG 50 49 true (.mov (.t 0)), oG 51 49 true (.mov (.t 1)), oG 52 49 true (.mov (.t 8)), oG 53 49 true (.mov (.t 10)), oG 54 49 true (.idx 1 (.t 52) (.t 53)), oG 55 49 true (.load none none (.t 54)), oG 56 49 true (.mov (.t 9)), oG 57 49 true (.call (.c (.fn 171 [])) [.t 50, .t 51, .t 55, .t 56]), oP
 58 (.pick (.t 49) (.t 57) (.c (.bool false)))] (.cond (.t 58) (.region [oP 59 (.mov (.t 7)), oP 60 (.mov (.t 9)), oP 61 (.mov (.t 10)), oP 62 (.idx 1 (.t 59) (.t 60)), oS (.store none 1 (.t 62) (.t 61))]) .skip))) (.region [oP 35 (.mov (.t 10)), oP 36 (.bin .add (.t 35) (.c (.int .i64 1))), oP 10
 (.mov (.t 36))])))))) (rS [oP 63 (.mov (.t 7)), oP 64 (.mov (.t 9)), oP 65 (.idx 1 (.t 63) (.t 64)), oP 66 (.load none none (.t 65)), oP 67 (.bin .lss (.t 66) (.c (.int .i64 0)))] (.cond (.t 67) (rS [oP 68 (.mov (.t 7)), oP 69 (.mov (.t 9)), oP 70 (.mov (.t 8)), oP 71 (.len 1 (.t 70)), oP 72 (.idx 1
 (.t 68) (.t 69)), oS (.store none 1 (.t 72) (.t 71))] (.region [oP 73 (.mov (.t 8)), oP 74 (.mov (.t 9)), oP 75 (.mk 2 1 [.int .i64 0] [(0, 1, .t 74)]), oP 76 (.app 2 1 8 (.t 73) (.t 75)), oP 8 (.mov (.t 76))])) .skip))))) (.region [oP 19 (.mov (.t 9)), oP 20 (.bin .add (.t 19) (.c (.int .i64 1))),
 oP 9 (.mov (.t 20))])))))) (rS [oP 77 (.mov (.t 7)), oP 78 (.mov (.t 8)), oP 79 (.len 1 (.t 78)), oP 4 (.mov (.t 77)), oP 5 (.mov (.t 79))] .ret)))))⟩
theorem irOk117 : compFun Tryz.prog.underlying Tryz.prog.info? sq Tryz.f117 = some ir117 := by kernel_rfl
def ir123 : BFun := ⟨[.tmp 2], rS [oP 2 (.mov (.c (.bool false)))] (rS [oP 3 (.mov (.t 0)), oP 4 (.call (.c (.fn 58 [])) [.t 3, .c (.int .i64 1), .c (.int .i64 3)]), oP 2 (.mov (.t 4))] .ret)⟩
theorem irOk123 : compFun Tryz.prog.underlying Tryz.prog.info? sq Tryz.f123 = some ir123 := by kernel_rfl
def ir125 : BFun := ⟨[.cell 0 (some 4)], rS [oP 0 (.new 29 [.int .i64 0, .int .i64 0, .nils, .nils])] (rS [oP 6 (.call (.c (.fn 159 [])) [.c (.int .i64 1), .c (.int .i64 1), .c (.int .i64 0), .c (.fn 176 []), .c (.fn 177 [])]), oP 5 (.mov (.t 6)), oP 7 (.ext 0 (.t 5)), oP 8 (.ext 1 (.t 5)), oP 1
 (.new 80 [.int .i64 0, .int .i64 0, .nils, .nils]), oS (.store none 4 (.t 1) (.t 7)), oP 2 (.mov (.t 8))] (rS [oP 10 (.load none (some 4) (.t 1)), oP 11 (.call (.c (.fn 95 [])) [.t 10]), oP 9 (.mov (.t 11)), oP 12 (.ext 0 (.t 9)), oP 13 (.ext 1 (.t 9)), oP 3 (.new 29 [.int .i64 0, .int .i64 0,
 .nils, .nils]), oS (.store none 4 (.t 3) (.t 12)), oP 4 (.mov (.t 13))] (rS [oP 14 (.load none (some 4) (.t 3)), oS (.store none 4 (.t 0) (.t 14))] .ret)))⟩
theorem irOk125 : compFun Tryz.prog.underlying Tryz.prog.info? sq Tryz.f125 = some ir125 := by kernel_rfl
def ir126 : BFun := ⟨[.cell 2 (some 4)], rS [oP 1 (.box 29 (.t 0)), oP 2 (.new 80 [.int .i64 0, .int .i64 0, .nils, .nils])] (rS [oP 9 (.lea 0 (.t 1)), oP 10 (.load (some 29) none (.t 9)), oP 11 (.lea 1 (.t 1)), oP 12 (.load (some 29) none (.t 11)), oP 13 (.lea 2 (.t 1)), oP 14 (.load none none (.t
 13)), ⟨some 15, .call (.c (.fn 134 [])) [.t 14], none, [29]⟩, oP 16 (.build [.int .i64 0, .int .i64 0, .nils, .nils] [(0, 1, .t 10), (1, 1, .t 12), (2, 1, .t 15)]), oP 3 (.new 80 [.int .i64 0, .int .i64 0, .nils, .nils]), oS (.store none 4 (.t 3) (.t 16))] (.seq (rS [oP 17 (.lea 3 (.t 1)), oP 18
 (.load none none (.t 17)), oP 19 (.len 1 (.t 18)), oP 20 (.mov (.c (.int .i64 0)))] (.block 0 (.loop (rS [oP 21 (.bin .lss (.t 20) (.t 19))] (.seq (.cond (.t 21) .skip (.exit 0)) (.seq (.block 1 (rS [oP 22 (.idx 1 (.t 18) (.t 20)), oP 23 (.load none none (.t 22)), oP 5 (.mov (.t 23))] (rS [oP 6
 (.mov (.c .nils))] (.seq (rS [oP 24 (.mov (.t 5)), oP 25 (.len 1 (.t 24)), oP 26 (.mov (.c (.int .i64 0)))] (.block 2 (.loop (rS [oP 27 (.bin .lss (.t 26) (.t 25))] (.seq (.cond (.t 27) .skip (.exit 2)) (.seq (.block 3 (rS [oP 28 (.idx 1 (.t 24) (.t 26)), oP 29 (.load none none (.t 28)), oP 8 (.mov
 (.t 29))] (.region [oP 30 (.mov (.t 6)), oP 31 (.mov (.t 8)), oP 32 (.mk 3 1 [.int .i64 0] [(0, 1, .t 31)]), oP 33 (.app 3 1 8 (.t 30) (.t 32)), oP 6 (.mov (.t 33))]))) (.region [oP 34 (.bin .add (.t 26) (.c (.int .i64 1))), oP 26 (.mov (.t 34))]))))))) (.region [oP 35 (.lea 3 (.t 3)), oP 36 (.load
 none none (.t 35)), oP 37 (.mov (.t 6)), oP 38 (.mk 84 1 [.nils] [(0, 1, .t 37)]), oP 39 (.app 84 1 24 (.t 36) (.t 38)), oP 40 (.lea 3 (.t 3)), oS (.store none 1 (.t 40) (.t 39))]))))) (.region [oP 41 (.bin .add (.t 20) (.c (.int .i64 1))), oP 20 (.mov (.t 41))]))))))) (rS [oP 42 (.load none (some
 4) (.t 3)), oS (.store none 4 (.t 2) (.t 42))] .ret)))⟩
theorem irOk126 : compFun Tryz.prog.underlying Tryz.prog.info? sq Tryz.f126 = some ir126 := by kernel_rfl
def ir127 : BFun := ⟨[.cell 2 (some 4)], rS [oP 1 (.box 80 (.t 0)), oP 2 (.new 80 [.int .i64 0, .int .i64 0, .nils, .nils])] (rS [oP 9 (.lea 0 (.t 1)), oP 10 (.load none none (.t 9)), oP 11 (.call (.c (.fn 110 [])) [.t 10]), oP 12 (.mksl 3 8 [.int .i64 0] (.t 11) (.t 11)), oP 3 (.new 84 [.nils]), oS
 (.store none 1 (.t 3) (.t 12))] (.seq (rS [oP 13 (.load none none (.t 3)), oP 14 (.len 1 (.t 13)), oP 15 (.mov (.c (.int .i64 0)))] (.block 0 (.loop (rS [oP 16 (.bin .lss (.t 15) (.t 14))] (.seq (.cond (.t 16) .skip (.exit 0)) (.seq (.block 1 (rS [oP 17 (.mov (.t 15)), oP 4 (.mov (.t 17))] (rS [oP
 18 (.lea 0 (.t 1)), oP 19 (.load none none (.t 18)), oP 20 (.mov (.t 4)), oP 21 (.call (.c (.fn 111 [])) [.t 19, .t 20]), oP 22 (.len 1 (.t 21)), oP 23 (.mov (.c (.int .i64 0)))] (.block 2 (.loop (rS [oP 24 (.bin .lss (.t 23) (.t 22))] (.seq (.cond (.t 24) .skip (.exit 2)) (.seq (.block 3 (rS [oP 25
 (.mov (.t 23)), oP 26 (.idx 1 (.t 21) (.t 23)), oP 27 (.load none none (.t 26)), oP 5 (.mov (.t 25)), oP 6 (.mov (.t 27))] (rS [oP 28 (.mov (.t 6)), oP 29 (.bin .eql (.t 28) (.c (.int .i64 2)))] (.cond (.t 29) (.region [oP 30 (.load none none (.t 3)), oP 31 (.mov (.t 4)), oP 32 (.idx 1 (.t 30) (.t
 31)), oP 33 (.load none none (.t 32)), oP 34 (.mov (.t 5)), oP 35 (.bin .shl (.c (.int .i64 1)) (.t 34)), oP 36 (.bin .or (.t 33) (.t 35)), oP 37 (.idx 1 (.t 30) (.t 31)), oS (.store none 1 (.t 37) (.t 36))]) .skip)))) (.region [oP 38 (.bin .add (.t 23) (.c (.int .i64 1))), oP 23 (.mov (.t
 38))]))))))))) (.region [oP 39 (.bin .add (.t 15) (.c (.int .i64 1))), oP 15 (.mov (.t 39))]))))))) (rS [oP 41 (.lea 0 (.t 1)), oP 42 (.load none none (.t 41)), oP 43 (.lea 1 (.t 1)), oP 44 (.load none none (.t 43)), oP 45 (.build [.int .i64 0, .int .i64 0] [(0, 1, .t 44)]), oP 46 (.mkfn 179 [.t
 1]), oP 47 (.mkfn 180 [.t 3, .t 1]), oP 48 (.call (.c (.fn 178 [])) [.t 42, .t 45, .c (.int .i64 0), .t 46, .t 47]), oP 40 (.mov (.t 48)), oP 49 (.ext 0 (.t 40)), oP 50 (.ext 1 (.t 40)), oP 7 (.new 80 [.int .i64 0, .int .i64 0, .nils, .nils]), oS (.store none 4 (.t 7) (.t 49)), oP 8 (.mov (.t 50))]
 (rS [oP 51 (.load none (some 4) (.t 7)), oP 52 (.call (.c (.fn 181 [])) [.t 51]), oS (.store none 4 (.t 2) (.t 52))] .ret))))⟩
theorem irOk127 : compFun Tryz.prog.underlying Tryz.prog.info? sq Tryz.f127 = some ir127 := by kernel_rfl
def ir134 : BFun := ⟨[.tmp 2], rS [oP 2 (.mov (.c .nils))] (.seq (rS [oP 3 (.mov (.t 0)), oP 4 (.isnil false (.t 3))] (.cond (.t 4) (rS [oP 2 (.mov (.c .nils))] .ret) .skip)) (rS [oP 5 (.mk 4 0 [] []), oP 6 (.mov (.t 0)), oP 7 (.app 4 1 1 (.t 5) (.t 6)), oP 2 (.mov (.t 7))] .ret))⟩
theorem irOk134 : compFun Tryz.prog.underlying Tryz.prog.info? sq Tryz.f134 = some ir134 := by kernel_rfl
def ir135 : BFun := ⟨[.tmp 2], rS [oP 2 (.mov (.c (.int .i64 0)))] (rS [oP 3 (.mov (.t 0)), oP 4 (.call (.c (.fn 194 [])) [.t 3]), oP 5 (.bin .sub (.t 4) (.c (.int .i64 1))), oP 2 (.mov (.t 5))] .ret)⟩
theorem irOk135 : compFun Tryz.prog.underlying Tryz.prog.info? sq Tryz.f135 = some ir135 := by kernel_rfl
def ir136 : BFun := ⟨[.tmp 4], rS [oP 4 (.mov (.c (.int .i64 0)))] (.seq (rS [oP 5 (.mov (.t 0)), oP 6 (.call (.c (.fn 42 [])) [.t 5]), oP 7 (.not (.t 6)), oP 8 (.mov (.t 7)), oG 9 8 false (.mov (.t 1)), oG 10 8 false (.call (.c (.fn 42 [])) [.t 9]), oG 11 8 false (.not (.t 10)), oP 12 (.pick (.t 8)
 (.c (.bool true)) (.t 11))] (.cond (.t 12) (rS [oP 4 (.mov (.c (.int .i64 1)))] .ret) .skip)) (.seq (rS [oP 13 (.mov (.t 0)), oP 14 (.nilck (.t 13)), oP 15 (.lea 0 (.t 14)), oP 16 (.load none none (.t 15)), oP 17 (.mov (.t 1)), oP 18 (.nilck (.t 17)), oP 19 (.lea 0 (.t 18)), oP 20 (.load none none
 (.t 19)), oP 21 (.bin .neq (.t 16) (.t 20))] (.cond (.t 21) (rS [oP 4 (.mov (.c (.int .i64 2)))] .ret) .skip)) (rS [oP 4 (.mov (.c (.int .i64 0)))] .ret)))⟩
theorem irOk136 : compFun Tryz.prog.underlying Tryz.prog.info? sq Tryz.f136 = some ir136 := by kernel_rfl
def ir137 : BFun := ⟨[.cell 6 (some 4)], rS [oP 6 (.new 29 [.int .i64 0, .int .i64 0, .nils, .nils])] (rS [oP 13 (.mov (.t 0)), oP 14 (.mov (.t 1)), oP 15 (.call (.c (.fn 195 [])) [.t 13, .t 14]), oP 7 (.new 29 [.int .i64 0, .int .i64 0, .nils, .nils]), oS (.store none 4 (.t 7) (.t 15))] (rS [oP 16
 (.mov (.t 1)), oP 17 (.nilck (.t 16)), oP 18 (.lea 2 (.t 17)), oP 19 (.load none none (.t 18)), oP 20 (.len 1 (.t 19)), oP 8 (.mov (.t 20))] (.seq (rS [oP 9 (.mov (.c (.int .i64 0)))] (.block 0 (.loop (.seq (rS [oP 21 (.mov (.t 9)), oP 22 (.mov (.t 0)), oP 23 (.nilck (.t 22)), oP 24 (.lea 2 (.t
 23)), oP 25 (.load none none (.t 24)), oP 26 (.len 1 (.t 25)), oP 27 (.bin .lss (.t 21) (.t 26))] (.cond (.t 27) .skip (.exit 0))) (.seq (.block 1 (rS [oP 10 (.mov (.c (.int .i64 0)))] (.block 2 (.loop (.seq (rS [oP 30 (.mov (.t 10)), oP 31 (.mov (.t 8)), oP 32 (.bin .lss (.t 30) (.t 31))] (.cond
 (.t 32) .skip (.exit 2))) (.seq (.block 3 (rS [oP 35 (.mov (.t 0)), oP 36 (.nilck (.t 35)), oP 37 (.lea 2 (.t 36)), oP 38 (.load none none (.t 37)), oP 39 (.mov (.t 9)), oP 40 (.idx 1 (.t 38) (.t 39)), oP 41 (.load none none (.t 40)), oP 11 (.mov (.t 41))] (rS [oP 42 (.mov (.t 1)), oP 43 (.nilck (.t
 42)), oP 44 (.lea 2 (.t 43)), oP 45 (.load none none (.t 44)), oP 46 (.mov (.t 10)), oP 47 (.idx 1 (.t 45) (.t 46)), oP 48 (.load none none (.t 47)), oP 12 (.mov (.t 48))] (rS [oP 49 (.mov (.t 2))] (.block 4 (rS [oP 64 (.bin .eql (.t 49) (.c (.int .i64 1))), oP 63 (.mov (.t 64))] (.cond (.t 63)
 (.region [oP 65 (.lea 2 (.t 7)), oP 66 (.load none none (.t 65)), oP 67 (.mov (.t 9)), oP 68 (.mov (.t 8)), oP 69 (.bin .mul (.t 67) (.t 68)), oP 70 (.mov (.t 10)), oP 71 (.bin .add (.t 69) (.t 70)), oP 72 (.mov (.t 11)), oP 73 (.mov (.t 72)), oG 74 73 true (.mov (.t 12)), oP 75 (.pick (.t 73) (.t
 74) (.c (.bool false))), oP 76 (.idx 1 (.t 66) (.t 71)), oS (.store none 1 (.t 76) (.t 75))]) (rS [oP 78 (.bin .eql (.t 49) (.c (.int .i64 2))), oP 77 (.mov (.t 78))] (.cond (.t 77) (.region [oP 79 (.lea 2 (.t 7)), oP 80 (.load none none (.t 79)), oP 81 (.mov (.t 9)), oP 82 (.mov (.t 8)), oP 83
 (.bin .mul (.t 81) (.t 82)), oP 84 (.mov (.t 10)), oP 85 (.bin .add (.t 83) (.t 84)), oP 86 (.mov (.t 11)), oP 87 (.mov (.t 86)), oG 88 87 false (.mov (.t 12)), oP 89 (.pick (.t 87) (.c (.bool true)) (.t 88)), oP 90 (.idx 1 (.t 80) (.t 85)), oS (.store none 1 (.t 90) (.t 89))]) (.region [oP 50 (.lea
 2 (.t 7)), oP 51 (.load none none (.t 50)), oP 52 (.mov (.t 9)), oP 53 (.mov (.t 8)), oP 54 (.bin .mul (.t 52) (.t 53)), oP 55 (.mov (.t 10)), oP 56 (.bin .add (.t 54) (.t 55)), oP 57 (.mov (.t 11)), oP 58 (.mov (.t 57)), oG 59 58 true (.mov (.t 12)), oG 60 58 true (.not (.t 59)), oP 61 (.pick (.t
 58) (.t 60) (.c (.bool false))), oP 62 (.idx 1 (.t 51) (.t 56)), oS (.store none 1 (.t 62) (.t 61))])))))))))) (.region [oP 33 (.mov (.t 10)), oP 34 (.bin .add (.t 33) (.c (.int .i64 1))), oP 10 (.mov (.t 34))]))))))) (.region [oP 28 (.mov (.t 9)), oP 29 (.bin .add (.t 28) (.c (.int .i64 1))), oP 9
 (.mov (.t 29))])))))) (rS [oP 91 (.load none (some 4) (.t 7)), oS (.store none 4 (.t 6) (.t 91))] .ret))))⟩
theorem irOk137 : compFun Tryz.prog.underlying Tryz.prog.info? sq Tryz.f137 = some ir137 := by kernel_rfl
def ir138 : BFun := ⟨[.tmp 6], rS [oP 6 (.mov (.c (.int .i64 0)))] (rS [oP 7 (.mov (.c (.int .i64 0)))] (rS [oP 8 (.mov (.c (.int .i64 0)))] (.seq (rS [oP 9 (.mov (.c (.int .i64 0)))] (.block 0 (.loop (.seq (rS [oP 10 (.mov (.t 9)), oP 11 (.mov (.t 1)), oP 12 (.bin .lss (.t 10) (.t 11))] (.cond (.t
 12) .skip (.exit 0))) (.seq (.block 1 (rS [oP 15 (.mov (.t 9)), oP 16 (.mov (.t 2)), oP 17 (.bin .neq (.t 15) (.t 16))] (.cond (.t 17) (rS [oP 18 (.mov (.t 7)), oP 19 (.mov (.t 0)), oP 20 (.mov (.t 9)), oP 21 (.call (.c (.fn 158 [])) [.t 19, .t 20]), oP 22 (.mov (.t 8)), oP 23 (.call (.c (.fn 194
 [])) [.t 22]), oP 24 (.bin .mul (.t 21) (.t 23)), oP 25 (.bin .add (.t 18) (.t 24)), oP 7 (.mov (.t 25))] (.region [oP 26 (.mov (.t 8)), oP 27 (.bin .add (.t 26) (.c (.int .i64 1))), oP 8 (.mov (.t 27))])) .skip))) (.region [oP 13 (.mov (.t 9)), oP 14 (.bin .add (.t 13) (.c (.int .i64 1))), oP 9
 (.mov (.t 14))])))))) (rS [oP 28 (.mov (.t 7)), oP 6 (.mov (.t 28))] .ret))))⟩
theorem irOk138 : compFun Tryz.prog.underlying Tryz.prog.info? sq Tryz.f138 = some ir138 := by kernel_rfl
def ir139 : BFun := ⟨[.cell 6 (some 4), .tmp 7], rS [oP 6 (.new 29 [.int .i64 0, .int .i64 0, .nils, .nils]), oP 7 (.mov (.c (.int .i64 0)))] (rS [oP 11 (.mov (.t 0)), oP 12 (.call (.c (.fn 67 [])) [.t 11]), oP 8 (.new 29 [.int .i64 0, .int .i64 0, .nils, .nils]), oS (.store none 4 (.t 8) (.t 12))]
 (rS [oP 13 (.mov (.t 1)), oP 14 (.call (.c (.fn 67 [])) [.t 13]), oP 9 (.new 29 [.int .i64 0, .int .i64 0, .nils, .nils]), oS (.store none 4 (.t 9) (.t 14))] (.seq (rS [oP 15 (.lea 2 (.t 8)), oP 16 (.load none none (.t 15)), oP 17 (.len 1 (.t 16)), oP 18 (.lea 2 (.t 9)), oP 19 (.load none none (.t
 18)), oP 20 (.len 1 (.t 19)), oP 21 (.bin .mul (.t 17) (.t 20)), oP 22 (.bin .gtr (.t 21) (.c (.int .i64 1000)))] (.cond (.t 22) (rS [oP 23 (.build [.int .i64 0, .int .i64 0, .nils, .nils] []), oS (.store none 4 (.t 6) (.t 23)), oP 7 (.mov (.c (.int .i64 3)))] .ret) .skip)) (rS [oP 24 (.mov (.t 2)),
 oP 25 (.call (.c (.fn 137 [])) [.t 8, .t 9, .t 24]), oP 10 (.new 29 [.int .i64 0, .int .i64 0, .nils, .nils]), oS (.store none 4 (.t 10) (.t 25))] (rS [oP 26 (.call (.c (.fn 67 [])) [.t 10]), oP 27 (.call (.c (.fn 86 [])) [.t 26]), oP 28 (.ext 0 (.t 27)), oP 29 (.ext 1 (.t 27)), oS (.store none 4
 (.t 6) (.t 28)), oP 7 (.mov (.t 29))] .ret)))))⟩
theorem irOk139 : compFun Tryz.prog.underlying Tryz.prog.info? sq Tryz.f139 = some ir139 := by kernel_rfl
def ir140 : BFun := ⟨[.tmp 4], rS [oP 4 (.mov (.c (.int .i64 0)))] (.seq (rS [oP 5 (.mov (.t 0)), oP 6 (.call (.c (.fn 42 [])) [.t 5]), oP 7 (.not (.t 6))] (.cond (.t 7) (rS [oP 4 (.mov (.c (.int .i64 1)))] .ret) .skip)) (.seq (rS [oP 8 (.mov (.t 1)), oP 9 (.mov (.t 0)), oP 10 (.nilck (.t 9)), oP 11
 (.lea 0 (.t 10)), oP 12 (.load none none (.t 11)), oP 13 (.bin .sub (.t 12) (.c (.int .i64 1))), oP 14 (.call (.c (.fn 56 [])) [.t 8, .c (.int .i64 0), .t 13]), oP 15 (.not (.t 14))] (.cond (.t 15) (rS [oP 4 (.mov (.c (.int .i64 2)))] .ret) .skip)) (rS [oP 4 (.mov (.c (.int .i64 0)))] .ret)))⟩
theorem irOk140 : compFun Tryz.prog.underlying Tryz.prog.info? sq Tryz.f140 = some ir140 := by kernel_rfl
def ir141 : BFun := ⟨[.tmp 10], rS [oP 10 (.mov (.c .nils))] (rS [oP 17 (.mov (.t 0)), oP 18 (.nilck (.t 17)), oP 19 (.lea 2 (.t 18)), oP 20 (.load none none (.t 19)), oP 21 (.len 1 (.t 20)), oP 22 (.mksl 4 1 [.bool false] (.t 21) (.t 21)), oP 11 (.mov (.t 22))] (.seq (rS [oP 12 (.mov (.c (.int .i64
 0)))] (.block 0 (.loop (.seq (rS [oP 23 (.mov (.t 12)), oP 24 (.bin .lss (.t 23) (.c (.int .i64 3)))] (.cond (.t 24) .skip (.exit 0))) (.seq (.block 1 (.seq (rS [oP 27 (.mov (.t 12)), oP 28 (.bin .eql (.t 27) (.c (.int .i64 2))), oP 29 (.mov (.t 28)), oG 30 29 true (.mov (.t 4)), oG 31 29 true (.not
 (.t 30)), oP 32 (.pick (.t 29) (.t 31) (.c (.bool false)))] (.cond (.t 32) (.exit 1) .skip)) (rS [oP 33 (.mov (.t 2)), oP 34 (.mov (.t 0)), oP 35 (.nilck (.t 34)), oP 36 (.lea 0 (.t 35)), oP 37 (.load none none (.t 36)), oP 38 (.mov (.t 3)), oP 39 (.mov (.t 12)), oP 40 (.call (.c (.fn 196 [])) [.t
 33, .t 37, .t 38, .t 39]), oP 13 (.mov (.t 40))] (rS [oP 14 (.mov (.c (.int .i64 0)))] (.block 2 (.loop (.seq (rS [oP 41 (.mov (.t 14)), oP 42 (.mov (.t 1)), oP 43 (.len 1 (.t 42)), oP 44 (.bin .lss (.t 41) (.t 43))] (.cond (.t 44) .skip (.exit 2))) (.seq (.block 3 (.region [oP 47 (.mov (.t 11)), oP
 48 (.mov (.t 0)), oP 49 (.nilck (.t 48)), oP 50 (.lea 3 (.t 49)), oP 51 (.load none none (.t 50)), oP 52 (.mov (.t 1)), oP 53 (.mov (.t 14)), oP 54 (.idx 1 (.t 52) (.t 53)), oP 55 (.load none none (.t 54)), oP 56 (.idx 1 (.t 51) (.t 55)), oP 57 (.load none none (.t 56)), oP 58 (.mov (.t 13)), oP 59
 (.idx 1 (.t 57) (.t 58)), oP 60 (.load none none (.t 59)), oP 61 (.idx 1 (.t 47) (.t 60)), oS (.store none 1 (.t 61) (.c (.bool true)))])) (.region [oP 45 (.mov (.t 14)), oP 46 (.bin .add (.t 45) (.c (.int .i64 1))), oP 14 (.mov (.t 46))]))))))))) (.region [oP 25 (.mov (.t 12)), oP 26 (.bin .add (.t
 25) (.c (.int .i64 1))), oP 12 (.mov (.t 26))])))))) (rS [oP 62 (.mk 2 0 [] []), oP 15 (.mov (.t 62))] (.seq (rS [oP 16 (.mov (.c (.int .i64 0)))] (.block 4 (.loop (.seq (rS [oP 63 (.mov (.t 16)), oP 64 (.mov (.t 11)), oP 65 (.len 1 (.t 64)), oP 66 (.bin .lss (.t 63) (.t 65))] (.cond (.t 66) .skip
 (.exit 4))) (.seq (.block 5 (rS [oP 69 (.mov (.t 11)), oP 70 (.mov (.t 16)), oP 71 (.idx 1 (.t 69) (.t 70)), oP 72 (.load none none (.t 71))] (.cond (.t 72) (.region [oP 73 (.mov (.t 15)), oP 74 (.mov (.t 16)), oP 75 (.mk 2 1 [.int .i64 0] [(0, 1, .t 74)]), oP 76 (.app 2 1 8 (.t 73) (.t 75)), oP 15
 (.mov (.t 76))]) .skip))) (.region [oP 67 (.mov (.t 16)), oP 68 (.bin .add (.t 67) (.c (.int .i64 1))), oP 16 (.mov (.t 68))])))))) (rS [oP 77 (.mov (.t 15)), oP 10 (.mov (.t 77))] .ret)))))⟩
theorem irOk141 : compFun Tryz.prog.underlying Tryz.prog.info? sq Tryz.f141 = some ir141 := by kernel_rfl
def ir142 : BFun := ⟨[.tmp 4], rS [oP 4 (.mov (.c (.bool false)))] (.seq (rS [oP 6 (.mov (.t 0)), oP 7 (.len 1 (.t 6)), oP 8 (.mov (.t 1)), oP 9 (.len 1 (.t 8)), oP 10 (.bin .neq (.t 7) (.t 9))] (.cond (.t 10) (rS [oP 4 (.mov (.c (.bool false)))] .ret) .skip)) (.seq (rS [oP 5 (.mov (.c (.int .i64
 0)))] (.block 0 (.loop (.seq (rS [oP 11 (.mov (.t 5)), oP 12 (.mov (.t 0)), oP 13 (.len 1 (.t 12)), oP 14 (.bin .lss (.t 11) (.t 13))] (.cond (.t 14) .skip (.exit 0))) (.seq (.block 1 (rS [oP 17 (.mov (.t 0)), oP 18 (.mov (.t 5)), oP 19 (.idx 1 (.t 17) (.t 18)), oP 20 (.load none none (.t 19)), oP
 21 (.mov (.t 1)), oP 22 (.mov (.t 5)), oP 23 (.idx 1 (.t 21) (.t 22)), oP 24 (.load none none (.t 23)), oP 25 (.bin .neq (.t 20) (.t 24))] (.cond (.t 25) (rS [oP 4 (.mov (.c (.bool false)))] .ret) .skip))) (.region [oP 15 (.mov (.t 5)), oP 16 (.bin .add (.t 15) (.c (.int .i64 1))), oP 5 (.mov (.t
 16))])))))) (rS [oP 4 (.mov (.c (.bool true)))] .ret)))⟩
theorem irOk142 : compFun Tryz.prog.underlying Tryz.prog.info? sq Tryz.f142 = some ir142 := by kernel_rfl
def ir143 : BFun := ⟨[.tmp 6], rS [oP 6 (.mov (.c (.bool false)))] (rS [oP 14 (.mov (.t 0)), oP 15 (.nilck (.t 14)), oP 16 (.lea 2 (.t 15)), oP 17 (.load none none (.t 16)), oP 18 (.len 1 (.t 17)), oP 19 (.mksl 4 1 [.bool false] (.t 18) (.t 18)), oP 7 (.mov (.t 19))] (rS [oP 20 (.mk 2 0 [] []), oP 8
 (.mov (.t 20))] (.seq (rS [oP 9 (.mov (.c (.int .i64 0)))] (.block 0 (.loop (.seq (rS [oP 21 (.mov (.t 9)), oP 22 (.mov (.t 1)), oP 23 (.len 1 (.t 22)), oP 24 (.bin .lss (.t 21) (.t 23))] (.cond (.t 24) .skip (.exit 0))) (.seq (.block 1 (rS [oP 27 (.mov (.t 7)), oP 28 (.mov (.t 1)), oP 29 (.mov (.t
 9)), oP 30 (.idx 1 (.t 28) (.t 29)), oP 31 (.load none none (.t 30)), oP 32 (.idx 1 (.t 27) (.t 31)), oS (.store none 1 (.t 32) (.c (.bool true)))] (.region [oP 33 (.mov (.t 8)), oP 34 (.mov (.t 1)), oP 35 (.mov (.t 9)), oP 36 (.idx 1 (.t 34) (.t 35)), oP 37 (.load none none (.t 36)), oP 38 (.mk 2 1
 [.int .i64 0] [(0, 1, .t 37)]), oP 39 (.app 2 1 8 (.t 33) (.t 38)), oP 8 (.mov (.t 39))]))) (.region [oP 25 (.mov (.t 9)), oP 26 (.bin .add (.t 25) (.c (.int .i64 1))), oP 9 (.mov (.t 26))])))))) (rS [oP 40 (.mov (.t 0)), oP 41 (.nilck (.t 40)), oP 42 (.lea 0 (.t 41)), oP 43 (.load none none (.t
 42)), oP 44 (.bin .sub (.t 43) (.c (.int .i64 1))), oP 45 (.call (.c (.fn 135 [])) [.t 44]), oP 10 (.mov (.t 45))] (.seq (rS [oP 11 (.mov (.c (.int .i64 0)))] (.block 2 (.loop (.seq (rS [oP 46 (.mov (.t 11)), oP 47 (.mov (.t 8)), oP 48 (.len 1 (.t 47)), oP 49 (.bin .lss (.t 46) (.t 48))] (.cond (.t
 49) .skip (.exit 2))) (.seq (.block 3 (.seq (rS [oP 52 (.mov (.t 0)), oP 53 (.nilck (.t 52)), oP 54 (.lea 2 (.t 53)), oP 55 (.load none none (.t 54)), oP 56 (.mov (.t 8)), oP 57 (.mov (.t 11)), oP 58 (.idx 1 (.t 56) (.t 57)), oP 59 (.load none none (.t 58)), oP 60 (.idx 1 (.t 55) (.t 59)), oP 61
 (.load none none (.t 60))] (.cond (.t 61) (rS [oP 6 (.mov (.c (.bool true)))] .ret) .skip)) (rS [oP 12 (.mov (.c (.int .i64 0)))] (.block 4 (.loop (.seq (rS [oP 62 (.mov (.t 12)), oP 63 (.bin .lss (.t 62) (.c (.int .i64 2)))] (.cond (.t 63) .skip (.exit 4))) (.seq (.block 5 (rS [oP 66 (.mov (.t 0)),
 oP 67 (.nilck (.t 66)), oP 68 (.lea 3 (.t 67)), oP 69 (.load (some 29) none (.t 68)), oP 70 (.mov (.t 8)), oP 71 (.mov (.t 11)), oP 72 (.idx 1 (.t 70) (.t 71)), oP 73 (.load (some 2) none (.t 72)), oP 74 (.idx 1 (.t 69) (.t 73)), oP 75 (.load (some 67) none (.t 74)), oP 76 (.mov (.t 10)), oP 77
 (.mov (.t 0)), oP 78 (.nilck (.t 77)), oP 79 (.lea 0 (.t 78)), oP 80 (.load none none (.t 79)), oP 81 (.mov (.t 2)), oP 82 (.mov (.t 12)), ⟨some 83, .call (.c (.fn 196 [])) [.t 76, .t 80, .t 81, .t 82], none, [29, 2, 67]⟩, oP 84 (.idx 1 (.t 75) (.t 83)), oP 85 (.load none none (.t 84)), oP 13 (.mov
 (.t 85))] (rS [oP 86 (.mov (.t 7)), oP 87 (.mov (.t 13)), oP 88 (.idx 1 (.t 86) (.t 87)), oP 89 (.load none none (.t 88)), oP 90 (.not (.t 89))] (.cond (.t 90) (rS [oP 91 (.mov (.t 7)), oP 92 (.mov (.t 13)), oP 93 (.idx 1 (.t 91) (.t 92)), oS (.store none 1 (.t 93) (.c (.bool true)))] (.region [oP
 94 (.mov (.t 8)), oP 95 (.mov (.t 13)), oP 96 (.mk 2 1 [.int .i64 0] [(0, 1, .t 95)]), oP 97 (.app 2 1 8 (.t 94) (.t 96)), oP 8 (.mov (.t 97))])) .skip)))) (.region [oP 64 (.mov (.t 12)), oP 65 (.bin .add (.t 64) (.c (.int .i64 1))), oP 12 (.mov (.t 65))])))))))) (.region [oP 50 (.mov (.t 11)), oP
 51 (.bin .add (.t 50) (.c (.int .i64 1))), oP 11 (.mov (.t 51))])))))) (rS [oP 6 (.mov (.c (.bool false)))] .ret))))))⟩
theorem irOk143 : compFun Tryz.prog.underlying Tryz.prog.info? sq Tryz.f143 = some ir143 := by kernel_rfl
def ir144 : BFun := ⟨[.cell 6 (some 4)], rS [oP 3 (.box 80 (.t 0)), oP 6 (.new 80 [.int .i64 0, .int .i64 0, .nils, .nils])] (rS [oP 15 (.mov (.t 1)), oP 16 (.call (.c (.fn 110 [])) [.t 15]), oP 17 (.mksl 3 8 [.int .i64 0] (.t 16) (.t 16)), oP 7 (.mov (.t 17))] (.seq (rS [oP 18 (.mov (.t 7)), oP 19
 (.len 1 (.t 18)), oP 20 (.mov (.c (.int .i64 0)))] (.block 0 (.loop (rS [oP 21 (.bin .lss (.t 20) (.t 19))] (.seq (.cond (.t 21) .skip (.exit 0)) (.seq (.block 1 (rS [oP 22 (.mov (.t 20)), oP 8 (.mov (.t 22))] (.region [oP 23 (.mov (.t 7)), oP 24 (.mov (.t 8)), oP 25 (.mov (.t 2)), oP 26 (.mov (.t
 1)), oP 27 (.mov (.t 8)), oP 28 (.call (.c (.fn 111 [])) [.t 26, .t 27]), oP 29 (.call (.t 25) [.t 28]), oP 30 (.call (.c (.fn 197 [])) [.t 29]), oP 31 (.idx 1 (.t 23) (.t 24)), oS (.store none 1 (.t 31) (.t 30))]))) (.region [oP 32 (.bin .add (.t 20) (.c (.int .i64 1))), oP 20 (.mov (.t
 32))]))))))) (rS [oP 33 (.mov (.t 1)), oP 34 (.lea 1 (.t 3)), oP 35 (.load (some 80) none (.t 34)), oP 36 (.lea 2 (.t 3)), oP 37 (.load none none (.t 36)), ⟨some 38, .call (.c (.fn 134 [])) [.t 37], none, [80]⟩, oP 39 (.build [.int .i64 0, .int .i64 0, .nils, .nils] [(0, 1, .t 33), (1, 1, .t 35),
 (2, 1, .t 38)]), oP 9 (.new 80 [.int .i64 0, .int .i64 0, .nils, .nils]), oS (.store none 4 (.t 9) (.t 39))] (.seq (rS [oP 40 (.lea 2 (.t 3)), oP 41 (.load none none (.t 40)), oP 42 (.len 1 (.t 41)), oP 43 (.mov (.c (.int .i64 0)))] (.block 2 (.loop (rS [oP 44 (.bin .lss (.t 43) (.t 42))] (.seq
 (.cond (.t 44) .skip (.exit 2)) (.seq (.block 3 (rS [oP 45 (.mov (.t 43)), oP 10 (.mov (.t 45))] (rS [oP 11 (.mov (.c .nils))] (.seq (rS [oP 46 (.mov (.t 7)), oP 47 (.len 1 (.t 46)), oP 48 (.mov (.c (.int .i64 0)))] (.block 4 (.loop (rS [oP 49 (.bin .lss (.t 48) (.t 47))] (.seq (.cond (.t 49) .skip
 (.exit 4)) (.seq (.block 5 (rS [oP 50 (.idx 1 (.t 46) (.t 48)), oP 51 (.load none none (.t 50)), oP 13 (.mov (.t 51))] (rS [oP 52 (.mov (.t 10)), oP 14 (.mov (.t 52))] (.seq (rS [oP 53 (.mov (.t 13)), oP 54 (.lea 0 (.t 3)), oP 55 (.load none none (.t 54)), oP 56 (.call (.c (.fn 110 [])) [.t 55]), oP
 57 (.bin .lss (.t 53) (.t 56))] (.cond (.t 57) (.region [oP 58 (.lea 3 (.t 3)), oP 59 (.load none none (.t 58)), oP 60 (.mov (.t 10)), oP 61 (.idx 1 (.t 59) (.t 60)), oP 62 (.load none none (.t 61)), oP 63 (.mov (.t 13)), oP 64 (.idx 1 (.t 62) (.t 63)), oP 65 (.load none none (.t 64)), oP 14 (.mov
 (.t 65))]) .skip)) (.region [oP 66 (.mov (.t 11)), oP 67 (.mov (.t 14)), oP 68 (.mk 3 1 [.int .i64 0] [(0, 1, .t 67)]), oP 69 (.app 3 1 8 (.t 66) (.t 68)), oP 11 (.mov (.t 69))]))))) (.region [oP 70 (.bin .add (.t 48) (.c (.int .i64 1))), oP 48 (.mov (.t 70))]))))))) (.region [oP 71 (.lea 3 (.t 9)),
 oP 72 (.load none none (.t 71)), oP 73 (.mov (.t 11)), oP 74 (.mk 84 1 [.nils] [(0, 1, .t 73)]), oP 75 (.app 84 1 24 (.t 72) (.t 74)), oP 76 (.lea 3 (.t 9)), oS (.store none 1 (.t 76) (.t 75))]))))) (.region [oP 77 (.bin .add (.t 43) (.c (.int .i64 1))), oP 43 (.mov (.t 77))]))))))) (rS [oP 78
 (.load none (some 4) (.t 9)), oS (.store none 4 (.t 6) (.t 78))] .ret)))))⟩
theorem irOk144 : compFun Tryz.prog.underlying Tryz.prog.info? sq Tryz.f144 = some ir144 := by kernel_rfl
def ir145 : BFun := ⟨[.tmp 3], rS [oP 3 (.mov (.c .nils))] (rS [oP 4 (.mov (.t 0)), oP 5 (.load none none (.t 1)), oP 6 (.load none none (.t 1)), oP 7 (.bin .add (.t 6) (.c (.int .i64 1))), oP 8 (.call (.c (.fn 146 [])) [.t 4, .t 5, .t 7]), oP 3 (.mov (.t 8))] .ret)⟩
theorem irOk145 : compFun Tryz.prog.underlying Tryz.prog.info? sq Tryz.f145 = some ir145 := by kernel_rfl
def ir147 : BFun := ⟨[.cell 6 (some 4), .tmp 7], rS [oP 3 (.box 29 (.t 0)), oP 4 (.box 29 (.t 1)), oP 6 (.new 29 [.int .i64 0, .int .i64 0, .nils, .nils]), oP 7 (.mov (.c (.int .i64 0)))] (.seq (rS [oP 11 (.load none (some 4) (.t 3)), oP 12 (.load none (some 4) (.t 4)), oP 13 (.call (.c (.fn 173 []))
 [.t 11, .t 12]), oP 8 (.mov (.t 13))] (rS [oP 14 (.mov (.t 8)), oP 15 (.bin .neq (.t 14) (.c (.int .i64 0)))] (.cond (.t 15) (rS [oP 16 (.build [.int .i64 0, .int .i64 0, .nils, .nils] []), oP 17 (.mov (.t 8)), oS (.store none 4 (.t 6) (.t 16)), oP 7 (.mov (.t 17))] .ret) .skip))) (rS [oP 18 (.load
 none (some 4) (.t 3)), oP 20 (.load (some 29) (some 4) (.t 4)), ⟨some 19, .call (.c (.fn 75 [])) [.t 18], none, [29]⟩, oP 21 (.call (.c (.fn 75 [])) [.t 20]), oP 9 (.new 80 [.int .i64 0, .int .i64 0, .nils, .nils]), oP 10 (.new 80 [.int .i64 0, .int .i64 0, .nils, .nils]), oS (.store none 4 (.t 9)
 (.t 19)), oS (.store none 4 (.t 10) (.t 21))] (.seq (rS [oP 22 (.lea 2 (.t 9)), oP 23 (.load none none (.t 22)), oP 24 (.len 1 (.t 23)), oP 25 (.lea 2 (.t 10)), oP 26 (.load none none (.t 25)), oP 27 (.len 1 (.t 26)), oP 28 (.bin .mul (.t 24) (.t 27)), oP 29 (.bin .gtr (.t 28) (.c (.int .i64
 1000)))] (.cond (.t 29) (rS [oP 30 (.build [.int .i64 0, .int .i64 0, .nils, .nils] []), oS (.store none 4 (.t 6) (.t 30)), oP 7 (.mov (.c (.int .i64 3)))] .ret) .skip)) (rS [oP 31 (.load none (some 4) (.t 9)), oP 32 (.load none (some 4) (.t 10)), oP 33 (.mov (.t 2)), oP 34 (.call (.c (.fn 174 []))
 [.t 31, .t 32, .t 33]), oP 35 (.call (.c (.fn 95 [])) [.t 34]), oP 36 (.ext 0 (.t 35)), oP 37 (.ext 1 (.t 35)), oS (.store none 4 (.t 6) (.t 36)), oP 7 (.mov (.t 37))] .ret))))⟩
theorem irOk147 : compFun Tryz.prog.underlying Tryz.prog.info? sq Tryz.f147 = some ir147 := by kernel_rfl
def ir148 : BFun := ⟨[.tmp 4], rS [oP 4 (.mov (.c (.bool false)))] (rS [oP 5 (.mov (.t 0)), oP 6 (.mov (.t 5)), oG 7 6 true (.mov (.t 1)), oP 8 (.pick (.t 6) (.t 7) (.c (.bool false))), oP 4 (.mov (.t 8))] .ret)⟩
theorem irOk148 : compFun Tryz.prog.underlying Tryz.prog.info? sq Tryz.f148 = some ir148 := by kernel_rfl
def ir149 : BFun := ⟨[.tmp 4], rS [oP 2 (.box 29 (.t 0)), oP 4 (.mov (.c (.bool false)))] (rS [oP 5 (.mov (.t 1)), oP 6 (.lea 0 (.t 2)), oP 7 (.load none none (.t 6)), oP 8 (.bin .sub (.t 7) (.c (.int .i64 1))), oP 9 (.call (.c (.fn 58 [])) [.t 5, .c (.int .i64 0), .t 8]), oP 4 (.mov (.t 9))] .ret)⟩
theorem irOk149 : compFun Tryz.prog.underlying Tryz.prog.info? sq Tryz.f149 = some ir149 := by kernel_rfl
def ir150 : BFun := ⟨[.tmp 6], rS [oP 6 (.mov (.c (.int .i64 0)))] (rS [oP 7 (.mov (.t 0)), oP 8 (.call (.c (.fn 199 [])) [.t 7]), oP 9 (.mov (.t 1)), oP 10 (.mov (.t 2)), oP 11 (.mk 3 1 [.int .i64 0] [(0, 1, .t 10)]), oP 12 (.call (.c (.fn 198 [])) [.t 8, .t 9, .t 11]), oP 13 (.call (.c (.fn 197
 [])) [.t 12]), oP 6 (.mov (.t 13))] .ret)⟩
theorem irOk150 : compFun Tryz.prog.underlying Tryz.prog.info? sq Tryz.f150 = some ir150 := by kernel_rfl
def ir151 : BFun := ⟨[.tmp 2], rS [oP 2 (.mov (.c .nils))] (rS [oP 3 (.mov (.c .nils))] (.seq (.block 0 (.loop (.seq (rS [oP 4 (.mov (.t 0)), oP 5 (.bin .gtr (.t 4) (.c (.int .i64 0)))] (.cond (.t 5) .skip (.exit 0))) (.seq (.block 1 (.region [oP 8 (.mov (.t 3)), oP 9 (.mk 3 1 [.int .i64 0] [(0, 1,
 .c (.int .i64 2))]), oP 10 (.app 3 1 8 (.t 8) (.t 9)), oP 3 (.mov (.t 10))])) (.region [oP 6 (.mov (.t 0)), oP 7 (.bin .sub (.t 6) (.c (.int .i64 1))), oP 0 (.mov (.t 7))]))))) (rS [oP 11 (.mov (.t 3)), oP 2 (.mov (.t 11))] .ret)))⟩
theorem irOk151 : compFun Tryz.prog.underlying Tryz.prog.info? sq Tryz.f151 = some ir151 := by kernel_rfl
def ir152 : BFun := ⟨[.cell 10 (some 4), .tmp 11], rS [oP 10 (.new 80 [.int .i64 0, .int .i64 0, .nils, .nils]), oP 11 (.mov (.c (.bool false)))] (rS [oP 22 (.mov (.t 0)), oP 23 (.build [.int .i64 0, .int .i64 0, .nils, .nils] [(0, 1, .t 22)]), oP 12 (.new 80 [.int .i64 0, .int .i64 0, .nils,
 .nils]), oS (.store none 4 (.t 12) (.t 23))] (rS [oP 24 .mkmap, oP 25 (.mov (.t 1)), oS (.mset 1 (.t 24) (.t 25) (.c (.int .i64 0))), oP 26 (.mov (.t 24)), oP 13 (.mov (.t 26))] (rS [oP 27 (.mov (.t 1)), oP 28 (.mk 9 1 [.str ⟨#[]⟩] [(0, 1, .t 27)]), oP 14 (.mov (.t 28))] (.seq (rS [oP 15 (.mov (.c
 (.int .i64 0)))] (.block 0 (.loop (.seq (rS [oP 29 (.mov (.t 15)), oP 30 (.mov (.t 14)), oP 31 (.len 1 (.t 30)), oP 32 (.bin .lss (.t 29) (.t 31))] (.cond (.t 32) .skip (.exit 0))) (.seq (.block 1 (rS [oP 35 (.mov (.t 14)), oP 36 (.mov (.t 15)), oP 37 (.idx 1 (.t 35) (.t 36)), oP 38 (.load none none
 (.t 37)), oP 16 (.mov (.t 38))] (rS [oP 17 (.mov (.c .nils))] (.seq (rS [oP 18 (.mov (.c (.int .i64 0)))] (.block 2 (.loop (.seq (rS [oP 39 (.mov (.t 18)), oP 40 (.mov (.t 0)), oP 41 (.call (.c (.fn 110 [])) [.t 40]), oP 42 (.bin .lss (.t 39) (.t 41))] (.cond (.t 42) .skip (.exit 2))) (.seq (.block
 3 (rS [oP 45 (.mov (.t 4)), oP 46 (.mov (.t 16)), oP 47 (.mov (.t 18)), oP 48 (.call (.t 45) [.t 46, .t 47]), oP 19 (.mov (.t 48))] (rS [oP 50 (.mov (.t 13)), oP 51 (.mov (.t 19)), oP 52 (.look 1 true (.int .i64 0) (.t 50) (.t 51)), oP 49 (.mov (.t 52)), oP 53 (.ext 0 (.t 49)), oP 54 (.ext 1 (.t
 49)), oP 20 (.mov (.t 53)), oP 21 (.mov (.t 54))] (.seq (rS [oP 55 (.mov (.t 21)), oP 56 (.not (.t 55))] (.cond (.t 56) (rS [oP 57 (.mov (.t 14)), oP 58 (.len 1 (.t 57)), oP 20 (.mov (.t 58))] (rS [oP 59 (.mov (.t 13)), oP 60 (.mov (.t 19)), oP 61 (.mov (.t 20)), oS (.mset 1 (.t 59) (.t 60) (.t
 61))] (rS [oP 62 (.mov (.t 14)), oP 63 (.mov (.t 19)), oP 64 (.mk 9 1 [.str ⟨#[]⟩] [(0, 1, .t 63)]), oP 65 (.app 9 1 16 (.t 62) (.t 64)), oP 14 (.mov (.t 65))] (rS [oP 66 (.mov (.t 2)), oP 67 (.bin .gtr (.t 66) (.c (.int .i64 0))), oP 68 (.mov (.t 67)), oG 69 68 true (.mov (.t 14)), oG 70 68 true
 (.len 1 (.t 69)), oG 71 68 true (.mov (.t 2)), oG 72 68 true (.bin .gtr (.t 70) (.t 71)), oP 73 (.pick (.t 68) (.t 72) (.c (.bool false)))] (.cond (.t 73) (rS [oP 74 (.build [.int .i64 0, .int .i64 0, .nils, .nils] []), oS (.store none 4 (.t 10) (.t 74)), oP 11 (.mov (.c (.bool false)))] .ret)
 .skip))))) .skip)) (.region [oP 75 (.mov (.t 17)), oP 76 (.mov (.t 20)), oP 77 (.mk 3 1 [.int .i64 0] [(0, 1, .t 76)]), oP 78 (.app 3 1 8 (.t 75) (.t 77)), oP 17 (.mov (.t 78))]))))) (.region [oP 43 (.mov (.t 18)), oP 44 (.bin .add (.t 43) (.c (.int .i64 1))), oP 18 (.mov (.t 44))])))))) (rS [oP 79
 (.lea 2 (.t 12)), oP 80 (.load (some 80) none (.t 79)), oP 81 (.mov (.t 3)), oP 82 (.mov (.t 16)), ⟨some 83, .call (.t 81) [.t 82], none, [80]⟩, oP 84 (.mk 4 1 [.bool false] [(0, 1, .t 83)]), oP 85 (.app 4 1 1 (.t 80) (.t 84)), oP 86 (.lea 2 (.t 12)), oS (.store none 1 (.t 86) (.t 85))] (.region [oP
 87 (.lea 3 (.t 12)), oP 88 (.load none none (.t 87)), oP 89 (.mov (.t 17)), oP 90 (.mk 84 1 [.nils] [(0, 1, .t 89)]), oP 91 (.app 84 1 24 (.t 88) (.t 90)), oP 92 (.lea 3 (.t 12)), oS (.store none 1 (.t 92) (.t 91))])))))) (.region [oP 33 (.mov (.t 15)), oP 34 (.bin .add (.t 33) (.c (.int .i64 1))),
 oP 15 (.mov (.t 34))])))))) (rS [oP 93 (.load none (some 4) (.t 12)), oS (.store none 4 (.t 10) (.t 93)), oP 11 (.mov (.c (.bool true)))] .ret)))))⟩
theorem irOk152 : compFun Tryz.prog.underlying Tryz.prog.info? sq Tryz.f152 = some ir152 := by kernel_rfl
def ir153 : BFun := ⟨[.tmp 2], rS [oP 2 (.mov (.c (.str ⟨#[]⟩)))] (rS [oP 6 (.mov (.t 0)), oP 7 (.len 1 (.t 6)), oP 8 (.mksl 5 1 [.int .u8 0] (.t 7) (.t 7)), oP 3 (.mov (.t 8))] (.seq (rS [oP 9 (.mov (.t 0)), oP 10 (.len 1 (.t 9)), oP 11 (.mov (.c (.int .i64 0)))] (.block 0 (.loop (rS [oP 12 (.bin
 .lss (.t 11) (.t 10))] (.seq (.cond (.t 12) .skip (.exit 0)) (.seq (.block 1 (rS [oP 13 (.mov (.t 11)), oP 14 (.idx 1 (.t 9) (.t 11)), oP 15 (.load none none (.t 14)), oP 4 (.mov (.t 13)), oP 5 (.mov (.t 15))] (rS [oP 16 (.mov (.t 5))] (.cond (.t 16) (.region [oP 17 (.mov (.t 3)), oP 18 (.mov (.t
 4)), oP 19 (.idx 1 (.t 17) (.t 18)), oS (.store none 1 (.t 19) (.c (.int .u8 1)))]) .skip)))) (.region [oP 20 (.bin .add (.t 11) (.c (.int .i64 1))), oP 11 (.mov (.t 20))]))))))) (rS [oP 21 (.mov (.t 3)), oP 22 (.b2s 5 (.t 21)), oP 2 (.mov (.t 22))] .ret)))⟩
theorem irOk153 : compFun Tryz.prog.underlying Tryz.prog.info? sq Tryz.f153 = some ir153 := by kernel_rfl
def ir154 : BFun := ⟨[.tmp 3], rS [oP 3 (.mov (.c (.bool false)))] (.seq (rS [oP 6 (.load none none (.t 1)), oP 7 (.len 1 (.t 6)), oP 8 (.mov (.c (.int .i64 0)))] (.block 0 (.loop (rS [oP 9 (.bin .lss (.t 8) (.t 7))] (.seq (.cond (.t 9) .skip (.exit 0)) (.seq (.block 1 (rS [oP 10 (.mov (.t 8)), oP 11
 (.idx 1 (.t 6) (.t 8)), oP 12 (.load none none (.t 11)), oP 4 (.mov (.t 10)), oP 5 (.mov (.t 12))] (rS [oP 13 (.mov (.t 5)), oP 14 (.mov (.t 13)), oG 15 14 true (.mov (.t 0)), oG 16 14 true (.mov (.t 4)), oG 17 14 true (.idxs (.t 15) (.t 16)), oG 18 14 true (.bin .eql (.t 17) (.c (.int .u8 1))), oP
 19 (.pick (.t 14) (.t 18) (.c (.bool false)))] (.cond (.t 19) (rS [oP 3 (.mov (.c (.bool true)))] .ret) .skip)))) (.region [oP 20 (.bin .add (.t 8) (.c (.int .i64 1))), oP 8 (.mov (.t 20))]))))))) (rS [oP 3 (.mov (.c (.bool false)))] .ret))⟩
theorem irOk154 : compFun Tryz.prog.underlying Tryz.prog.info? sq Tryz.f154 = some ir154 := by kernel_rfl
def ir155 : BFun := ⟨[.tmp 6], rS [oP 6 (.mov (.c (.str ⟨#[]⟩)))] (rS [oP 12 (.lea 0 (.t 2)), oP 13 (.load none none (.t 12)), oP 14 (.bin .sub (.t 13) (.c (.int .i64 1))), oP 15 (.mov (.t 1)), oP 16 (.call (.c (.fn 111 [])) [.t 14, .t 15]), oP 7 (.mov (.t 16))] (rS [oP 17 (.lea 2 (.t 2)), oP 18
 (.load none none (.t 17)), oP 19 (.len 1 (.t 18)), oP 20 (.mksl 4 1 [.bool false] (.t 19) (.t 19)), oP 8 (.mov (.t 20))] (.seq (rS [oP 9 (.mov (.c (.int .i64 0)))] (.block 0 (.loop (.seq (rS [oP 21 (.mov (.t 9)), oP 22 (.bin .leq (.t 21) (.c (.int .i64 2)))] (.cond (.t 22) .skip (.exit 0))) (.seq
 (.block 1 (rS [oP 25 (.mov (.t 7)), oP 26 (.load none none (.t 3)), oP 27 (.mov (.t 9)), oP 28 (.call (.c (.fn 150 [])) [.t 25, .t 26, .t 27]), oP 10 (.mov (.t 28))] (rS [oP 29 (.mov (.t 8)), oP 30 (.len 1 (.t 29)), oP 31 (.mov (.c (.int .i64 0)))] (.block 2 (.loop (rS [oP 32 (.bin .lss (.t 31) (.t
 30))] (.seq (.cond (.t 32) .skip (.exit 2)) (.seq (.block 3 (rS [oP 33 (.mov (.t 31)), oP 11 (.mov (.t 33))] (rS [oP 34 (.mov (.t 0)), oP 35 (.mov (.t 11)), oP 36 (.idxs (.t 34) (.t 35)), oP 37 (.bin .eql (.t 36) (.c (.int .u8 1)))] (.cond (.t 37) (.region [oP 38 (.mov (.t 8)), oP 39 (.lea 3 (.t
 2)), oP 40 (.load none none (.t 39)), oP 41 (.mov (.t 11)), oP 42 (.idx 1 (.t 40) (.t 41)), oP 43 (.load none none (.t 42)), oP 44 (.mov (.t 10)), oP 45 (.idx 1 (.t 43) (.t 44)), oP 46 (.load none none (.t 45)), oP 47 (.idx 1 (.t 38) (.t 46)), oS (.store none 1 (.t 47) (.c (.bool true)))]) .skip))))
 (.region [oP 48 (.bin .add (.t 31) (.c (.int .i64 1))), oP 31 (.mov (.t 48))]))))))))) (.region [oP 23 (.mov (.t 9)), oP 24 (.bin .add (.t 23) (.c (.int .i64 1))), oP 9 (.mov (.t 24))])))))) (rS [oP 49 (.mov (.t 8)), oP 50 (.call (.c (.fn 153 [])) [.t 49]), oP 6 (.mov (.t 50))] .ret))))⟩
theorem irOk155 : compFun Tryz.prog.underlying Tryz.prog.info? sq Tryz.f155 = some ir155 := by kernel_rfl
def ir156 : BFun := ⟨[.cell 2 (some 4), .tmp 3], rS [oP 1 (.box 80 (.t 0)), oP 2 (.new 29 [.int .i64 0, .int .i64 0, .nils, .nils]), oP 3 (.mov (.c (.int .i64 0)))] (.seq (rS [oP 7 (.lea 2 (.t 1)), oP 8 (.load none none (.t 7)), oP 9 (.len 1 (.t 8)), oP 10 (.bin .gtr (.t 9) (.c (.int .i64 150)))]
 (.cond (.t 10) (rS [oP 11 (.build [.int .i64 0, .int .i64 0, .nils, .nils] []), oS (.store none 4 (.t 2) (.t 11)), oP 3 (.mov (.c (.int .i64 3)))] .ret) .skip)) (rS [oP 12 (.lea 0 (.t 1)), oP 13 (.load (some 80) none (.t 12)), oP 14 (.lea 1 (.t 1)), oP 15 (.load (some 80) none (.t 14)), oP 16 (.lea
 2 (.t 1)), oP 17 (.load none none (.t 16)), ⟨some 18, .call (.c (.fn 134 [])) [.t 17], none, [80]⟩, oP 19 (.build [.int .i64 0, .int .i64 0, .nils, .nils] [(0, 1, .t 13), (1, 1, .t 15), (2, 1, .t 18)]), oP 4 (.new 29 [.int .i64 0, .int .i64 0, .nils, .nils]), oS (.store none 4 (.t 4) (.t 19))] (.seq
 (rS [oP 20 (.lea 3 (.t 1)), oP 21 (.load none none (.t 20)), oP 22 (.len 1 (.t 21)), oP 23 (.mov (.c (.int .i64 0)))] (.block 0 (.loop (rS [oP 24 (.bin .lss (.t 23) (.t 22))] (.seq (.cond (.t 24) .skip (.exit 0)) (.seq (.block 1 (rS [oP 25 (.idx 1 (.t 21) (.t 23)), oP 26 (.load none none (.t 25)),
 oP 6 (.mov (.t 26))] (.region [oP 27 (.lea 3 (.t 4)), oP 28 (.load (some 29) none (.t 27)), oP 29 (.mov (.t 6)), ⟨some 30, .call (.c (.fn 200 [])) [.t 29], none, [29]⟩, oP 31 (.mk 67 1 [.nils] [(0, 1, .t 30)]), oP 32 (.app 67 1 24 (.t 28) (.t 31)), oP 33 (.lea 3 (.t 4)), oS (.store none 1 (.t 33)
 (.t 32))]))) (.region [oP 34 (.bin .add (.t 23) (.c (.int .i64 1))), oP 23 (.mov (.t 34))]))))))) (rS [oP 35 (.load none (some 4) (.t 4)), oS (.store none 4 (.t 2) (.t 35)), oP 3 (.mov (.c (.int .i64 0)))] .ret))))⟩
theorem irOk156 : compFun Tryz.prog.underlying Tryz.prog.info? sq Tryz.f156 = some ir156 := by kernel_rfl
def ir158 : BFun := ⟨[.tmp 4], rS [oP 4 (.mov (.c (.int .i64 0)))] (rS [oP 5 (.mov (.t 0)), oP 6 (.mov (.t 1)), oP 7 (.call (.c (.fn 194 [])) [.t 6]), oP 8 (.bin .quo (.t 5) (.t 7)), oP 9 (.bin .rem (.t 8) (.c (.int .i64 3))), oP 4 (.mov (.t 9))] .ret)⟩
theorem irOk158 : compFun Tryz.prog.underlying Tryz.prog.info? sq Tryz.f158 = some ir158 := by kernel_rfl
def ir159 : BFun := ⟨[.cell 10 (some 4), .tmp 11], rS [oP 10 (.new 80 [.int .i64 0, .int .i64 0, .nils, .nils]), oP 11 (.mov (.c (.bool false)))] (rS [oP 22 (.mov (.t 0)), oP 23 (.build [.int .i64 0, .int .i64 0, .nils, .nils] [(0, 1, .t 22)]), oP 12 (.new 80 [.int .i64 0, .int .i64 0, .nils,
 .nils]), oS (.store none 4 (.t 12) (.t 23))] (rS [oP 24 .mkmap, oP 25 (.mov (.t 1)), oS (.mset 0 (.t 24) (.t 25) (.c (.int .i64 0))), oP 26 (.mov (.t 24)), oP 13 (.mov (.t 26))] (rS [oP 27 (.mov (.t 1)), oP 28 (.mk 3 1 [.int .i64 0] [(0, 1, .t 27)]), oP 14 (.mov (.t 28))] (.seq (rS [oP 15 (.mov (.c
 (.int .i64 0)))] (.block 0 (.loop (.seq (rS [oP 29 (.mov (.t 15)), oP 30 (.mov (.t 14)), oP 31 (.len 1 (.t 30)), oP 32 (.bin .lss (.t 29) (.t 31))] (.cond (.t 32) .skip (.exit 0))) (.seq (.block 1 (rS [oP 35 (.mov (.t 14)), oP 36 (.mov (.t 15)), oP 37 (.idx 1 (.t 35) (.t 36)), oP 38 (.load none none
 (.t 37)), oP 16 (.mov (.t 38))] (rS [oP 17 (.mov (.c .nils))] (.seq (rS [oP 18 (.mov (.c (.int .i64 0)))] (.block 2 (.loop (.seq (rS [oP 39 (.mov (.t 18)), oP 40 (.mov (.t 0)), oP 41 (.call (.c (.fn 110 [])) [.t 40]), oP 42 (.bin .lss (.t 39) (.t 41))] (.cond (.t 42) .skip (.exit 2))) (.seq (.block
 3 (rS [oP 45 (.mov (.t 4)), oP 46 (.mov (.t 16)), oP 47 (.mov (.t 18)), oP 48 (.call (.t 45) [.t 46, .t 47]), oP 19 (.mov (.t 48))] (rS [oP 50 (.mov (.t 13)), oP 51 (.mov (.t 19)), oP 52 (.look 0 true (.int .i64 0) (.t 50) (.t 51)), oP 49 (.mov (.t 52)), oP 53 (.ext 0 (.t 49)), oP 54 (.ext 1 (.t
 49)), oP 20 (.mov (.t 53)), oP 21 (.mov (.t 54))] (.seq (rS [oP 55 (.mov (.t 21)), oP 56 (.not (.t 55))] (.cond (.t 56) (rS [oP 57 (.mov (.t 14)), oP 58 (.len 1 (.t 57)), oP 20 (.mov (.t 58))] (rS [oP 59 (.mov (.t 13)), oP 60 (.mov (.t 19)), oP 61 (.mov (.t 20)), oS (.mset 0 (.t 59) (.t 60) (.t
 61))] (rS [oP 62 (.mov (.t 14)), oP 63 (.mov (.t 19)), oP 64 (.mk 3 1 [.int .i64 0] [(0, 1, .t 63)]), oP 65 (.app 3 1 8 (.t 62) (.t 64)), oP 14 (.mov (.t 65))] (rS [oP 66 (.mov (.t 2)), oP 67 (.bin .gtr (.t 66) (.c (.int .i64 0))), oP 68 (.mov (.t 67)), oG 69 68 true (.mov (.t 14)), oG 70 68 true
 (.len 1 (.t 69)), oG 71 68 true (.mov (.t 2)), oG 72 68 true (.bin .gtr (.t 70) (.t 71)), oP 73 (.pick (.t 68) (.t 72) (.c (.bool false)))] (.cond (.t 73) (rS [oP 74 (.build [.int .i64 0, .int .i64 0, .nils, .nils] []), oS (.store none 4 (.t 10) (.t 74)), oP 11 (.mov (.c (.bool false)))] .ret)
 .skip))))) .skip)) (.region [oP 75 (.mov (.t 17)), oP 76 (.mov (.t 20)), oP 77 (.mk 3 1 [.int .i64 0] [(0, 1, .t 76)]), oP 78 (.app 3 1 8 (.t 75) (.t 77)), oP 17 (.mov (.t 78))]))))) (.region [oP 43 (.mov (.t 18)), oP 44 (.bin .add (.t 43) (.c (.int .i64 1))), oP 18 (.mov (.t 44))])))))) (rS [oP 79
 (.lea 2 (.t 12)), oP 80 (.load (some 80) none (.t 79)), oP 81 (.mov (.t 3)), oP 82 (.mov (.t 16)), ⟨some 83, .call (.t 81) [.t 82], none, [80]⟩, oP 84 (.mk 4 1 [.bool false] [(0, 1, .t 83)]), oP 85 (.app 4 1 1 (.t 80) (.t 84)), oP 86 (.lea 2 (.t 12)), oS (.store none 1 (.t 86) (.t 85))] (.region [oP
 87 (.lea 3 (.t 12)), oP 88 (.load none none (.t 87)), oP 89 (.mov (.t 17)), oP 90 (.mk 84 1 [.nils] [(0, 1, .t 89)]), oP 91 (.app 84 1 24 (.t 88) (.t 90)), oP 92 (.lea 3 (.t 12)), oS (.store none 1 (.t 92) (.t 91))])))))) (.region [oP 33 (.mov (.t 15)), oP 34 (.bin .add (.t 33) (.c (.int .i64 1))),
 oP 15 (.mov (.t 34))])))))) (rS [oP 93 (.load none (some 4) (.t 12)), oS (.store none 4 (.t 10) (.t 93)), oP 11 (.mov (.c (.bool true)))] .ret)))))⟩
theorem irOk159 : compFun Tryz.prog.underlying Tryz.prog.info? sq Tryz.f159 = some ir159 := by kernel_rfl
def ir162 : BFun := ⟨[.tmp 4], rS [oP 4 (.mov (.c (.int .i64 0)))] (rS [oP 5 (.mov (.c (.int .i64 0)))] (.seq (rS [oP 6 (.mov (.c (.int .i64 0)))] (.block 0 (.loop (.seq (rS [oP 7 (.mov (.t 6)), oP 8 (.mov (.t 0)), oP 9 (.len 1 (.t 8)), oP 10 (.bin .lss (.t 7) (.t 9))] (.cond (.t 10) .skip (.exit
 0))) (.seq (.block 1 (rS [oP 13 (.mov (.t 1)), oP 14 (.mov (.t 6)), oP 15 (.call (.c (.fn 158 [])) [.t 13, .t 14]), oP 16 (.bin .eql (.t 15) (.c (.int .i64 1)))] (.cond (.t 16) (.region [oP 17 (.mov (.t 5)), oP 18 (.mov (.t 0)), oP 19 (.mov (.t 6)), oP 20 (.idx 1 (.t 18) (.t 19)), oP 21 (.load none
 none (.t 20)), oP 22 (.bin .add (.t 17) (.t 21)), oP 5 (.mov (.t 22))]) .skip))) (.region [oP 11 (.mov (.t 6)), oP 12 (.bin .add (.t 11) (.c (.int .i64 1))), oP 6 (.mov (.t 12))])))))) (rS [oP 23 (.mov (.t 5)), oP 4 (.mov (.t 23))] .ret)))⟩
theorem irOk162 : compFun Tryz.prog.underlying Tryz.prog.info? sq Tryz.f162 = some ir162 := by kernel_rfl
def ir163 : BFun := ⟨[.cell 2 (some 4), .tmp 3], rS [oP 1 (.box 29 (.t 0)), oP 2 (.new 29 [.int .i64 0, .int .i64 0, .nils, .nils]), oP 3 (.mov (.c (.int .i64 0)))] (.seq (rS [oP 4 (.call (.c (.fn 42 [])) [.t 1]), oP 5 (.not (.t 4))] (.cond (.t 5) (rS [oP 6 (.build [.int .i64 0, .int .i64 0, .nils,
 .nils] []), oS (.store none 4 (.t 2) (.t 6)), oP 3 (.mov (.c (.int .i64 1)))] .ret) .skip)) (rS [oP 7 (.call (.c (.fn 67 [])) [.t 1]), oP 8 (.call (.c (.fn 86 [])) [.t 7]), oP 9 (.ext 0 (.t 8)), oP 10 (.ext 1 (.t 8)), oS (.store none 4 (.t 2) (.t 9)), oP 3 (.mov (.t 10))] .ret))⟩
theorem irOk163 : compFun Tryz.prog.underlying Tryz.prog.info? sq Tryz.f163 = some ir163 := by kernel_rfl
def ir164 : BFun := ⟨[.cell 4 (some 4), .tmp 5], rS [oP 2 (.box 29 (.t 0)), oP 3 (.box 29 (.t 1)), oP 4 (.new 29 [.int .i64 0, .int .i64 0, .nils, .nils]), oP 5 (.mov (.c (.int .i64 0)))] (.seq (rS [oP 10 (.call (.c (.fn 42 [])) [.t 2]), oP 11 (.not (.t 10)), oP 12 (.mov (.t 11)), oG 13 12 false
 (.call (.c (.fn 42 [])) [.t 3]), oG 14 12 false (.not (.t 13)), oP 15 (.pick (.t 12) (.c (.bool true)) (.t 14))] (.cond (.t 15) (rS [oP 16 (.build [.int .i64 0, .int .i64 0, .nils, .nils] []), oS (.store none 4 (.t 4) (.t 16)), oP 5 (.mov (.c (.int .i64 1)))] .ret) .skip)) (.seq (rS [oP 17 (.lea 0
 (.t 2)), oP 18 (.load none none (.t 17)), oP 19 (.lea 0 (.t 3)), oP 20 (.load none none (.t 19)), oP 21 (.bin .add (.t 18) (.t 20)), oP 22 (.bin .gtr (.t 21) (.c (.int .i64 3)))] (.cond (.t 22) (rS [oP 23 (.build [.int .i64 0, .int .i64 0, .nils, .nils] []), oS (.store none 4 (.t 4) (.t 23)), oP 5
 (.mov (.c (.int .i64 2)))] .ret) .skip)) (rS [oP 24 (.call (.c (.fn 67 [])) [.t 2]), oP 6 (.new 29 [.int .i64 0, .int .i64 0, .nils, .nils]), oS (.store none 4 (.t 6) (.t 24))] (.seq (rS [oP 7 (.mov (.c (.int .i64 0)))] (.block 0 (.loop (.seq (rS [oP 25 (.mov (.t 7)), oP 26 (.lea 0 (.t 3)), oP 27
 (.load none none (.t 26)), oP 28 (.bin .lss (.t 25) (.t 27))] (.cond (.t 28) .skip (.exit 0))) (.seq (.block 1 (.region [oP 31 (.lea 0 (.t 6)), oP 32 (.load none none (.t 31)), oP 33 (.call (.c (.fn 87 [])) [.t 6, .t 32]), oS (.store none 4 (.t 6) (.t 33))])) (.region [oP 29 (.mov (.t 7)), oP 30
 (.bin .add (.t 29) (.c (.int .i64 1))), oP 7 (.mov (.t 30))])))))) (rS [oP 34 (.call (.c (.fn 67 [])) [.t 3]), oP 8 (.new 29 [.int .i64 0, .int .i64 0, .nils, .nils]), oS (.store none 4 (.t 8) (.t 34))] (.seq (rS [oP 9 (.mov (.c (.int .i64 0)))] (.block 2 (.loop (.seq (rS [oP 35 (.mov (.t 9)), oP 36
 (.lea 0 (.t 2)), oP 37 (.load none none (.t 36)), oP 38 (.bin .lss (.t 35) (.t 37))] (.cond (.t 38) .skip (.exit 2))) (.seq (.block 3 (.region [oP 41 (.call (.c (.fn 87 [])) [.t 8, .c (.int .i64 0)]), oS (.store none 4 (.t 8) (.t 41))])) (.region [oP 39 (.mov (.t 9)), oP 40 (.bin .add (.t 39) (.c
 (.int .i64 1))), oP 9 (.mov (.t 40))])))))) (rS [oP 42 (.call (.c (.fn 139 [])) [.t 6, .t 8, .c (.int .i64 1)]), oP 43 (.ext 0 (.t 42)), oP 44 (.ext 1 (.t 42)), oS (.store none 4 (.t 4) (.t 43)), oP 5 (.mov (.t 44))] .ret)))))))⟩
theorem irOk164 : compFun Tryz.prog.underlying Tryz.prog.info? sq Tryz.f164 = some ir164 := by kernel_rfl
def ir167 : BFun := ⟨[.tmp 2], rS [oP 2 (.mov (.c (.int .i64 0)))] (rS [oP 3 (.mov (.c (.int .i64 1)))] (.seq (.block 0 (.loop (.seq (rS [oP 4 (.mov (.t 0)), oP 5 (.bin .gtr (.t 4) (.c (.int .i64 0)))] (.cond (.t 5) .skip (.exit 0))) (.seq (.block 1 (.region [oP 8 (.mov (.t 3)), oP 9 (.bin .mul (.t
 8) (.c (.int .i64 3))), oP 3 (.mov (.t 9))])) (.region [oP 6 (.mov (.t 0)), oP 7 (.bin .sub (.t 6) (.c (.int .i64 1))), oP 0 (.mov (.t 7))]))))) (rS [oP 10 (.mov (.t 3)), oP 2 (.mov (.t 10))] .ret)))⟩
theorem irOk167 : compFun Tryz.prog.underlying Tryz.prog.info? sq Tryz.f167 = some ir167 := by kernel_rfl
def ir168 : BFun := ⟨[.cell 4 (some 5)], rS [oP 2 (.box 29 (.t 0)), oP 4 (.new 101 [.int .i64 0, .int .i64 0, .nils, .nils, .nils])] (rS [oP 5 (.load none (some 4) (.t 2)), oP 6 (.mov (.t 1)), oP 7 (.build [.int .i64 0, .int .i64 0, .nils, .nils, .nils] [(0, 4, .t 5), (4, 1, .t 6)]), oS (.store none
 5 (.t 4) (.t 7))] .ret)⟩
theorem irOk168 : compFun Tryz.prog.underlying Tryz.prog.info? sq Tryz.f168 = some ir168 := by kernel_rfl
def ir169 : BFun := ⟨[.cell 4 (some 4), .tmp 5], rS [oP 2 (.box 150 (.t 0)), oP 4 (.new 29 [.int .i64 0, .int .i64 0, .nils, .nils]), oP 5 (.mov (.c (.int .i64 0)))] (rS [oP 11 (.lea 0 (.t 2)), oP 12 (.lea 0 (.t 11)), oP 13 (.load none (some 4) (.t 12)), oP 6 (.new 29 [.int .i64 0, .int .i64 0,
 .nils, .nils]), oS (.store none 4 (.t 6) (.t 13))] (rS [oP 14 (.load none (some 4) (.t 6)), oP 7 (.new 29 [.int .i64 0, .int .i64 0, .nils, .nils]), oS (.store none 4 (.t 7) (.t 14))] (.seq (rS [oP 8 (.mov (.c (.int .i64 1)))] (.block 0 (.loop (.seq (rS [oP 15 (.mov (.t 8)), oP 16 (.mov (.t 1)), oP
 17 (.len 0 (.t 16)), oP 18 (.bin .lss (.t 15) (.t 17))] (.cond (.t 18) .skip (.exit 0))) (.seq (.block 1 (rS [oP 22 (.load none (some 4) (.t 6)), oP 23 (.load none (some 4) (.t 7)), oP 24 (.call (.c (.fn 202 [])) [.t 22, .t 23]), oP 21 (.mov (.t 24)), oP 25 (.ext 0 (.t 21)), oP 26 (.ext 1 (.t 21)),
 oP 9 (.new 29 [.int .i64 0, .int .i64 0, .nils, .nils]), oS (.store none 4 (.t 9) (.t 25)), oP 10 (.mov (.t 26))] (.seq (rS [oP 27 (.mov (.t 10)), oP 28 (.bin .neq (.t 27) (.c (.int .i64 0)))] (.cond (.t 28) (rS [oP 29 (.build [.int .i64 0, .int .i64 0, .nils, .nils] []), oP 30 (.mov (.t 10)), oS
 (.store none 4 (.t 4) (.t 29)), oP 5 (.mov (.t 30))] .ret) .skip)) (.region [oP 31 (.load none (some 4) (.t 9)), oS (.store none 4 (.t 7) (.t 31))])))) (.region [oP 19 (.mov (.t 8)), oP 20 (.bin .add (.t 19) (.c (.int .i64 1))), oP 8 (.mov (.t 20))])))))) (rS [oP 32 (.load none (some 4) (.t 7)), oS
 (.store none 4 (.t 4) (.t 32)), oP 5 (.mov (.c (.int .i64 0)))] .ret))))⟩
theorem irOk169 : compFun Tryz.prog.underlying Tryz.prog.info? sq Tryz.f169 = some ir169 := by kernel_rfl
def ir170 : BFun := ⟨[.tmp 6], rS [oP 6 (.mov (.c (.int .i64 0)))] (.seq (rS [oP 7 (.mov (.c (.int .i64 0)))] (.block 0 (.loop (.seq (rS [oP 9 (.mov (.t 7)), oP 10 (.mov (.t 0)), oP 11 (.bin .lss (.t 9) (.t 10))] (.cond (.t 11) .skip (.exit 0))) (.seq (.block 1 (rS [oP 14 (.mov (.t 2)), oP 15 (.mov
 (.t 7)), oP 16 (.call (.c (.fn 158 [])) [.t 14, .t 15]), oP 17 (.bin .eql (.t 16) (.c (.int .i64 2))), oP 8 (.mov (.t 17))] (.seq (rS [oP 18 (.mov (.t 8)), oP 19 (.not (.t 18)), oP 20 (.mov (.t 19)), oG 21 20 true (.mov (.t 1)), oG 22 20 true (.mov (.t 7)), oG 23 20 true (.conv .u64 (.t 22)), oG 24
 20 true (.bin .shr (.t 21) (.t 23)), oG 25 20 true (.bin .and (.t 24) (.c (.int .i64 1))), oG 26 20 true (.bin .eql (.t 25) (.c (.int .i64 1))), oP 27 (.pick (.t 20) (.t 26) (.c (.bool false)))] (.cond (.t 27) (rS [oP 6 (.mov (.c (.int .i64 (-1))))] .ret) .skip)) (rS [oP 28 (.mov (.t 8))] (.cond (.t
 28) (.region [oP 29 (.mov (.t 1)), oP 30 (.mov (.t 7)), oP 31 (.conv .u64 (.t 30)), oP 32 (.bin .shl (.c (.int .i64 1)) (.t 31)), oP 33 (.bin .or (.t 29) (.t 32)), oP 1 (.mov (.t 33))]) .skip))))) (.region [oP 12 (.mov (.t 7)), oP 13 (.bin .add (.t 12) (.c (.int .i64 1))), oP 7 (.mov (.t 13))]))))))
 (rS [oP 34 (.mov (.t 1)), oP 6 (.mov (.t 34))] .ret))⟩
theorem irOk170 : compFun Tryz.prog.underlying Tryz.prog.info? sq Tryz.f170 = some ir170 := by kernel_rfl
def ir171 : BFun := ⟨[.tmp 8], rS [oP 8 (.mov (.c (.bool false)))] (.seq (rS [oP 9 (.mov (.c (.int .i64 0)))] (.block 0 (.loop (.seq (rS [oP 10 (.mov (.t 9)), oP 11 (.mov (.t 0)), oP 12 (.nilck (.t 11)), oP 13 (.lea 3 (.t 12)), oP 14 (.load none none (.t 13)), oP 15 (.mov (.t 2)), oP 16 (.idx 1 (.t
 14) (.t 15)), oP 17 (.load none none (.t 16)), oP 18 (.len 1 (.t 17)), oP 19 (.bin .lss (.t 10) (.t 18))] (.cond (.t 19) .skip (.exit 0))) (.seq (.block 1 (rS [oP 22 (.mov (.t 1)), oP 23 (.mov (.t 0)), oP 24 (.nilck (.t 23)), oP 25 (.lea 3 (.t 24)), oP 26 (.load none none (.t 25)), oP 27 (.mov (.t
 2)), oP 28 (.idx 1 (.t 26) (.t 27)), oP 29 (.load none none (.t 28)), oP 30 (.mov (.t 9)), oP 31 (.idx 1 (.t 29) (.t 30)), oP 32 (.load none none (.t 31)), oP 33 (.idx 1 (.t 22) (.t 32)), oP 34 (.load none none (.t 33)), oP 35 (.mov (.t 1)), oP 36 (.mov (.t 0)), oP 37 (.nilck (.t 36)), oP 38 (.lea 3
 (.t 37)), oP 39 (.load none none (.t 38)), oP 40 (.mov (.t 3)), oP 41 (.idx 1 (.t 39) (.t 40)), oP 42 (.load none none (.t 41)), oP 43 (.mov (.t 9)), oP 44 (.idx 1 (.t 42) (.t 43)), oP 45 (.load none none (.t 44)), oP 46 (.idx 1 (.t 35) (.t 45)), oP 47 (.load none none (.t 46)), oP 48 (.bin .neq (.t
 34) (.t 47))] (.cond (.t 48) (rS [oP 8 (.mov (.c (.bool false)))] .ret) .skip))) (.region [oP 20 (.mov (.t 9)), oP 21 (.bin .add (.t 20) (.c (.int .i64 1))), oP 9 (.mov (.t 21))])))))) (rS [oP 8 (.mov (.c (.bool true)))] .ret))⟩
theorem irOk171 : compFun Tryz.prog.underlying Tryz.prog.info? sq Tryz.f171 = some ir171 := by kernel_rfl
def ir173 : BFun := ⟨[.tmp 4], rS [oP 2 (.box 29 (.t 0)), oP 3 (.box 29 (.t 1)), oP 4 (.mov (.c (.int .i64 0)))] (.seq (.block 0 (rS [oP 6 (.load none (some 4) (.t 2)), oP 7 (.call (.c (.fn 73 [])) [.t 6]), oP 8 (.not (.t 7)), oP 9 (.mov (.t 8)), oG 10 9 false (.load none (some 4) (.t 3)), oG 11 9
 false (.call (.c (.fn 73 [])) [.t 10]), oG 12 9 false (.not (.t 11)), oP 13 (.pick (.t 9) (.c (.bool true)) (.t 12)), oP 5 (.mov (.t 13))] (.cond (.t 5) (rS [oP 4 (.mov (.c (.int .i64 1)))] .ret) (rS [oP 15 (.lea 0 (.t 2)), oP 16 (.load none none (.t 15)), oP 17 (.lea 0 (.t 3)), oP 18 (.load none
 none (.t 17)), oP 19 (.bin .neq (.t 16) (.t 18)), oP 14 (.mov (.t 19))] (.cond (.t 14) (rS [oP 4 (.mov (.c (.int .i64 2)))] .ret) .skip))))) (rS [oP 4 (.mov (.c (.int .i64 0)))] .ret))⟩
theorem irOk173 : compFun Tryz.prog.underlying Tryz.prog.info? sq Tryz.f173 = some ir173 := by kernel_rfl
def ir174 : BFun := ⟨[.cell 6 (some 4)], rS [oP 3 (.box 80 (.t 0)), oP 4 (.box 80 (.t 1)), oP 5 (.box 134 (.t 2)), oP 6 (.new 80 [.int .i64 0, .int .i64 0, .nils, .nils])] (rS [oP 10 (.lea 0 (.t 3)), oP 11 (.load none none (.t 10)), oP 12 (.lea 1 (.t 3)), oP 13 (.load none none (.t 12)), oP 14 (.lea
 1 (.t 4)), oP 15 (.load none none (.t 14)), oP 16 (.build [.int .i64 0, .int .i64 0] [(0, 1, .t 13), (1, 1, .t 15)]), oP 17 (.mkfn 204 [.t 5, .t 3, .t 4]), oP 18 (.mkfn 205 [.t 3, .t 4]), oP 19 (.call (.c (.fn 203 [])) [.t 11, .t 16, .c (.int .i64 0), .t 17, .t 18]), oP 9 (.mov (.t 19)), oP 20 (.ext
 0 (.t 9)), oP 21 (.ext 1 (.t 9)), oP 7 (.new 80 [.int .i64 0, .int .i64 0, .nils, .nils]), oS (.store none 4 (.t 7) (.t 20)), oP 8 (.mov (.t 21))] (rS [oP 22 (.load none (some 4) (.t 7)), oS (.store none 4 (.t 6) (.t 22))] .ret))⟩
theorem irOk174 : compFun Tryz.prog.underlying Tryz.prog.info? sq Tryz.f174 = some ir174 := by kernel_rfl
def ir176 : BFun := ⟨[.tmp 2], rS [oP 2 (.mov (.c (.bool false)))] (rS [oP 3 (.mov (.t 0)), oP 4 (.bin .eql (.t 3) (.c (.int .i64 1))), oP 2 (.mov (.t 4))] .ret)⟩
theorem irOk176 : compFun Tryz.prog.underlying Tryz.prog.info? sq Tryz.f176 = some ir176 := by kernel_rfl
def ir177 : BFun := ⟨[.tmp 4], rS [oP 4 (.mov (.c (.int .i64 0)))] (rS [oP 5 (.mov (.t 1)), oP 4 (.mov (.t 5))] .ret)⟩
theorem irOk177 : compFun Tryz.prog.underlying Tryz.prog.info? sq Tryz.f177 = some ir177 := by kernel_rfl
def ir178 : BFun := ⟨[.cell 10 (some 4), .tmp 11], rS [oP 6 (.box 157 (.t 1)), oP 10 (.new 80 [.int .i64 0, .int .i64 0, .nils, .nils]), oP 11 (.mov (.c (.bool false)))] (rS [oP 22 (.mov (.t 0)), oP 23 (.build [.int .i64 0, .int .i64 0, .nils, .nils] [(0, 1, .t 22)]), oP 12 (.new 80 [.int .i64 0,
 .int .i64 0, .nils, .nils]), oS (.store none 4 (.t 12) (.t 23))] (rS [oP 24 .mkmap, oP 25 (.load none (some 2) (.t 6)), oS (.mset 5 (.t 24) (.t 25) (.c (.int .i64 0))), oP 26 (.mov (.t 24)), oP 13 (.mov (.t 26))] (rS [oP 27 (.load none (some 2) (.t 6)), oP 28 (.mk 157 1 [.int .i64 0, .int .i64 0]
 [(0, 2, .t 27)]), oP 14 (.mov (.t 28))] (.seq (rS [oP 15 (.mov (.c (.int .i64 0)))] (.block 0 (.loop (.seq (rS [oP 29 (.mov (.t 15)), oP 30 (.mov (.t 14)), oP 31 (.len 1 (.t 30)), oP 32 (.bin .lss (.t 29) (.t 31))] (.cond (.t 32) .skip (.exit 0))) (.seq (.block 1 (rS [oP 35 (.mov (.t 14)), oP 36
 (.mov (.t 15)), oP 37 (.idx 2 (.t 35) (.t 36)), oP 38 (.load none (some 2) (.t 37)), oP 16 (.new 157 [.int .i64 0, .int .i64 0]), oS (.store none 2 (.t 16) (.t 38))] (rS [oP 17 (.mov (.c .nils))] (.seq (rS [oP 18 (.mov (.c (.int .i64 0)))] (.block 2 (.loop (.seq (rS [oP 39 (.mov (.t 18)), oP 40
 (.mov (.t 0)), oP 41 (.call (.c (.fn 110 [])) [.t 40]), oP 42 (.bin .lss (.t 39) (.t 41))] (.cond (.t 42) .skip (.exit 2))) (.seq (.block 3 (rS [oP 45 (.mov (.t 4)), oP 46 (.load none (some 2) (.t 16)), oP 47 (.mov (.t 18)), oP 48 (.call (.t 45) [.t 46, .t 47]), oP 19 (.new 157 [.int .i64 0, .int
 .i64 0]), oS (.store none 2 (.t 19) (.t 48))] (rS [oP 50 (.mov (.t 13)), oP 51 (.load none (some 2) (.t 19)), oP 52 (.look 5 true (.int .i64 0) (.t 50) (.t 51)), oP 49 (.mov (.t 52)), oP 53 (.ext 0 (.t 49)), oP 54 (.ext 1 (.t 49)), oP 20 (.mov (.t 53)), oP 21 (.mov (.t 54))] (.seq (rS [oP 55 (.mov
 (.t 21)), oP 56 (.not (.t 55))] (.cond (.t 56) (rS [oP 57 (.mov (.t 14)), oP 58 (.len 1 (.t 57)), oP 20 (.mov (.t 58))] (rS [oP 59 (.mov (.t 13)), oP 60 (.load none (some 2) (.t 19)), oP 61 (.mov (.t 20)), oS (.mset 5 (.t 59) (.t 60) (.t 61))] (rS [oP 62 (.mov (.t 14)), oP 63 (.load none (some 2)
 (.t 19)), oP 64 (.mk 157 1 [.int .i64 0, .int .i64 0] [(0, 2, .t 63)]), oP 65 (.app 157 2 16 (.t 62) (.t 64)), oP 14 (.mov (.t 65))] (rS [oP 66 (.mov (.t 2)), oP 67 (.bin .gtr (.t 66) (.c (.int .i64 0))), oP 68 (.mov (.t 67)), oG 69 68 true (.mov (.t 14)), oG 70 68 true (.len 1 (.t 69)), oG 71 68
 true (.mov (.t 2)), oG 72 68 true (.bin .gtr (.t 70) (.t 71)), oP 73 (.pick (.t 68) (.t 72) (.c (.bool false)))] (.cond (.t 73) (rS [oP 74 (.build [.int .i64 0, .int .i64 0, .nils, .nils] []), oS (.store none 4 (.t 10) (.t 74)), oP 11 (.mov (.c (.bool false)))] .ret) .skip))))) .skip)) (.region [oP
 75 (.mov (.t 17)), oP 76 (.mov (.t 20)), oP 77 (.mk 3 1 [.int .i64 0] [(0, 1, .t 76)]), oP 78 (.app 3 1 8 (.t 75) (.t 77)), oP 17 (.mov (.t 78))]))))) (.region [oP 43 (.mov (.t 18)), oP 44 (.bin .add (.t 43) (.c (.int .i64 1))), oP 18 (.mov (.t 44))])))))) (rS [oP 79 (.lea 2 (.t 12)), oP 80 (.load
 (some 80) none (.t 79)), oP 81 (.mov (.t 3)), oP 82 (.load none (some 2) (.t 16)), ⟨some 83, .call (.t 81) [.t 82], none, [80]⟩, oP 84 (.mk 4 1 [.bool false] [(0, 1, .t 83)]), oP 85 (.app 4 1 1 (.t 80) (.t 84)), oP 86 (.lea 2 (.t 12)), oS (.store none 1 (.t 86) (.t 85))] (.region [oP 87 (.lea 3 (.t
 12)), oP 88 (.load none none (.t 87)), oP 89 (.mov (.t 17)), oP 90 (.mk 84 1 [.nils] [(0, 1, .t 89)]), oP 91 (.app 84 1 24 (.t 88) (.t 90)), oP 92 (.lea 3 (.t 12)), oS (.store none 1 (.t 92) (.t 91))])))))) (.region [oP 33 (.mov (.t 15)), oP 34 (.bin .add (.t 33) (.c (.int .i64 1))), oP 15 (.mov (.t
 34))])))))) (rS [oP 93 (.load none (some 4) (.t 12)), oS (.store none 4 (.t 10) (.t 93)), oP 11 (.mov (.c (.bool true)))] .ret)))))⟩
theorem irOk178 : compFun Tryz.prog.underlying Tryz.prog.info? sq Tryz.f178 = some ir178 := by kernel_rfl
def ir179 : BFun := ⟨[.tmp 3], rS [oP 2 (.box 157 (.t 0)), oP 3 (.mov (.c (.bool false)))] (rS [oP 4 (.lea 1 (.t 2)), oP 5 (.load none none (.t 4)), oP 6 (.bin .geq (.t 5) (.c (.int .i64 0))), oP 7 (.mov (.t 6)), oG 8 7 true (.lea 2 (.t 1)), oG 9 7 true (.load none none (.t 8)), oG 10 7 true (.lea 0
 (.t 2)), oG 11 7 true (.load none none (.t 10)), oG 12 7 true (.idx 1 (.t 9) (.t 11)), oG 13 7 true (.load none none (.t 12)), oP 14 (.pick (.t 7) (.t 13) (.c (.bool false))), oP 3 (.mov (.t 14))] .ret)⟩
theorem irOk179 : compFun Tryz.prog.underlying Tryz.prog.info? sq Tryz.f179 = some ir179 := by kernel_rfl
def ir180 : BFun := ⟨[.cell 6 (some 2)], rS [oP 4 (.box 157 (.t 0)), oP 6 (.new 157 [.int .i64 0, .int .i64 0])] (.seq (rS [oP 7 (.lea 1 (.t 4)), oP 8 (.load none none (.t 7)), oP 9 (.bin .lss (.t 8) (.c (.int .i64 0))), oP 10 (.mov (.t 9)), oG 11 10 false (.lea 1 (.t 4)), oG 12 10 false (.load none
 none (.t 11)), oG 13 10 false (.load none none (.t 2)), oG 14 10 false (.mov (.t 1)), oG 15 10 false (.idx 1 (.t 13) (.t 14)), oG 16 10 false (.load none none (.t 15)), oG 17 10 false (.bin .andNot (.t 12) (.t 16)), oG 18 10 false (.bin .neq (.t 17) (.c (.int .i64 0))), oP 19 (.pick (.t 10) (.c
 (.bool true)) (.t 18))] (.cond (.t 19) (rS [oP 20 (.build [.int .i64 0, .int .i64 0] [(1, 1, .c (.int .i64 (-1)))]), oS (.store none 2 (.t 6) (.t 20))] .ret) .skip)) (rS [oP 21 (.lea 3 (.t 3)), oP 22 (.load none none (.t 21)), oP 23 (.lea 0 (.t 4)), oP 24 (.load none none (.t 23)), oP 25 (.idx 1 (.t
 22) (.t 24)), oP 26 (.load none none (.t 25)), oP 27 (.mov (.t 1)), oP 28 (.idx 1 (.t 26) (.t 27)), oP 29 (.load none none (.t 28)), oP 30 (.load none none (.t 2)), oP 31 (.mov (.t 1)), oP 32 (.idx 1 (.t 30) (.t 31)), oP 33 (.load none none (.t 32)), oP 34 (.build [.int .i64 0, .int .i64 0] [(0, 1,
 .t 29), (1, 1, .t 33)]), oS (.store none 2 (.t 6) (.t 34))] .ret))⟩
theorem irOk180 : compFun Tryz.prog.underlying Tryz.prog.info? sq Tryz.f180 = some ir180 := by kernel_rfl
def ir181 : BFun := ⟨[.cell 2 (some 4)], rS [oP 1 (.box 80 (.t 0)), oP 2 (.new 80 [.int .i64 0, .int .i64 0, .nils, .nils])] (rS [oP 21 (.lea 2 (.t 1)), oP 22 (.load none none (.t 21)), oP 23 (.len 1 (.t 22)), oP 24 (.mksl 3 8 [.int .i64 0] (.t 23) (.t 23)), oP 3 (.new 84 [.nils]), oS (.store none 1
 (.t 3) (.t 24))] (.seq (rS [oP 25 (.lea 2 (.t 1)), oP 26 (.load none none (.t 25)), oP 27 (.len 1 (.t 26)), oP 28 (.mov (.c (.int .i64 0)))] (.block 0 (.loop (rS [oP 29 (.bin .lss (.t 28) (.t 27))] (.seq (.cond (.t 29) .skip (.exit 0)) (.seq (.block 1 (rS [oP 30 (.mov (.t 28)), oP 31 (.idx 1 (.t 26)
 (.t 28)), oP 32 (.load none none (.t 31)), oP 4 (.mov (.t 30)), oP 5 (.mov (.t 32))] (rS [oP 33 (.mov (.t 5))] (.cond (.t 33) (.region [oP 34 (.load none none (.t 3)), oP 35 (.mov (.t 4)), oP 36 (.idx 1 (.t 34) (.t 35)), oS (.store none 1 (.t 36) (.c (.int .i64 1)))]) .skip)))) (.region [oP 37 (.bin
 .add (.t 28) (.c (.int .i64 1))), oP 28 (.mov (.t 37))]))))))) (.seq (rS [oP 6 (.mov (.c (.int .i64 0)))] (.block 2 (.loop (.block 3 (rS [oP 38 .mkmap, oP 7 (.mov (.t 38))] (rS [oP 39 (.load none none (.t 3)), oP 40 (.len 1 (.t 39)), oP 41 (.mksl 3 8 [.int .i64 0] (.t 40) (.t 40)), oP 8 (.mov (.t
 41))] (.seq (rS [oP 42 (.lea 3 (.t 1)), oP 43 (.load none none (.t 42)), oP 44 (.len 1 (.t 43)), oP 45 (.mov (.c (.int .i64 0)))] (.block 4 (.loop (rS [oP 46 (.bin .lss (.t 45) (.t 44))] (.seq (.cond (.t 46) .skip (.exit 4)) (.seq (.block 5 (rS [oP 47 (.mov (.t 45)), oP 48 (.idx 1 (.t 43) (.t 45)),
 oP 49 (.load none none (.t 48)), oP 9 (.mov (.t 47)), oP 10 (.mov (.t 49))] (rS [oP 50 (.load none none (.t 3)), oP 51 (.mov (.t 9)), oP 52 (.idx 1 (.t 50) (.t 51)), oP 53 (.load none none (.t 52)), oP 54 (.call (.c (.fn 206 [])) [.t 53]), oP 11 (.mov (.t 54))] (.seq (rS [oP 55 (.mov (.t 10)), oP 56
 (.len 1 (.t 55)), oP 57 (.mov (.c (.int .i64 0)))] (.block 6 (.loop (rS [oP 58 (.bin .lss (.t 57) (.t 56))] (.seq (.cond (.t 58) .skip (.exit 6)) (.seq (.block 7 (rS [oP 59 (.idx 1 (.t 55) (.t 57)), oP 60 (.load none none (.t 59)), oP 13 (.mov (.t 60))] (.region [oP 61 (.mov (.t 11)), oP 62 (.load
 none none (.t 3)), oP 63 (.mov (.t 13)), oP 64 (.idx 1 (.t 62) (.t 63)), oP 65 (.load none none (.t 64)), oP 66 (.call (.c (.fn 206 [])) [.t 65]), oP 67 (.bin .add (.c (.str ⟨#[44]⟩)) (.t 66)), oP 68 (.bin .add (.t 61) (.t 67)), oP 11 (.mov (.t 68))]))) (.region [oP 69 (.bin .add (.t 57) (.c (.int
 .i64 1))), oP 57 (.mov (.t 69))]))))))) (rS [oP 71 (.mov (.t 7)), oP 72 (.mov (.t 11)), oP 73 (.look 1 true (.int .i64 0) (.t 71) (.t 72)), oP 70 (.mov (.t 73)), oP 74 (.ext 0 (.t 70)), oP 75 (.ext 1 (.t 70)), oP 14 (.mov (.t 74)), oP 15 (.mov (.t 75))] (.seq (rS [oP 76 (.mov (.t 15)), oP 77 (.not
 (.t 76))] (.cond (.t 77) (rS [oP 78 (.mov (.t 7)), oP 79 (.len 2 (.t 78)), oP 14 (.mov (.t 79))] (.region [oP 80 (.mov (.t 7)), oP 81 (.mov (.t 11)), oP 82 (.mov (.t 14)), oS (.mset 1 (.t 80) (.t 81) (.t 82))])) .skip)) (.region [oP 83 (.mov (.t 8)), oP 84 (.mov (.t 9)), oP 85 (.mov (.t 14)), oP 86
 (.idx 1 (.t 83) (.t 84)), oS (.store none 1 (.t 86) (.t 85))]))))))) (.region [oP 87 (.bin .add (.t 45) (.c (.int .i64 1))), oP 45 (.mov (.t 87))]))))))) (rS [oP 88 (.mov (.t 8)), oS (.store none 1 (.t 3) (.t 88))] (.seq (rS [oP 89 (.mov (.t 7)), oP 90 (.len 2 (.t 89)), oP 91 (.mov (.t 6)), oP 92
 (.bin .eql (.t 90) (.t 91))] (.cond (.t 92) (.exit 2) .skip)) (.region [oP 93 (.mov (.t 7)), oP 94 (.len 2 (.t 93)), oP 6 (.mov (.t 94))])))))))))) (rS [oP 95 (.load none none (.t 3)), oP 96 (.len 1 (.t 95)), oP 97 (.mksl 3 8 [.int .i64 0] (.t 96) (.t 96)), oP 16 (.new 84 [.nils]), oS (.store none 1
 (.t 16) (.t 97))] (.seq (rS [oP 98 (.load none none (.t 3)), oP 99 (.len 1 (.t 98)), oP 100 (.mov (.c (.int .i64 0)))] (.block 8 (.loop (rS [oP 101 (.bin .lss (.t 100) (.t 99))] (.seq (.cond (.t 101) .skip (.exit 8)) (.seq (.block 9 (rS [oP 102 (.mov (.t 100)), oP 103 (.idx 1 (.t 98) (.t 100)), oP
 104 (.load none none (.t 103)), oP 17 (.mov (.t 102)), oP 18 (.mov (.t 104))] (.region [oP 105 (.load none none (.t 16)), oP 106 (.mov (.t 18)), oP 107 (.mov (.t 17)), oP 108 (.idx 1 (.t 105) (.t 106)), oS (.store none 1 (.t 108) (.t 107))]))) (.region [oP 109 (.bin .add (.t 100) (.c (.int .i64
 1))), oP 100 (.mov (.t 109))]))))))) (rS [oP 111 (.lea 0 (.t 1)), oP 112 (.load none none (.t 111)), oP 113 (.load none none (.t 3)), oP 114 (.lea 1 (.t 1)), oP 115 (.load none none (.t 114)), oP 116 (.idx 1 (.t 113) (.t 115)), oP 117 (.load none none (.t 116)), oP 118 (.mkfn 207 [.t 1, .t 16]), oP
 119 (.mkfn 208 [.t 3, .t 1, .t 16]), oP 120 (.call (.c (.fn 159 [])) [.t 112, .t 117, .c (.int .i64 0), .t 118, .t 119]), oP 110 (.mov (.t 120)), oP 121 (.ext 0 (.t 110)), oP 122 (.ext 1 (.t 110)), oP 19 (.new 80 [.int .i64 0, .int .i64 0, .nils, .nils]), oS (.store none 4 (.t 19) (.t 121)), oP 20
 (.mov (.t 122))] (rS [oP 123 (.load none (some 4) (.t 19)), oS (.store none 4 (.t 2) (.t 123))] .ret)))))))⟩
theorem irOk181 : compFun Tryz.prog.underlying Tryz.prog.info? sq Tryz.f181 = some ir181 := by kernel_rfl
def ir194 : BFun := ⟨[.tmp 2], rS [oP 2 (.mov (.c (.int .i64 0)))] (rS [oP 3 (.mov (.c (.int .i64 1)))] (.seq (.block 0 (.loop (.seq (rS [oP 4 (.mov (.t 0)), oP 5 (.bin .gtr (.t 4) (.c (.int .i64 0)))] (.cond (.t 5) .skip (.exit 0))) (.seq (.block 1 (.region [oP 8 (.mov (.t 3)), oP 9 (.bin .mul (.c
 (.int .i64 3)) (.t 8)), oP 3 (.mov (.t 9))])) (.region [oP 6 (.mov (.t 0)), oP 7 (.bin .sub (.t 6) (.c (.int .i64 1))), oP 0 (.mov (.t 7))]))))) (rS [oP 10 (.mov (.t 3)), oP 2 (.mov (.t 10))] .ret)))⟩
theorem irOk194 : compFun Tryz.prog.underlying Tryz.prog.info? sq Tryz.f194 = some ir194 := by kernel_rfl
def ir195 : BFun := ⟨[.cell 4 (some 4)], rS [oP 4 (.new 29 [.int .i64 0, .int .i64 0, .nils, .nils])] (rS [oP 11 (.mov (.t 1)), oP 12 (.nilck (.t 11)), oP 13 (.lea 2 (.t 12)), oP 14 (.load none none (.t 13)), oP 15 (.len 1 (.t 14)), oP 5 (.mov (.t 15))] (rS [oP 16 (.mov (.t 0)), oP 17 (.nilck (.t
 16)), oP 18 (.lea 0 (.t 17)), oP 19 (.load none none (.t 18)), oP 20 (.mov (.t 0)), oP 21 (.nilck (.t 20)), oP 22 (.lea 1 (.t 21)), oP 23 (.load none none (.t 22)), oP 24 (.mov (.t 5)), oP 25 (.bin .mul (.t 23) (.t 24)), oP 26 (.mov (.t 1)), oP 27 (.nilck (.t 26)), oP 28 (.lea 1 (.t 27)), oP 29
 (.load none none (.t 28)), oP 30 (.bin .add (.t 25) (.t 29)), oP 31 (.build [.int .i64 0, .int .i64 0, .nils, .nils] [(0, 1, .t 19), (1, 1, .t 30)]), oP 6 (.new 29 [.int .i64 0, .int .i64 0, .nils, .nils]), oS (.store none 4 (.t 6) (.t 31))] (.seq (rS [oP 7 (.mov (.c (.int .i64 0)))] (.block 0
 (.loop (.seq (rS [oP 32 (.mov (.t 7)), oP 33 (.mov (.t 0)), oP 34 (.nilck (.t 33)), oP 35 (.lea 2 (.t 34)), oP 36 (.load none none (.t 35)), oP 37 (.len 1 (.t 36)), oP 38 (.bin .lss (.t 32) (.t 37))] (.cond (.t 38) .skip (.exit 0))) (.seq (.block 1 (rS [oP 8 (.mov (.c (.int .i64 0)))] (.block 2
 (.loop (.seq (rS [oP 41 (.mov (.t 8)), oP 42 (.mov (.t 1)), oP 43 (.nilck (.t 42)), oP 44 (.lea 2 (.t 43)), oP 45 (.load none none (.t 44)), oP 46 (.len 1 (.t 45)), oP 47 (.bin .lss (.t 41) (.t 46))] (.cond (.t 47) .skip (.exit 2))) (.seq (.block 3 (rS [oP 50 (.mk 2 0 [] []), oP 9 (.mov (.t 50))]
 (.seq (rS [oP 10 (.mov (.c (.int .i64 0)))] (.block 4 (.loop (.seq (rS [oP 51 (.mov (.t 10)), oP 52 (.mov (.t 0)), oP 53 (.nilck (.t 52)), oP 54 (.lea 3 (.t 53)), oP 55 (.load none none (.t 54)), oP 56 (.mov (.t 7)), oP 57 (.idx 1 (.t 55) (.t 56)), oP 58 (.load none none (.t 57)), oP 59 (.len 1 (.t
 58)), oP 60 (.bin .lss (.t 51) (.t 59))] (.cond (.t 60) .skip (.exit 4))) (.seq (.block 5 (.region [oP 63 (.mov (.t 9)), oP 64 (.mov (.t 0)), oP 65 (.nilck (.t 64)), oP 66 (.lea 3 (.t 65)), oP 67 (.load none none (.t 66)), oP 68 (.mov (.t 7)), oP 69 (.idx 1 (.t 67) (.t 68)), oP 70 (.load none none
 (.t 69)), oP 71 (.mov (.t 10)), oP 72 (.idx 1 (.t 70) (.t 71)), oP 73 (.load none none (.t 72)), oP 74 (.mov (.t 5)), oP 75 (.bin .mul (.t 73) (.t 74)), oP 76 (.mov (.t 1)), oP 77 (.nilck (.t 76)), oP 78 (.lea 3 (.t 77)), oP 79 (.load none none (.t 78)), oP 80 (.mov (.t 8)), oP 81 (.idx 1 (.t 79)
 (.t 80)), oP 82 (.load none none (.t 81)), oP 83 (.mov (.t 10)), oP 84 (.idx 1 (.t 82) (.t 83)), oP 85 (.load none none (.t 84)), oP 86 (.bin .add (.t 75) (.t 85)), oP 87 (.mk 2 1 [.int .i64 0] [(0, 1, .t 86)]), oP 88 (.app 2 1 8 (.t 63) (.t 87)), oP 9 (.mov (.t 88))])) (.region [oP 61 (.mov (.t
 10)), oP 62 (.bin .add (.t 61) (.c (.int .i64 1))), oP 10 (.mov (.t 62))])))))) (rS [oP 89 (.lea 2 (.t 6)), oP 90 (.load none none (.t 89)), oP 91 (.mov (.t 0)), oP 92 (.nilck (.t 91)), oP 93 (.lea 2 (.t 92)), oP 94 (.load none none (.t 93)), oP 95 (.mov (.t 7)), oP 96 (.idx 1 (.t 94) (.t 95)), oP
 97 (.load none none (.t 96)), oP 98 (.mov (.t 1)), oP 99 (.nilck (.t 98)), oP 100 (.lea 2 (.t 99)), oP 101 (.load none none (.t 100)), oP 102 (.mov (.t 8)), oP 103 (.idx 1 (.t 101) (.t 102)), oP 104 (.load none none (.t 103)), oP 105 (.beq true (.t 97) (.t 104)), oP 106 (.mk 4 1 [.bool false] [(0,
 1, .t 105)]), oP 107 (.app 4 1 1 (.t 90) (.t 106)), oP 108 (.lea 2 (.t 6)), oS (.store none 1 (.t 108) (.t 107))] (.region [oP 109 (.lea 3 (.t 6)), oP 110 (.load none none (.t 109)), oP 111 (.mov (.t 9)), oP 112 (.mk 67 1 [.nils] [(0, 1, .t 111)]), oP 113 (.app 67 1 24 (.t 110) (.t 112)), oP 114
 (.lea 3 (.t 6)), oS (.store none 1 (.t 114) (.t 113))]))))) (.region [oP 48 (.mov (.t 8)), oP 49 (.bin .add (.t 48) (.c (.int .i64 1))), oP 8 (.mov (.t 49))]))))))) (.region [oP 39 (.mov (.t 7)), oP 40 (.bin .add (.t 39) (.c (.int .i64 1))), oP 7 (.mov (.t 40))])))))) (rS [oP 115 (.load none (some
 4) (.t 6)), oS (.store none 4 (.t 4) (.t 115))] .ret))))⟩
theorem irOk195 : compFun Tryz.prog.underlying Tryz.prog.info? sq Tryz.f195 = some ir195 := by kernel_rfl
def ir196 : BFun := ⟨[.tmp 8], rS [oP 8 (.mov (.c (.int .i64 0)))] (rS [oP 12 (.mov (.t 3)), oP 13 (.mov (.t 2)), oP 14 (.call (.c (.fn 194 [])) [.t 13]), oP 15 (.bin .mul (.t 12) (.t 14)), oP 9 (.mov (.t 15))] (rS [oP 10 (.mov (.c (.int .i64 0)))] (.seq (rS [oP 11 (.mov (.c (.int .i64 0)))] (.block
 0 (.loop (.seq (rS [oP 16 (.mov (.t 11)), oP 17 (.mov (.t 1)), oP 18 (.bin .lss (.t 16) (.t 17))] (.cond (.t 18) .skip (.exit 0))) (.seq (.block 1 (rS [oP 21 (.mov (.t 11)), oP 22 (.mov (.t 2)), oP 23 (.bin .neq (.t 21) (.t 22))] (.cond (.t 23) (rS [oP 24 (.mov (.t 9)), oP 25 (.mov (.t 0)), oP 26
 (.mov (.t 10)), oP 27 (.call (.c (.fn 158 [])) [.t 25, .t 26]), oP 28 (.mov (.t 11)), oP 29 (.call (.c (.fn 194 [])) [.t 28]), oP 30 (.bin .mul (.t 27) (.t 29)), oP 31 (.bin .add (.t 24) (.t 30)), oP 9 (.mov (.t 31))] (.region [oP 32 (.mov (.t 10)), oP 33 (.bin .add (.t 32) (.c (.int .i64 1))), oP
 10 (.mov (.t 33))])) .skip))) (.region [oP 19 (.mov (.t 11)), oP 20 (.bin .add (.t 19) (.c (.int .i64 1))), oP 11 (.mov (.t 20))])))))) (rS [oP 34 (.mov (.t 9)), oP 8 (.mov (.t 34))] .ret))))⟩
theorem irOk196 : compFun Tryz.prog.underlying Tryz.prog.info? sq Tryz.f196 = some ir196 := by kernel_rfl
def ir197 : BFun := ⟨[.tmp 2], rS [oP 2 (.mov (.c (.int .i64 0)))] (rS [oP 3 (.mov (.c (.int .i64 0)))] (.seq (rS [oP 5 (.mov (.t 0)), oP 6 (.len 1 (.t 5)), oP 7 (.bin .sub (.t 6) (.c (.int .i64 1))), oP 4 (.mov (.t 7))] (.block 0 (.loop (.seq (rS [oP 8 (.mov (.t 4)), oP 9 (.bin .geq (.t 8) (.c (.int
 .i64 0)))] (.cond (.t 9) .skip (.exit 0))) (.seq (.block 1 (.region [oP 12 (.mov (.t 3)), oP 13 (.bin .mul (.c (.int .i64 3)) (.t 12)), oP 14 (.mov (.t 0)), oP 15 (.mov (.t 4)), oP 16 (.idx 1 (.t 14) (.t 15)), oP 17 (.load none none (.t 16)), oP 18 (.bin .add (.t 13) (.t 17)), oP 3 (.mov (.t 18))]))
 (.region [oP 10 (.mov (.t 4)), oP 11 (.bin .sub (.t 10) (.c (.int .i64 1))), oP 4 (.mov (.t 11))])))))) (rS [oP 19 (.mov (.t 3)), oP 2 (.mov (.t 19))] .ret)))⟩
theorem irOk197 : compFun Tryz.prog.underlying Tryz.prog.info? sq Tryz.f197 = some ir197 := by kernel_rfl
def ir199 : BFun := ⟨[.tmp 2], rS [oP 2 (.mov (.c .nils))] (.seq (rS [oP 3 (.mov (.t 0)), oP 4 (.isnil false (.t 3))] (.cond (.t 4) (rS [oP 2 (.mov (.c .nils))] .ret) .skip)) (rS [oP 5 (.mk 3 0 [] []), oP 6 (.mov (.t 0)), oP 7 (.app 3 1 8 (.t 5) (.t 6)), oP 2 (.mov (.t 7))] .ret))⟩
theorem irOk199 : compFun Tryz.prog.underlying Tryz.prog.info? sq Tryz.f199 = some ir199 := by kernel_rfl
def ir200 : BFun := ⟨[.tmp 2], rS [oP 2 (.mov (.c .nils))] (rS [oP 3 (.mov (.c .nils))] (.seq (rS [oP 6 (.mov (.t 0)), oP 7 (.len 1 (.t 6)), oP 8 (.mov (.c (.int .i64 0)))] (.block 0 (.loop (rS [oP 9 (.bin .lss (.t 8) (.t 7))] (.seq (.cond (.t 9) .skip (.exit 0)) (.seq (.block 1 (rS [oP 10 (.idx 1
 (.t 6) (.t 8)), oP 11 (.load none none (.t 10)), oP 5 (.mov (.t 11))] (.region [oP 12 (.mov (.t 3)), oP 13 (.mov (.t 5)), oP 14 (.mk 2 1 [.int .i64 0] [(0, 1, .t 13)]), oP 15 (.app 2 1 8 (.t 12) (.t 14)), oP 3 (.mov (.t 15))]))) (.region [oP 16 (.bin .add (.t 8) (.c (.int .i64 1))), oP 8 (.mov (.t
 16))]))))))) (rS [oP 17 (.mov (.t 3)), oP 2 (.mov (.t 17))] .ret)))⟩
theorem irOk200 : compFun Tryz.prog.underlying Tryz.prog.info? sq Tryz.f200 = some ir200 := by kernel_rfl
def ir202 : BFun := ⟨[.cell 4 (some 4), .tmp 5], rS [oP 2 (.box 29 (.t 0)), oP 3 (.box 29 (.t 1)), oP 4 (.new 29 [.int .i64 0, .int .i64 0, .nils, .nils]), oP 5 (.mov (.c (.int .i64 0)))] (.seq (.block 0 (rS [oP 15 (.load none (some 4) (.t 2)), oP 16 (.call (.c (.fn 73 [])) [.t 15]), oP 17 (.not (.t
 16)), oP 18 (.mov (.t 17)), oG 19 18 false (.load none (some 4) (.t 3)), oG 20 18 false (.call (.c (.fn 73 [])) [.t 19]), oG 21 18 false (.not (.t 20)), oP 22 (.pick (.t 18) (.c (.bool true)) (.t 21)), oP 14 (.mov (.t 22))] (.cond (.t 14) (rS [oP 23 (.build [.int .i64 0, .int .i64 0, .nils, .nils]
 []), oS (.store none 4 (.t 4) (.t 23)), oP 5 (.mov (.c (.int .i64 1)))] .ret) (rS [oP 25 (.lea 0 (.t 2)), oP 26 (.load none none (.t 25)), oP 27 (.lea 0 (.t 3)), oP 28 (.load none none (.t 27)), oP 29 (.bin .add (.t 26) (.t 28)), oP 30 (.bin .gtr (.t 29) (.c (.int .i64 3))), oP 24 (.mov (.t 30))]
 (.cond (.t 24) (rS [oP 31 (.build [.int .i64 0, .int .i64 0, .nils, .nils] []), oS (.store none 4 (.t 4) (.t 31)), oP 5 (.mov (.c (.int .i64 2)))] .ret) .skip))))) (rS [oP 6 (.mov (.c .nils)), oP 7 (.mov (.c .nils))] (.seq (rS [oP 8 (.mov (.c (.int .i64 0)))] (.block 1 (.loop (.seq (rS [oP 32 (.mov
 (.t 8)), oP 33 (.lea 0 (.t 3)), oP 34 (.load none none (.t 33)), oP 35 (.bin .lss (.t 32) (.t 34))] (.cond (.t 35) .skip (.exit 1))) (.seq (.block 2 (.region [oP 38 (.mov (.t 6)), oP 39 (.lea 0 (.t 2)), oP 40 (.load none none (.t 39)), oP 41 (.mov (.t 8)), oP 42 (.bin .add (.t 40) (.t 41)), oP 43
 (.mk 2 1 [.int .i64 0] [(0, 1, .t 42)]), oP 44 (.app 2 1 8 (.t 38) (.t 43)), oP 6 (.mov (.t 44))])) (.region [oP 36 (.mov (.t 8)), oP 37 (.bin .add (.t 36) (.c (.int .i64 1))), oP 8 (.mov (.t 37))])))))) (.seq (rS [oP 9 (.mov (.c (.int .i64 0)))] (.block 3 (.loop (.seq (rS [oP 45 (.mov (.t 9)), oP
 46 (.lea 0 (.t 2)), oP 47 (.load none none (.t 46)), oP 48 (.bin .lss (.t 45) (.t 47))] (.cond (.t 48) .skip (.exit 3))) (.seq (.block 4 (.region [oP 51 (.mov (.t 7)), oP 52 (.mk 2 1 [.int .i64 0] [(0, 1, .c (.int .i64 0))]), oP 53 (.app 2 1 8 (.t 51) (.t 52)), oP 7 (.mov (.t 53))])) (.region [oP 49
 (.mov (.t 9)), oP 50 (.bin .add (.t 49) (.c (.int .i64 1))), oP 9 (.mov (.t 50))])))))) (rS [oP 55 (.load none (some 4) (.t 2)), oP 56 (.mov (.t 6)), oP 57 (.call (.c (.fn 47 [])) [.t 55, .t 56]), oP 54 (.mov (.t 57)), oP 58 (.ext 0 (.t 54)), oP 59 (.ext 1 (.t 54)), oP 10 (.new 29 [.int .i64 0, .int
 .i64 0, .nils, .nils]), oS (.store none 4 (.t 10) (.t 58)), oP 11 (.mov (.t 59))] (rS [oP 61 (.load none (some 4) (.t 3)), oP 62 (.mov (.t 7)), oP 63 (.call (.c (.fn 47 [])) [.t 61, .t 62]), oP 60 (.mov (.t 63)), oP 64 (.ext 0 (.t 60)), oP 65 (.ext 1 (.t 60)), oP 12 (.new 29 [.int .i64 0, .int .i64
 0, .nils, .nils]), oS (.store none 4 (.t 12) (.t 64)), oP 13 (.mov (.t 65))] (rS [oP 66 (.load none (some 4) (.t 10)), oP 67 (.mov (.t 11)), oP 68 (.load none (some 4) (.t 12)), oP 69 (.mov (.t 13)), oP 70 (.call (.c (.fn 48 [])) [.t 66, .t 67, .t 68, .t 69]), oP 71 (.ext 0 (.t 70)), oP 72 (.ext 1
 (.t 70)), oS (.store none 4 (.t 4) (.t 71)), oP 5 (.mov (.t 72))] .ret)))))))⟩
theorem irOk202 : compFun Tryz.prog.underlying Tryz.prog.info? sq Tryz.f202 = some ir202 := by kernel_rfl
def ir203 : BFun := ⟨[.cell 10 (some 4), .tmp 11], rS [oP 6 (.box 182 (.t 1)), oP 10 (.new 80 [.int .i64 0, .int .i64 0, .nils, .nils]), oP 11 (.mov (.c (.bool false)))] (rS [oP 22 (.mov (.t 0)), oP 23 (.build [.int .i64 0, .int .i64 0, .nils, .nils] [(0, 1, .t 22)]), oP 12 (.new 80 [.int .i64 0,
 .int .i64 0, .nils, .nils]), oS (.store none 4 (.t 12) (.t 23))] (rS [oP 24 .mkmap, oP 25 (.load none (some 2) (.t 6)), oS (.mset 5 (.t 24) (.t 25) (.c (.int .i64 0))), oP 26 (.mov (.t 24)), oP 13 (.mov (.t 26))] (rS [oP 27 (.load none (some 2) (.t 6)), oP 28 (.mk 182 1 [.int .i64 0, .int .i64 0]
 [(0, 2, .t 27)]), oP 14 (.mov (.t 28))] (.seq (rS [oP 15 (.mov (.c (.int .i64 0)))] (.block 0 (.loop (.seq (rS [oP 29 (.mov (.t 15)), oP 30 (.mov (.t 14)), oP 31 (.len 1 (.t 30)), oP 32 (.bin .lss (.t 29) (.t 31))] (.cond (.t 32) .skip (.exit 0))) (.seq (.block 1 (rS [oP 35 (.mov (.t 14)), oP 36
 (.mov (.t 15)), oP 37 (.idx 2 (.t 35) (.t 36)), oP 38 (.load none (some 2) (.t 37)), oP 16 (.new 182 [.int .i64 0, .int .i64 0]), oS (.store none 2 (.t 16) (.t 38))] (rS [oP 17 (.mov (.c .nils))] (.seq (rS [oP 18 (.mov (.c (.int .i64 0)))] (.block 2 (.loop (.seq (rS [oP 39 (.mov (.t 18)), oP 40
 (.mov (.t 0)), oP 41 (.call (.c (.fn 110 [])) [.t 40]), oP 42 (.bin .lss (.t 39) (.t 41))] (.cond (.t 42) .skip (.exit 2))) (.seq (.block 3 (rS [oP 45 (.mov (.t 4)), oP 46 (.load none (some 2) (.t 16)), oP 47 (.mov (.t 18)), oP 48 (.call (.t 45) [.t 46, .t 47]), oP 19 (.new 182 [.int .i64 0, .int
 .i64 0]), oS (.store none 2 (.t 19) (.t 48))] (rS [oP 50 (.mov (.t 13)), oP 51 (.load none (some 2) (.t 19)), oP 52 (.look 5 true (.int .i64 0) (.t 50) (.t 51)), oP 49 (.mov (.t 52)), oP 53 (.ext 0 (.t 49)), oP 54 (.ext 1 (.t 49)), oP 20 (.mov (.t 53)), oP 21 (.mov (.t 54))] (.seq (rS [oP 55 (.mov
 (.t 21)), oP 56 (.not (.t 55))] (.cond (.t 56) (rS [oP 57 (.mov (.t 14)), oP 58 (.len 1 (.t 57)), oP 20 (.mov (.t 58))] (rS [oP 59 (.mov (.t 13)), oP 60 (.load none (some 2) (.t 19)), oP 61 (.mov (.t 20)), oS (.mset 5 (.t 59) (.t 60) (.t 61))] (rS [oP 62 (.mov (.t 14)), oP 63 (.load none (some 2)
 (.t 19)), oP 64 (.mk 182 1 [.int .i64 0, .int .i64 0] [(0, 2, .t 63)]), oP 65 (.app 182 2 16 (.t 62) (.t 64)), oP 14 (.mov (.t 65))] (rS [oP 66 (.mov (.t 2)), oP 67 (.bin .gtr (.t 66) (.c (.int .i64 0))), oP 68 (.mov (.t 67)), oG 69 68 true (.mov (.t 14)), oG 70 68 true (.len 1 (.t 69)), oG 71 68
 true (.mov (.t 2)), oG 72 68 true (.bin .gtr (.t 70) (.t 71)), oP 73 (.pick (.t 68) (.t 72) (.c (.bool false)))] (.cond (.t 73) (rS [oP 74 (.build [.int .i64 0, .int .i64 0, .nils, .nils] []), oS (.store none 4 (.t 10) (.t 74)), oP 11 (.mov (.c (.bool false)))] .ret) .skip))))) .skip)) (.region [oP
 75 (.mov (.t 17)), oP 76 (.mov (.t 20)), oP 77 (.mk 3 1 [.int .i64 0] [(0, 1, .t 76)]), oP 78 (.app 3 1 8 (.t 75) (.t 77)), oP 17 (.mov (.t 78))]))))) (.region [oP 43 (.mov (.t 18)), oP 44 (.bin .add (.t 43) (.c (.int .i64 1))), oP 18 (.mov (.t 44))])))))) (rS [oP 79 (.lea 2 (.t 12)), oP 80 (.load
 (some 80) none (.t 79)), oP 81 (.mov (.t 3)), oP 82 (.load none (some 2) (.t 16)), ⟨some 83, .call (.t 81) [.t 82], none, [80]⟩, oP 84 (.mk 4 1 [.bool false] [(0, 1, .t 83)]), oP 85 (.app 4 1 1 (.t 80) (.t 84)), oP 86 (.lea 2 (.t 12)), oS (.store none 1 (.t 86) (.t 85))] (.region [oP 87 (.lea 3 (.t
 12)), oP 88 (.load none none (.t 87)), oP 89 (.mov (.t 17)), oP 90 (.mk 84 1 [.nils] [(0, 1, .t 89)]), oP 91 (.app 84 1 24 (.t 88) (.t 90)), oP 92 (.lea 3 (.t 12)), oS (.store none 1 (.t 92) (.t 91))])))))) (.region [oP 33 (.mov (.t 15)), oP 34 (.bin .add (.t 33) (.c (.int .i64 1))), oP 15 (.mov (.t
 34))])))))) (rS [oP 93 (.load none (some 4) (.t 12)), oS (.store none 4 (.t 10) (.t 93)), oP 11 (.mov (.c (.bool true)))] .ret)))))⟩
theorem irOk203 : compFun Tryz.prog.underlying Tryz.prog.info? sq Tryz.f203 = some ir203 := by kernel_rfl
def ir204 : BFun := ⟨[.tmp 5], rS [oP 4 (.box 182 (.t 0)), oP 5 (.mov (.c (.bool false)))] (rS [oP 6 (.load none none (.t 1)), oP 7 (.lea 2 (.t 2)), oP 8 (.load none none (.t 7)), oP 9 (.idxa 2 1 (.t 4) (.c (.int .i64 0))), oP 10 (.load none none (.t 9)), oP 11 (.idx 1 (.t 8) (.t 10)), oP 12 (.load
 none none (.t 11)), oP 13 (.lea 2 (.t 3)), oP 14 (.load none none (.t 13)), oP 15 (.idxa 2 1 (.t 4) (.c (.int .i64 1))), oP 16 (.load none none (.t 15)), oP 17 (.idx 1 (.t 14) (.t 16)), oP 18 (.load none none (.t 17)), oP 19 (.call (.t 6) [.t 12, .t 18]), oP 5 (.mov (.t 19))] .ret)⟩
theorem irOk204 : compFun Tryz.prog.underlying Tryz.prog.info? sq Tryz.f204 = some ir204 := by kernel_rfl
def ir205 : BFun := ⟨[.cell 6 (some 2)], rS [oP 4 (.box 182 (.t 0)), oP 6 (.new 182 [.int .i64 0, .int .i64 0])] (rS [oP 7 (.lea 3 (.t 2)), oP 8 (.load none none (.t 7)), oP 9 (.idxa 2 1 (.t 4) (.c (.int .i64 0))), oP 10 (.load none none (.t 9)), oP 11 (.idx 1 (.t 8) (.t 10)), oP 12 (.load none none
 (.t 11)), oP 13 (.mov (.t 1)), oP 14 (.idx 1 (.t 12) (.t 13)), oP 15 (.load none none (.t 14)), oP 16 (.lea 3 (.t 3)), oP 17 (.load none none (.t 16)), oP 18 (.idxa 2 1 (.t 4) (.c (.int .i64 1))), oP 19 (.load none none (.t 18)), oP 20 (.idx 1 (.t 17) (.t 19)), oP 21 (.load none none (.t 20)), oP 22
 (.mov (.t 1)), oP 23 (.idx 1 (.t 21) (.t 22)), oP 24 (.load none none (.t 23)), oP 25 (.build [.int .i64 0, .int .i64 0] [(0, 1, .t 15), (1, 1, .t 24)]), oS (.store none 2 (.t 6) (.t 25))] .ret)⟩
theorem irOk205 : compFun Tryz.prog.underlying Tryz.prog.info? sq Tryz.f205 = some ir205 := by kernel_rfl
def ir207 : BFun := ⟨[.tmp 4], rS [oP 4 (.mov (.c (.bool false)))] (rS [oP 5 (.lea 2 (.t 1)), oP 6 (.load none none (.t 5)), oP 7 (.load none none (.t 2)), oP 8 (.mov (.t 0)), oP 9 (.idx 1 (.t 7) (.t 8)), oP 10 (.load none none (.t 9)), oP 11 (.idx 1 (.t 6) (.t 10)), oP 12 (.load none none (.t 11)),
 oP 4 (.mov (.t 12))] .ret)⟩
theorem irOk207 : compFun Tryz.prog.underlying Tryz.prog.info? sq Tryz.f207 = some ir207 := by kernel_rfl
def ir208 : BFun := ⟨[.tmp 7], rS [oP 7 (.mov (.c (.int .i64 0)))] (rS [oP 8 (.load none none (.t 2)), oP 9 (.lea 3 (.t 3)), oP 10 (.load none none (.t 9)), oP 11 (.load none none (.t 4)), oP 12 (.mov (.t 0)), oP 13 (.idx 1 (.t 11) (.t 12)), oP 14 (.load none none (.t 13)), oP 15 (.idx 1 (.t 10) (.t
 14)), oP 16 (.load none none (.t 15)), oP 17 (.mov (.t 1)), oP 18 (.idx 1 (.t 16) (.t 17)), oP 19 (.load none none (.t 18)), oP 20 (.idx 1 (.t 8) (.t 19)), oP 21 (.load none none (.t 20)), oP 7 (.mov (.t 21))] .ret)⟩
theorem irOk208 : compFun Tryz.prog.underlying Tryz.prog.info? sq Tryz.f208 = some ir208 := by kernel_rfl
def fnA : Nat → Option BFun
  | 8 => some ir8
  | 15 => some ir15
  | 18 => some ir18
  | 19 => some ir19
  | 26 => some ir26
  | 27 => some ir27
  | 40 => some ir40
  | 41 => some ir41
  | 42 => some ir42
  | 45 => some ir45
  | 46 => some ir46
  | 47 => some ir47
  | 48 => some ir48
  | 50 => some ir50
  | 52 => some ir52
  | 53 => some ir53
  | 54 => some ir54
  | 55 => some ir55
  | 56 => some ir56
  | 58 => some ir58
  | 61 => some ir61
  | _ => none
def fnB : Nat → Option BFun
  | 64 => some ir64
  | 67 => some ir67
  | 73 => some ir73
  | 75 => some ir75
  | 82 => some ir82
  | 83 => some ir83
  | 85 => some ir85
  | 86 => some ir86
  | 87 => some ir87
  | 88 => some ir88
  | 89 => some ir89
  | 90 => some ir90
  | 91 => some ir91
  | 92 => some ir92
  | 93 => some ir93
  | 94 => some ir94
  | 95 => some ir95
  | 96 => some ir96
  | 97 => some ir97
  | 106 => some ir106
  | 107 => some ir107
  | 110 => some ir110
  | 111 => some ir111
  | 112 => some ir112
  | 113 => some ir113
  | 114 => some ir114
  | 115 => some ir115
  | 116 => some ir116
  | 117 => some ir117
  | 123 => some ir123
  | 125 => some ir125
  | _ => none
def fnC : Nat → Option BFun
  | 126 => some ir126
  | 127 => some ir127
  | 134 => some ir134
  | 135 => some ir135
  | 136 => some ir136
  | 137 => some ir137
  | 138 => some ir138
  | 139 => some ir139
  | 140 => some ir140
  | 141 => some ir141
  | 142 => some ir142
  | 143 => some ir143
  | 144 => some ir144
  | 145 => some ir145
  | 147 => some ir147
  | 148 => some ir148
  | 149 => some ir149
  | 150 => some ir150
  | 151 => some ir151
  | 152 => some ir152
  | 153 => some ir153
  | 154 => some ir154
  | 155 => some ir155
  | 156 => some ir156
  | 158 => some ir158
  | 159 => some ir159
  | 162 => some ir162
  | 163 => some ir163
  | 164 => some ir164
  | 167 => some ir167
  | 168 => some ir168
  | 169 => some ir169
  | 170 => some ir170
  | 171 => some ir171
  | 173 => some ir173
  | 174 => some ir174
  | 176 => some ir176
  | 177 => some ir177
  | 178 => some ir178
  | 179 => some ir179
  | 180 => some ir180
  | 181 => some ir181
  | 194 => some ir194
  | 195 => some ir195
  | 196 => some ir196
  | 197 => some ir197
  | 199 => some ir199
  | 200 => some ir200
  | _ => none
def fnD : Nat → Option BFun
  | 202 => some ir202
  | 203 => some ir203
  | 204 => some ir204
  | 205 => some ir205
  | 207 => some ir207
  | 208 => some ir208
  | _ => none
def fnOf (f : Nat) : Option BFun := match fnA f with | some x => some x | none => match fnB f with | some x => some x | none => match fnC f with | some x => some x | none => fnD f
def gam (base : Nat) : Ctx := ⟨base, fnOf, orC (itoaB 206) (orC (delB base 146 3) (insB base 198 3))⟩
theorem linkedA : Linked Tryz.prog sq ⟨0, fnA, fun _ _ _ _ _ => False⟩ := by
  intro f bfn h
  simp only [fnA] at h
  split at h
  · cases h; exact ⟨Tryz.f8, Tryz.func8, irOk8, by kernel_rfl⟩
  · cases h; exact ⟨Tryz.f15, Tryz.func15, irOk15, by kernel_rfl⟩
  · cases h; exact ⟨Tryz.f18, Tryz.func18, irOk18, by kernel_rfl⟩
  · cases h; exact ⟨Tryz.f19, Tryz.func19, irOk19, by kernel_rfl⟩
  · cases h; exact ⟨Tryz.f26, Tryz.func26, irOk26, by kernel_rfl⟩
  · cases h; exact ⟨Tryz.f27, Tryz.func27, irOk27, by kernel_rfl⟩
  · cases h; exact ⟨Tryz.f40, Tryz.func40, irOk40, by kernel_rfl⟩
  · cases h; exact ⟨Tryz.f41, Tryz.func41, irOk41, by kernel_rfl⟩
  · cases h; exact ⟨Tryz.f42, Tryz.func42, irOk42, by kernel_rfl⟩
  · cases h; exact ⟨Tryz.f45, Tryz.func45, irOk45, by kernel_rfl⟩
  · cases h; exact ⟨Tryz.f46, Tryz.func46, irOk46, by kernel_rfl⟩
  · cases h; exact ⟨Tryz.f47, Tryz.func47, irOk47, by kernel_rfl⟩
  · cases h; exact ⟨Tryz.f48, Tryz.func48, irOk48, by kernel_rfl⟩
  · cases h; exact ⟨Tryz.f50, Tryz.func50, irOk50, by kernel_rfl⟩
  · cases h; exact ⟨Tryz.f52, Tryz.func52, irOk52, by kernel_rfl⟩
  · cases h; exact ⟨Tryz.f53, Tryz.func53, irOk53, by kernel_rfl⟩
  · cases h; exact ⟨Tryz.f54, Tryz.func54, irOk54, by kernel_rfl⟩
  · cases h; exact ⟨Tryz.f55, Tryz.func55, irOk55, by kernel_rfl⟩
  · cases h; exact ⟨Tryz.f56, Tryz.func56, irOk56, by kernel_rfl⟩
  · cases h; exact ⟨Tryz.f58, Tryz.func58, irOk58, by kernel_rfl⟩
  · cases h; exact ⟨Tryz.f61, Tryz.func61, irOk61, by kernel_rfl⟩
  · cases h
theorem linkedB : Linked Tryz.prog sq ⟨0, fnB, fun _ _ _ _ _ => False⟩ := by
  intro f bfn h
  simp only [fnB] at h
  split at h
  · cases h; exact ⟨Tryz.f64, Tryz.func64, irOk64, by kernel_rfl⟩
  · cases h; exact ⟨Tryz.f67, Tryz.func67, irOk67, by kernel_rfl⟩
  · cases h; exact ⟨Tryz.f73, Tryz.func73, irOk73, by kernel_rfl⟩
  · cases h; exact ⟨Tryz.f75, Tryz.func75, irOk75, by kernel_rfl⟩
  · cases h; exact ⟨Tryz.f82, Tryz.func82, irOk82, by kernel_rfl⟩
  · cases h; exact ⟨Tryz.f83, Tryz.func83, irOk83, by kernel_rfl⟩
  · cases h; exact ⟨Tryz.f85, Tryz.func85, irOk85, by kernel_rfl⟩
  · cases h; exact ⟨Tryz.f86, Tryz.func86, irOk86, by kernel_rfl⟩
  · cases h; exact ⟨Tryz.f87, Tryz.func87, irOk87, by kernel_rfl⟩
  · cases h; exact ⟨Tryz.f88, Tryz.func88, irOk88, by kernel_rfl⟩
  · cases h; exact ⟨Tryz.f89, Tryz.func89, irOk89, by kernel_rfl⟩
  · cases h; exact ⟨Tryz.f90, Tryz.func90, irOk90, by kernel_rfl⟩
  · cases h; exact ⟨Tryz.f91, Tryz.func91, irOk91, by kernel_rfl⟩
  · cases h; exact ⟨Tryz.f92, Tryz.func92, irOk92, by kernel_rfl⟩
  · cases h; exact ⟨Tryz.f93, Tryz.func93, irOk93, by kernel_rfl⟩
  · cases h; exact ⟨Tryz.f94, Tryz.func94, irOk94, by kernel_rfl⟩
  · cases h; exact ⟨Tryz.f95, Tryz.func95, irOk95, by kernel_rfl⟩
  · cases h; exact ⟨Tryz.f96, Tryz.func96, irOk96, by kernel_rfl⟩
  · cases h; exact ⟨Tryz.f97, Tryz.func97, irOk97, by kernel_rfl⟩
  · cases h; exact ⟨Tryz.f106, Tryz.func106, irOk106, by kernel_rfl⟩
  · cases h; exact ⟨Tryz.f107, Tryz.func107, irOk107, by kernel_rfl⟩
  · cases h; exact ⟨Tryz.f110, Tryz.func110, irOk110, by kernel_rfl⟩
  · cases h; exact ⟨Tryz.f111, Tryz.func111, irOk111, by kernel_rfl⟩
  · cases h; exact ⟨Tryz.f112, Tryz.func112, irOk112, by kernel_rfl⟩
  · cases h; exact ⟨Tryz.f113, Tryz.func113, irOk113, by kernel_rfl⟩
  · cases h; exact ⟨Tryz.f114, Tryz.func114, irOk114, by kernel_rfl⟩
  · cases h; exact ⟨Tryz.f115, Tryz.func115, irOk115, by kernel_rfl⟩
  · cases h; exact ⟨Tryz.f116, Tryz.func116, irOk116, by kernel_rfl⟩
  · cases h; exact ⟨Tryz.f117, Tryz.func117, irOk117, by kernel_rfl⟩
  · cases h; exact ⟨Tryz.f123, Tryz.func123, irOk123, by kernel_rfl⟩
  · cases h; exact ⟨Tryz.f125, Tryz.func125, irOk125, by kernel_rfl⟩
  · cases h
theorem linkedC : Linked Tryz.prog sq ⟨0, fnC, fun _ _ _ _ _ => False⟩ := by
  intro f bfn h
  simp only [fnC] at h
  split at h
  · cases h; exact ⟨Tryz.f126, Tryz.func126, irOk126, by kernel_rfl⟩
  · cases h; exact ⟨Tryz.f127, Tryz.func127, irOk127, by kernel_rfl⟩
  · cases h; exact ⟨Tryz.f134, Tryz.func134, irOk134, by kernel_rfl⟩
  · cases h; exact ⟨Tryz.f135, Tryz.func135, irOk135, by kernel_rfl⟩
  · cases h; exact ⟨Tryz.f136, Tryz.func136, irOk136, by kernel_rfl⟩
  · cases h; exact ⟨Tryz.f137, Tryz.func137, irOk137, by kernel_rfl⟩
  · cases h; exact ⟨Tryz.f138, Tryz.func138, irOk138, by kernel_rfl⟩
  · cases h; exact ⟨Tryz.f139, Tryz.func139, irOk139, by kernel_rfl⟩
  · cases h; exact ⟨Tryz.f140, Tryz.func140, irOk140, by kernel_rfl⟩
  · cases h; exact ⟨Tryz.f141, Tryz.func141, irOk141, by kernel_rfl⟩
  · cases h; exact ⟨Tryz.f142, Tryz.func142, irOk142, by kernel_rfl⟩
  · cases h; exact ⟨Tryz.f143, Tryz.func143, irOk143, by kernel_rfl⟩
  · cases h; exact ⟨Tryz.f144, Tryz.func144, irOk144, by kernel_rfl⟩
  · cases h; exact ⟨Tryz.f145, Tryz.func145, irOk145, by kernel_rfl⟩
  · cases h; exact ⟨Tryz.f147, Tryz.func147, irOk147, by kernel_rfl⟩
  · cases h; exact ⟨Tryz.f148, Tryz.func148, irOk148, by kernel_rfl⟩
  · cases h; exact ⟨Tryz.f149, Tryz.func149, irOk149, by kernel_rfl⟩
  · cases h; exact ⟨Tryz.f150, Tryz.func150, irOk150, by kernel_rfl⟩
  · cases h; exact ⟨Tryz.f151, Tryz.func151, irOk151, by kernel_rfl⟩
  · cases h; exact ⟨Tryz.f152, Tryz.func152, irOk152, by kernel_rfl⟩
  · cases h; exact ⟨Tryz.f153, Tryz.func153, irOk153, by kernel_rfl⟩
  · cases h; exact ⟨Tryz.f154, Tryz.func154, irOk154, by kernel_rfl⟩
  · cases h; exact ⟨Tryz.f155, Tryz.func155, irOk155, by kernel_rfl⟩
  · cases h; exact ⟨Tryz.f156, Tryz.func156, irOk156, by kernel_rfl⟩
  · cases h; exact ⟨Tryz.f158, Tryz.func158, irOk158, by kernel_rfl⟩
  · cases h; exact ⟨Tryz.f159, Tryz.func159, irOk159, by kernel_rfl⟩
  · cases h; exact ⟨Tryz.f162, Tryz.func162, irOk162, by kernel_rfl⟩
  · cases h; exact ⟨Tryz.f163, Tryz.func163, irOk163, by kernel_rfl⟩
  · cases h; exact ⟨Tryz.f164, Tryz.func164, irOk164, by kernel_rfl⟩
  · cases h; exact ⟨Tryz.f167, Tryz.func167, irOk167, by kernel_rfl⟩
  · cases h; exact ⟨Tryz.f168, Tryz.func168, irOk168, by kernel_rfl⟩
  · cases h; exact ⟨Tryz.f169, Tryz.func169, irOk169, by kernel_rfl⟩
  · cases h; exact ⟨Tryz.f170, Tryz.func170, irOk170, by kernel_rfl⟩
  · cases h; exact ⟨Tryz.f171, Tryz.func171, irOk171, by kernel_rfl⟩
  · cases h; exact ⟨Tryz.f173, Tryz.func173, irOk173, by kernel_rfl⟩
  · cases h; exact ⟨Tryz.f174, Tryz.func174, irOk174, by kernel_rfl⟩
  · cases h; exact ⟨Tryz.f176, Tryz.func176, irOk176, by kernel_rfl⟩
  · cases h; exact ⟨Tryz.f177, Tryz.func177, irOk177, by kernel_rfl⟩
  · cases h; exact ⟨Tryz.f178, Tryz.func178, irOk178, by kernel_rfl⟩
  · cases h; exact ⟨Tryz.f179, Tryz.func179, irOk179, by kernel_rfl⟩
  · cases h; exact ⟨Tryz.f180, Tryz.func180, irOk180, by kernel_rfl⟩
  · cases h; exact ⟨Tryz.f181, Tryz.func181, irOk181, by kernel_rfl⟩
  · cases h; exact ⟨Tryz.f194, Tryz.func194, irOk194, by kernel_rfl⟩
  · cases h; exact ⟨Tryz.f195, Tryz.func195, irOk195, by kernel_rfl⟩
  · cases h; exact ⟨Tryz.f196, Tryz.func196, irOk196, by kernel_rfl⟩
  · cases h; exact ⟨Tryz.f197, Tryz.func197, irOk197, by kernel_rfl⟩
  · cases h; exact ⟨Tryz.f199, Tryz.func199, irOk199, by kernel_rfl⟩
  · cases h; exact ⟨Tryz.f200, Tryz.func200, irOk200, by kernel_rfl⟩
  · cases h
theorem linkedD : Linked Tryz.prog sq ⟨0, fnD, fun _ _ _ _ _ => False⟩ := by
  intro f bfn h
  simp only [fnD] at h
  split at h
  · cases h; exact ⟨Tryz.f202, Tryz.func202, irOk202, by kernel_rfl⟩
  · cases h; exact ⟨Tryz.f203, Tryz.func203, irOk203, by kernel_rfl⟩
  · cases h; exact ⟨Tryz.f204, Tryz.func204, irOk204, by kernel_rfl⟩
  · cases h; exact ⟨Tryz.f205, Tryz.func205, irOk205, by kernel_rfl⟩
  · cases h; exact ⟨Tryz.f207, Tryz.func207, irOk207, by kernel_rfl⟩
  · cases h; exact ⟨Tryz.f208, Tryz.func208, irOk208, by kernel_rfl⟩
  · cases h
theorem linked (base : Nat) : Linked Tryz.prog sq (gam base) := by
  intro f bfn h
  have h : fnOf f = some bfn := h
  unfold fnOf at h
  split at h
  · next x hx => exact linkedA f bfn (by cases h; exact hx)
  split at h
  · next x hx => exact linkedB f bfn (by cases h; exact hx)
  split at h
  · next x hx => exact linkedC f bfn (by cases h; exact hx)
  exact linkedD f bfn h
end Go.Proofs.YtcnkhkmapgbodaaGreatDoor.W
end
