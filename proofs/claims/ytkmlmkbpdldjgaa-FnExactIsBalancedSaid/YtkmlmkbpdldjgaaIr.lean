/-
The functions, as the machine B has them.
-/
import Derived.Test.YtkmlmkbpdldjgaaB19
import Derived.Test.YtkmlmkbpdldjgaaProg
import Derived.KernelRfl
namespace Go.Proofs.Ytkmlmkbpdldjgaa.W
set_option linter.unusedVariables false
open Go.B
noncomputable def sq (t : Nat) : Bool := !Try.prog.stoodInHeld t && !Try.prog.eqGuardType Try.prog.depth t
theorem sqOk (t : Nat) (h : sq t = true) : Try.prog.stoodInHeld t = false ∧ Try.prog.eqGuardType Try.prog.depth t = false := by
  simpa [sq] using h
def ir5 : BFun := ⟨[(.tmp 2)], (.seq (.region [⟨(some 1), (.box 29 (.t 0)), none, []⟩, ⟨(some 2), (.mov (.c (.bool false))), none, []⟩]) (.seq (.region [⟨(some 3), (.mov (.c (.int .i64 1048576))), none, []⟩]) (.seq (.region [⟨(some 7),
  (.load none (some 3) (.t 1)), none, []⟩, ⟨(some 8), (.mov (.t 3)), none, []⟩, ⟨(some 9), (.call (.c (.fn 18 [])) [(.t 7), (.t 8)]), none, []⟩, ⟨(some 3), (.mov (.t 9)), none, []⟩]) (.seq (.seq (.region [⟨(some 10), (.mov (.t 3)), none,
  []⟩, ⟨(some 11), (.bin .lss (.t 10) (.c (.int .i64 0))), none, []⟩]) (.cond (.t 11) (.seq (.region [⟨(some 2), (.mov (.c (.bool true))), none, []⟩]) .ret) .skip)) (.seq (.region [⟨(some 12), (.load none (some 3) (.t 1)), none, []⟩, ⟨(some
  13), (.call (.c (.fn 20 [])) [(.t 12)]), none, []⟩, ⟨(some 14), (.call (.c (.fn 19 [])) [(.t 13)]), none, []⟩, ⟨(some 4), (.mov (.t 14)), none, []⟩]) (.seq (.region [⟨(some 15), (.load none (some 3) (.t 1)), none, []⟩, ⟨(some 16), (.call
  (.c (.fn 20 [])) [(.t 15)]), none, []⟩, ⟨(some 5), (.new 34 [(.int .i64 0), .nils, .nils]), none, []⟩, ⟨none, (.store none 3 (.t 5) (.t 16)), none, []⟩]) (.seq (.region [⟨(some 17), (.load none (some 3) (.t 5)), none, []⟩, ⟨(some 18),
  (.call (.c (.fn 21 [])) [(.t 17)]), none, []⟩, ⟨(some 6), (.mov (.t 18)), none, []⟩]) (.seq (.seq (.region [⟨(some 19), (.mov (.t 6)), none, []⟩, ⟨(some 20), (.mov (.t 4)), none, []⟩, ⟨(some 21), (.beq true (.t 19) (.t 20)), none, []⟩])
  (.cond (.t 21) (.seq (.region [⟨(some 2), (.mov (.c (.bool false))), none, []⟩]) .ret) .skip)) (.seq (.seq (.region [⟨(some 22), (.load (some 34) (some 3) (.t 5)), none, []⟩, ⟨(some 23), (.load none (some 3) (.t 1)), none, []⟩, ⟨(some 24),
  (.call (.c (.fn 20 [])) [(.t 23)]), none, [34]⟩, ⟨(some 25), (.call (.c (.fn 22 [])) [(.t 22), (.t 24)]), none, []⟩, ⟨(some 26), (.not (.t 25)), none, []⟩]) (.cond (.t 26) (.seq (.region [⟨(some 2), (.mov (.c (.bool false))), none, []⟩])
  .ret) .skip)) (.seq (.region [⟨(some 2), (.mov (.c (.bool true))), none, []⟩]) .ret))))))))))⟩
theorem irOk5 : compFun Try.prog.underlying Try.prog.info? sq Try.f5 = some ir5 := by kernel_rfl
def ir6 : BFun := ⟨[(.tmp 4)], (.seq (.region [⟨(some 2), (.box 29 (.t 0)), none, []⟩, ⟨(some 3), (.box 29 (.t 1)), none, []⟩, ⟨(some 4), (.mov (.c (.bool false))), none, []⟩]) (.seq (.region [⟨(some 5), (.mov (.c (.int .i64 1048576))),
  none, []⟩]) (.seq (.region [⟨(some 10), (.load none (some 3) (.t 2)), none, []⟩, ⟨(some 11), (.mov (.t 5)), none, []⟩, ⟨(some 12), (.call (.c (.fn 18 [])) [(.t 10), (.t 11)]), none, []⟩, ⟨(some 5), (.mov (.t 12)), none, []⟩]) (.seq (.seq
  (.region [⟨(some 13), (.mov (.t 5)), none, []⟩, ⟨(some 14), (.bin .lss (.t 13) (.c (.int .i64 0))), none, []⟩]) (.cond (.t 14) (.seq (.region [⟨(some 4), (.mov (.c (.bool true))), none, []⟩]) .ret) .skip)) (.seq (.region [⟨(some 15),
  (.load none (some 3) (.t 3)), none, []⟩, ⟨(some 16), (.mov (.t 5)), none, []⟩, ⟨(some 17), (.call (.c (.fn 18 [])) [(.t 15), (.t 16)]), none, []⟩, ⟨(some 5), (.mov (.t 17)), none, []⟩]) (.seq (.seq (.region [⟨(some 18), (.mov (.t 5)),
  none, []⟩, ⟨(some 19), (.bin .lss (.t 18) (.c (.int .i64 0))), none, []⟩]) (.cond (.t 19) (.seq (.region [⟨(some 4), (.mov (.c (.bool true))), none, []⟩]) .ret) .skip)) (.seq (.region [⟨(some 20), (.load none (some 3) (.t 2)), none, []⟩,
  ⟨(some 22), (.load (some 29) (some 3) (.t 3)), none, []⟩, ⟨(some 21), (.call (.c (.fn 20 [])) [(.t 20)]), none, [29]⟩, ⟨(some 23), (.call (.c (.fn 20 [])) [(.t 22)]), none, []⟩, ⟨(some 24), (.call (.c (.fn 23 [])) [(.t 21), (.t 23)]),
  none, []⟩, ⟨(some 6), (.mov (.t 24)), none, []⟩]) (.seq (.region [⟨(some 25), (.load none (some 3) (.t 2)), none, []⟩, ⟨(some 26), (.call (.c (.fn 20 [])) [(.t 25)]), none, []⟩, ⟨(some 7), (.new 34 [(.int .i64 0), .nils, .nils]), none,
  []⟩, ⟨none, (.store none 3 (.t 7) (.t 26)), none, []⟩]) (.seq (.region [⟨(some 27), (.load none (some 3) (.t 3)), none, []⟩, ⟨(some 28), (.call (.c (.fn 20 [])) [(.t 27)]), none, []⟩, ⟨(some 8), (.new 34 [(.int .i64 0), .nils, .nils]),
  none, []⟩, ⟨none, (.store none 3 (.t 8) (.t 28)), none, []⟩]) (.seq (.region [⟨(some 29), (.load none (some 3) (.t 7)), none, []⟩, ⟨(some 30), (.load none (some 3) (.t 8)), none, []⟩, ⟨(some 31), (.call (.c (.fn 24 [])) [(.t 29), (.t
  30)]), none, []⟩, ⟨(some 9), (.mov (.t 31)), none, []⟩]) (.seq (.seq (.region [⟨(some 32), (.mov (.t 9)), none, []⟩, ⟨(some 33), (.mov (.t 6)), none, []⟩, ⟨(some 34), (.beq true (.t 32) (.t 33)), none, []⟩]) (.cond (.t 34) (.seq (.region
  [⟨(some 4), (.mov (.c (.bool false))), none, []⟩]) .ret) .skip)) (.seq (.seq (.region [⟨(some 35), (.load (some 34) (some 3) (.t 7)), none, []⟩, ⟨(some 36), (.load none (some 3) (.t 2)), none, []⟩, ⟨(some 37), (.call (.c (.fn 20 [])) [(.t
  36)]), none, [34]⟩, ⟨(some 38), (.call (.c (.fn 22 [])) [(.t 35), (.t 37)]), none, []⟩, ⟨(some 39), (.not (.t 38)), none, []⟩]) (.cond (.t 39) (.seq (.region [⟨(some 4), (.mov (.c (.bool false))), none, []⟩]) .ret) .skip)) (.seq (.seq
  (.region [⟨(some 40), (.load (some 34) (some 3) (.t 8)), none, []⟩, ⟨(some 41), (.load none (some 3) (.t 3)), none, []⟩, ⟨(some 42), (.call (.c (.fn 20 [])) [(.t 41)]), none, [34]⟩, ⟨(some 43), (.call (.c (.fn 22 [])) [(.t 40), (.t 42)]),
  none, []⟩, ⟨(some 44), (.not (.t 43)), none, []⟩]) (.cond (.t 44) (.seq (.region [⟨(some 4), (.mov (.c (.bool false))), none, []⟩]) .ret) .skip)) (.seq (.region [⟨(some 4), (.mov (.c (.bool true))), none, []⟩]) .ret))))))))))))))⟩
theorem irOk6 : compFun Try.prog.underlying Try.prog.info? sq Try.f6 = some ir6 := by kernel_rfl
def ir7 : BFun := ⟨[(.tmp 2)], (.seq (.region [⟨(some 1), (.box 29 (.t 0)), none, []⟩, ⟨(some 2), (.mov (.c (.bool false))), none, []⟩]) (.seq (.region [⟨(some 3), (.mov (.c (.int .i64 1048576))), none, []⟩]) (.seq (.region [⟨(some 14),
  (.load none (some 3) (.t 1)), none, []⟩, ⟨(some 15), (.mov (.t 3)), none, []⟩, ⟨(some 16), (.call (.c (.fn 18 [])) [(.t 14), (.t 15)]), none, []⟩, ⟨(some 3), (.mov (.t 16)), none, []⟩]) (.seq (.seq (.region [⟨(some 17), (.mov (.t 3)),
  none, []⟩, ⟨(some 18), (.bin .lss (.t 17) (.c (.int .i64 0))), none, []⟩]) (.cond (.t 18) (.seq (.region [⟨(some 2), (.mov (.c (.bool true))), none, []⟩]) .ret) .skip)) (.seq (.region [⟨(some 20), (.load none (some 3) (.t 1)), none, []⟩,
  ⟨(some 21), (.call (.c (.fn 20 [])) [(.t 20)]), none, []⟩, ⟨(some 22), (.call (.c (.fn 25 [])) [(.t 21)]), none, []⟩, ⟨(some 19), (.mov (.t 22)), none, []⟩, ⟨(some 23), (.ext 0 (.t 19)), none, []⟩, ⟨(some 24), (.ext 1 (.t 19)), none, []⟩,
  ⟨(some 4), (.new 34 [(.int .i64 0), .nils, .nils]), none, []⟩, ⟨none, (.store none 3 (.t 4) (.t 23)), none, []⟩, ⟨(some 5), (.mov (.t 24)), none, []⟩]) (.seq (.region [⟨(some 25), (.load none (some 3) (.t 1)), none, []⟩, ⟨(some 26), (.call
  (.c (.fn 20 [])) [(.t 25)]), none, []⟩, ⟨(some 6), (.new 34 [(.int .i64 0), .nils, .nils]), none, []⟩, ⟨none, (.store none 3 (.t 6) (.t 26)), none, []⟩]) (.seq (.region [⟨(some 28), (.load none (some 3) (.t 6)), none, []⟩, ⟨(some 29),
  (.call (.c (.fn 26 [])) [(.t 28)]), none, []⟩, ⟨(some 27), (.mov (.t 29)), none, []⟩, ⟨(some 30), (.ext 0 (.t 27)), none, []⟩, ⟨(some 31), (.ext 1 (.t 27)), none, []⟩, ⟨(some 7), (.new 34 [(.int .i64 0), .nils, .nils]), none, []⟩, ⟨none,
  (.store none 3 (.t 7) (.t 30)), none, []⟩, ⟨(some 8), (.mov (.t 31)), none, []⟩]) (.seq (.seq (.region [⟨(some 32), (.load none (some 3) (.t 7)), none, []⟩, ⟨(some 33), (.load none (some 3) (.t 4)), none, []⟩, ⟨(some 34), (.call (.c (.fn
  22 [])) [(.t 32), (.t 33)]), none, []⟩, ⟨(some 35), (.not (.t 34)), none, []⟩, ⟨(some 36), (.mov (.t 35)), none, []⟩, ⟨(some 37), (.mov (.t 8)), (some (36, false)), []⟩, ⟨(some 38), (.mov (.t 5)), (some (36, false)), []⟩, ⟨(some 39), (.bin
  .neq (.t 37) (.t 38)), (some (36, false)), []⟩, ⟨(some 40), (.pick (.t 36) (.c (.bool true)) (.t 39)), none, []⟩]) (.cond (.t 40) (.seq (.region [⟨(some 2), (.mov (.c (.bool false))), none, []⟩]) .ret) .skip)) (.seq (.seq (.region [⟨(some
  41), (.load (some 34) (some 3) (.t 6)), none, []⟩, ⟨(some 42), (.load none (some 3) (.t 1)), none, []⟩, ⟨(some 43), (.call (.c (.fn 20 [])) [(.t 42)]), none, [34]⟩, ⟨(some 44), (.call (.c (.fn 22 [])) [(.t 41), (.t 43)]), none, []⟩, ⟨(some
  45), (.not (.t 44)), none, []⟩]) (.cond (.t 45) (.seq (.region [⟨(some 2), (.mov (.c (.bool false))), none, []⟩]) .ret) .skip)) (.seq (.region [⟨(some 9), (.mov (.c (.int .i64 1))), none, []⟩]) (.seq (.region [⟨(some 46), (.load none (some
  3) (.t 6)), none, []⟩, ⟨(some 47), (.mov (.t 9)), none, []⟩, ⟨(some 48), (.call (.c (.fn 27 [])) [(.t 46), (.t 47)]), none, []⟩, ⟨(some 9), (.mov (.t 48)), none, []⟩]) (.seq (.seq (.region [⟨(some 49), (.mov (.t 9)), none, []⟩, ⟨(some 50),
  (.bin .lss (.t 49) (.c (.int .i64 0))), none, []⟩, ⟨(some 51), (.mov (.t 50)), none, []⟩, ⟨(some 52), (.load none (some 3) (.t 7)), (some (51, false)), []⟩, ⟨(some 53), (.load none (some 3) (.t 4)), (some (51, false)), []⟩, ⟨(some 54),
  (.call (.c (.fn 22 [])) [(.t 52), (.t 53)]), (some (51, false)), []⟩, ⟨(some 55), (.not (.t 54)), (some (51, false)), []⟩, ⟨(some 56), (.pick (.t 51) (.c (.bool true)) (.t 55)), none, []⟩, ⟨(some 57), (.mov (.t 56)), none, []⟩, ⟨(some 58),
  (.mov (.t 8)), (some (57, false)), []⟩, ⟨(some 59), (.mov (.t 5)), (some (57, false)), []⟩, ⟨(some 60), (.bin .neq (.t 58) (.t 59)), (some (57, false)), []⟩, ⟨(some 61), (.pick (.t 57) (.c (.bool true)) (.t 60)), none, []⟩]) (.cond (.t 61)
  (.seq (.region [⟨(some 2), (.mov (.c (.bool false))), none, []⟩]) .ret) .skip)) (.seq (.region [⟨(some 10), (.mov (.c (.int .i64 1))), none, []⟩]) (.seq (.region [⟨(some 62), (.load none (some 3) (.t 7)), none, []⟩, ⟨(some 63), (.mov (.t
  10)), none, []⟩, ⟨(some 64), (.call (.c (.fn 27 [])) [(.t 62), (.t 63)]), none, []⟩, ⟨(some 10), (.mov (.t 64)), none, []⟩]) (.seq (.region [⟨(some 11), (.mov (.c (.int .i64 1))), none, []⟩]) (.seq (.region [⟨(some 65), (.load none (some
  3) (.t 7)), none, []⟩, ⟨(some 66), (.mov (.t 11)), none, []⟩, ⟨(some 67), (.call (.c (.fn 28 [])) [(.t 65), (.t 66)]), none, []⟩, ⟨(some 11), (.mov (.t 67)), none, []⟩]) (.seq (.seq (.region [⟨(some 68), (.mov (.t 11)), none, []⟩, ⟨(some
  69), (.bin .lss (.t 68) (.c (.int .i64 0))), none, []⟩]) (.cond (.t 69) (.seq (.region [⟨(some 2), (.mov (.c (.bool false))), none, []⟩]) .ret) .skip)) (.seq (.seq (.region [⟨(some 70), (.mov (.t 11)), none, []⟩, ⟨(some 71), (.mov (.t
  10)), none, []⟩, ⟨(some 72), (.bin .neq (.t 70) (.t 71)), none, []⟩]) (.cond (.t 72) (.seq (.region [⟨(some 2), (.mov (.c (.bool false))), none, []⟩]) .ret) .skip)) (.seq (.region [⟨(some 74), (.load none (some 3) (.t 1)), none, []⟩,
  ⟨(some 75), (.call (.c (.fn 20 [])) [(.t 74)]), none, []⟩, ⟨(some 76), (.call (.c (.fn 26 [])) [(.t 75)]), none, []⟩, ⟨(some 73), (.mov (.t 76)), none, []⟩, ⟨(some 77), (.ext 0 (.t 73)), none, []⟩, ⟨(some 78), (.ext 1 (.t 73)), none, []⟩,
  ⟨(some 12), (.new 34 [(.int .i64 0), .nils, .nils]), none, []⟩, ⟨none, (.store none 3 (.t 12) (.t 77)), none, []⟩, ⟨(some 13), (.mov (.t 78)), none, []⟩]) (.seq (.seq (.region [⟨(some 79), (.load none (some 3) (.t 12)), none, []⟩, ⟨(some
  80), (.load none (some 3) (.t 4)), none, []⟩, ⟨(some 81), (.call (.c (.fn 22 [])) [(.t 79), (.t 80)]), none, []⟩, ⟨(some 82), (.not (.t 81)), none, []⟩, ⟨(some 83), (.mov (.t 82)), none, []⟩, ⟨(some 84), (.mov (.t 13)), (some (83, false)),
  []⟩, ⟨(some 85), (.mov (.t 5)), (some (83, false)), []⟩, ⟨(some 86), (.bin .neq (.t 84) (.t 85)), (some (83, false)), []⟩, ⟨(some 87), (.pick (.t 83) (.c (.bool true)) (.t 86)), none, []⟩]) (.cond (.t 87) (.seq (.region [⟨(some 2), (.mov
  (.c (.bool false))), none, []⟩]) .ret) .skip)) (.seq (.region [⟨(some 11), (.mov (.c (.int .i64 1))), none, []⟩]) (.seq (.region [⟨(some 88), (.load none (some 3) (.t 7)), none, []⟩, ⟨(some 89), (.mov (.t 11)), none, []⟩, ⟨(some 90),
  (.call (.c (.fn 28 [])) [(.t 88), (.t 89)]), none, []⟩, ⟨(some 11), (.mov (.t 90)), none, []⟩]) (.seq (.seq (.region [⟨(some 91), (.mov (.t 11)), none, []⟩, ⟨(some 92), (.bin .lss (.t 91) (.c (.int .i64 0))), none, []⟩]) (.cond (.t 92)
  (.seq (.region [⟨(some 2), (.mov (.c (.bool false))), none, []⟩]) .ret) .skip)) (.seq (.seq (.region [⟨(some 93), (.mov (.t 11)), none, []⟩, ⟨(some 94), (.mov (.t 10)), none, []⟩, ⟨(some 95), (.bin .neq (.t 93) (.t 94)), none, []⟩]) (.cond
  (.t 95) (.seq (.region [⟨(some 2), (.mov (.c (.bool false))), none, []⟩]) .ret) .skip)) (.seq (.region [⟨(some 2), (.mov (.c (.bool true))), none, []⟩]) .ret)))))))))))))))))))))))))⟩
theorem irOk7 : compFun Try.prog.underlying Try.prog.info? sq Try.f7 = some ir7 := by kernel_rfl
def ir8 : BFun := ⟨[(.tmp 4)], (.seq (.region [⟨(some 2), (.box 29 (.t 0)), none, []⟩, ⟨(some 3), (.box 29 (.t 1)), none, []⟩, ⟨(some 4), (.mov (.c (.bool false))), none, []⟩]) (.seq (.region [⟨(some 5), (.mov (.c (.int .i64 1048576))),
  none, []⟩]) (.seq (.region [⟨(some 17), (.load none (some 3) (.t 2)), none, []⟩, ⟨(some 18), (.mov (.t 5)), none, []⟩, ⟨(some 19), (.call (.c (.fn 18 [])) [(.t 17), (.t 18)]), none, []⟩, ⟨(some 5), (.mov (.t 19)), none, []⟩]) (.seq (.seq
  (.region [⟨(some 20), (.mov (.t 5)), none, []⟩, ⟨(some 21), (.bin .lss (.t 20) (.c (.int .i64 0))), none, []⟩]) (.cond (.t 21) (.seq (.region [⟨(some 4), (.mov (.c (.bool true))), none, []⟩]) .ret) .skip)) (.seq (.region [⟨(some 22),
  (.load none (some 3) (.t 3)), none, []⟩, ⟨(some 23), (.mov (.t 5)), none, []⟩, ⟨(some 24), (.call (.c (.fn 18 [])) [(.t 22), (.t 23)]), none, []⟩, ⟨(some 5), (.mov (.t 24)), none, []⟩]) (.seq (.seq (.region [⟨(some 25), (.mov (.t 5)),
  none, []⟩, ⟨(some 26), (.bin .lss (.t 25) (.c (.int .i64 0))), none, []⟩]) (.cond (.t 26) (.seq (.region [⟨(some 4), (.mov (.c (.bool true))), none, []⟩]) .ret) .skip)) (.seq (.region [⟨(some 28), (.load none (some 3) (.t 2)), none, []⟩,
  ⟨(some 30), (.load (some 29) (some 3) (.t 3)), none, []⟩, ⟨(some 29), (.call (.c (.fn 20 [])) [(.t 28)]), none, [29]⟩, ⟨(some 31), (.call (.c (.fn 20 [])) [(.t 30)]), none, []⟩, ⟨(some 32), (.call (.c (.fn 29 [])) [(.t 29), (.t 31)]),
  none, []⟩, ⟨(some 27), (.mov (.t 32)), none, []⟩, ⟨(some 33), (.ext 0 (.t 27)), none, []⟩, ⟨(some 34), (.ext 1 (.t 27)), none, []⟩, ⟨(some 6), (.new 34 [(.int .i64 0), .nils, .nils]), none, []⟩, ⟨none, (.store none 3 (.t 6) (.t 33)), none,
  []⟩, ⟨(some 7), (.mov (.t 34)), none, []⟩]) (.seq (.region [⟨(some 35), (.load none (some 3) (.t 2)), none, []⟩, ⟨(some 36), (.call (.c (.fn 20 [])) [(.t 35)]), none, []⟩, ⟨(some 8), (.new 34 [(.int .i64 0), .nils, .nils]), none, []⟩,
  ⟨none, (.store none 3 (.t 8) (.t 36)), none, []⟩]) (.seq (.region [⟨(some 37), (.load none (some 3) (.t 3)), none, []⟩, ⟨(some 38), (.call (.c (.fn 20 [])) [(.t 37)]), none, []⟩, ⟨(some 9), (.new 34 [(.int .i64 0), .nils, .nils]), none,
  []⟩, ⟨none, (.store none 3 (.t 9) (.t 38)), none, []⟩]) (.seq (.region [⟨(some 40), (.load none (some 3) (.t 8)), none, []⟩, ⟨(some 41), (.load none (some 3) (.t 9)), none, []⟩, ⟨(some 42), (.call (.c (.fn 30 [])) [(.t 40), (.t 41)]),
  none, []⟩, ⟨(some 39), (.mov (.t 42)), none, []⟩, ⟨(some 43), (.ext 0 (.t 39)), none, []⟩, ⟨(some 44), (.ext 1 (.t 39)), none, []⟩, ⟨(some 10), (.new 34 [(.int .i64 0), .nils, .nils]), none, []⟩, ⟨none, (.store none 3 (.t 10) (.t 43)),
  none, []⟩, ⟨(some 11), (.mov (.t 44)), none, []⟩]) (.seq (.seq (.region [⟨(some 45), (.load none (some 3) (.t 10)), none, []⟩, ⟨(some 46), (.load none (some 3) (.t 6)), none, []⟩, ⟨(some 47), (.call (.c (.fn 22 [])) [(.t 45), (.t 46)]),
  none, []⟩, ⟨(some 48), (.not (.t 47)), none, []⟩, ⟨(some 49), (.mov (.t 48)), none, []⟩, ⟨(some 50), (.mov (.t 11)), (some (49, false)), []⟩, ⟨(some 51), (.mov (.t 7)), (some (49, false)), []⟩, ⟨(some 52), (.bin .neq (.t 50) (.t 51)),
  (some (49, false)), []⟩, ⟨(some 53), (.pick (.t 49) (.c (.bool true)) (.t 52)), none, []⟩]) (.cond (.t 53) (.seq (.region [⟨(some 4), (.mov (.c (.bool false))), none, []⟩]) .ret) .skip)) (.seq (.seq (.region [⟨(some 54), (.load (some 34)
  (some 3) (.t 8)), none, []⟩, ⟨(some 55), (.load none (some 3) (.t 2)), none, []⟩, ⟨(some 56), (.call (.c (.fn 20 [])) [(.t 55)]), none, [34]⟩, ⟨(some 57), (.call (.c (.fn 22 [])) [(.t 54), (.t 56)]), none, []⟩, ⟨(some 58), (.not (.t 57)),
  none, []⟩]) (.cond (.t 58) (.seq (.region [⟨(some 4), (.mov (.c (.bool false))), none, []⟩]) .ret) .skip)) (.seq (.seq (.region [⟨(some 59), (.load (some 34) (some 3) (.t 9)), none, []⟩, ⟨(some 60), (.load none (some 3) (.t 3)), none, []⟩,
  ⟨(some 61), (.call (.c (.fn 20 [])) [(.t 60)]), none, [34]⟩, ⟨(some 62), (.call (.c (.fn 22 [])) [(.t 59), (.t 61)]), none, []⟩, ⟨(some 63), (.not (.t 62)), none, []⟩]) (.cond (.t 63) (.seq (.region [⟨(some 4), (.mov (.c (.bool false))),
  none, []⟩]) .ret) .skip)) (.seq (.region [⟨(some 12), (.mov (.c (.int .i64 1))), none, []⟩]) (.seq (.region [⟨(some 64), (.load none (some 3) (.t 8)), none, []⟩, ⟨(some 65), (.mov (.t 12)), none, []⟩, ⟨(some 66), (.call (.c (.fn 27 []))
  [(.t 64), (.t 65)]), none, []⟩, ⟨(some 12), (.mov (.t 66)), none, []⟩]) (.seq (.region [⟨(some 67), (.load none (some 3) (.t 9)), none, []⟩, ⟨(some 68), (.mov (.t 12)), none, []⟩, ⟨(some 69), (.call (.c (.fn 27 [])) [(.t 67), (.t 68)]),
  none, []⟩, ⟨(some 12), (.mov (.t 69)), none, []⟩]) (.seq (.seq (.region [⟨(some 70), (.mov (.t 12)), none, []⟩, ⟨(some 71), (.bin .lss (.t 70) (.c (.int .i64 0))), none, []⟩, ⟨(some 72), (.mov (.t 71)), none, []⟩, ⟨(some 73), (.load none
  (some 3) (.t 10)), (some (72, false)), []⟩, ⟨(some 74), (.load none (some 3) (.t 6)), (some (72, false)), []⟩, ⟨(some 75), (.call (.c (.fn 22 [])) [(.t 73), (.t 74)]), (some (72, false)), []⟩, ⟨(some 76), (.not (.t 75)), (some (72,
  false)), []⟩, ⟨(some 77), (.pick (.t 72) (.c (.bool true)) (.t 76)), none, []⟩, ⟨(some 78), (.mov (.t 77)), none, []⟩, ⟨(some 79), (.mov (.t 11)), (some (78, false)), []⟩, ⟨(some 80), (.mov (.t 7)), (some (78, false)), []⟩, ⟨(some 81),
  (.bin .neq (.t 79) (.t 80)), (some (78, false)), []⟩, ⟨(some 82), (.pick (.t 78) (.c (.bool true)) (.t 81)), none, []⟩]) (.cond (.t 82) (.seq (.region [⟨(some 4), (.mov (.c (.bool false))), none, []⟩]) .ret) .skip)) (.seq (.region [⟨(some
  13), (.mov (.c (.int .i64 1))), none, []⟩]) (.seq (.region [⟨(some 83), (.load none (some 3) (.t 10)), none, []⟩, ⟨(some 84), (.mov (.t 13)), none, []⟩, ⟨(some 85), (.call (.c (.fn 27 [])) [(.t 83), (.t 84)]), none, []⟩, ⟨(some 13), (.mov
  (.t 85)), none, []⟩]) (.seq (.region [⟨(some 14), (.mov (.c (.int .i64 1))), none, []⟩]) (.seq (.region [⟨(some 86), (.load none (some 3) (.t 10)), none, []⟩, ⟨(some 87), (.mov (.t 14)), none, []⟩, ⟨(some 88), (.call (.c (.fn 28 [])) [(.t
  86), (.t 87)]), none, []⟩, ⟨(some 14), (.mov (.t 88)), none, []⟩]) (.seq (.seq (.region [⟨(some 89), (.mov (.t 14)), none, []⟩, ⟨(some 90), (.bin .lss (.t 89) (.c (.int .i64 0))), none, []⟩]) (.cond (.t 90) (.seq (.region [⟨(some 4), (.mov
  (.c (.bool false))), none, []⟩]) .ret) .skip)) (.seq (.seq (.region [⟨(some 91), (.mov (.t 14)), none, []⟩, ⟨(some 92), (.mov (.t 13)), none, []⟩, ⟨(some 93), (.bin .neq (.t 91) (.t 92)), none, []⟩]) (.cond (.t 93) (.seq (.region [⟨(some
  4), (.mov (.c (.bool false))), none, []⟩]) .ret) .skip)) (.seq (.region [⟨(some 95), (.load none (some 3) (.t 2)), none, []⟩, ⟨(some 97), (.load (some 29) (some 3) (.t 3)), none, []⟩, ⟨(some 96), (.call (.c (.fn 20 [])) [(.t 95)]), none,
  [29]⟩, ⟨(some 98), (.call (.c (.fn 20 [])) [(.t 97)]), none, []⟩, ⟨(some 99), (.call (.c (.fn 30 [])) [(.t 96), (.t 98)]), none, []⟩, ⟨(some 94), (.mov (.t 99)), none, []⟩, ⟨(some 100), (.ext 0 (.t 94)), none, []⟩, ⟨(some 101), (.ext 1 (.t
  94)), none, []⟩, ⟨(some 15), (.new 34 [(.int .i64 0), .nils, .nils]), none, []⟩, ⟨none, (.store none 3 (.t 15) (.t 100)), none, []⟩, ⟨(some 16), (.mov (.t 101)), none, []⟩]) (.seq (.seq (.region [⟨(some 102), (.load none (some 3) (.t 15)),
  none, []⟩, ⟨(some 103), (.load none (some 3) (.t 6)), none, []⟩, ⟨(some 104), (.call (.c (.fn 22 [])) [(.t 102), (.t 103)]), none, []⟩, ⟨(some 105), (.not (.t 104)), none, []⟩, ⟨(some 106), (.mov (.t 105)), none, []⟩, ⟨(some 107), (.mov
  (.t 16)), (some (106, false)), []⟩, ⟨(some 108), (.mov (.t 7)), (some (106, false)), []⟩, ⟨(some 109), (.bin .neq (.t 107) (.t 108)), (some (106, false)), []⟩, ⟨(some 110), (.pick (.t 106) (.c (.bool true)) (.t 109)), none, []⟩]) (.cond
  (.t 110) (.seq (.region [⟨(some 4), (.mov (.c (.bool false))), none, []⟩]) .ret) .skip)) (.seq (.region [⟨(some 14), (.mov (.c (.int .i64 1))), none, []⟩]) (.seq (.region [⟨(some 111), (.load none (some 3) (.t 10)), none, []⟩, ⟨(some 112),
  (.mov (.t 14)), none, []⟩, ⟨(some 113), (.call (.c (.fn 28 [])) [(.t 111), (.t 112)]), none, []⟩, ⟨(some 14), (.mov (.t 113)), none, []⟩]) (.seq (.seq (.region [⟨(some 114), (.mov (.t 14)), none, []⟩, ⟨(some 115), (.bin .lss (.t 114) (.c
  (.int .i64 0))), none, []⟩]) (.cond (.t 115) (.seq (.region [⟨(some 4), (.mov (.c (.bool false))), none, []⟩]) .ret) .skip)) (.seq (.seq (.region [⟨(some 116), (.mov (.t 14)), none, []⟩, ⟨(some 117), (.mov (.t 13)), none, []⟩, ⟨(some 118),
  (.bin .neq (.t 116) (.t 117)), none, []⟩]) (.cond (.t 118) (.seq (.region [⟨(some 4), (.mov (.c (.bool false))), none, []⟩]) .ret) .skip)) (.seq (.region [⟨(some 4), (.mov (.c (.bool true))), none, []⟩]) .ret))))))))))))))))))))))))))))))⟩
theorem irOk8 : compFun Try.prog.underlying Try.prog.info? sq Try.f8 = some ir8 := by kernel_rfl
def ir9 : BFun := ⟨[(.tmp 2)], (.seq (.region [⟨(some 1), (.box 29 (.t 0)), none, []⟩, ⟨(some 2), (.mov (.c (.bool false))), none, []⟩]) (.seq (.region [⟨(some 3), (.mov (.c (.int .i64 1048576))), none, []⟩]) (.seq (.region [⟨(some 14),
  (.load none (some 3) (.t 1)), none, []⟩, ⟨(some 15), (.mov (.t 3)), none, []⟩, ⟨(some 16), (.call (.c (.fn 18 [])) [(.t 14), (.t 15)]), none, []⟩, ⟨(some 3), (.mov (.t 16)), none, []⟩]) (.seq (.seq (.region [⟨(some 17), (.mov (.t 3)),
  none, []⟩, ⟨(some 18), (.bin .lss (.t 17) (.c (.int .i64 0))), none, []⟩]) (.cond (.t 18) (.seq (.region [⟨(some 2), (.mov (.c (.bool true))), none, []⟩]) .ret) .skip)) (.seq (.region [⟨(some 20), (.load none (some 3) (.t 1)), none, []⟩,
  ⟨(some 21), (.call (.c (.fn 20 [])) [(.t 20)]), none, []⟩, ⟨(some 22), (.call (.c (.fn 31 [])) [(.t 21)]), none, []⟩, ⟨(some 19), (.mov (.t 22)), none, []⟩, ⟨(some 23), (.ext 0 (.t 19)), none, []⟩, ⟨(some 24), (.ext 1 (.t 19)), none, []⟩,
  ⟨(some 4), (.new 34 [(.int .i64 0), .nils, .nils]), none, []⟩, ⟨none, (.store none 3 (.t 4) (.t 23)), none, []⟩, ⟨(some 5), (.mov (.t 24)), none, []⟩]) (.seq (.region [⟨(some 25), (.load none (some 3) (.t 1)), none, []⟩, ⟨(some 26), (.call
  (.c (.fn 20 [])) [(.t 25)]), none, []⟩, ⟨(some 6), (.new 34 [(.int .i64 0), .nils, .nils]), none, []⟩, ⟨none, (.store none 3 (.t 6) (.t 26)), none, []⟩]) (.seq (.region [⟨(some 28), (.load none (some 3) (.t 6)), none, []⟩, ⟨(some 29),
  (.call (.c (.fn 32 [])) [(.t 28)]), none, []⟩, ⟨(some 27), (.mov (.t 29)), none, []⟩, ⟨(some 30), (.ext 0 (.t 27)), none, []⟩, ⟨(some 31), (.ext 1 (.t 27)), none, []⟩, ⟨(some 7), (.new 34 [(.int .i64 0), .nils, .nils]), none, []⟩, ⟨none,
  (.store none 3 (.t 7) (.t 30)), none, []⟩, ⟨(some 8), (.mov (.t 31)), none, []⟩]) (.seq (.seq (.region [⟨(some 32), (.load none (some 3) (.t 7)), none, []⟩, ⟨(some 33), (.load none (some 3) (.t 4)), none, []⟩, ⟨(some 34), (.call (.c (.fn
  22 [])) [(.t 32), (.t 33)]), none, []⟩, ⟨(some 35), (.not (.t 34)), none, []⟩, ⟨(some 36), (.mov (.t 35)), none, []⟩, ⟨(some 37), (.mov (.t 8)), (some (36, false)), []⟩, ⟨(some 38), (.mov (.t 5)), (some (36, false)), []⟩, ⟨(some 39), (.bin
  .neq (.t 37) (.t 38)), (some (36, false)), []⟩, ⟨(some 40), (.pick (.t 36) (.c (.bool true)) (.t 39)), none, []⟩]) (.cond (.t 40) (.seq (.region [⟨(some 2), (.mov (.c (.bool false))), none, []⟩]) .ret) .skip)) (.seq (.seq (.region [⟨(some
  41), (.load (some 34) (some 3) (.t 6)), none, []⟩, ⟨(some 42), (.load none (some 3) (.t 1)), none, []⟩, ⟨(some 43), (.call (.c (.fn 20 [])) [(.t 42)]), none, [34]⟩, ⟨(some 44), (.call (.c (.fn 22 [])) [(.t 41), (.t 43)]), none, []⟩, ⟨(some
  45), (.not (.t 44)), none, []⟩]) (.cond (.t 45) (.seq (.region [⟨(some 2), (.mov (.c (.bool false))), none, []⟩]) .ret) .skip)) (.seq (.region [⟨(some 9), (.mov (.c (.int .i64 1))), none, []⟩]) (.seq (.region [⟨(some 46), (.load none (some
  3) (.t 6)), none, []⟩, ⟨(some 47), (.mov (.t 9)), none, []⟩, ⟨(some 48), (.call (.c (.fn 27 [])) [(.t 46), (.t 47)]), none, []⟩, ⟨(some 9), (.mov (.t 48)), none, []⟩]) (.seq (.seq (.region [⟨(some 49), (.mov (.t 9)), none, []⟩, ⟨(some 50),
  (.bin .lss (.t 49) (.c (.int .i64 0))), none, []⟩, ⟨(some 51), (.mov (.t 50)), none, []⟩, ⟨(some 52), (.load none (some 3) (.t 7)), (some (51, false)), []⟩, ⟨(some 53), (.load none (some 3) (.t 4)), (some (51, false)), []⟩, ⟨(some 54),
  (.call (.c (.fn 22 [])) [(.t 52), (.t 53)]), (some (51, false)), []⟩, ⟨(some 55), (.not (.t 54)), (some (51, false)), []⟩, ⟨(some 56), (.pick (.t 51) (.c (.bool true)) (.t 55)), none, []⟩, ⟨(some 57), (.mov (.t 56)), none, []⟩, ⟨(some 58),
  (.mov (.t 8)), (some (57, false)), []⟩, ⟨(some 59), (.mov (.t 5)), (some (57, false)), []⟩, ⟨(some 60), (.bin .neq (.t 58) (.t 59)), (some (57, false)), []⟩, ⟨(some 61), (.pick (.t 57) (.c (.bool true)) (.t 60)), none, []⟩]) (.cond (.t 61)
  (.seq (.region [⟨(some 2), (.mov (.c (.bool false))), none, []⟩]) .ret) .skip)) (.seq (.region [⟨(some 10), (.mov (.c (.int .i64 1))), none, []⟩]) (.seq (.region [⟨(some 62), (.load none (some 3) (.t 7)), none, []⟩, ⟨(some 63), (.mov (.t
  10)), none, []⟩, ⟨(some 64), (.call (.c (.fn 27 [])) [(.t 62), (.t 63)]), none, []⟩, ⟨(some 10), (.mov (.t 64)), none, []⟩]) (.seq (.region [⟨(some 11), (.mov (.c (.int .i64 1))), none, []⟩]) (.seq (.region [⟨(some 65), (.load none (some
  3) (.t 7)), none, []⟩, ⟨(some 66), (.mov (.t 11)), none, []⟩, ⟨(some 67), (.call (.c (.fn 28 [])) [(.t 65), (.t 66)]), none, []⟩, ⟨(some 11), (.mov (.t 67)), none, []⟩]) (.seq (.seq (.region [⟨(some 68), (.mov (.t 11)), none, []⟩, ⟨(some
  69), (.bin .lss (.t 68) (.c (.int .i64 0))), none, []⟩]) (.cond (.t 69) (.seq (.region [⟨(some 2), (.mov (.c (.bool false))), none, []⟩]) .ret) .skip)) (.seq (.seq (.region [⟨(some 70), (.mov (.t 11)), none, []⟩, ⟨(some 71), (.mov (.t
  10)), none, []⟩, ⟨(some 72), (.bin .neq (.t 70) (.t 71)), none, []⟩]) (.cond (.t 72) (.seq (.region [⟨(some 2), (.mov (.c (.bool false))), none, []⟩]) .ret) .skip)) (.seq (.region [⟨(some 74), (.load none (some 3) (.t 1)), none, []⟩,
  ⟨(some 75), (.call (.c (.fn 20 [])) [(.t 74)]), none, []⟩, ⟨(some 76), (.call (.c (.fn 32 [])) [(.t 75)]), none, []⟩, ⟨(some 73), (.mov (.t 76)), none, []⟩, ⟨(some 77), (.ext 0 (.t 73)), none, []⟩, ⟨(some 78), (.ext 1 (.t 73)), none, []⟩,
  ⟨(some 12), (.new 34 [(.int .i64 0), .nils, .nils]), none, []⟩, ⟨none, (.store none 3 (.t 12) (.t 77)), none, []⟩, ⟨(some 13), (.mov (.t 78)), none, []⟩]) (.seq (.seq (.region [⟨(some 79), (.load none (some 3) (.t 12)), none, []⟩, ⟨(some
  80), (.load none (some 3) (.t 4)), none, []⟩, ⟨(some 81), (.call (.c (.fn 22 [])) [(.t 79), (.t 80)]), none, []⟩, ⟨(some 82), (.not (.t 81)), none, []⟩, ⟨(some 83), (.mov (.t 82)), none, []⟩, ⟨(some 84), (.mov (.t 13)), (some (83, false)),
  []⟩, ⟨(some 85), (.mov (.t 5)), (some (83, false)), []⟩, ⟨(some 86), (.bin .neq (.t 84) (.t 85)), (some (83, false)), []⟩, ⟨(some 87), (.pick (.t 83) (.c (.bool true)) (.t 86)), none, []⟩]) (.cond (.t 87) (.seq (.region [⟨(some 2), (.mov
  (.c (.bool false))), none, []⟩]) .ret) .skip)) (.seq (.region [⟨(some 11), (.mov (.c (.int .i64 1))), none, []⟩]) (.seq (.region [⟨(some 88), (.load none (some 3) (.t 7)), none, []⟩, ⟨(some 89), (.mov (.t 11)), none, []⟩, ⟨(some 90),
  (.call (.c (.fn 28 [])) [(.t 88), (.t 89)]), none, []⟩, ⟨(some 11), (.mov (.t 90)), none, []⟩]) (.seq (.seq (.region [⟨(some 91), (.mov (.t 11)), none, []⟩, ⟨(some 92), (.bin .lss (.t 91) (.c (.int .i64 0))), none, []⟩]) (.cond (.t 92)
  (.seq (.region [⟨(some 2), (.mov (.c (.bool false))), none, []⟩]) .ret) .skip)) (.seq (.seq (.region [⟨(some 93), (.mov (.t 11)), none, []⟩, ⟨(some 94), (.mov (.t 10)), none, []⟩, ⟨(some 95), (.bin .neq (.t 93) (.t 94)), none, []⟩]) (.cond
  (.t 95) (.seq (.region [⟨(some 2), (.mov (.c (.bool false))), none, []⟩]) .ret) .skip)) (.seq (.region [⟨(some 2), (.mov (.c (.bool true))), none, []⟩]) .ret)))))))))))))))))))))))))⟩
theorem irOk9 : compFun Try.prog.underlying Try.prog.info? sq Try.f9 = some ir9 := by kernel_rfl
def ir10 : BFun := ⟨[(.tmp 4)], (.seq (.region [⟨(some 2), (.box 29 (.t 0)), none, []⟩, ⟨(some 3), (.box 29 (.t 1)), none, []⟩, ⟨(some 4), (.mov (.c (.bool false))), none, []⟩]) (.seq (.region [⟨(some 5), (.mov (.c (.int .i64 1048576))),
  none, []⟩]) (.seq (.region [⟨(some 17), (.load none (some 3) (.t 2)), none, []⟩, ⟨(some 18), (.mov (.t 5)), none, []⟩, ⟨(some 19), (.call (.c (.fn 18 [])) [(.t 17), (.t 18)]), none, []⟩, ⟨(some 5), (.mov (.t 19)), none, []⟩]) (.seq (.seq
  (.region [⟨(some 20), (.mov (.t 5)), none, []⟩, ⟨(some 21), (.bin .lss (.t 20) (.c (.int .i64 0))), none, []⟩]) (.cond (.t 21) (.seq (.region [⟨(some 4), (.mov (.c (.bool true))), none, []⟩]) .ret) .skip)) (.seq (.region [⟨(some 22),
  (.load none (some 3) (.t 3)), none, []⟩, ⟨(some 23), (.mov (.t 5)), none, []⟩, ⟨(some 24), (.call (.c (.fn 18 [])) [(.t 22), (.t 23)]), none, []⟩, ⟨(some 5), (.mov (.t 24)), none, []⟩]) (.seq (.seq (.region [⟨(some 25), (.mov (.t 5)),
  none, []⟩, ⟨(some 26), (.bin .lss (.t 25) (.c (.int .i64 0))), none, []⟩]) (.cond (.t 26) (.seq (.region [⟨(some 4), (.mov (.c (.bool true))), none, []⟩]) .ret) .skip)) (.seq (.region [⟨(some 28), (.load none (some 3) (.t 2)), none, []⟩,
  ⟨(some 30), (.load (some 29) (some 3) (.t 3)), none, []⟩, ⟨(some 29), (.call (.c (.fn 20 [])) [(.t 28)]), none, [29]⟩, ⟨(some 31), (.call (.c (.fn 20 [])) [(.t 30)]), none, []⟩, ⟨(some 32), (.call (.c (.fn 33 [])) [(.t 29), (.t 31)]),
  none, []⟩, ⟨(some 27), (.mov (.t 32)), none, []⟩, ⟨(some 33), (.ext 0 (.t 27)), none, []⟩, ⟨(some 34), (.ext 1 (.t 27)), none, []⟩, ⟨(some 6), (.new 34 [(.int .i64 0), .nils, .nils]), none, []⟩, ⟨none, (.store none 3 (.t 6) (.t 33)), none,
  []⟩, ⟨(some 7), (.mov (.t 34)), none, []⟩]) (.seq (.region [⟨(some 35), (.load none (some 3) (.t 2)), none, []⟩, ⟨(some 36), (.call (.c (.fn 20 [])) [(.t 35)]), none, []⟩, ⟨(some 8), (.new 34 [(.int .i64 0), .nils, .nils]), none, []⟩,
  ⟨none, (.store none 3 (.t 8) (.t 36)), none, []⟩]) (.seq (.region [⟨(some 37), (.load none (some 3) (.t 3)), none, []⟩, ⟨(some 38), (.call (.c (.fn 20 [])) [(.t 37)]), none, []⟩, ⟨(some 9), (.new 34 [(.int .i64 0), .nils, .nils]), none,
  []⟩, ⟨none, (.store none 3 (.t 9) (.t 38)), none, []⟩]) (.seq (.region [⟨(some 40), (.load none (some 3) (.t 8)), none, []⟩, ⟨(some 41), (.load none (some 3) (.t 9)), none, []⟩, ⟨(some 42), (.call (.c (.fn 34 [])) [(.t 40), (.t 41)]),
  none, []⟩, ⟨(some 39), (.mov (.t 42)), none, []⟩, ⟨(some 43), (.ext 0 (.t 39)), none, []⟩, ⟨(some 44), (.ext 1 (.t 39)), none, []⟩, ⟨(some 10), (.new 34 [(.int .i64 0), .nils, .nils]), none, []⟩, ⟨none, (.store none 3 (.t 10) (.t 43)),
  none, []⟩, ⟨(some 11), (.mov (.t 44)), none, []⟩]) (.seq (.seq (.region [⟨(some 45), (.load none (some 3) (.t 10)), none, []⟩, ⟨(some 46), (.load none (some 3) (.t 6)), none, []⟩, ⟨(some 47), (.call (.c (.fn 22 [])) [(.t 45), (.t 46)]),
  none, []⟩, ⟨(some 48), (.not (.t 47)), none, []⟩, ⟨(some 49), (.mov (.t 48)), none, []⟩, ⟨(some 50), (.mov (.t 11)), (some (49, false)), []⟩, ⟨(some 51), (.mov (.t 7)), (some (49, false)), []⟩, ⟨(some 52), (.bin .neq (.t 50) (.t 51)),
  (some (49, false)), []⟩, ⟨(some 53), (.pick (.t 49) (.c (.bool true)) (.t 52)), none, []⟩]) (.cond (.t 53) (.seq (.region [⟨(some 4), (.mov (.c (.bool false))), none, []⟩]) .ret) .skip)) (.seq (.seq (.region [⟨(some 54), (.load (some 34)
  (some 3) (.t 8)), none, []⟩, ⟨(some 55), (.load none (some 3) (.t 2)), none, []⟩, ⟨(some 56), (.call (.c (.fn 20 [])) [(.t 55)]), none, [34]⟩, ⟨(some 57), (.call (.c (.fn 22 [])) [(.t 54), (.t 56)]), none, []⟩, ⟨(some 58), (.not (.t 57)),
  none, []⟩]) (.cond (.t 58) (.seq (.region [⟨(some 4), (.mov (.c (.bool false))), none, []⟩]) .ret) .skip)) (.seq (.seq (.region [⟨(some 59), (.load (some 34) (some 3) (.t 9)), none, []⟩, ⟨(some 60), (.load none (some 3) (.t 3)), none, []⟩,
  ⟨(some 61), (.call (.c (.fn 20 [])) [(.t 60)]), none, [34]⟩, ⟨(some 62), (.call (.c (.fn 22 [])) [(.t 59), (.t 61)]), none, []⟩, ⟨(some 63), (.not (.t 62)), none, []⟩]) (.cond (.t 63) (.seq (.region [⟨(some 4), (.mov (.c (.bool false))),
  none, []⟩]) .ret) .skip)) (.seq (.region [⟨(some 12), (.mov (.c (.int .i64 1))), none, []⟩]) (.seq (.region [⟨(some 64), (.load none (some 3) (.t 8)), none, []⟩, ⟨(some 65), (.mov (.t 12)), none, []⟩, ⟨(some 66), (.call (.c (.fn 27 []))
  [(.t 64), (.t 65)]), none, []⟩, ⟨(some 12), (.mov (.t 66)), none, []⟩]) (.seq (.region [⟨(some 67), (.load none (some 3) (.t 9)), none, []⟩, ⟨(some 68), (.mov (.t 12)), none, []⟩, ⟨(some 69), (.call (.c (.fn 27 [])) [(.t 67), (.t 68)]),
  none, []⟩, ⟨(some 12), (.mov (.t 69)), none, []⟩]) (.seq (.seq (.region [⟨(some 70), (.mov (.t 12)), none, []⟩, ⟨(some 71), (.bin .lss (.t 70) (.c (.int .i64 0))), none, []⟩, ⟨(some 72), (.mov (.t 71)), none, []⟩, ⟨(some 73), (.load none
  (some 3) (.t 10)), (some (72, false)), []⟩, ⟨(some 74), (.load none (some 3) (.t 6)), (some (72, false)), []⟩, ⟨(some 75), (.call (.c (.fn 22 [])) [(.t 73), (.t 74)]), (some (72, false)), []⟩, ⟨(some 76), (.not (.t 75)), (some (72,
  false)), []⟩, ⟨(some 77), (.pick (.t 72) (.c (.bool true)) (.t 76)), none, []⟩, ⟨(some 78), (.mov (.t 77)), none, []⟩, ⟨(some 79), (.mov (.t 11)), (some (78, false)), []⟩, ⟨(some 80), (.mov (.t 7)), (some (78, false)), []⟩, ⟨(some 81),
  (.bin .neq (.t 79) (.t 80)), (some (78, false)), []⟩, ⟨(some 82), (.pick (.t 78) (.c (.bool true)) (.t 81)), none, []⟩]) (.cond (.t 82) (.seq (.region [⟨(some 4), (.mov (.c (.bool false))), none, []⟩]) .ret) .skip)) (.seq (.region [⟨(some
  13), (.mov (.c (.int .i64 1))), none, []⟩]) (.seq (.region [⟨(some 83), (.load none (some 3) (.t 10)), none, []⟩, ⟨(some 84), (.mov (.t 13)), none, []⟩, ⟨(some 85), (.call (.c (.fn 27 [])) [(.t 83), (.t 84)]), none, []⟩, ⟨(some 13), (.mov
  (.t 85)), none, []⟩]) (.seq (.region [⟨(some 14), (.mov (.c (.int .i64 1))), none, []⟩]) (.seq (.region [⟨(some 86), (.load none (some 3) (.t 10)), none, []⟩, ⟨(some 87), (.mov (.t 14)), none, []⟩, ⟨(some 88), (.call (.c (.fn 28 [])) [(.t
  86), (.t 87)]), none, []⟩, ⟨(some 14), (.mov (.t 88)), none, []⟩]) (.seq (.seq (.region [⟨(some 89), (.mov (.t 14)), none, []⟩, ⟨(some 90), (.bin .lss (.t 89) (.c (.int .i64 0))), none, []⟩]) (.cond (.t 90) (.seq (.region [⟨(some 4), (.mov
  (.c (.bool false))), none, []⟩]) .ret) .skip)) (.seq (.seq (.region [⟨(some 91), (.mov (.t 14)), none, []⟩, ⟨(some 92), (.mov (.t 13)), none, []⟩, ⟨(some 93), (.bin .neq (.t 91) (.t 92)), none, []⟩]) (.cond (.t 93) (.seq (.region [⟨(some
  4), (.mov (.c (.bool false))), none, []⟩]) .ret) .skip)) (.seq (.region [⟨(some 95), (.load none (some 3) (.t 2)), none, []⟩, ⟨(some 97), (.load (some 29) (some 3) (.t 3)), none, []⟩, ⟨(some 96), (.call (.c (.fn 20 [])) [(.t 95)]), none,
  [29]⟩, ⟨(some 98), (.call (.c (.fn 20 [])) [(.t 97)]), none, []⟩, ⟨(some 99), (.call (.c (.fn 34 [])) [(.t 96), (.t 98)]), none, []⟩, ⟨(some 94), (.mov (.t 99)), none, []⟩, ⟨(some 100), (.ext 0 (.t 94)), none, []⟩, ⟨(some 101), (.ext 1 (.t
  94)), none, []⟩, ⟨(some 15), (.new 34 [(.int .i64 0), .nils, .nils]), none, []⟩, ⟨none, (.store none 3 (.t 15) (.t 100)), none, []⟩, ⟨(some 16), (.mov (.t 101)), none, []⟩]) (.seq (.seq (.region [⟨(some 102), (.load none (some 3) (.t 15)),
  none, []⟩, ⟨(some 103), (.load none (some 3) (.t 6)), none, []⟩, ⟨(some 104), (.call (.c (.fn 22 [])) [(.t 102), (.t 103)]), none, []⟩, ⟨(some 105), (.not (.t 104)), none, []⟩, ⟨(some 106), (.mov (.t 105)), none, []⟩, ⟨(some 107), (.mov
  (.t 16)), (some (106, false)), []⟩, ⟨(some 108), (.mov (.t 7)), (some (106, false)), []⟩, ⟨(some 109), (.bin .neq (.t 107) (.t 108)), (some (106, false)), []⟩, ⟨(some 110), (.pick (.t 106) (.c (.bool true)) (.t 109)), none, []⟩]) (.cond
  (.t 110) (.seq (.region [⟨(some 4), (.mov (.c (.bool false))), none, []⟩]) .ret) .skip)) (.seq (.region [⟨(some 14), (.mov (.c (.int .i64 1))), none, []⟩]) (.seq (.region [⟨(some 111), (.load none (some 3) (.t 10)), none, []⟩, ⟨(some 112),
  (.mov (.t 14)), none, []⟩, ⟨(some 113), (.call (.c (.fn 28 [])) [(.t 111), (.t 112)]), none, []⟩, ⟨(some 14), (.mov (.t 113)), none, []⟩]) (.seq (.seq (.region [⟨(some 114), (.mov (.t 14)), none, []⟩, ⟨(some 115), (.bin .lss (.t 114) (.c
  (.int .i64 0))), none, []⟩]) (.cond (.t 115) (.seq (.region [⟨(some 4), (.mov (.c (.bool false))), none, []⟩]) .ret) .skip)) (.seq (.seq (.region [⟨(some 116), (.mov (.t 14)), none, []⟩, ⟨(some 117), (.mov (.t 13)), none, []⟩, ⟨(some 118),
  (.bin .neq (.t 116) (.t 117)), none, []⟩]) (.cond (.t 118) (.seq (.region [⟨(some 4), (.mov (.c (.bool false))), none, []⟩]) .ret) .skip)) (.seq (.region [⟨(some 4), (.mov (.c (.bool true))), none, []⟩]) .ret))))))))))))))))))))))))))))))⟩
theorem irOk10 : compFun Try.prog.underlying Try.prog.info? sq Try.f10 = some ir10 := by kernel_rfl
def ir11 : BFun := ⟨[(.tmp 2)], (.seq (.region [⟨(some 1), (.box 29 (.t 0)), none, []⟩, ⟨(some 2), (.mov (.c (.bool false))), none, []⟩]) (.seq (.region [⟨(some 3), (.mov (.c (.int .i64 1048576))), none, []⟩]) (.seq (.region [⟨(some 9),
  (.load none (some 3) (.t 1)), none, []⟩, ⟨(some 10), (.mov (.t 3)), none, []⟩, ⟨(some 11), (.call (.c (.fn 18 [])) [(.t 9), (.t 10)]), none, []⟩, ⟨(some 3), (.mov (.t 11)), none, []⟩]) (.seq (.seq (.region [⟨(some 12), (.mov (.t 3)), none,
  []⟩, ⟨(some 13), (.bin .lss (.t 12) (.c (.int .i64 0))), none, []⟩]) (.cond (.t 13) (.seq (.region [⟨(some 2), (.mov (.c (.bool true))), none, []⟩]) .ret) .skip)) (.seq (.region [⟨(some 15), (.load none (some 3) (.t 1)), none, []⟩, ⟨(some
  16), (.call (.c (.fn 20 [])) [(.t 15)]), none, []⟩, ⟨(some 17), (.call (.c (.fn 35 [])) [(.t 16)]), none, []⟩, ⟨(some 14), (.mov (.t 17)), none, []⟩, ⟨(some 18), (.ext 0 (.t 14)), none, []⟩, ⟨(some 19), (.ext 1 (.t 14)), none, []⟩, ⟨(some
  4), (.mov (.t 18)), none, []⟩, ⟨(some 5), (.mov (.t 19)), none, []⟩]) (.seq (.region [⟨(some 20), (.load none (some 3) (.t 1)), none, []⟩, ⟨(some 21), (.call (.c (.fn 20 [])) [(.t 20)]), none, []⟩, ⟨(some 6), (.new 34 [(.int .i64 0),
  .nils, .nils]), none, []⟩, ⟨none, (.store none 3 (.t 6) (.t 21)), none, []⟩]) (.seq (.region [⟨(some 23), (.load none (some 3) (.t 6)), none, []⟩, ⟨(some 24), (.call (.c (.fn 36 [])) [(.t 23)]), none, []⟩, ⟨(some 22), (.mov (.t 24)), none,
  []⟩, ⟨(some 25), (.ext 0 (.t 22)), none, []⟩, ⟨(some 26), (.ext 1 (.t 22)), none, []⟩, ⟨(some 7), (.mov (.t 25)), none, []⟩, ⟨(some 8), (.mov (.t 26)), none, []⟩]) (.seq (.seq (.region [⟨(some 27), (.mov (.t 7)), none, []⟩, ⟨(some 28),
  (.mov (.t 4)), none, []⟩, ⟨(some 29), (.beq true (.t 27) (.t 28)), none, []⟩, ⟨(some 30), (.mov (.t 29)), none, []⟩, ⟨(some 31), (.mov (.t 8)), (some (30, false)), []⟩, ⟨(some 32), (.mov (.t 5)), (some (30, false)), []⟩, ⟨(some 33), (.bin
  .neq (.t 31) (.t 32)), (some (30, false)), []⟩, ⟨(some 34), (.pick (.t 30) (.c (.bool true)) (.t 33)), none, []⟩]) (.cond (.t 34) (.seq (.region [⟨(some 2), (.mov (.c (.bool false))), none, []⟩]) .ret) .skip)) (.seq (.seq (.region [⟨(some
  35), (.load (some 34) (some 3) (.t 6)), none, []⟩, ⟨(some 36), (.load none (some 3) (.t 1)), none, []⟩, ⟨(some 37), (.call (.c (.fn 20 [])) [(.t 36)]), none, [34]⟩, ⟨(some 38), (.call (.c (.fn 22 [])) [(.t 35), (.t 37)]), none, []⟩, ⟨(some
  39), (.not (.t 38)), none, []⟩]) (.cond (.t 39) (.seq (.region [⟨(some 2), (.mov (.c (.bool false))), none, []⟩]) .ret) .skip)) (.seq (.region [⟨(some 2), (.mov (.c (.bool true))), none, []⟩]) .ret))))))))))⟩
theorem irOk11 : compFun Try.prog.underlying Try.prog.info? sq Try.f11 = some ir11 := by kernel_rfl
def ir12 : BFun := ⟨[(.tmp 2)], (.seq (.region [⟨(some 1), (.box 29 (.t 0)), none, []⟩, ⟨(some 2), (.mov (.c (.bool false))), none, []⟩]) (.seq (.region [⟨(some 3), (.mov (.c (.int .i64 1048576))), none, []⟩]) (.seq (.region [⟨(some 14),
  (.load none (some 3) (.t 1)), none, []⟩, ⟨(some 15), (.mov (.t 3)), none, []⟩, ⟨(some 16), (.call (.c (.fn 18 [])) [(.t 14), (.t 15)]), none, []⟩, ⟨(some 3), (.mov (.t 16)), none, []⟩]) (.seq (.seq (.region [⟨(some 17), (.mov (.t 3)),
  none, []⟩, ⟨(some 18), (.bin .lss (.t 17) (.c (.int .i64 0))), none, []⟩]) (.cond (.t 18) (.seq (.region [⟨(some 2), (.mov (.c (.bool true))), none, []⟩]) .ret) .skip)) (.seq (.region [⟨(some 20), (.load none (some 3) (.t 1)), none, []⟩,
  ⟨(some 21), (.call (.c (.fn 20 [])) [(.t 20)]), none, []⟩, ⟨(some 22), (.call (.c (.fn 37 [])) [(.t 21)]), none, []⟩, ⟨(some 19), (.mov (.t 22)), none, []⟩, ⟨(some 23), (.ext 0 (.t 19)), none, []⟩, ⟨(some 24), (.ext 1 (.t 19)), none, []⟩,
  ⟨(some 4), (.new 34 [(.int .i64 0), .nils, .nils]), none, []⟩, ⟨none, (.store none 3 (.t 4) (.t 23)), none, []⟩, ⟨(some 5), (.mov (.t 24)), none, []⟩]) (.seq (.region [⟨(some 25), (.load none (some 3) (.t 1)), none, []⟩, ⟨(some 26), (.call
  (.c (.fn 20 [])) [(.t 25)]), none, []⟩, ⟨(some 6), (.new 34 [(.int .i64 0), .nils, .nils]), none, []⟩, ⟨none, (.store none 3 (.t 6) (.t 26)), none, []⟩]) (.seq (.region [⟨(some 28), (.load none (some 3) (.t 6)), none, []⟩, ⟨(some 29),
  (.call (.c (.fn 38 [])) [(.t 28)]), none, []⟩, ⟨(some 27), (.mov (.t 29)), none, []⟩, ⟨(some 30), (.ext 0 (.t 27)), none, []⟩, ⟨(some 31), (.ext 1 (.t 27)), none, []⟩, ⟨(some 7), (.new 34 [(.int .i64 0), .nils, .nils]), none, []⟩, ⟨none,
  (.store none 3 (.t 7) (.t 30)), none, []⟩, ⟨(some 8), (.mov (.t 31)), none, []⟩]) (.seq (.seq (.region [⟨(some 32), (.load none (some 3) (.t 7)), none, []⟩, ⟨(some 33), (.load none (some 3) (.t 4)), none, []⟩, ⟨(some 34), (.call (.c (.fn
  22 [])) [(.t 32), (.t 33)]), none, []⟩, ⟨(some 35), (.not (.t 34)), none, []⟩, ⟨(some 36), (.mov (.t 35)), none, []⟩, ⟨(some 37), (.mov (.t 8)), (some (36, false)), []⟩, ⟨(some 38), (.mov (.t 5)), (some (36, false)), []⟩, ⟨(some 39), (.bin
  .neq (.t 37) (.t 38)), (some (36, false)), []⟩, ⟨(some 40), (.pick (.t 36) (.c (.bool true)) (.t 39)), none, []⟩]) (.cond (.t 40) (.seq (.region [⟨(some 2), (.mov (.c (.bool false))), none, []⟩]) .ret) .skip)) (.seq (.seq (.region [⟨(some
  41), (.load (some 34) (some 3) (.t 6)), none, []⟩, ⟨(some 42), (.load none (some 3) (.t 1)), none, []⟩, ⟨(some 43), (.call (.c (.fn 20 [])) [(.t 42)]), none, [34]⟩, ⟨(some 44), (.call (.c (.fn 22 [])) [(.t 41), (.t 43)]), none, []⟩, ⟨(some
  45), (.not (.t 44)), none, []⟩]) (.cond (.t 45) (.seq (.region [⟨(some 2), (.mov (.c (.bool false))), none, []⟩]) .ret) .skip)) (.seq (.region [⟨(some 9), (.mov (.c (.int .i64 1))), none, []⟩]) (.seq (.region [⟨(some 46), (.load none (some
  3) (.t 6)), none, []⟩, ⟨(some 47), (.mov (.t 9)), none, []⟩, ⟨(some 48), (.call (.c (.fn 27 [])) [(.t 46), (.t 47)]), none, []⟩, ⟨(some 9), (.mov (.t 48)), none, []⟩]) (.seq (.seq (.region [⟨(some 49), (.mov (.t 9)), none, []⟩, ⟨(some 50),
  (.bin .lss (.t 49) (.c (.int .i64 0))), none, []⟩, ⟨(some 51), (.mov (.t 50)), none, []⟩, ⟨(some 52), (.load none (some 3) (.t 7)), (some (51, false)), []⟩, ⟨(some 53), (.load none (some 3) (.t 4)), (some (51, false)), []⟩, ⟨(some 54),
  (.call (.c (.fn 22 [])) [(.t 52), (.t 53)]), (some (51, false)), []⟩, ⟨(some 55), (.not (.t 54)), (some (51, false)), []⟩, ⟨(some 56), (.pick (.t 51) (.c (.bool true)) (.t 55)), none, []⟩, ⟨(some 57), (.mov (.t 56)), none, []⟩, ⟨(some 58),
  (.mov (.t 8)), (some (57, false)), []⟩, ⟨(some 59), (.mov (.t 5)), (some (57, false)), []⟩, ⟨(some 60), (.bin .neq (.t 58) (.t 59)), (some (57, false)), []⟩, ⟨(some 61), (.pick (.t 57) (.c (.bool true)) (.t 60)), none, []⟩]) (.cond (.t 61)
  (.seq (.region [⟨(some 2), (.mov (.c (.bool false))), none, []⟩]) .ret) .skip)) (.seq (.region [⟨(some 10), (.mov (.c (.int .i64 1))), none, []⟩]) (.seq (.region [⟨(some 62), (.load none (some 3) (.t 7)), none, []⟩, ⟨(some 63), (.mov (.t
  10)), none, []⟩, ⟨(some 64), (.call (.c (.fn 27 [])) [(.t 62), (.t 63)]), none, []⟩, ⟨(some 10), (.mov (.t 64)), none, []⟩]) (.seq (.region [⟨(some 11), (.mov (.c (.int .i64 1))), none, []⟩]) (.seq (.region [⟨(some 65), (.load none (some
  3) (.t 7)), none, []⟩, ⟨(some 66), (.mov (.t 11)), none, []⟩, ⟨(some 67), (.call (.c (.fn 28 [])) [(.t 65), (.t 66)]), none, []⟩, ⟨(some 11), (.mov (.t 67)), none, []⟩]) (.seq (.seq (.region [⟨(some 68), (.mov (.t 11)), none, []⟩, ⟨(some
  69), (.bin .lss (.t 68) (.c (.int .i64 0))), none, []⟩]) (.cond (.t 69) (.seq (.region [⟨(some 2), (.mov (.c (.bool false))), none, []⟩]) .ret) .skip)) (.seq (.seq (.region [⟨(some 70), (.mov (.t 11)), none, []⟩, ⟨(some 71), (.mov (.t
  10)), none, []⟩, ⟨(some 72), (.bin .neq (.t 70) (.t 71)), none, []⟩]) (.cond (.t 72) (.seq (.region [⟨(some 2), (.mov (.c (.bool false))), none, []⟩]) .ret) .skip)) (.seq (.region [⟨(some 74), (.load none (some 3) (.t 1)), none, []⟩,
  ⟨(some 75), (.call (.c (.fn 20 [])) [(.t 74)]), none, []⟩, ⟨(some 76), (.call (.c (.fn 38 [])) [(.t 75)]), none, []⟩, ⟨(some 73), (.mov (.t 76)), none, []⟩, ⟨(some 77), (.ext 0 (.t 73)), none, []⟩, ⟨(some 78), (.ext 1 (.t 73)), none, []⟩,
  ⟨(some 12), (.new 34 [(.int .i64 0), .nils, .nils]), none, []⟩, ⟨none, (.store none 3 (.t 12) (.t 77)), none, []⟩, ⟨(some 13), (.mov (.t 78)), none, []⟩]) (.seq (.seq (.region [⟨(some 79), (.load none (some 3) (.t 12)), none, []⟩, ⟨(some
  80), (.load none (some 3) (.t 4)), none, []⟩, ⟨(some 81), (.call (.c (.fn 22 [])) [(.t 79), (.t 80)]), none, []⟩, ⟨(some 82), (.not (.t 81)), none, []⟩, ⟨(some 83), (.mov (.t 82)), none, []⟩, ⟨(some 84), (.mov (.t 13)), (some (83, false)),
  []⟩, ⟨(some 85), (.mov (.t 5)), (some (83, false)), []⟩, ⟨(some 86), (.bin .neq (.t 84) (.t 85)), (some (83, false)), []⟩, ⟨(some 87), (.pick (.t 83) (.c (.bool true)) (.t 86)), none, []⟩]) (.cond (.t 87) (.seq (.region [⟨(some 2), (.mov
  (.c (.bool false))), none, []⟩]) .ret) .skip)) (.seq (.region [⟨(some 11), (.mov (.c (.int .i64 1))), none, []⟩]) (.seq (.region [⟨(some 88), (.load none (some 3) (.t 7)), none, []⟩, ⟨(some 89), (.mov (.t 11)), none, []⟩, ⟨(some 90),
  (.call (.c (.fn 28 [])) [(.t 88), (.t 89)]), none, []⟩, ⟨(some 11), (.mov (.t 90)), none, []⟩]) (.seq (.seq (.region [⟨(some 91), (.mov (.t 11)), none, []⟩, ⟨(some 92), (.bin .lss (.t 91) (.c (.int .i64 0))), none, []⟩]) (.cond (.t 92)
  (.seq (.region [⟨(some 2), (.mov (.c (.bool false))), none, []⟩]) .ret) .skip)) (.seq (.seq (.region [⟨(some 93), (.mov (.t 11)), none, []⟩, ⟨(some 94), (.mov (.t 10)), none, []⟩, ⟨(some 95), (.bin .neq (.t 93) (.t 94)), none, []⟩]) (.cond
  (.t 95) (.seq (.region [⟨(some 2), (.mov (.c (.bool false))), none, []⟩]) .ret) .skip)) (.seq (.region [⟨(some 2), (.mov (.c (.bool true))), none, []⟩]) .ret)))))))))))))))))))))))))⟩
theorem irOk12 : compFun Try.prog.underlying Try.prog.info? sq Try.f12 = some ir12 := by kernel_rfl
def ir13 : BFun := ⟨[(.tmp 4)], (.seq (.region [⟨(some 2), (.box 29 (.t 0)), none, []⟩, ⟨(some 3), (.box 29 (.t 1)), none, []⟩, ⟨(some 4), (.mov (.c (.bool false))), none, []⟩]) (.seq (.region [⟨(some 5), (.mov (.c (.int .i64 1048576))),
  none, []⟩]) (.seq (.region [⟨(some 17), (.load none (some 3) (.t 2)), none, []⟩, ⟨(some 18), (.mov (.t 5)), none, []⟩, ⟨(some 19), (.call (.c (.fn 18 [])) [(.t 17), (.t 18)]), none, []⟩, ⟨(some 5), (.mov (.t 19)), none, []⟩]) (.seq (.seq
  (.region [⟨(some 20), (.mov (.t 5)), none, []⟩, ⟨(some 21), (.bin .lss (.t 20) (.c (.int .i64 0))), none, []⟩]) (.cond (.t 21) (.seq (.region [⟨(some 4), (.mov (.c (.bool true))), none, []⟩]) .ret) .skip)) (.seq (.region [⟨(some 22),
  (.load none (some 3) (.t 3)), none, []⟩, ⟨(some 23), (.mov (.t 5)), none, []⟩, ⟨(some 24), (.call (.c (.fn 18 [])) [(.t 22), (.t 23)]), none, []⟩, ⟨(some 5), (.mov (.t 24)), none, []⟩]) (.seq (.seq (.region [⟨(some 25), (.mov (.t 5)),
  none, []⟩, ⟨(some 26), (.bin .lss (.t 25) (.c (.int .i64 0))), none, []⟩]) (.cond (.t 26) (.seq (.region [⟨(some 4), (.mov (.c (.bool true))), none, []⟩]) .ret) .skip)) (.seq (.region [⟨(some 28), (.load none (some 3) (.t 2)), none, []⟩,
  ⟨(some 30), (.load (some 29) (some 3) (.t 3)), none, []⟩, ⟨(some 29), (.call (.c (.fn 20 [])) [(.t 28)]), none, [29]⟩, ⟨(some 31), (.call (.c (.fn 20 [])) [(.t 30)]), none, []⟩, ⟨(some 32), (.call (.c (.fn 39 [])) [(.t 29), (.t 31)]),
  none, []⟩, ⟨(some 27), (.mov (.t 32)), none, []⟩, ⟨(some 33), (.ext 0 (.t 27)), none, []⟩, ⟨(some 34), (.ext 1 (.t 27)), none, []⟩, ⟨(some 6), (.new 34 [(.int .i64 0), .nils, .nils]), none, []⟩, ⟨none, (.store none 3 (.t 6) (.t 33)), none,
  []⟩, ⟨(some 7), (.mov (.t 34)), none, []⟩]) (.seq (.region [⟨(some 35), (.load none (some 3) (.t 2)), none, []⟩, ⟨(some 36), (.call (.c (.fn 20 [])) [(.t 35)]), none, []⟩, ⟨(some 8), (.new 34 [(.int .i64 0), .nils, .nils]), none, []⟩,
  ⟨none, (.store none 3 (.t 8) (.t 36)), none, []⟩]) (.seq (.region [⟨(some 37), (.load none (some 3) (.t 3)), none, []⟩, ⟨(some 38), (.call (.c (.fn 20 [])) [(.t 37)]), none, []⟩, ⟨(some 9), (.new 34 [(.int .i64 0), .nils, .nils]), none,
  []⟩, ⟨none, (.store none 3 (.t 9) (.t 38)), none, []⟩]) (.seq (.region [⟨(some 40), (.load none (some 3) (.t 8)), none, []⟩, ⟨(some 41), (.load none (some 3) (.t 9)), none, []⟩, ⟨(some 42), (.call (.c (.fn 40 [])) [(.t 40), (.t 41)]),
  none, []⟩, ⟨(some 39), (.mov (.t 42)), none, []⟩, ⟨(some 43), (.ext 0 (.t 39)), none, []⟩, ⟨(some 44), (.ext 1 (.t 39)), none, []⟩, ⟨(some 10), (.new 34 [(.int .i64 0), .nils, .nils]), none, []⟩, ⟨none, (.store none 3 (.t 10) (.t 43)),
  none, []⟩, ⟨(some 11), (.mov (.t 44)), none, []⟩]) (.seq (.seq (.region [⟨(some 45), (.load none (some 3) (.t 10)), none, []⟩, ⟨(some 46), (.load none (some 3) (.t 6)), none, []⟩, ⟨(some 47), (.call (.c (.fn 22 [])) [(.t 45), (.t 46)]),
  none, []⟩, ⟨(some 48), (.not (.t 47)), none, []⟩, ⟨(some 49), (.mov (.t 48)), none, []⟩, ⟨(some 50), (.mov (.t 11)), (some (49, false)), []⟩, ⟨(some 51), (.mov (.t 7)), (some (49, false)), []⟩, ⟨(some 52), (.bin .neq (.t 50) (.t 51)),
  (some (49, false)), []⟩, ⟨(some 53), (.pick (.t 49) (.c (.bool true)) (.t 52)), none, []⟩]) (.cond (.t 53) (.seq (.region [⟨(some 4), (.mov (.c (.bool false))), none, []⟩]) .ret) .skip)) (.seq (.seq (.region [⟨(some 54), (.load (some 34)
  (some 3) (.t 8)), none, []⟩, ⟨(some 55), (.load none (some 3) (.t 2)), none, []⟩, ⟨(some 56), (.call (.c (.fn 20 [])) [(.t 55)]), none, [34]⟩, ⟨(some 57), (.call (.c (.fn 22 [])) [(.t 54), (.t 56)]), none, []⟩, ⟨(some 58), (.not (.t 57)),
  none, []⟩]) (.cond (.t 58) (.seq (.region [⟨(some 4), (.mov (.c (.bool false))), none, []⟩]) .ret) .skip)) (.seq (.seq (.region [⟨(some 59), (.load (some 34) (some 3) (.t 9)), none, []⟩, ⟨(some 60), (.load none (some 3) (.t 3)), none, []⟩,
  ⟨(some 61), (.call (.c (.fn 20 [])) [(.t 60)]), none, [34]⟩, ⟨(some 62), (.call (.c (.fn 22 [])) [(.t 59), (.t 61)]), none, []⟩, ⟨(some 63), (.not (.t 62)), none, []⟩]) (.cond (.t 63) (.seq (.region [⟨(some 4), (.mov (.c (.bool false))),
  none, []⟩]) .ret) .skip)) (.seq (.region [⟨(some 12), (.mov (.c (.int .i64 1))), none, []⟩]) (.seq (.region [⟨(some 64), (.load none (some 3) (.t 8)), none, []⟩, ⟨(some 65), (.mov (.t 12)), none, []⟩, ⟨(some 66), (.call (.c (.fn 27 []))
  [(.t 64), (.t 65)]), none, []⟩, ⟨(some 12), (.mov (.t 66)), none, []⟩]) (.seq (.region [⟨(some 67), (.load none (some 3) (.t 9)), none, []⟩, ⟨(some 68), (.mov (.t 12)), none, []⟩, ⟨(some 69), (.call (.c (.fn 27 [])) [(.t 67), (.t 68)]),
  none, []⟩, ⟨(some 12), (.mov (.t 69)), none, []⟩]) (.seq (.seq (.region [⟨(some 70), (.mov (.t 12)), none, []⟩, ⟨(some 71), (.bin .lss (.t 70) (.c (.int .i64 0))), none, []⟩, ⟨(some 72), (.mov (.t 71)), none, []⟩, ⟨(some 73), (.load none
  (some 3) (.t 10)), (some (72, false)), []⟩, ⟨(some 74), (.load none (some 3) (.t 6)), (some (72, false)), []⟩, ⟨(some 75), (.call (.c (.fn 22 [])) [(.t 73), (.t 74)]), (some (72, false)), []⟩, ⟨(some 76), (.not (.t 75)), (some (72,
  false)), []⟩, ⟨(some 77), (.pick (.t 72) (.c (.bool true)) (.t 76)), none, []⟩, ⟨(some 78), (.mov (.t 77)), none, []⟩, ⟨(some 79), (.mov (.t 11)), (some (78, false)), []⟩, ⟨(some 80), (.mov (.t 7)), (some (78, false)), []⟩, ⟨(some 81),
  (.bin .neq (.t 79) (.t 80)), (some (78, false)), []⟩, ⟨(some 82), (.pick (.t 78) (.c (.bool true)) (.t 81)), none, []⟩]) (.cond (.t 82) (.seq (.region [⟨(some 4), (.mov (.c (.bool false))), none, []⟩]) .ret) .skip)) (.seq (.region [⟨(some
  13), (.mov (.c (.int .i64 1))), none, []⟩]) (.seq (.region [⟨(some 83), (.load none (some 3) (.t 10)), none, []⟩, ⟨(some 84), (.mov (.t 13)), none, []⟩, ⟨(some 85), (.call (.c (.fn 27 [])) [(.t 83), (.t 84)]), none, []⟩, ⟨(some 13), (.mov
  (.t 85)), none, []⟩]) (.seq (.region [⟨(some 14), (.mov (.c (.int .i64 1))), none, []⟩]) (.seq (.region [⟨(some 86), (.load none (some 3) (.t 10)), none, []⟩, ⟨(some 87), (.mov (.t 14)), none, []⟩, ⟨(some 88), (.call (.c (.fn 28 [])) [(.t
  86), (.t 87)]), none, []⟩, ⟨(some 14), (.mov (.t 88)), none, []⟩]) (.seq (.seq (.region [⟨(some 89), (.mov (.t 14)), none, []⟩, ⟨(some 90), (.bin .lss (.t 89) (.c (.int .i64 0))), none, []⟩]) (.cond (.t 90) (.seq (.region [⟨(some 4), (.mov
  (.c (.bool false))), none, []⟩]) .ret) .skip)) (.seq (.seq (.region [⟨(some 91), (.mov (.t 14)), none, []⟩, ⟨(some 92), (.mov (.t 13)), none, []⟩, ⟨(some 93), (.bin .neq (.t 91) (.t 92)), none, []⟩]) (.cond (.t 93) (.seq (.region [⟨(some
  4), (.mov (.c (.bool false))), none, []⟩]) .ret) .skip)) (.seq (.region [⟨(some 95), (.load none (some 3) (.t 2)), none, []⟩, ⟨(some 97), (.load (some 29) (some 3) (.t 3)), none, []⟩, ⟨(some 96), (.call (.c (.fn 20 [])) [(.t 95)]), none,
  [29]⟩, ⟨(some 98), (.call (.c (.fn 20 [])) [(.t 97)]), none, []⟩, ⟨(some 99), (.call (.c (.fn 40 [])) [(.t 96), (.t 98)]), none, []⟩, ⟨(some 94), (.mov (.t 99)), none, []⟩, ⟨(some 100), (.ext 0 (.t 94)), none, []⟩, ⟨(some 101), (.ext 1 (.t
  94)), none, []⟩, ⟨(some 15), (.new 34 [(.int .i64 0), .nils, .nils]), none, []⟩, ⟨none, (.store none 3 (.t 15) (.t 100)), none, []⟩, ⟨(some 16), (.mov (.t 101)), none, []⟩]) (.seq (.seq (.region [⟨(some 102), (.load none (some 3) (.t 15)),
  none, []⟩, ⟨(some 103), (.load none (some 3) (.t 6)), none, []⟩, ⟨(some 104), (.call (.c (.fn 22 [])) [(.t 102), (.t 103)]), none, []⟩, ⟨(some 105), (.not (.t 104)), none, []⟩, ⟨(some 106), (.mov (.t 105)), none, []⟩, ⟨(some 107), (.mov
  (.t 16)), (some (106, false)), []⟩, ⟨(some 108), (.mov (.t 7)), (some (106, false)), []⟩, ⟨(some 109), (.bin .neq (.t 107) (.t 108)), (some (106, false)), []⟩, ⟨(some 110), (.pick (.t 106) (.c (.bool true)) (.t 109)), none, []⟩]) (.cond
  (.t 110) (.seq (.region [⟨(some 4), (.mov (.c (.bool false))), none, []⟩]) .ret) .skip)) (.seq (.region [⟨(some 14), (.mov (.c (.int .i64 1))), none, []⟩]) (.seq (.region [⟨(some 111), (.load none (some 3) (.t 10)), none, []⟩, ⟨(some 112),
  (.mov (.t 14)), none, []⟩, ⟨(some 113), (.call (.c (.fn 28 [])) [(.t 111), (.t 112)]), none, []⟩, ⟨(some 14), (.mov (.t 113)), none, []⟩]) (.seq (.seq (.region [⟨(some 114), (.mov (.t 14)), none, []⟩, ⟨(some 115), (.bin .lss (.t 114) (.c
  (.int .i64 0))), none, []⟩]) (.cond (.t 115) (.seq (.region [⟨(some 4), (.mov (.c (.bool false))), none, []⟩]) .ret) .skip)) (.seq (.seq (.region [⟨(some 116), (.mov (.t 14)), none, []⟩, ⟨(some 117), (.mov (.t 13)), none, []⟩, ⟨(some 118),
  (.bin .neq (.t 116) (.t 117)), none, []⟩]) (.cond (.t 118) (.seq (.region [⟨(some 4), (.mov (.c (.bool false))), none, []⟩]) .ret) .skip)) (.seq (.region [⟨(some 4), (.mov (.c (.bool true))), none, []⟩]) .ret))))))))))))))))))))))))))))))⟩
theorem irOk13 : compFun Try.prog.underlying Try.prog.info? sq Try.f13 = some ir13 := by kernel_rfl
def ir18 : BFun := ⟨[(.tmp 4)], (.seq (.region [⟨(some 2), (.box 29 (.t 0)), none, []⟩, ⟨(some 4), (.mov (.c (.int .i64 0))), none, []⟩]) (.seq (.region [⟨(some 5), (.lea 1 (.t 2)), none, []⟩, ⟨(some 6), (.load none none (.t 5)), none, []⟩,
  ⟨(some 7), (.mov (.t 1)), none, []⟩, ⟨(some 8), (.call (.c (.fn 46 [])) [(.t 6), (.t 7)]), none, []⟩, ⟨(some 1), (.mov (.t 8)), none, []⟩]) (.seq (.seq (.region [⟨(some 9), (.mov (.t 1)), none, []⟩, ⟨(some 10), (.bin .lss (.t 9) (.c (.int
  .i64 0))), none, []⟩]) (.cond (.t 10) (.seq (.region [⟨(some 4), (.mov (.c (.int .i64 (-1)))), none, []⟩]) .ret) .skip)) (.seq (.region [⟨(some 11), (.lea 2 (.t 2)), none, []⟩, ⟨(some 12), (.load none none (.t 11)), none, []⟩, ⟨(some 13),
  (.mov (.t 1)), none, []⟩, ⟨(some 14), (.call (.c (.fn 47 [])) [(.t 12), (.t 13)]), none, []⟩, ⟨(some 1), (.mov (.t 14)), none, []⟩]) (.seq (.seq (.region [⟨(some 15), (.mov (.t 1)), none, []⟩, ⟨(some 16), (.bin .lss (.t 15) (.c (.int .i64
  0))), none, []⟩]) (.cond (.t 16) (.seq (.region [⟨(some 4), (.mov (.c (.int .i64 (-1)))), none, []⟩]) .ret) .skip)) (.seq (.region [⟨(some 17), (.mov (.t 1)), none, []⟩, ⟨(some 4), (.mov (.t 17)), none, []⟩]) .ret))))))⟩
theorem irOk18 : compFun Try.prog.underlying Try.prog.info? sq Try.f18 = some ir18 := by kernel_rfl
def ir19 : BFun := ⟨[(.tmp 2)], (.seq (.region [⟨(some 1), (.box 34 (.t 0)), none, []⟩, ⟨(some 2), (.mov (.c (.bool false))), none, []⟩]) (.seq (.region [⟨(some 3), (.call (.c (.fn 48 [])) [(.t 1)]), none, []⟩, ⟨(some 2), (.mov (.t 3)),
  none, []⟩]) .ret))⟩
theorem irOk19 : compFun Try.prog.underlying Try.prog.info? sq Try.f19 = some ir19 := by kernel_rfl
def ir20 : BFun := ⟨[(.cell 2 (some 3))], (.seq (.region [⟨(some 1), (.box 29 (.t 0)), none, []⟩, ⟨(some 2), (.new 34 [(.int .i64 0), .nils, .nils]), none, []⟩]) (.seq (.region [⟨(some 3), (.new 34 [(.int .i64 0), .nils, .nils]), none, []⟩])
  (.seq (.region [⟨(some 4), (.lea 0 (.t 1)), none, []⟩, ⟨(some 5), (.load none none (.t 4)), none, []⟩, ⟨(some 6), (.lea 0 (.t 3)), none, []⟩, ⟨none, (.store none 1 (.t 6) (.t 5)), none, []⟩]) (.seq (.region [⟨(some 7), (.lea 1 (.t 1)),
  none, []⟩, ⟨(some 8), (.load none none (.t 7)), none, []⟩, ⟨(some 9), (.call (.c (.fn 49 [])) [(.t 8)]), none, []⟩, ⟨(some 10), (.lea 1 (.t 3)), none, []⟩, ⟨none, (.store none 1 (.t 10) (.t 9)), none, []⟩]) (.seq (.region [⟨(some 11),
  (.lea 2 (.t 1)), none, []⟩, ⟨(some 12), (.load none none (.t 11)), none, []⟩, ⟨(some 13), (.call (.c (.fn 50 [])) [(.t 12)]), none, []⟩, ⟨(some 14), (.lea 2 (.t 3)), none, []⟩, ⟨none, (.store none 1 (.t 14) (.t 13)), none, []⟩]) (.seq
  (.region [⟨(some 15), (.load none (some 3) (.t 3)), none, []⟩, ⟨none, (.store none 3 (.t 2) (.t 15)), none, []⟩]) .ret))))))⟩
theorem irOk20 : compFun Try.prog.underlying Try.prog.info? sq Try.f20 = some ir20 := by kernel_rfl
def ir21 : BFun := ⟨[(.tmp 2)], (.seq (.region [⟨(some 1), (.box 34 (.t 0)), none, []⟩, ⟨(some 2), (.mov (.c (.bool false))), none, []⟩]) (.seq (.region [⟨(some 6), (.lea 1 (.t 1)), none, []⟩, ⟨(some 7), (.load none none (.t 6)), none, []⟩,
  ⟨(some 8), (.len 1 (.t 7)), none, []⟩, ⟨(some 3), (.mov (.t 8)), none, []⟩]) (.seq (.seq (.region [⟨(some 9), (.mov (.t 3)), none, []⟩, ⟨(some 10), (.call (.c (.fn 42 [])) [(.t 9), (.c (.int .i64 1)), (.c (.int .i64 40))]), none, []⟩,
  ⟨(some 11), (.not (.t 10)), none, []⟩, ⟨(some 12), (.mov (.t 11)), none, []⟩, ⟨(some 13), (.lea 0 (.t 1)), (some (12, false)), []⟩, ⟨(some 14), (.load none none (.t 13)), (some (12, false)), []⟩, ⟨(some 15), (.mov (.t 3)), (some (12,
  false)), []⟩, ⟨(some 16), (.bin .sub (.t 15) (.c (.int .i64 1))), (some (12, false)), []⟩, ⟨(some 17), (.call (.c (.fn 42 [])) [(.t 14), (.c (.int .i64 0)), (.t 16)]), (some (12, false)), []⟩, ⟨(some 18), (.not (.t 17)), (some (12,
  false)), []⟩, ⟨(some 19), (.pick (.t 12) (.c (.bool true)) (.t 18)), none, []⟩, ⟨(some 20), (.mov (.t 19)), none, []⟩, ⟨(some 21), (.lea 2 (.t 1)), (some (20, false)), []⟩, ⟨(some 22), (.load none none (.t 21)), (some (20, false)), []⟩,
  ⟨(some 23), (.len 1 (.t 22)), (some (20, false)), []⟩, ⟨(some 24), (.bin .gtr (.t 23) (.c (.int .i64 200))), (some (20, false)), []⟩, ⟨(some 25), (.pick (.t 20) (.c (.bool true)) (.t 24)), none, []⟩]) (.cond (.t 25) (.seq (.region [⟨(some
  2), (.mov (.c (.bool false))), none, []⟩]) .ret) .skip)) (.seq (.seq (.region [⟨(some 26), (.lea 2 (.t 1)), none, []⟩, ⟨(some 27), (.load none none (.t 26)), none, []⟩, ⟨(some 28), (.len 1 (.t 27)), none, []⟩, ⟨(some 29), (.mov (.c (.int
  .i64 0))), none, []⟩]) (.block 0 (.loop (.seq (.region [⟨(some 30), (.bin .lss (.t 29) (.t 28)), none, []⟩]) (.seq (.cond (.t 30) .skip (.exit 0)) (.seq (.block 1 (.seq (.region [⟨(some 31), (.idx 4 (.t 27) (.t 29)), none, []⟩, ⟨(some 32),
  (.load none (some 4) (.t 31)), none, []⟩, ⟨(some 5), (.new 54 [(.int .i64 0), (.int .i64 0), (.str ⟨#[]⟩), (.str ⟨#[]⟩)]), none, []⟩, ⟨none, (.store none 4 (.t 5) (.t 32)), none, []⟩]) (.seq (.region [⟨(some 33), (.lea 0 (.t 5)), none,
  []⟩, ⟨(some 34), (.load none none (.t 33)), none, []⟩, ⟨(some 35), (.mov (.t 3)), none, []⟩, ⟨(some 36), (.bin .sub (.t 35) (.c (.int .i64 1))), none, []⟩, ⟨(some 37), (.call (.c (.fn 42 [])) [(.t 34), (.c (.int .i64 0)), (.t 36)]), none,
  []⟩, ⟨(some 38), (.not (.t 37)), none, []⟩, ⟨(some 39), (.mov (.t 38)), none, []⟩, ⟨(some 40), (.lea 1 (.t 5)), (some (39, false)), []⟩, ⟨(some 41), (.load none none (.t 40)), (some (39, false)), []⟩, ⟨(some 42), (.mov (.t 3)), (some (39,
  false)), []⟩, ⟨(some 43), (.bin .sub (.t 42) (.c (.int .i64 1))), (some (39, false)), []⟩, ⟨(some 44), (.call (.c (.fn 42 [])) [(.t 41), (.c (.int .i64 0)), (.t 43)]), (some (39, false)), []⟩, ⟨(some 45), (.not (.t 44)), (some (39,
  false)), []⟩, ⟨(some 46), (.pick (.t 39) (.c (.bool true)) (.t 45)), none, []⟩, ⟨(some 47), (.mov (.t 46)), none, []⟩, ⟨(some 48), (.lea 2 (.t 5)), (some (47, false)), []⟩, ⟨(some 49), (.load none none (.t 48)), (some (47, false)), []⟩,
  ⟨(some 50), (.call (.c (.fn 51 [])) [(.t 49)]), (some (47, false)), []⟩, ⟨(some 51), (.not (.t 50)), (some (47, false)), []⟩, ⟨(some 52), (.pick (.t 47) (.c (.bool true)) (.t 51)), none, []⟩, ⟨(some 53), (.mov (.t 52)), none, []⟩, ⟨(some
  54), (.lea 3 (.t 5)), (some (53, false)), []⟩, ⟨(some 55), (.load none none (.t 54)), (some (53, false)), []⟩, ⟨(some 56), (.call (.c (.fn 51 [])) [(.t 55)]), (some (53, false)), []⟩, ⟨(some 57), (.not (.t 56)), (some (53, false)), []⟩,
  ⟨(some 58), (.pick (.t 53) (.c (.bool true)) (.t 57)), none, []⟩]) (.cond (.t 58) (.seq (.region [⟨(some 2), (.mov (.c (.bool false))), none, []⟩]) .ret) .skip)))) (.region [⟨(some 59), (.bin .add (.t 29) (.c (.int .i64 1))), none, []⟩,
  ⟨(some 29), (.mov (.t 59)), none, []⟩]))))))) (.seq (.region [⟨(some 2), (.mov (.c (.bool true))), none, []⟩]) .ret)))))⟩
theorem irOk21 : compFun Try.prog.underlying Try.prog.info? sq Try.f21 = some ir21 := by kernel_rfl
def ir22 : BFun := ⟨[(.tmp 4)], (.seq (.region [⟨(some 2), (.box 34 (.t 0)), none, []⟩, ⟨(some 3), (.box 34 (.t 1)), none, []⟩, ⟨(some 4), (.mov (.c (.bool false))), none, []⟩]) (.seq (.seq (.region [⟨(some 5), (.lea 0 (.t 2)), none, []⟩,
  ⟨(some 6), (.load none none (.t 5)), none, []⟩, ⟨(some 7), (.lea 0 (.t 3)), none, []⟩, ⟨(some 8), (.load none none (.t 7)), none, []⟩, ⟨(some 9), (.bin .neq (.t 6) (.t 8)), none, []⟩]) (.cond (.t 9) (.seq (.region [⟨(some 4), (.mov (.c
  (.bool false))), none, []⟩]) .ret) .skip)) (.seq (.seq (.region [⟨(some 10), (.lea 1 (.t 2)), none, []⟩, ⟨(some 11), (.load none none (.t 10)), none, []⟩, ⟨(some 12), (.lea 1 (.t 3)), none, []⟩, ⟨(some 13), (.load none none (.t 12)), none,
  []⟩, ⟨(some 14), (.call (.c (.fn 52 [])) [(.t 11), (.t 13)]), none, []⟩, ⟨(some 15), (.not (.t 14)), none, []⟩]) (.cond (.t 15) (.seq (.region [⟨(some 4), (.mov (.c (.bool false))), none, []⟩]) .ret) .skip)) (.seq (.seq (.region [⟨(some
  16), (.lea 2 (.t 2)), none, []⟩, ⟨(some 17), (.load none none (.t 16)), none, []⟩, ⟨(some 18), (.lea 2 (.t 3)), none, []⟩, ⟨(some 19), (.load none none (.t 18)), none, []⟩, ⟨(some 20), (.call (.c (.fn 53 [])) [(.t 17), (.t 19)]), none,
  []⟩, ⟨(some 21), (.not (.t 20)), none, []⟩]) (.cond (.t 21) (.seq (.region [⟨(some 4), (.mov (.c (.bool false))), none, []⟩]) .ret) .skip)) (.seq (.region [⟨(some 4), (.mov (.c (.bool true))), none, []⟩]) .ret)))))⟩
theorem irOk22 : compFun Try.prog.underlying Try.prog.info? sq Try.f22 = some ir22 := by kernel_rfl
def ir23 : BFun := ⟨[(.tmp 4)], (.seq (.region [⟨(some 2), (.box 34 (.t 0)), none, []⟩, ⟨(some 3), (.box 34 (.t 1)), none, []⟩, ⟨(some 4), (.mov (.c (.bool false))), none, []⟩]) (.seq (.region [⟨(some 5), (.call (.c (.fn 54 [])) [(.t 2), (.t
  3)]), none, []⟩, ⟨(some 4), (.mov (.t 5)), none, []⟩]) .ret))⟩
theorem irOk23 : compFun Try.prog.underlying Try.prog.info? sq Try.f23 = some ir23 := by kernel_rfl
def ir24 : BFun := ⟨[(.tmp 4)], (.seq (.region [⟨(some 2), (.box 34 (.t 0)), none, []⟩, ⟨(some 3), (.box 34 (.t 1)), none, []⟩, ⟨(some 4), (.mov (.c (.bool false))), none, []⟩]) (.seq (.region [⟨(some 5), (.lea 0 (.t 2)), none, []⟩, ⟨(some
  6), (.load none none (.t 5)), none, []⟩, ⟨(some 7), (.lea 0 (.t 3)), none, []⟩, ⟨(some 8), (.load none none (.t 7)), none, []⟩, ⟨(some 9), (.bin .eql (.t 6) (.t 8)), none, []⟩, ⟨(some 10), (.mov (.t 9)), none, []⟩, ⟨(some 11), (.lea 1 (.t
  2)), (some (10, true)), []⟩, ⟨(some 12), (.load none none (.t 11)), (some (10, true)), []⟩, ⟨(some 13), (.lea 1 (.t 3)), (some (10, true)), []⟩, ⟨(some 14), (.load none none (.t 13)), (some (10, true)), []⟩, ⟨(some 15), (.call (.c (.fn 55
  [])) [(.t 12), (.t 14)]), (some (10, true)), []⟩, ⟨(some 16), (.pick (.t 10) (.t 15) (.c (.bool false))), none, []⟩, ⟨(some 17), (.mov (.t 16)), none, []⟩, ⟨(some 18), (.lea 2 (.t 2)), (some (17, true)), []⟩, ⟨(some 19), (.load none none
  (.t 18)), (some (17, true)), []⟩, ⟨(some 20), (.lea 2 (.t 3)), (some (17, true)), []⟩, ⟨(some 21), (.load none none (.t 20)), (some (17, true)), []⟩, ⟨(some 22), (.call (.c (.fn 56 [])) [(.t 19), (.t 21)]), (some (17, true)), []⟩, ⟨(some
  23), (.pick (.t 17) (.t 22) (.c (.bool false))), none, []⟩, ⟨(some 4), (.mov (.t 23)), none, []⟩]) .ret))⟩
theorem irOk24 : compFun Try.prog.underlying Try.prog.info? sq Try.f24 = some ir24 := by kernel_rfl
def ir25 : BFun := ⟨[(.cell 2 (some 3)), (.tmp 3)], (.seq (.region [⟨(some 1), (.box 34 (.t 0)), none, []⟩, ⟨(some 2), (.new 34 [(.int .i64 0), .nils, .nils]), none, []⟩, ⟨(some 3), (.mov (.c (.int .i64 0))), none, []⟩]) (.seq (.seq (.region
  [⟨(some 4), (.call (.c (.fn 48 [])) [(.t 1)]), none, []⟩, ⟨(some 5), (.not (.t 4)), none, []⟩]) (.cond (.t 5) (.seq (.region [⟨(some 6), (.build [(.int .i64 0), .nils, .nils] []), none, []⟩, ⟨none, (.store none 3 (.t 2) (.t 6)), none, []⟩,
  ⟨(some 3), (.mov (.c (.int .i64 1))), none, []⟩]) .ret) .skip)) (.seq (.region [⟨(some 7), (.call (.c (.fn 57 [])) [(.t 1)]), none, []⟩, ⟨none, (.store none 3 (.t 2) (.t 7)), none, []⟩, ⟨(some 3), (.mov (.c (.int .i64 0))), none, []⟩])
  .ret)))⟩
theorem irOk25 : compFun Try.prog.underlying Try.prog.info? sq Try.f25 = some ir25 := by kernel_rfl
def ir26 : BFun := ⟨[(.cell 2 (some 3)), (.tmp 3)], (.seq (.region [⟨(some 1), (.box 34 (.t 0)), none, []⟩, ⟨(some 2), (.new 34 [(.int .i64 0), .nils, .nils]), none, []⟩, ⟨(some 3), (.mov (.c (.int .i64 0))), none, []⟩]) (.seq (.seq (.region
  [⟨(some 4), (.load none (some 3) (.t 1)), none, []⟩, ⟨(some 5), (.call (.c (.fn 21 [])) [(.t 4)]), none, []⟩, ⟨(some 6), (.not (.t 5)), none, []⟩]) (.cond (.t 6) (.seq (.region [⟨(some 7), (.build [(.int .i64 0), .nils, .nils] []), none,
  []⟩, ⟨none, (.store none 3 (.t 2) (.t 7)), none, []⟩, ⟨(some 3), (.mov (.c (.int .i64 1))), none, []⟩]) .ret) .skip)) (.seq (.region [⟨(some 8), (.load none (some 3) (.t 1)), none, []⟩, ⟨(some 9), (.call (.c (.fn 58 [])) [(.t 8)]), none,
  []⟩, ⟨none, (.store none 3 (.t 2) (.t 9)), none, []⟩, ⟨(some 3), (.mov (.c (.int .i64 0))), none, []⟩]) .ret)))⟩
theorem irOk26 : compFun Try.prog.underlying Try.prog.info? sq Try.f26 = some ir26 := by kernel_rfl
def ir27 : BFun := ⟨[(.tmp 4)], (.seq (.region [⟨(some 2), (.box 34 (.t 0)), none, []⟩, ⟨(some 4), (.mov (.c (.int .i64 0))), none, []⟩]) (.seq (.region [⟨(some 5), (.lea 1 (.t 2)), none, []⟩, ⟨(some 6), (.load none none (.t 5)), none, []⟩,
  ⟨(some 7), (.mov (.t 1)), none, []⟩, ⟨(some 8), (.call (.c (.fn 59 [])) [(.t 6), (.t 7)]), none, []⟩, ⟨(some 1), (.mov (.t 8)), none, []⟩]) (.seq (.region [⟨(some 9), (.lea 2 (.t 2)), none, []⟩, ⟨(some 10), (.load none none (.t 9)), none,
  []⟩, ⟨(some 11), (.mov (.t 1)), none, []⟩, ⟨(some 12), (.call (.c (.fn 60 [])) [(.t 10), (.t 11)]), none, []⟩, ⟨(some 1), (.mov (.t 12)), none, []⟩]) (.seq (.region [⟨(some 13), (.mov (.t 1)), none, []⟩, ⟨(some 4), (.mov (.t 13)), none,
  []⟩]) .ret))))⟩
theorem irOk27 : compFun Try.prog.underlying Try.prog.info? sq Try.f27 = some ir27 := by kernel_rfl
def ir28 : BFun := ⟨[(.tmp 4)], (.seq (.region [⟨(some 2), (.box 34 (.t 0)), none, []⟩, ⟨(some 4), (.mov (.c (.int .i64 0))), none, []⟩]) (.seq (.region [⟨(some 5), (.lea 1 (.t 2)), none, []⟩, ⟨(some 6), (.load none none (.t 5)), none, []⟩,
  ⟨(some 7), (.mov (.t 1)), none, []⟩, ⟨(some 8), (.call (.c (.fn 61 [])) [(.t 6), (.t 7)]), none, []⟩, ⟨(some 1), (.mov (.t 8)), none, []⟩]) (.seq (.seq (.region [⟨(some 9), (.mov (.t 1)), none, []⟩, ⟨(some 10), (.bin .lss (.t 9) (.c (.int
  .i64 0))), none, []⟩]) (.cond (.t 10) (.seq (.region [⟨(some 4), (.mov (.c (.int .i64 (-1)))), none, []⟩]) .ret) .skip)) (.seq (.region [⟨(some 11), (.lea 2 (.t 2)), none, []⟩, ⟨(some 12), (.load none none (.t 11)), none, []⟩, ⟨(some 13),
  (.mov (.t 1)), none, []⟩, ⟨(some 14), (.call (.c (.fn 62 [])) [(.t 12), (.t 13)]), none, []⟩, ⟨(some 1), (.mov (.t 14)), none, []⟩]) (.seq (.seq (.region [⟨(some 15), (.mov (.t 1)), none, []⟩, ⟨(some 16), (.bin .lss (.t 15) (.c (.int .i64
  0))), none, []⟩]) (.cond (.t 16) (.seq (.region [⟨(some 4), (.mov (.c (.int .i64 (-1)))), none, []⟩]) .ret) .skip)) (.seq (.region [⟨(some 17), (.mov (.t 1)), none, []⟩, ⟨(some 4), (.mov (.t 17)), none, []⟩]) .ret))))))⟩
theorem irOk28 : compFun Try.prog.underlying Try.prog.info? sq Try.f28 = some ir28 := by kernel_rfl
def ir29 : BFun := ⟨[(.cell 4 (some 3)), (.tmp 5)], (.seq (.region [⟨(some 2), (.box 34 (.t 0)), none, []⟩, ⟨(some 3), (.box 34 (.t 1)), none, []⟩, ⟨(some 4), (.new 34 [(.int .i64 0), .nils, .nils]), none, []⟩, ⟨(some 5), (.mov (.c (.int
  .i64 0))), none, []⟩]) (.seq (.seq (.region [⟨(some 8), (.call (.c (.fn 48 [])) [(.t 2)]), none, []⟩, ⟨(some 9), (.not (.t 8)), none, []⟩, ⟨(some 10), (.mov (.t 9)), none, []⟩, ⟨(some 11), (.call (.c (.fn 48 [])) [(.t 3)]), (some (10,
  false)), []⟩, ⟨(some 12), (.not (.t 11)), (some (10, false)), []⟩, ⟨(some 13), (.pick (.t 10) (.c (.bool true)) (.t 12)), none, []⟩]) (.cond (.t 13) (.seq (.region [⟨(some 14), (.build [(.int .i64 0), .nils, .nils] []), none, []⟩, ⟨none,
  (.store none 3 (.t 4) (.t 14)), none, []⟩, ⟨(some 5), (.mov (.c (.int .i64 1))), none, []⟩]) .ret) .skip)) (.seq (.region [⟨(some 15), (.lea 1 (.t 2)), none, []⟩, ⟨(some 16), (.load none none (.t 15)), none, []⟩, ⟨(some 17), (.len 1 (.t
  16)), none, []⟩, ⟨(some 6), (.mov (.t 17)), none, []⟩]) (.seq (.region [⟨(some 19), (.lea 1 (.t 2)), none, []⟩, ⟨(some 20), (.load none none (.t 19)), none, []⟩, ⟨(some 22), (.lea 1 (.t 3)), none, []⟩, ⟨(some 23), (.load (some 34) none (.t
  22)), none, []⟩, ⟨(some 18), (.mk 4 1 [(.bool false)] [(0, (1, (.c (.bool false))))]), none, []⟩, ⟨(some 21), (.app 4 1 1 (.t 18) (.t 20)), none, []⟩, ⟨(some 24), (.app 4 1 1 (.t 21) (.t 23)), none, []⟩, ⟨(some 25), (.build [(.int .i64 0),
  .nils, .nils] [(1, (1, (.t 24)))]), none, []⟩, ⟨(some 7), (.new 34 [(.int .i64 0), .nils, .nils]), none, []⟩, ⟨none, (.store none 3 (.t 7) (.t 25)), none, []⟩]) (.seq (.region [⟨(some 26), (.lea 2 (.t 7)), none, []⟩, ⟨(some 27), (.load
  none none (.t 26)), none, []⟩, ⟨(some 28), (.lea 0 (.t 2)), none, []⟩, ⟨(some 29), (.load none none (.t 28)), none, []⟩, ⟨(some 30), (.bin .add (.t 29) (.c (.int .i64 1))), none, []⟩, ⟨(some 31), (.build [(.int .i64 0), (.int .i64 0),
  (.str ⟨#[]⟩), (.str ⟨#[]⟩)] [(1, (1, (.t 30)))]), none, []⟩, ⟨(some 32), (.lea 0 (.t 3)), none, []⟩, ⟨(some 33), (.load none none (.t 32)), none, []⟩, ⟨(some 34), (.mov (.t 6)), none, []⟩, ⟨(some 35), (.bin .add (.t 33) (.t 34)), none,
  []⟩, ⟨(some 36), (.bin .add (.t 35) (.c (.int .i64 1))), none, []⟩, ⟨(some 37), (.build [(.int .i64 0), (.int .i64 0), (.str ⟨#[]⟩), (.str ⟨#[]⟩)] [(1, (1, (.t 36)))]), none, []⟩, ⟨(some 38), (.mk 54 2 [(.int .i64 0), (.int .i64 0), (.str
  ⟨#[]⟩), (.str ⟨#[]⟩), (.int .i64 0), (.int .i64 0), (.str ⟨#[]⟩), (.str ⟨#[]⟩)] [(0, (4, (.t 31))), (4, (4, (.t 37)))]), none, []⟩, ⟨(some 39), (.app 54 4 48 (.t 27) (.t 38)), none, []⟩, ⟨(some 40), (.lea 2 (.t 7)), none, []⟩, ⟨none,
  (.store none 1 (.t 40) (.t 39)), none, []⟩]) (.seq (.region [⟨(some 41), (.call (.c (.fn 63 [])) [(.t 7), (.t 2), (.c (.int .i64 1))]), none, []⟩]) (.seq (.region [⟨(some 42), (.mov (.t 6)), none, []⟩, ⟨(some 43), (.bin .add (.t 42) (.c
  (.int .i64 1))), none, []⟩, ⟨(some 44), (.call (.c (.fn 63 [])) [(.t 7), (.t 3), (.t 43)]), none, []⟩]) (.seq (.region [⟨(some 45), (.load none (some 3) (.t 7)), none, []⟩, ⟨(some 46), (.call (.c (.fn 64 [])) [(.t 45)]), none, []⟩, ⟨(some
  47), (.ext 0 (.t 46)), none, []⟩, ⟨(some 48), (.ext 1 (.t 46)), none, []⟩, ⟨none, (.store none 3 (.t 4) (.t 47)), none, []⟩, ⟨(some 5), (.mov (.t 48)), none, []⟩]) .ret))))))))⟩
theorem irOk29 : compFun Try.prog.underlying Try.prog.info? sq Try.f29 = some ir29 := by kernel_rfl
def ir30 : BFun := ⟨[(.cell 4 (some 3)), (.tmp 5)], (.seq (.region [⟨(some 2), (.box 34 (.t 0)), none, []⟩, ⟨(some 3), (.box 34 (.t 1)), none, []⟩, ⟨(some 4), (.new 34 [(.int .i64 0), .nils, .nils]), none, []⟩, ⟨(some 5), (.mov (.c (.int
  .i64 0))), none, []⟩]) (.seq (.seq (.region [⟨(some 8), (.load none (some 3) (.t 2)), none, []⟩, ⟨(some 9), (.call (.c (.fn 21 [])) [(.t 8)]), none, []⟩, ⟨(some 10), (.not (.t 9)), none, []⟩, ⟨(some 11), (.mov (.t 10)), none, []⟩, ⟨(some
  12), (.load none (some 3) (.t 3)), (some (11, false)), []⟩, ⟨(some 13), (.call (.c (.fn 21 [])) [(.t 12)]), (some (11, false)), []⟩, ⟨(some 14), (.not (.t 13)), (some (11, false)), []⟩, ⟨(some 15), (.pick (.t 11) (.c (.bool true)) (.t
  14)), none, []⟩]) (.cond (.t 15) (.seq (.region [⟨(some 16), (.build [(.int .i64 0), .nils, .nils] []), none, []⟩, ⟨none, (.store none 3 (.t 4) (.t 16)), none, []⟩, ⟨(some 5), (.mov (.c (.int .i64 1))), none, []⟩]) .ret) .skip)) (.seq
  (.region [⟨(some 17), (.load none (some 3) (.t 2)), none, []⟩, ⟨(some 18), (.call (.c (.fn 65 [])) [(.t 17)]), none, []⟩, ⟨(some 19), (.bin .add (.c (.int .i64 1)) (.t 18)), none, []⟩, ⟨(some 6), (.mov (.t 19)), none, []⟩]) (.seq (.region
  [⟨(some 21), (.lea 1 (.t 2)), none, []⟩, ⟨(some 22), (.load none none (.t 21)), none, []⟩, ⟨(some 24), (.lea 1 (.t 3)), none, []⟩, ⟨(some 25), (.load (some 34) none (.t 24)), none, []⟩, ⟨(some 20), (.mk 4 1 [(.bool false)] [(0, (1, (.c
  (.bool false))))]), none, []⟩, ⟨(some 23), (.app 4 1 1 (.t 20) (.t 22)), none, []⟩, ⟨(some 26), (.app 4 1 1 (.t 23) (.t 25)), none, []⟩, ⟨(some 27), (.build [(.int .i64 0), .nils, .nils] [(1, (1, (.t 26)))]), none, []⟩, ⟨(some 7), (.new 34
  [(.int .i64 0), .nils, .nils]), none, []⟩, ⟨none, (.store none 3 (.t 7) (.t 27)), none, []⟩]) (.seq (.region [⟨(some 28), (.lea 2 (.t 7)), none, []⟩, ⟨(some 29), (.load none none (.t 28)), none, []⟩, ⟨(some 30), (.lea 0 (.t 2)), none, []⟩,
  ⟨(some 31), (.load none none (.t 30)), none, []⟩, ⟨(some 32), (.bin .add (.c (.int .i64 1)) (.t 31)), none, []⟩, ⟨(some 33), (.build [(.int .i64 0), (.int .i64 0), (.str ⟨#[]⟩), (.str ⟨#[]⟩)] [(1, (1, (.t 32)))]), none, []⟩, ⟨(some 34),
  (.mov (.t 6)), none, []⟩, ⟨(some 35), (.lea 0 (.t 3)), none, []⟩, ⟨(some 36), (.load none none (.t 35)), none, []⟩, ⟨(some 37), (.bin .add (.t 34) (.t 36)), none, []⟩, ⟨(some 38), (.build [(.int .i64 0), (.int .i64 0), (.str ⟨#[]⟩), (.str
  ⟨#[]⟩)] [(1, (1, (.t 37)))]), none, []⟩, ⟨(some 39), (.mk 54 2 [(.int .i64 0), (.int .i64 0), (.str ⟨#[]⟩), (.str ⟨#[]⟩), (.int .i64 0), (.int .i64 0), (.str ⟨#[]⟩), (.str ⟨#[]⟩)] [(0, (4, (.t 33))), (4, (4, (.t 38)))]), none, []⟩, ⟨(some
  40), (.app 54 4 48 (.t 29) (.t 39)), none, []⟩, ⟨(some 41), (.lea 2 (.t 7)), none, []⟩, ⟨none, (.store none 1 (.t 41) (.t 40)), none, []⟩]) (.seq (.region [⟨(some 42), (.lea 2 (.t 7)), none, []⟩, ⟨(some 43), (.load (some 34) none (.t 42)),
  none, []⟩, ⟨(some 44), (.lea 2 (.t 2)), none, []⟩, ⟨(some 45), (.load none none (.t 44)), none, []⟩, ⟨(some 48), (.lea 2 (.t 3)), none, []⟩, ⟨(some 49), (.load (some 34) none (.t 48)), none, []⟩, ⟨(some 50), (.mov (.t 6)), none, []⟩,
  ⟨(some 46), (.call (.c (.fn 66 [])) [(.t 45), (.c (.int .i64 1))]), none, [34]⟩, ⟨(some 47), (.app 54 4 48 (.t 43) (.t 46)), none, []⟩, ⟨(some 51), (.call (.c (.fn 66 [])) [(.t 49), (.t 50)]), none, []⟩, ⟨(some 52), (.app 54 4 48 (.t 47)
  (.t 51)), none, []⟩, ⟨(some 53), (.lea 2 (.t 7)), none, []⟩, ⟨none, (.store none 1 (.t 53) (.t 52)), none, []⟩]) (.seq (.region [⟨(some 54), (.load none (some 3) (.t 7)), none, []⟩, ⟨(some 55), (.call (.c (.fn 67 [])) [(.t 54)]), none,
  []⟩, ⟨(some 56), (.ext 0 (.t 55)), none, []⟩, ⟨(some 57), (.ext 1 (.t 55)), none, []⟩, ⟨none, (.store none 3 (.t 4) (.t 56)), none, []⟩, ⟨(some 5), (.mov (.t 57)), none, []⟩]) .ret)))))))⟩
theorem irOk30 : compFun Try.prog.underlying Try.prog.info? sq Try.f30 = some ir30 := by kernel_rfl
def ir31 : BFun := ⟨[(.cell 2 (some 3)), (.tmp 3)], (.seq (.region [⟨(some 1), (.box 34 (.t 0)), none, []⟩, ⟨(some 2), (.new 34 [(.int .i64 0), .nils, .nils]), none, []⟩, ⟨(some 3), (.mov (.c (.int .i64 0))), none, []⟩]) (.seq (.seq (.region
  [⟨(some 6), (.call (.c (.fn 48 [])) [(.t 1)]), none, []⟩, ⟨(some 7), (.not (.t 6)), none, []⟩]) (.cond (.t 7) (.seq (.region [⟨(some 8), (.build [(.int .i64 0), .nils, .nils] []), none, []⟩, ⟨none, (.store none 3 (.t 2) (.t 8)), none, []⟩,
  ⟨(some 3), (.mov (.c (.int .i64 1))), none, []⟩]) .ret) .skip)) (.seq (.region [⟨(some 9), (.mk 4 1 [(.bool false)] [(0, (1, (.c (.bool true))))]), none, []⟩, ⟨(some 10), (.lea 1 (.t 1)), none, []⟩, ⟨(some 11), (.load none none (.t 10)),
  none, []⟩, ⟨(some 12), (.app 4 1 1 (.t 9) (.t 11)), none, []⟩, ⟨(some 13), (.build [(.int .i64 0), .nils, .nils] [(1, (1, (.t 12)))]), none, []⟩, ⟨(some 4), (.new 34 [(.int .i64 0), .nils, .nils]), none, []⟩, ⟨none, (.store none 3 (.t 4)
  (.t 13)), none, []⟩]) (.seq (.region [⟨(some 14), (.lea 2 (.t 4)), none, []⟩, ⟨(some 15), (.load none none (.t 14)), none, []⟩, ⟨(some 16), (.lea 0 (.t 1)), none, []⟩, ⟨(some 17), (.load none none (.t 16)), none, []⟩, ⟨(some 18), (.bin
  .add (.t 17) (.c (.int .i64 1))), none, []⟩, ⟨(some 19), (.build [(.int .i64 0), (.int .i64 0), (.str ⟨#[]⟩), (.str ⟨#[]⟩)] [(1, (1, (.t 18)))]), none, []⟩, ⟨(some 20), (.mk 54 1 [(.int .i64 0), (.int .i64 0), (.str ⟨#[]⟩), (.str ⟨#[]⟩)]
  [(0, (4, (.t 19)))]), none, []⟩, ⟨(some 21), (.app 54 4 48 (.t 15) (.t 20)), none, []⟩, ⟨(some 22), (.lea 2 (.t 4)), none, []⟩, ⟨none, (.store none 1 (.t 22) (.t 21)), none, []⟩]) (.seq (.region [⟨(some 23), (.call (.c (.fn 63 [])) [(.t
  4), (.t 1), (.c (.int .i64 1))]), none, []⟩]) (.seq (.seq (.region [⟨(some 5), (.mov (.c (.int .i64 0))), none, []⟩]) (.block 0 (.loop (.seq (.seq (.region [⟨(some 24), (.mov (.t 5)), none, []⟩, ⟨(some 25), (.lea 1 (.t 1)), none, []⟩,
  ⟨(some 26), (.load none none (.t 25)), none, []⟩, ⟨(some 27), (.len 1 (.t 26)), none, []⟩, ⟨(some 28), (.bin .lss (.t 24) (.t 27)), none, []⟩]) (.cond (.t 28) .skip (.exit 0))) (.seq (.block 1 (.seq (.region [⟨(some 31), (.lea 1 (.t 1)),
  none, []⟩, ⟨(some 32), (.load none none (.t 31)), none, []⟩, ⟨(some 33), (.mov (.t 5)), none, []⟩, ⟨(some 34), (.idx 1 (.t 32) (.t 33)), none, []⟩, ⟨(some 35), (.load none none (.t 34)), none, []⟩]) (.cond (.t 35) (.region [⟨(some 36),
  (.lea 2 (.t 4)), none, []⟩, ⟨(some 37), (.load none none (.t 36)), none, []⟩, ⟨(some 38), (.mov (.t 5)), none, []⟩, ⟨(some 39), (.bin .add (.t 38) (.c (.int .i64 1))), none, []⟩, ⟨(some 40), (.build [(.int .i64 0), (.int .i64 0), (.str
  ⟨#[]⟩), (.str ⟨#[]⟩)] [(0, (1, (.t 39)))]), none, []⟩, ⟨(some 41), (.mk 54 1 [(.int .i64 0), (.int .i64 0), (.str ⟨#[]⟩), (.str ⟨#[]⟩)] [(0, (4, (.t 40)))]), none, []⟩, ⟨(some 42), (.app 54 4 48 (.t 37) (.t 41)), none, []⟩, ⟨(some 43),
  (.lea 2 (.t 4)), none, []⟩, ⟨none, (.store none 1 (.t 43) (.t 42)), none, []⟩]) .skip))) (.region [⟨(some 29), (.mov (.t 5)), none, []⟩, ⟨(some 30), (.bin .add (.t 29) (.c (.int .i64 1))), none, []⟩, ⟨(some 5), (.mov (.t 30)), none,
  []⟩])))))) (.seq (.region [⟨(some 44), (.load none (some 3) (.t 4)), none, []⟩, ⟨(some 45), (.call (.c (.fn 64 [])) [(.t 44)]), none, []⟩, ⟨(some 46), (.ext 0 (.t 45)), none, []⟩, ⟨(some 47), (.ext 1 (.t 45)), none, []⟩, ⟨none, (.store
  none 3 (.t 2) (.t 46)), none, []⟩, ⟨(some 3), (.mov (.t 47)), none, []⟩]) .ret)))))))⟩
theorem irOk31 : compFun Try.prog.underlying Try.prog.info? sq Try.f31 = some ir31 := by kernel_rfl
def ir32 : BFun := ⟨[(.cell 2 (some 3)), (.tmp 3)], (.seq (.region [⟨(some 1), (.box 34 (.t 0)), none, []⟩, ⟨(some 2), (.new 34 [(.int .i64 0), .nils, .nils]), none, []⟩, ⟨(some 3), (.mov (.c (.int .i64 0))), none, []⟩]) (.seq (.seq (.region
  [⟨(some 7), (.load none (some 3) (.t 1)), none, []⟩, ⟨(some 8), (.call (.c (.fn 21 [])) [(.t 7)]), none, []⟩, ⟨(some 9), (.not (.t 8)), none, []⟩]) (.cond (.t 9) (.seq (.region [⟨(some 10), (.build [(.int .i64 0), .nils, .nils] []), none,
  []⟩, ⟨none, (.store none 3 (.t 2) (.t 10)), none, []⟩, ⟨(some 3), (.mov (.c (.int .i64 1))), none, []⟩]) .ret) .skip)) (.seq (.region [⟨(some 12), (.lea 1 (.t 1)), none, []⟩, ⟨(some 13), (.load none none (.t 12)), none, []⟩, ⟨(some 15),
  (.lea 0 (.t 1)), none, []⟩, ⟨(some 16), (.load (some 34) none (.t 15)), none, []⟩, ⟨(some 17), (.bin .add (.c (.int .i64 1)) (.t 16)), none, []⟩, ⟨(some 18), (.build [(.int .i64 0), (.int .i64 0), (.str ⟨#[]⟩), (.str ⟨#[]⟩)] [(1, (1, (.t
  17)))]), none, []⟩, ⟨(some 20), (.lea 2 (.t 1)), none, []⟩, ⟨(some 21), (.load (some 34) none (.t 20)), none, []⟩, ⟨(some 11), (.mk 4 1 [(.bool false)] [(0, (1, (.c (.bool true))))]), none, []⟩, ⟨(some 14), (.app 4 1 1 (.t 11) (.t 13)),
  none, []⟩, ⟨(some 22), (.call (.c (.fn 66 [])) [(.t 21), (.c (.int .i64 1))]), none, [34]⟩, ⟨(some 19), (.mk 54 1 [(.int .i64 0), (.int .i64 0), (.str ⟨#[]⟩), (.str ⟨#[]⟩)] [(0, (4, (.t 18)))]), none, []⟩, ⟨(some 23), (.app 54 4 48 (.t 19)
  (.t 22)), none, []⟩, ⟨(some 24), (.build [(.int .i64 0), .nils, .nils] [(1, (1, (.t 14))), (2, (1, (.t 23)))]), none, []⟩, ⟨(some 4), (.new 34 [(.int .i64 0), .nils, .nils]), none, []⟩, ⟨none, (.store none 3 (.t 4) (.t 24)), none, []⟩])
  (.seq (.seq (.region [⟨(some 25), (.lea 1 (.t 1)), none, []⟩, ⟨(some 26), (.load none none (.t 25)), none, []⟩, ⟨(some 27), (.len 1 (.t 26)), none, []⟩, ⟨(some 28), (.mov (.c (.int .i64 0))), none, []⟩]) (.block 0 (.loop (.seq (.region
  [⟨(some 29), (.bin .lss (.t 28) (.t 27)), none, []⟩]) (.seq (.cond (.t 29) .skip (.exit 0)) (.seq (.block 1 (.seq (.region [⟨(some 30), (.mov (.t 28)), none, []⟩, ⟨(some 31), (.idx 1 (.t 26) (.t 28)), none, []⟩, ⟨(some 32), (.load none
  none (.t 31)), none, []⟩, ⟨(some 5), (.mov (.t 30)), none, []⟩, ⟨(some 6), (.mov (.t 32)), none, []⟩]) (.seq (.region [⟨(some 33), (.mov (.t 6)), none, []⟩]) (.cond (.t 33) (.region [⟨(some 34), (.lea 2 (.t 4)), none, []⟩, ⟨(some 35),
  (.load none none (.t 34)), none, []⟩, ⟨(some 36), (.mov (.t 5)), none, []⟩, ⟨(some 37), (.bin .add (.t 36) (.c (.int .i64 1))), none, []⟩, ⟨(some 38), (.build [(.int .i64 0), (.int .i64 0), (.str ⟨#[]⟩), (.str ⟨#[]⟩)] [(0, (1, (.t 37)))]),
  none, []⟩, ⟨(some 39), (.mk 54 1 [(.int .i64 0), (.int .i64 0), (.str ⟨#[]⟩), (.str ⟨#[]⟩)] [(0, (4, (.t 38)))]), none, []⟩, ⟨(some 40), (.app 54 4 48 (.t 35) (.t 39)), none, []⟩, ⟨(some 41), (.lea 2 (.t 4)), none, []⟩, ⟨none, (.store none
  1 (.t 41) (.t 40)), none, []⟩]) .skip)))) (.region [⟨(some 42), (.bin .add (.t 28) (.c (.int .i64 1))), none, []⟩, ⟨(some 28), (.mov (.t 42)), none, []⟩]))))))) (.seq (.region [⟨(some 43), (.load none (some 3) (.t 4)), none, []⟩, ⟨(some
  44), (.call (.c (.fn 67 [])) [(.t 43)]), none, []⟩, ⟨(some 45), (.ext 0 (.t 44)), none, []⟩, ⟨(some 46), (.ext 1 (.t 44)), none, []⟩, ⟨none, (.store none 3 (.t 2) (.t 45)), none, []⟩, ⟨(some 3), (.mov (.t 46)), none, []⟩]) .ret)))))⟩
theorem irOk32 : compFun Try.prog.underlying Try.prog.info? sq Try.f32 = some ir32 := by kernel_rfl
def ir33 : BFun := ⟨[(.cell 4 (some 3)), (.tmp 5)], (.seq (.region [⟨(some 2), (.box 34 (.t 0)), none, []⟩, ⟨(some 3), (.box 34 (.t 1)), none, []⟩, ⟨(some 4), (.new 34 [(.int .i64 0), .nils, .nils]), none, []⟩, ⟨(some 5), (.mov (.c (.int
  .i64 0))), none, []⟩]) (.seq (.seq (.region [⟨(some 9), (.call (.c (.fn 48 [])) [(.t 2)]), none, []⟩, ⟨(some 10), (.not (.t 9)), none, []⟩, ⟨(some 11), (.mov (.t 10)), none, []⟩, ⟨(some 12), (.call (.c (.fn 48 [])) [(.t 3)]), (some (11,
  false)), []⟩, ⟨(some 13), (.not (.t 12)), (some (11, false)), []⟩, ⟨(some 14), (.pick (.t 11) (.c (.bool true)) (.t 13)), none, []⟩]) (.cond (.t 14) (.seq (.region [⟨(some 15), (.build [(.int .i64 0), .nils, .nils] []), none, []⟩, ⟨none,
  (.store none 3 (.t 4) (.t 15)), none, []⟩, ⟨(some 5), (.mov (.c (.int .i64 1))), none, []⟩]) .ret) .skip)) (.seq (.region [⟨(some 16), (.lea 1 (.t 2)), none, []⟩, ⟨(some 17), (.load none none (.t 16)), none, []⟩, ⟨(some 18), (.len 1 (.t
  17)), none, []⟩, ⟨(some 6), (.mov (.t 18)), none, []⟩]) (.seq (.region [⟨(some 19), (.lea 0 (.t 2)), none, []⟩, ⟨(some 20), (.load (some 34) none (.t 19)), none, []⟩, ⟨(some 21), (.mov (.t 6)), none, []⟩, ⟨(some 23), (.lea 1 (.t 3)), none,
  []⟩, ⟨(some 24), (.load none none (.t 23)), none, []⟩, ⟨(some 22), (.mksl 4 1 [(.bool false)] (.t 21) (.t 21)), none, []⟩, ⟨(some 25), (.app 4 1 1 (.t 22) (.t 24)), none, []⟩, ⟨(some 26), (.build [(.int .i64 0), .nils, .nils] [(0, (1, (.t
  20))), (1, (1, (.t 25)))]), none, []⟩, ⟨(some 7), (.new 34 [(.int .i64 0), .nils, .nils]), none, []⟩, ⟨none, (.store none 3 (.t 7) (.t 26)), none, []⟩]) (.seq (.region [⟨(some 27), (.call (.c (.fn 63 [])) [(.t 7), (.t 2), (.c (.int .i64
  0))]), none, []⟩]) (.seq (.seq (.region [⟨(some 8), (.mov (.c (.int .i64 0))), none, []⟩]) (.block 0 (.loop (.seq (.seq (.region [⟨(some 28), (.mov (.t 8)), none, []⟩, ⟨(some 29), (.mov (.t 6)), none, []⟩, ⟨(some 30), (.bin .lss (.t 28)
  (.t 29)), none, []⟩]) (.cond (.t 30) .skip (.exit 0))) (.seq (.block 1 (.seq (.region [⟨(some 33), (.lea 1 (.t 2)), none, []⟩, ⟨(some 34), (.load none none (.t 33)), none, []⟩, ⟨(some 35), (.mov (.t 8)), none, []⟩, ⟨(some 36), (.idx 1 (.t
  34) (.t 35)), none, []⟩, ⟨(some 37), (.load none none (.t 36)), none, []⟩]) (.cond (.t 37) (.region [⟨(some 38), (.lea 2 (.t 7)), none, []⟩, ⟨(some 39), (.load none none (.t 38)), none, []⟩, ⟨(some 40), (.mov (.t 8)), none, []⟩, ⟨(some
  41), (.lea 0 (.t 3)), none, []⟩, ⟨(some 42), (.load none none (.t 41)), none, []⟩, ⟨(some 43), (.mov (.t 6)), none, []⟩, ⟨(some 44), (.bin .add (.t 42) (.t 43)), none, []⟩, ⟨(some 45), (.build [(.int .i64 0), (.int .i64 0), (.str ⟨#[]⟩),
  (.str ⟨#[]⟩)] [(0, (1, (.t 40))), (1, (1, (.t 44)))]), none, []⟩, ⟨(some 46), (.mk 54 1 [(.int .i64 0), (.int .i64 0), (.str ⟨#[]⟩), (.str ⟨#[]⟩)] [(0, (4, (.t 45)))]), none, []⟩, ⟨(some 47), (.app 54 4 48 (.t 39) (.t 46)), none, []⟩,
  ⟨(some 48), (.lea 2 (.t 7)), none, []⟩, ⟨none, (.store none 1 (.t 48) (.t 47)), none, []⟩]) .skip))) (.region [⟨(some 31), (.mov (.t 8)), none, []⟩, ⟨(some 32), (.bin .add (.t 31) (.c (.int .i64 1))), none, []⟩, ⟨(some 8), (.mov (.t 32)),
  none, []⟩])))))) (.seq (.region [⟨(some 49), (.mov (.t 6)), none, []⟩, ⟨(some 50), (.call (.c (.fn 63 [])) [(.t 7), (.t 3), (.t 49)]), none, []⟩]) (.seq (.region [⟨(some 51), (.load none (some 3) (.t 7)), none, []⟩, ⟨(some 52), (.call (.c
  (.fn 64 [])) [(.t 51)]), none, []⟩, ⟨(some 53), (.ext 0 (.t 52)), none, []⟩, ⟨(some 54), (.ext 1 (.t 52)), none, []⟩, ⟨none, (.store none 3 (.t 4) (.t 53)), none, []⟩, ⟨(some 5), (.mov (.t 54)), none, []⟩]) .ret))))))))⟩
theorem irOk33 : compFun Try.prog.underlying Try.prog.info? sq Try.f33 = some ir33 := by kernel_rfl
def ir34 : BFun := ⟨[(.cell 4 (some 3)), (.tmp 5)], (.seq (.region [⟨(some 2), (.box 34 (.t 0)), none, []⟩, ⟨(some 3), (.box 34 (.t 1)), none, []⟩, ⟨(some 4), (.new 34 [(.int .i64 0), .nils, .nils]), none, []⟩, ⟨(some 5), (.mov (.c (.int
  .i64 0))), none, []⟩]) (.seq (.seq (.region [⟨(some 10), (.load none (some 3) (.t 2)), none, []⟩, ⟨(some 11), (.call (.c (.fn 21 [])) [(.t 10)]), none, []⟩, ⟨(some 12), (.not (.t 11)), none, []⟩, ⟨(some 13), (.mov (.t 12)), none, []⟩,
  ⟨(some 14), (.load none (some 3) (.t 3)), (some (13, false)), []⟩, ⟨(some 15), (.call (.c (.fn 21 [])) [(.t 14)]), (some (13, false)), []⟩, ⟨(some 16), (.not (.t 15)), (some (13, false)), []⟩, ⟨(some 17), (.pick (.t 13) (.c (.bool true))
  (.t 16)), none, []⟩]) (.cond (.t 17) (.seq (.region [⟨(some 18), (.build [(.int .i64 0), .nils, .nils] []), none, []⟩, ⟨none, (.store none 3 (.t 4) (.t 18)), none, []⟩, ⟨(some 5), (.mov (.c (.int .i64 1))), none, []⟩]) .ret) .skip)) (.seq
  (.region [⟨(some 19), (.load none (some 3) (.t 2)), none, []⟩, ⟨(some 20), (.call (.c (.fn 65 [])) [(.t 19)]), none, []⟩, ⟨(some 6), (.mov (.t 20)), none, []⟩]) (.seq (.region [⟨(some 21), (.lea 0 (.t 2)), none, []⟩, ⟨(some 22), (.load
  (some 34) none (.t 21)), none, []⟩, ⟨(some 23), (.mov (.t 6)), none, []⟩, ⟨(some 25), (.lea 1 (.t 3)), none, []⟩, ⟨(some 26), (.load none none (.t 25)), none, []⟩, ⟨(some 28), (.lea 2 (.t 2)), none, []⟩, ⟨(some 29), (.load (some 34) none
  (.t 28)), none, []⟩, ⟨(some 24), (.mksl 4 1 [(.bool false)] (.t 23) (.t 23)), none, []⟩, ⟨(some 27), (.app 4 1 1 (.t 24) (.t 26)), none, []⟩, ⟨(some 30), (.call (.c (.fn 68 [])) [(.t 29)]), none, [34]⟩, ⟨(some 31), (.build [(.int .i64 0),
  .nils, .nils] [(0, (1, (.t 22))), (1, (1, (.t 27))), (2, (1, (.t 30)))]), none, []⟩, ⟨(some 7), (.new 34 [(.int .i64 0), .nils, .nils]), none, []⟩, ⟨none, (.store none 3 (.t 7) (.t 31)), none, []⟩]) (.seq (.seq (.region [⟨(some 32), (.lea
  1 (.t 2)), none, []⟩, ⟨(some 33), (.load none none (.t 32)), none, []⟩, ⟨(some 34), (.len 1 (.t 33)), none, []⟩, ⟨(some 35), (.mov (.c (.int .i64 0))), none, []⟩]) (.block 0 (.loop (.seq (.region [⟨(some 36), (.bin .lss (.t 35) (.t 34)),
  none, []⟩]) (.seq (.cond (.t 36) .skip (.exit 0)) (.seq (.block 1 (.seq (.region [⟨(some 37), (.mov (.t 35)), none, []⟩, ⟨(some 38), (.idx 1 (.t 33) (.t 35)), none, []⟩, ⟨(some 39), (.load none none (.t 38)), none, []⟩, ⟨(some 8), (.mov
  (.t 37)), none, []⟩, ⟨(some 9), (.mov (.t 39)), none, []⟩]) (.seq (.region [⟨(some 40), (.mov (.t 9)), none, []⟩]) (.cond (.t 40) (.region [⟨(some 41), (.lea 2 (.t 7)), none, []⟩, ⟨(some 42), (.load none none (.t 41)), none, []⟩, ⟨(some
  43), (.mov (.t 8)), none, []⟩, ⟨(some 44), (.mov (.t 6)), none, []⟩, ⟨(some 45), (.lea 0 (.t 3)), none, []⟩, ⟨(some 46), (.load none none (.t 45)), none, []⟩, ⟨(some 47), (.bin .add (.t 44) (.t 46)), none, []⟩, ⟨(some 48), (.build [(.int
  .i64 0), (.int .i64 0), (.str ⟨#[]⟩), (.str ⟨#[]⟩)] [(0, (1, (.t 43))), (1, (1, (.t 47)))]), none, []⟩, ⟨(some 49), (.mk 54 1 [(.int .i64 0), (.int .i64 0), (.str ⟨#[]⟩), (.str ⟨#[]⟩)] [(0, (4, (.t 48)))]), none, []⟩, ⟨(some 50), (.app 54
  4 48 (.t 42) (.t 49)), none, []⟩, ⟨(some 51), (.lea 2 (.t 7)), none, []⟩, ⟨none, (.store none 1 (.t 51) (.t 50)), none, []⟩]) .skip)))) (.region [⟨(some 52), (.bin .add (.t 35) (.c (.int .i64 1))), none, []⟩, ⟨(some 35), (.mov (.t 52)),
  none, []⟩]))))))) (.seq (.region [⟨(some 53), (.lea 2 (.t 7)), none, []⟩, ⟨(some 54), (.load (some 34) none (.t 53)), none, []⟩, ⟨(some 55), (.lea 2 (.t 3)), none, []⟩, ⟨(some 56), (.load none none (.t 55)), none, []⟩, ⟨(some 57), (.mov
  (.t 6)), none, []⟩, ⟨(some 58), (.call (.c (.fn 66 [])) [(.t 56), (.t 57)]), none, [34]⟩, ⟨(some 59), (.app 54 4 48 (.t 54) (.t 58)), none, []⟩, ⟨(some 60), (.lea 2 (.t 7)), none, []⟩, ⟨none, (.store none 1 (.t 60) (.t 59)), none, []⟩])
  (.seq (.region [⟨(some 61), (.load none (some 3) (.t 7)), none, []⟩, ⟨(some 62), (.call (.c (.fn 67 [])) [(.t 61)]), none, []⟩, ⟨(some 63), (.ext 0 (.t 62)), none, []⟩, ⟨(some 64), (.ext 1 (.t 62)), none, []⟩, ⟨none, (.store none 3 (.t 4)
  (.t 63)), none, []⟩, ⟨(some 5), (.mov (.t 64)), none, []⟩]) .ret)))))))⟩
theorem irOk34 : compFun Try.prog.underlying Try.prog.info? sq Try.f34 = some ir34 := by kernel_rfl
def ir35 : BFun := ⟨[(.tmp 2), (.tmp 3)], (.seq (.region [⟨(some 1), (.box 34 (.t 0)), none, []⟩, ⟨(some 2), (.mov (.c (.bool false))), none, []⟩, ⟨(some 3), (.mov (.c (.int .i64 0))), none, []⟩]) (.seq (.seq (.region [⟨(some 5), (.call (.c
  (.fn 48 [])) [(.t 1)]), none, []⟩, ⟨(some 6), (.not (.t 5)), none, []⟩]) (.cond (.t 6) (.seq (.region [⟨(some 2), (.mov (.c (.bool false))), none, []⟩, ⟨(some 3), (.mov (.c (.int .i64 1))), none, []⟩]) .ret) .skip)) (.seq (.region [⟨(some
  7), (.call (.c (.fn 69 [])) [(.t 1)]), none, []⟩, ⟨(some 4), (.new 34 [(.int .i64 0), .nils, .nils]), none, []⟩, ⟨none, (.store none 3 (.t 4) (.t 7)), none, []⟩]) (.seq (.region [⟨(some 8), (.call (.c (.fn 70 [])) [(.t 4)]), none, []⟩,
  ⟨(some 2), (.mov (.t 8)), none, []⟩, ⟨(some 3), (.mov (.c (.int .i64 0))), none, []⟩]) .ret))))⟩
theorem irOk35 : compFun Try.prog.underlying Try.prog.info? sq Try.f35 = some ir35 := by kernel_rfl
def ir36 : BFun := ⟨[(.tmp 2), (.tmp 3)], (.seq (.region [⟨(some 1), (.box 34 (.t 0)), none, []⟩, ⟨(some 2), (.mov (.c (.bool false))), none, []⟩, ⟨(some 3), (.mov (.c (.int .i64 0))), none, []⟩]) (.seq (.seq (.region [⟨(some 4), (.load none
  (some 3) (.t 1)), none, []⟩, ⟨(some 5), (.call (.c (.fn 21 [])) [(.t 4)]), none, []⟩, ⟨(some 6), (.not (.t 5)), none, []⟩]) (.cond (.t 6) (.seq (.region [⟨(some 2), (.mov (.c (.bool false))), none, []⟩, ⟨(some 3), (.mov (.c (.int .i64
  1))), none, []⟩]) .ret) .skip)) (.seq (.region [⟨(some 7), (.load none (some 3) (.t 1)), none, []⟩, ⟨(some 8), (.call (.c (.fn 71 [])) [(.t 7)]), none, []⟩, ⟨(some 9), (.call (.c (.fn 72 [])) [(.t 8)]), none, []⟩, ⟨(some 2), (.mov (.t 9)),
  none, []⟩, ⟨(some 3), (.mov (.c (.int .i64 0))), none, []⟩]) .ret)))⟩
theorem irOk36 : compFun Try.prog.underlying Try.prog.info? sq Try.f36 = some ir36 := by kernel_rfl
def ir37 : BFun := ⟨[(.cell 2 (some 3)), (.tmp 3)], (.seq (.region [⟨(some 1), (.box 34 (.t 0)), none, []⟩, ⟨(some 2), (.new 34 [(.int .i64 0), .nils, .nils]), none, []⟩, ⟨(some 3), (.mov (.c (.int .i64 0))), none, []⟩]) (.seq (.seq (.region
  [⟨(some 4), (.call (.c (.fn 48 [])) [(.t 1)]), none, []⟩, ⟨(some 5), (.not (.t 4)), none, []⟩]) (.cond (.t 5) (.seq (.region [⟨(some 6), (.build [(.int .i64 0), .nils, .nils] []), none, []⟩, ⟨none, (.store none 3 (.t 2) (.t 6)), none, []⟩,
  ⟨(some 3), (.mov (.c (.int .i64 1))), none, []⟩]) .ret) .skip)) (.seq (.region [⟨(some 7), (.call (.c (.fn 69 [])) [(.t 1)]), none, []⟩, ⟨none, (.store none 3 (.t 2) (.t 7)), none, []⟩, ⟨(some 3), (.mov (.c (.int .i64 0))), none, []⟩])
  .ret)))⟩
theorem irOk37 : compFun Try.prog.underlying Try.prog.info? sq Try.f37 = some ir37 := by kernel_rfl
def ir38 : BFun := ⟨[(.cell 2 (some 3)), (.tmp 3)], (.seq (.region [⟨(some 1), (.box 34 (.t 0)), none, []⟩, ⟨(some 2), (.new 34 [(.int .i64 0), .nils, .nils]), none, []⟩, ⟨(some 3), (.mov (.c (.int .i64 0))), none, []⟩]) (.seq (.seq (.region
  [⟨(some 4), (.load none (some 3) (.t 1)), none, []⟩, ⟨(some 5), (.call (.c (.fn 21 [])) [(.t 4)]), none, []⟩, ⟨(some 6), (.not (.t 5)), none, []⟩]) (.cond (.t 6) (.seq (.region [⟨(some 7), (.build [(.int .i64 0), .nils, .nils] []), none,
  []⟩, ⟨none, (.store none 3 (.t 2) (.t 7)), none, []⟩, ⟨(some 3), (.mov (.c (.int .i64 1))), none, []⟩]) .ret) .skip)) (.seq (.region [⟨(some 8), (.load none (some 3) (.t 1)), none, []⟩, ⟨(some 9), (.call (.c (.fn 71 [])) [(.t 8)]), none,
  []⟩, ⟨none, (.store none 3 (.t 2) (.t 9)), none, []⟩, ⟨(some 3), (.mov (.c (.int .i64 0))), none, []⟩]) .ret)))⟩
theorem irOk38 : compFun Try.prog.underlying Try.prog.info? sq Try.f38 = some ir38 := by kernel_rfl
def ir39 : BFun := ⟨[(.cell 4 (some 3)), (.tmp 5)], (.seq (.region [⟨(some 2), (.box 34 (.t 0)), none, []⟩, ⟨(some 3), (.box 34 (.t 1)), none, []⟩, ⟨(some 4), (.new 34 [(.int .i64 0), .nils, .nils]), none, []⟩, ⟨(some 5), (.mov (.c (.int
  .i64 0))), none, []⟩]) (.seq (.seq (.region [⟨(some 16), (.call (.c (.fn 48 [])) [(.t 2)]), none, []⟩, ⟨(some 17), (.not (.t 16)), none, []⟩, ⟨(some 18), (.mov (.t 17)), none, []⟩, ⟨(some 19), (.call (.c (.fn 48 [])) [(.t 3)]), (some (18,
  false)), []⟩, ⟨(some 20), (.not (.t 19)), (some (18, false)), []⟩, ⟨(some 21), (.pick (.t 18) (.c (.bool true)) (.t 20)), none, []⟩]) (.cond (.t 21) (.seq (.region [⟨(some 22), (.build [(.int .i64 0), .nils, .nils] []), none, []⟩, ⟨none,
  (.store none 3 (.t 4) (.t 22)), none, []⟩, ⟨(some 5), (.mov (.c (.int .i64 1))), none, []⟩]) .ret) .skip)) (.seq (.region [⟨(some 23), (.lea 1 (.t 3)), none, []⟩, ⟨(some 24), (.load none none (.t 23)), none, []⟩, ⟨(some 25), (.len 1 (.t
  24)), none, []⟩, ⟨(some 6), (.mov (.t 25)), none, []⟩]) (.seq (.region [⟨(some 26), (.lea 0 (.t 2)), none, []⟩, ⟨(some 27), (.load none none (.t 26)), none, []⟩, ⟨(some 28), (.mov (.t 6)), none, []⟩, ⟨(some 29), (.bin .mul (.t 27) (.t
  28)), none, []⟩, ⟨(some 30), (.lea 0 (.t 3)), none, []⟩, ⟨(some 31), (.load none none (.t 30)), none, []⟩, ⟨(some 32), (.bin .add (.t 29) (.t 31)), none, []⟩, ⟨(some 33), (.build [(.int .i64 0), .nils, .nils] [(0, (1, (.t 32)))]), none,
  []⟩, ⟨(some 7), (.new 34 [(.int .i64 0), .nils, .nils]), none, []⟩, ⟨none, (.store none 3 (.t 7) (.t 33)), none, []⟩]) (.seq (.seq (.region [⟨(some 34), (.lea 1 (.t 2)), none, []⟩, ⟨(some 35), (.load none none (.t 34)), none, []⟩, ⟨(some
  36), (.len 1 (.t 35)), none, []⟩, ⟨(some 37), (.mov (.t 6)), none, []⟩, ⟨(some 38), (.bin .mul (.t 36) (.t 37)), none, []⟩, ⟨(some 39), (.bin .gtr (.t 38) (.c (.int .i64 40))), none, []⟩]) (.cond (.t 39) (.seq (.region [⟨(some 40), (.build
  [(.int .i64 0), .nils, .nils] []), none, []⟩, ⟨none, (.store none 3 (.t 4) (.t 40)), none, []⟩, ⟨(some 5), (.mov (.c (.int .i64 3))), none, []⟩]) .ret) .skip)) (.seq (.seq (.region [⟨(some 8), (.mov (.c (.int .i64 0))), none, []⟩]) (.block
  0 (.loop (.seq (.seq (.region [⟨(some 41), (.mov (.t 8)), none, []⟩, ⟨(some 42), (.lea 1 (.t 2)), none, []⟩, ⟨(some 43), (.load none none (.t 42)), none, []⟩, ⟨(some 44), (.len 1 (.t 43)), none, []⟩, ⟨(some 45), (.bin .lss (.t 41) (.t
  44)), none, []⟩]) (.cond (.t 45) .skip (.exit 0))) (.seq (.block 1 (.seq (.region [⟨(some 48), (.mov (.t 8)), none, []⟩, ⟨(some 49), (.call (.c (.fn 73 [])) [(.t 2), (.t 48)]), none, []⟩, ⟨(some 9), (.mov (.t 49)), none, []⟩]) (.seq
  (.region [⟨(some 10), (.mov (.c (.int .i64 0))), none, []⟩]) (.block 2 (.loop (.seq (.seq (.region [⟨(some 50), (.mov (.t 10)), none, []⟩, ⟨(some 51), (.mov (.t 6)), none, []⟩, ⟨(some 52), (.bin .lss (.t 50) (.t 51)), none, []⟩]) (.cond
  (.t 52) .skip (.exit 2))) (.seq (.block 3 (.seq (.region [⟨(some 55), (.mov (.t 10)), none, []⟩, ⟨(some 56), (.call (.c (.fn 73 [])) [(.t 3), (.t 55)]), none, []⟩, ⟨(some 11), (.mov (.t 56)), none, []⟩]) (.seq (.region [⟨(some 57), (.mov
  (.t 8)), none, []⟩, ⟨(some 58), (.mov (.t 6)), none, []⟩, ⟨(some 59), (.bin .mul (.t 57) (.t 58)), none, []⟩, ⟨(some 60), (.mov (.t 10)), none, []⟩, ⟨(some 61), (.bin .add (.t 59) (.t 60)), none, []⟩, ⟨(some 12), (.mov (.t 61)), none,
  []⟩]) (.seq (.region [⟨(some 62), (.lea 1 (.t 7)), none, []⟩, ⟨(some 63), (.load none none (.t 62)), none, []⟩, ⟨(some 64), (.lea 1 (.t 2)), none, []⟩, ⟨(some 65), (.load none none (.t 64)), none, []⟩, ⟨(some 66), (.mov (.t 8)), none, []⟩,
  ⟨(some 67), (.idx 1 (.t 65) (.t 66)), none, []⟩, ⟨(some 68), (.load none none (.t 67)), none, []⟩, ⟨(some 69), (.mov (.t 68)), none, []⟩, ⟨(some 70), (.lea 1 (.t 3)), (some (69, true)), []⟩, ⟨(some 71), (.load none none (.t 70)), (some
  (69, true)), []⟩, ⟨(some 72), (.mov (.t 10)), (some (69, true)), []⟩, ⟨(some 73), (.idx 1 (.t 71) (.t 72)), (some (69, true)), []⟩, ⟨(some 74), (.load none none (.t 73)), (some (69, true)), []⟩, ⟨(some 75), (.pick (.t 69) (.t 74) (.c
  (.bool false))), none, []⟩, ⟨(some 76), (.mk 4 1 [(.bool false)] [(0, (1, (.t 75)))]), none, []⟩, ⟨(some 77), (.app 4 1 1 (.t 63) (.t 76)), none, []⟩, ⟨(some 78), (.lea 1 (.t 7)), none, []⟩, ⟨none, (.store none 1 (.t 78) (.t 77)), none,
  []⟩]) (.seq (.seq (.region [⟨(some 13), (.mov (.c (.int .i64 0))), none, []⟩]) (.block 4 (.loop (.seq (.seq (.region [⟨(some 79), (.mov (.t 13)), none, []⟩, ⟨(some 80), (.mov (.t 9)), none, []⟩, ⟨(some 81), (.len 1 (.t 80)), none, []⟩,
  ⟨(some 82), (.bin .lss (.t 79) (.t 81)), none, []⟩]) (.cond (.t 82) .skip (.exit 4))) (.seq (.block 5 (.seq (.seq (.region [⟨(some 85), (.mov (.t 9)), none, []⟩, ⟨(some 86), (.mov (.t 13)), none, []⟩, ⟨(some 87), (.idx 4 (.t 85) (.t 86)),
  none, []⟩, ⟨(some 88), (.lea 3 (.t 87)), none, []⟩, ⟨(some 89), (.load none none (.t 88)), none, []⟩, ⟨(some 90), (.bin .eql (.t 89) (.c (.str ⟨#[]⟩))), none, []⟩]) (.cond (.t 90) (.seq (.region [⟨(some 91), (.lea 2 (.t 7)), none, []⟩,
  ⟨(some 92), (.load none none (.t 91)), none, []⟩, ⟨(some 93), (.mov (.t 12)), none, []⟩, ⟨(some 94), (.mov (.t 9)), none, []⟩, ⟨(some 95), (.mov (.t 13)), none, []⟩, ⟨(some 96), (.idx 4 (.t 94) (.t 95)), none, []⟩, ⟨(some 97), (.lea 1 (.t
  96)), none, []⟩, ⟨(some 98), (.load none none (.t 97)), none, []⟩, ⟨(some 99), (.mov (.t 6)), none, []⟩, ⟨(some 100), (.bin .mul (.t 98) (.t 99)), none, []⟩, ⟨(some 101), (.mov (.t 10)), none, []⟩, ⟨(some 102), (.bin .add (.t 100) (.t
  101)), none, []⟩, ⟨(some 103), (.mov (.t 9)), none, []⟩, ⟨(some 104), (.mov (.t 13)), none, []⟩, ⟨(some 105), (.idx 4 (.t 103) (.t 104)), none, []⟩, ⟨(some 106), (.lea 2 (.t 105)), none, []⟩, ⟨(some 107), (.load none none (.t 106)), none,
  []⟩, ⟨(some 108), (.build [(.int .i64 0), (.int .i64 0), (.str ⟨#[]⟩), (.str ⟨#[]⟩)] [(0, (1, (.t 93))), (1, (1, (.t 102))), (2, (1, (.t 107)))]), none, []⟩, ⟨(some 109), (.mk 54 1 [(.int .i64 0), (.int .i64 0), (.str ⟨#[]⟩), (.str ⟨#[]⟩)]
  [(0, (4, (.t 108)))]), none, []⟩, ⟨(some 110), (.app 54 4 48 (.t 92) (.t 109)), none, []⟩, ⟨(some 111), (.lea 2 (.t 7)), none, []⟩, ⟨none, (.store none 1 (.t 111) (.t 110)), none, []⟩]) (.exit 5)) .skip)) (.seq (.region [⟨(some 14), (.mov
  (.c (.int .i64 0))), none, []⟩]) (.block 6 (.loop (.seq (.seq (.region [⟨(some 112), (.mov (.t 14)), none, []⟩, ⟨(some 113), (.mov (.t 11)), none, []⟩, ⟨(some 114), (.len 1 (.t 113)), none, []⟩, ⟨(some 115), (.bin .lss (.t 112) (.t 114)),
  none, []⟩]) (.cond (.t 115) .skip (.exit 6))) (.seq (.block 7 (.seq (.region [⟨(some 118), (.mov (.t 11)), none, []⟩, ⟨(some 119), (.mov (.t 14)), none, []⟩, ⟨(some 120), (.idx 4 (.t 118) (.t 119)), none, []⟩, ⟨(some 121), (.lea 2 (.t
  120)), none, []⟩, ⟨(some 122), (.load none none (.t 121)), none, []⟩, ⟨(some 123), (.mov (.t 9)), none, []⟩, ⟨(some 124), (.mov (.t 13)), none, []⟩, ⟨(some 125), (.idx 4 (.t 123) (.t 124)), none, []⟩, ⟨(some 126), (.lea 3 (.t 125)), none,
  []⟩, ⟨(some 127), (.load none none (.t 126)), none, []⟩, ⟨(some 128), (.bin .eql (.t 122) (.t 127)), none, []⟩]) (.cond (.t 128) (.region [⟨(some 129), (.lea 2 (.t 7)), none, []⟩, ⟨(some 130), (.load none none (.t 129)), none, []⟩, ⟨(some
  131), (.mov (.t 12)), none, []⟩, ⟨(some 132), (.mov (.t 9)), none, []⟩, ⟨(some 133), (.mov (.t 13)), none, []⟩, ⟨(some 134), (.idx 4 (.t 132) (.t 133)), none, []⟩, ⟨(some 135), (.lea 1 (.t 134)), none, []⟩, ⟨(some 136), (.load none none
  (.t 135)), none, []⟩, ⟨(some 137), (.mov (.t 6)), none, []⟩, ⟨(some 138), (.bin .mul (.t 136) (.t 137)), none, []⟩, ⟨(some 139), (.mov (.t 11)), none, []⟩, ⟨(some 140), (.mov (.t 14)), none, []⟩, ⟨(some 141), (.idx 4 (.t 139) (.t 140)),
  none, []⟩, ⟨(some 142), (.lea 1 (.t 141)), none, []⟩, ⟨(some 143), (.load none none (.t 142)), none, []⟩, ⟨(some 144), (.bin .add (.t 138) (.t 143)), none, []⟩, ⟨(some 145), (.mov (.t 9)), none, []⟩, ⟨(some 146), (.mov (.t 13)), none, []⟩,
  ⟨(some 147), (.idx 4 (.t 145) (.t 146)), none, []⟩, ⟨(some 148), (.lea 2 (.t 147)), none, []⟩, ⟨(some 149), (.load none none (.t 148)), none, []⟩, ⟨(some 150), (.mov (.t 11)), none, []⟩, ⟨(some 151), (.mov (.t 14)), none, []⟩, ⟨(some 152),
  (.idx 4 (.t 150) (.t 151)), none, []⟩, ⟨(some 153), (.lea 3 (.t 152)), none, []⟩, ⟨(some 154), (.load none none (.t 153)), none, []⟩, ⟨(some 155), (.build [(.int .i64 0), (.int .i64 0), (.str ⟨#[]⟩), (.str ⟨#[]⟩)] [(0, (1, (.t 131))), (1,
  (1, (.t 144))), (2, (1, (.t 149))), (3, (1, (.t 154)))]), none, []⟩, ⟨(some 156), (.mk 54 1 [(.int .i64 0), (.int .i64 0), (.str ⟨#[]⟩), (.str ⟨#[]⟩)] [(0, (4, (.t 155)))]), none, []⟩, ⟨(some 157), (.app 54 4 48 (.t 130) (.t 156)), none,
  []⟩, ⟨(some 158), (.lea 2 (.t 7)), none, []⟩, ⟨none, (.store none 1 (.t 158) (.t 157)), none, []⟩]) .skip))) (.region [⟨(some 116), (.mov (.t 14)), none, []⟩, ⟨(some 117), (.bin .add (.t 116) (.c (.int .i64 1))), none, []⟩, ⟨(some 14),
  (.mov (.t 117)), none, []⟩])))))))) (.region [⟨(some 83), (.mov (.t 13)), none, []⟩, ⟨(some 84), (.bin .add (.t 83) (.c (.int .i64 1))), none, []⟩, ⟨(some 13), (.mov (.t 84)), none, []⟩])))))) (.seq (.region [⟨(some 15), (.mov (.c (.int
  .i64 0))), none, []⟩]) (.block 8 (.loop (.seq (.seq (.region [⟨(some 159), (.mov (.t 15)), none, []⟩, ⟨(some 160), (.mov (.t 11)), none, []⟩, ⟨(some 161), (.len 1 (.t 160)), none, []⟩, ⟨(some 162), (.bin .lss (.t 159) (.t 161)), none,
  []⟩]) (.cond (.t 162) .skip (.exit 8))) (.seq (.block 9 (.seq (.region [⟨(some 165), (.mov (.t 11)), none, []⟩, ⟨(some 166), (.mov (.t 15)), none, []⟩, ⟨(some 167), (.idx 4 (.t 165) (.t 166)), none, []⟩, ⟨(some 168), (.lea 2 (.t 167)),
  none, []⟩, ⟨(some 169), (.load none none (.t 168)), none, []⟩, ⟨(some 170), (.bin .eql (.t 169) (.c (.str ⟨#[]⟩))), none, []⟩]) (.cond (.t 170) (.region [⟨(some 171), (.lea 2 (.t 7)), none, []⟩, ⟨(some 172), (.load none none (.t 171)),
  none, []⟩, ⟨(some 173), (.mov (.t 12)), none, []⟩, ⟨(some 174), (.mov (.t 8)), none, []⟩, ⟨(some 175), (.mov (.t 6)), none, []⟩, ⟨(some 176), (.bin .mul (.t 174) (.t 175)), none, []⟩, ⟨(some 177), (.mov (.t 11)), none, []⟩, ⟨(some 178),
  (.mov (.t 15)), none, []⟩, ⟨(some 179), (.idx 4 (.t 177) (.t 178)), none, []⟩, ⟨(some 180), (.lea 1 (.t 179)), none, []⟩, ⟨(some 181), (.load none none (.t 180)), none, []⟩, ⟨(some 182), (.bin .add (.t 176) (.t 181)), none, []⟩, ⟨(some
  183), (.mov (.t 11)), none, []⟩, ⟨(some 184), (.mov (.t 15)), none, []⟩, ⟨(some 185), (.idx 4 (.t 183) (.t 184)), none, []⟩, ⟨(some 186), (.lea 3 (.t 185)), none, []⟩, ⟨(some 187), (.load none none (.t 186)), none, []⟩, ⟨(some 188),
  (.build [(.int .i64 0), (.int .i64 0), (.str ⟨#[]⟩), (.str ⟨#[]⟩)] [(0, (1, (.t 173))), (1, (1, (.t 182))), (3, (1, (.t 187)))]), none, []⟩, ⟨(some 189), (.mk 54 1 [(.int .i64 0), (.int .i64 0), (.str ⟨#[]⟩), (.str ⟨#[]⟩)] [(0, (4, (.t
  188)))]), none, []⟩, ⟨(some 190), (.app 54 4 48 (.t 172) (.t 189)), none, []⟩, ⟨(some 191), (.lea 2 (.t 7)), none, []⟩, ⟨none, (.store none 1 (.t 191) (.t 190)), none, []⟩]) .skip))) (.region [⟨(some 163), (.mov (.t 15)), none, []⟩, ⟨(some
  164), (.bin .add (.t 163) (.c (.int .i64 1))), none, []⟩, ⟨(some 15), (.mov (.t 164)), none, []⟩]))))))))))) (.region [⟨(some 53), (.mov (.t 10)), none, []⟩, ⟨(some 54), (.bin .add (.t 53) (.c (.int .i64 1))), none, []⟩, ⟨(some 10), (.mov
  (.t 54)), none, []⟩])))))))) (.region [⟨(some 46), (.mov (.t 8)), none, []⟩, ⟨(some 47), (.bin .add (.t 46) (.c (.int .i64 1))), none, []⟩, ⟨(some 8), (.mov (.t 47)), none, []⟩])))))) (.seq (.region [⟨(some 192), (.load none (some 3) (.t
  7)), none, []⟩, ⟨(some 193), (.call (.c (.fn 64 [])) [(.t 192)]), none, []⟩, ⟨(some 194), (.ext 0 (.t 193)), none, []⟩, ⟨(some 195), (.ext 1 (.t 193)), none, []⟩, ⟨none, (.store none 3 (.t 4) (.t 194)), none, []⟩, ⟨(some 5), (.mov (.t
  195)), none, []⟩]) .ret)))))))⟩
theorem irOk39 : compFun Try.prog.underlying Try.prog.info? sq Try.f39 = some ir39 := by kernel_rfl
def ir40 : BFun := ⟨[(.cell 4 (some 3)), (.tmp 5)], (.seq (.region [⟨(some 2), (.box 34 (.t 0)), none, []⟩, ⟨(some 3), (.box 34 (.t 1)), none, []⟩, ⟨(some 4), (.new 34 [(.int .i64 0), .nils, .nils]), none, []⟩, ⟨(some 5), (.mov (.c (.int
  .i64 0))), none, []⟩]) (.seq (.seq (.region [⟨(some 17), (.load none (some 3) (.t 2)), none, []⟩, ⟨(some 18), (.call (.c (.fn 21 [])) [(.t 17)]), none, []⟩, ⟨(some 19), (.not (.t 18)), none, []⟩, ⟨(some 20), (.mov (.t 19)), none, []⟩,
  ⟨(some 21), (.load none (some 3) (.t 3)), (some (20, false)), []⟩, ⟨(some 22), (.call (.c (.fn 21 [])) [(.t 21)]), (some (20, false)), []⟩, ⟨(some 23), (.not (.t 22)), (some (20, false)), []⟩, ⟨(some 24), (.pick (.t 20) (.c (.bool true))
  (.t 23)), none, []⟩]) (.cond (.t 24) (.seq (.region [⟨(some 25), (.build [(.int .i64 0), .nils, .nils] []), none, []⟩, ⟨none, (.store none 3 (.t 4) (.t 25)), none, []⟩, ⟨(some 5), (.mov (.c (.int .i64 1))), none, []⟩]) .ret) .skip)) (.seq
  (.region [⟨(some 26), (.load none (some 3) (.t 3)), none, []⟩, ⟨(some 27), (.call (.c (.fn 65 [])) [(.t 26)]), none, []⟩, ⟨(some 6), (.mov (.t 27)), none, []⟩]) (.seq (.seq (.region [⟨(some 28), (.load none (some 3) (.t 2)), none, []⟩,
  ⟨(some 29), (.call (.c (.fn 65 [])) [(.t 28)]), none, []⟩, ⟨(some 30), (.mov (.t 6)), none, []⟩, ⟨(some 31), (.bin .mul (.t 29) (.t 30)), none, []⟩, ⟨(some 32), (.bin .gtr (.t 31) (.c (.int .i64 40))), none, []⟩]) (.cond (.t 32) (.seq
  (.region [⟨(some 33), (.build [(.int .i64 0), .nils, .nils] []), none, []⟩, ⟨none, (.store none 3 (.t 4) (.t 33)), none, []⟩, ⟨(some 5), (.mov (.c (.int .i64 3))), none, []⟩]) .ret) .skip)) (.seq (.region [⟨(some 34), (.lea 0 (.t 2)),
  none, []⟩, ⟨(some 35), (.load none none (.t 34)), none, []⟩, ⟨(some 36), (.mov (.t 6)), none, []⟩, ⟨(some 37), (.bin .mul (.t 35) (.t 36)), none, []⟩, ⟨(some 38), (.lea 0 (.t 3)), none, []⟩, ⟨(some 39), (.load none none (.t 38)), none,
  []⟩, ⟨(some 40), (.bin .add (.t 37) (.t 39)), none, []⟩, ⟨(some 41), (.build [(.int .i64 0), .nils, .nils] [(0, (1, (.t 40)))]), none, []⟩, ⟨(some 7), (.new 34 [(.int .i64 0), .nils, .nils]), none, []⟩, ⟨none, (.store none 3 (.t 7) (.t
  41)), none, []⟩]) (.seq (.seq (.region [⟨(some 42), (.load none (some 3) (.t 2)), none, []⟩, ⟨(some 43), (.call (.c (.fn 65 [])) [(.t 42)]), none, []⟩, ⟨(some 44), (.mov (.c (.int .i64 0))), none, []⟩]) (.block 0 (.loop (.seq (.region
  [⟨(some 45), (.bin .lss (.t 44) (.t 43)), none, []⟩]) (.seq (.cond (.t 45) .skip (.exit 0)) (.seq (.block 1 (.seq (.region [⟨(some 46), (.mov (.t 44)), none, []⟩, ⟨(some 8), (.mov (.t 46)), none, []⟩]) (.seq (.region [⟨(some 47), (.mov (.t
  6)), none, []⟩, ⟨(some 48), (.mov (.c (.int .i64 0))), none, []⟩]) (.block 2 (.loop (.seq (.region [⟨(some 49), (.bin .lss (.t 48) (.t 47)), none, []⟩]) (.seq (.cond (.t 49) .skip (.exit 2)) (.seq (.block 3 (.seq (.region [⟨(some 50),
  (.mov (.t 48)), none, []⟩, ⟨(some 9), (.mov (.t 50)), none, []⟩]) (.seq (.region [⟨(some 51), (.lea 1 (.t 7)), none, []⟩, ⟨(some 52), (.load none none (.t 51)), none, []⟩, ⟨(some 53), (.lea 1 (.t 2)), none, []⟩, ⟨(some 54), (.load none
  none (.t 53)), none, []⟩, ⟨(some 55), (.mov (.t 8)), none, []⟩, ⟨(some 56), (.idx 1 (.t 54) (.t 55)), none, []⟩, ⟨(some 57), (.load none none (.t 56)), none, []⟩, ⟨(some 58), (.mov (.t 57)), none, []⟩, ⟨(some 59), (.lea 1 (.t 3)), (some
  (58, true)), []⟩, ⟨(some 60), (.load none none (.t 59)), (some (58, true)), []⟩, ⟨(some 61), (.mov (.t 9)), (some (58, true)), []⟩, ⟨(some 62), (.idx 1 (.t 60) (.t 61)), (some (58, true)), []⟩, ⟨(some 63), (.load none none (.t 62)), (some
  (58, true)), []⟩, ⟨(some 64), (.pick (.t 58) (.t 63) (.c (.bool false))), none, []⟩, ⟨(some 65), (.mk 4 1 [(.bool false)] [(0, (1, (.t 64)))]), none, []⟩, ⟨(some 66), (.app 4 1 1 (.t 52) (.t 65)), none, []⟩, ⟨(some 67), (.lea 1 (.t 7)),
  none, []⟩, ⟨none, (.store none 1 (.t 67) (.t 66)), none, []⟩]) (.seq (.region [⟨(some 68), (.mov (.t 8)), none, []⟩, ⟨(some 69), (.mov (.t 6)), none, []⟩, ⟨(some 70), (.bin .mul (.t 68) (.t 69)), none, []⟩, ⟨(some 71), (.mov (.t 9)), none,
  []⟩, ⟨(some 72), (.bin .add (.t 70) (.t 71)), none, []⟩, ⟨(some 10), (.mov (.t 72)), none, []⟩]) (.seq (.seq (.region [⟨(some 73), (.lea 2 (.t 2)), none, []⟩, ⟨(some 74), (.load none none (.t 73)), none, []⟩, ⟨(some 75), (.len 1 (.t 74)),
  none, []⟩, ⟨(some 76), (.mov (.c (.int .i64 0))), none, []⟩]) (.block 4 (.loop (.seq (.region [⟨(some 77), (.bin .lss (.t 76) (.t 75)), none, []⟩]) (.seq (.cond (.t 77) .skip (.exit 4)) (.seq (.block 5 (.seq (.region [⟨(some 78), (.idx 4
  (.t 74) (.t 76)), none, []⟩, ⟨(some 79), (.load none (some 4) (.t 78)), none, []⟩, ⟨(some 12), (.new 54 [(.int .i64 0), (.int .i64 0), (.str ⟨#[]⟩), (.str ⟨#[]⟩)]), none, []⟩, ⟨none, (.store none 4 (.t 12) (.t 79)), none, []⟩]) (.block 6
  (.seq (.region [⟨(some 118), (.lea 0 (.t 12)), none, []⟩, ⟨(some 119), (.load none none (.t 118)), none, []⟩, ⟨(some 120), (.mov (.t 8)), none, []⟩, ⟨(some 121), (.bin .neq (.t 119) (.t 120)), none, []⟩, ⟨(some 117), (.mov (.t 121)), none,
  []⟩]) (.cond (.t 117) .skip (.seq (.region [⟨(some 123), (.lea 3 (.t 12)), none, []⟩, ⟨(some 124), (.load none none (.t 123)), none, []⟩, ⟨(some 125), (.bin .eql (.t 124) (.c (.str ⟨#[]⟩))), none, []⟩, ⟨(some 122), (.mov (.t 125)), none,
  []⟩]) (.cond (.t 122) (.region [⟨(some 126), (.lea 2 (.t 7)), none, []⟩, ⟨(some 127), (.load none none (.t 126)), none, []⟩, ⟨(some 128), (.mov (.t 10)), none, []⟩, ⟨(some 129), (.lea 1 (.t 12)), none, []⟩, ⟨(some 130), (.load none none
  (.t 129)), none, []⟩, ⟨(some 131), (.mov (.t 6)), none, []⟩, ⟨(some 132), (.bin .mul (.t 130) (.t 131)), none, []⟩, ⟨(some 133), (.mov (.t 9)), none, []⟩, ⟨(some 134), (.bin .add (.t 132) (.t 133)), none, []⟩, ⟨(some 135), (.lea 2 (.t
  12)), none, []⟩, ⟨(some 136), (.load none none (.t 135)), none, []⟩, ⟨(some 137), (.build [(.int .i64 0), (.int .i64 0), (.str ⟨#[]⟩), (.str ⟨#[]⟩)] [(0, (1, (.t 128))), (1, (1, (.t 134))), (2, (1, (.t 136)))]), none, []⟩, ⟨(some 138),
  (.mk 54 1 [(.int .i64 0), (.int .i64 0), (.str ⟨#[]⟩), (.str ⟨#[]⟩)] [(0, (4, (.t 137)))]), none, []⟩, ⟨(some 139), (.app 54 4 48 (.t 127) (.t 138)), none, []⟩, ⟨(some 140), (.lea 2 (.t 7)), none, []⟩, ⟨none, (.store none 1 (.t 140) (.t
  139)), none, []⟩]) (.seq (.region [⟨(some 80), (.lea 2 (.t 3)), none, []⟩, ⟨(some 81), (.load none none (.t 80)), none, []⟩, ⟨(some 82), (.len 1 (.t 81)), none, []⟩, ⟨(some 83), (.mov (.c (.int .i64 0))), none, []⟩]) (.block 7 (.loop (.seq
  (.region [⟨(some 84), (.bin .lss (.t 83) (.t 82)), none, []⟩]) (.seq (.cond (.t 84) .skip (.exit 7)) (.seq (.block 8 (.seq (.region [⟨(some 85), (.idx 4 (.t 81) (.t 83)), none, []⟩, ⟨(some 86), (.load none (some 4) (.t 85)), none, []⟩,
  ⟨(some 14), (.new 54 [(.int .i64 0), (.int .i64 0), (.str ⟨#[]⟩), (.str ⟨#[]⟩)]), none, []⟩, ⟨none, (.store none 4 (.t 14) (.t 86)), none, []⟩]) (.seq (.region [⟨(some 87), (.lea 0 (.t 14)), none, []⟩, ⟨(some 88), (.load none none (.t
  87)), none, []⟩, ⟨(some 89), (.mov (.t 9)), none, []⟩, ⟨(some 90), (.bin .eql (.t 88) (.t 89)), none, []⟩, ⟨(some 91), (.mov (.t 90)), none, []⟩, ⟨(some 92), (.lea 2 (.t 14)), (some (91, true)), []⟩, ⟨(some 93), (.load none none (.t 92)),
  (some (91, true)), []⟩, ⟨(some 94), (.lea 3 (.t 12)), (some (91, true)), []⟩, ⟨(some 95), (.load none none (.t 94)), (some (91, true)), []⟩, ⟨(some 96), (.bin .eql (.t 93) (.t 95)), (some (91, true)), []⟩, ⟨(some 97), (.pick (.t 91) (.t
  96) (.c (.bool false))), none, []⟩]) (.cond (.t 97) (.region [⟨(some 98), (.lea 2 (.t 7)), none, []⟩, ⟨(some 99), (.load none none (.t 98)), none, []⟩, ⟨(some 100), (.mov (.t 10)), none, []⟩, ⟨(some 101), (.lea 1 (.t 12)), none, []⟩,
  ⟨(some 102), (.load none none (.t 101)), none, []⟩, ⟨(some 103), (.mov (.t 6)), none, []⟩, ⟨(some 104), (.bin .mul (.t 102) (.t 103)), none, []⟩, ⟨(some 105), (.lea 1 (.t 14)), none, []⟩, ⟨(some 106), (.load none none (.t 105)), none, []⟩,
  ⟨(some 107), (.bin .add (.t 104) (.t 106)), none, []⟩, ⟨(some 108), (.lea 2 (.t 12)), none, []⟩, ⟨(some 109), (.load none none (.t 108)), none, []⟩, ⟨(some 110), (.lea 3 (.t 14)), none, []⟩, ⟨(some 111), (.load none none (.t 110)), none,
  []⟩, ⟨(some 112), (.build [(.int .i64 0), (.int .i64 0), (.str ⟨#[]⟩), (.str ⟨#[]⟩)] [(0, (1, (.t 100))), (1, (1, (.t 107))), (2, (1, (.t 109))), (3, (1, (.t 111)))]), none, []⟩, ⟨(some 113), (.mk 54 1 [(.int .i64 0), (.int .i64 0), (.str
  ⟨#[]⟩), (.str ⟨#[]⟩)] [(0, (4, (.t 112)))]), none, []⟩, ⟨(some 114), (.app 54 4 48 (.t 99) (.t 113)), none, []⟩, ⟨(some 115), (.lea 2 (.t 7)), none, []⟩, ⟨none, (.store none 1 (.t 115) (.t 114)), none, []⟩]) .skip)))) (.region [⟨(some
  116), (.bin .add (.t 83) (.c (.int .i64 1))), none, []⟩, ⟨(some 83), (.mov (.t 116)), none, []⟩])))))))))))))) (.region [⟨(some 141), (.bin .add (.t 76) (.c (.int .i64 1))), none, []⟩, ⟨(some 76), (.mov (.t 141)), none, []⟩]))))))) (.seq
  (.region [⟨(some 142), (.lea 2 (.t 3)), none, []⟩, ⟨(some 143), (.load none none (.t 142)), none, []⟩, ⟨(some 144), (.len 1 (.t 143)), none, []⟩, ⟨(some 145), (.mov (.c (.int .i64 0))), none, []⟩]) (.block 9 (.loop (.seq (.region [⟨(some
  146), (.bin .lss (.t 145) (.t 144)), none, []⟩]) (.seq (.cond (.t 146) .skip (.exit 9)) (.seq (.block 10 (.seq (.region [⟨(some 147), (.idx 4 (.t 143) (.t 145)), none, []⟩, ⟨(some 148), (.load none (some 4) (.t 147)), none, []⟩, ⟨(some
  16), (.new 54 [(.int .i64 0), (.int .i64 0), (.str ⟨#[]⟩), (.str ⟨#[]⟩)]), none, []⟩, ⟨none, (.store none 4 (.t 16) (.t 148)), none, []⟩]) (.seq (.region [⟨(some 149), (.lea 0 (.t 16)), none, []⟩, ⟨(some 150), (.load none none (.t 149)),
  none, []⟩, ⟨(some 151), (.mov (.t 9)), none, []⟩, ⟨(some 152), (.bin .eql (.t 150) (.t 151)), none, []⟩, ⟨(some 153), (.mov (.t 152)), none, []⟩, ⟨(some 154), (.lea 2 (.t 16)), (some (153, true)), []⟩, ⟨(some 155), (.load none none (.t
  154)), (some (153, true)), []⟩, ⟨(some 156), (.bin .eql (.t 155) (.c (.str ⟨#[]⟩))), (some (153, true)), []⟩, ⟨(some 157), (.pick (.t 153) (.t 156) (.c (.bool false))), none, []⟩]) (.cond (.t 157) (.region [⟨(some 158), (.lea 2 (.t 7)),
  none, []⟩, ⟨(some 159), (.load none none (.t 158)), none, []⟩, ⟨(some 160), (.mov (.t 10)), none, []⟩, ⟨(some 161), (.mov (.t 8)), none, []⟩, ⟨(some 162), (.mov (.t 6)), none, []⟩, ⟨(some 163), (.bin .mul (.t 161) (.t 162)), none, []⟩,
  ⟨(some 164), (.lea 1 (.t 16)), none, []⟩, ⟨(some 165), (.load none none (.t 164)), none, []⟩, ⟨(some 166), (.bin .add (.t 163) (.t 165)), none, []⟩, ⟨(some 167), (.lea 3 (.t 16)), none, []⟩, ⟨(some 168), (.load none none (.t 167)), none,
  []⟩, ⟨(some 169), (.build [(.int .i64 0), (.int .i64 0), (.str ⟨#[]⟩), (.str ⟨#[]⟩)] [(0, (1, (.t 160))), (1, (1, (.t 166))), (3, (1, (.t 168)))]), none, []⟩, ⟨(some 170), (.mk 54 1 [(.int .i64 0), (.int .i64 0), (.str ⟨#[]⟩), (.str
  ⟨#[]⟩)] [(0, (4, (.t 169)))]), none, []⟩, ⟨(some 171), (.app 54 4 48 (.t 159) (.t 170)), none, []⟩, ⟨(some 172), (.lea 2 (.t 7)), none, []⟩, ⟨none, (.store none 1 (.t 172) (.t 171)), none, []⟩]) .skip)))) (.region [⟨(some 173), (.bin .add
  (.t 145) (.c (.int .i64 1))), none, []⟩, ⟨(some 145), (.mov (.t 173)), none, []⟩])))))))))))) (.region [⟨(some 174), (.bin .add (.t 48) (.c (.int .i64 1))), none, []⟩, ⟨(some 48), (.mov (.t 174)), none, []⟩]))))))))) (.region [⟨(some 175),
  (.bin .add (.t 44) (.c (.int .i64 1))), none, []⟩, ⟨(some 44), (.mov (.t 175)), none, []⟩]))))))) (.seq (.region [⟨(some 176), (.load none (some 3) (.t 7)), none, []⟩, ⟨(some 177), (.call (.c (.fn 67 [])) [(.t 176)]), none, []⟩, ⟨(some
  178), (.ext 0 (.t 177)), none, []⟩, ⟨(some 179), (.ext 1 (.t 177)), none, []⟩, ⟨none, (.store none 3 (.t 4) (.t 178)), none, []⟩, ⟨(some 5), (.mov (.t 179)), none, []⟩]) .ret)))))))⟩
theorem irOk40 : compFun Try.prog.underlying Try.prog.info? sq Try.f40 = some ir40 := by kernel_rfl
def ir41 : BFun := ⟨[(.tmp 6)], (.seq (.region [⟨(some 6), (.mov (.c (.bool false))), none, []⟩]) (.seq (.region [⟨(some 7), (.mov (.t 0)), none, []⟩, ⟨(some 8), (.mov (.t 1)), none, []⟩, ⟨(some 9), (.bin .geq (.t 7) (.t 8)), none, []⟩,
  ⟨(some 10), (.mov (.t 9)), none, []⟩, ⟨(some 11), (.mov (.t 0)), (some (10, true)), []⟩, ⟨(some 12), (.mov (.t 2)), (some (10, true)), []⟩, ⟨(some 13), (.bin .leq (.t 11) (.t 12)), (some (10, true)), []⟩, ⟨(some 14), (.pick (.t 10) (.t 13)
  (.c (.bool false))), none, []⟩, ⟨(some 6), (.mov (.t 14)), none, []⟩]) .ret))⟩
theorem irOk41 : compFun Try.prog.underlying Try.prog.info? sq Try.f41 = some ir41 := by kernel_rfl
def ir42 : BFun := ⟨[(.tmp 6)], (.seq (.region [⟨(some 6), (.mov (.c (.bool false))), none, []⟩]) (.seq (.region [⟨(some 7), (.mov (.t 1)), none, []⟩, ⟨(some 8), (.mov (.t 0)), none, []⟩, ⟨(some 9), (.bin .leq (.t 7) (.t 8)), none, []⟩,
  ⟨(some 10), (.mov (.t 9)), none, []⟩, ⟨(some 11), (.mov (.t 0)), (some (10, true)), []⟩, ⟨(some 12), (.mov (.t 2)), (some (10, true)), []⟩, ⟨(some 13), (.bin .leq (.t 11) (.t 12)), (some (10, true)), []⟩, ⟨(some 14), (.pick (.t 10) (.t 13)
  (.c (.bool false))), none, []⟩, ⟨(some 6), (.mov (.t 14)), none, []⟩]) .ret))⟩
theorem irOk42 : compFun Try.prog.underlying Try.prog.info? sq Try.f42 = some ir42 := by kernel_rfl
def ir46 : BFun := ⟨[(.tmp 4)], (.seq (.region [⟨(some 4), (.mov (.c (.int .i64 0))), none, []⟩]) (.seq (.region [⟨(some 5), (.mov (.t 1)), none, []⟩, ⟨(some 6), (.mov (.t 0)), none, []⟩, ⟨(some 7), (.len 1 (.t 6)), none, []⟩, ⟨(some 8),
  (.bin .sub (.t 5) (.t 7)), none, []⟩, ⟨(some 1), (.mov (.t 8)), none, []⟩]) (.seq (.seq (.region [⟨(some 9), (.mov (.t 1)), none, []⟩, ⟨(some 10), (.bin .lss (.t 9) (.c (.int .i64 0))), none, []⟩]) (.cond (.t 10) (.seq (.region [⟨(some 4),
  (.mov (.c (.int .i64 (-1)))), none, []⟩]) .ret) .skip)) (.seq (.region [⟨(some 11), (.mov (.t 1)), none, []⟩, ⟨(some 4), (.mov (.t 11)), none, []⟩]) .ret))))⟩
theorem irOk46 : compFun Try.prog.underlying Try.prog.info? sq Try.f46 = some ir46 := by kernel_rfl
def ir47 : BFun := ⟨[(.tmp 4)], (.seq (.region [⟨(some 4), (.mov (.c (.int .i64 0))), none, []⟩]) (.seq (.region [⟨(some 6), (.mov (.t 1)), none, []⟩, ⟨(some 7), (.mov (.t 0)), none, []⟩, ⟨(some 8), (.len 1 (.t 7)), none, []⟩, ⟨(some 9),
  (.bin .sub (.t 6) (.t 8)), none, []⟩, ⟨(some 1), (.mov (.t 9)), none, []⟩]) (.seq (.seq (.region [⟨(some 10), (.mov (.t 1)), none, []⟩, ⟨(some 11), (.bin .lss (.t 10) (.c (.int .i64 0))), none, []⟩]) (.cond (.t 11) (.seq (.region [⟨(some
  4), (.mov (.c (.int .i64 (-1)))), none, []⟩]) .ret) .skip)) (.seq (.seq (.region [⟨(some 5), (.mov (.c (.int .i64 0))), none, []⟩]) (.block 0 (.loop (.seq (.seq (.region [⟨(some 12), (.mov (.t 5)), none, []⟩, ⟨(some 13), (.mov (.t 0)),
  none, []⟩, ⟨(some 14), (.len 1 (.t 13)), none, []⟩, ⟨(some 15), (.bin .lss (.t 12) (.t 14)), none, []⟩]) (.cond (.t 15) .skip (.exit 0))) (.seq (.block 1 (.seq (.region [⟨(some 18), (.mov (.t 0)), none, []⟩, ⟨(some 19), (.mov (.t 5)),
  none, []⟩, ⟨(some 20), (.idx 4 (.t 18) (.t 19)), none, []⟩, ⟨(some 21), (.load none (some 4) (.t 20)), none, []⟩, ⟨(some 22), (.mov (.t 1)), none, []⟩, ⟨(some 23), (.call (.c (.fn 74 [])) [(.t 21), (.t 22)]), none, []⟩, ⟨(some 1), (.mov
  (.t 23)), none, []⟩]) (.seq (.region [⟨(some 24), (.mov (.t 1)), none, []⟩, ⟨(some 25), (.bin .lss (.t 24) (.c (.int .i64 0))), none, []⟩]) (.cond (.t 25) (.seq (.region [⟨(some 4), (.mov (.c (.int .i64 (-1)))), none, []⟩]) .ret) .skip))))
  (.region [⟨(some 16), (.mov (.t 5)), none, []⟩, ⟨(some 17), (.bin .add (.t 16) (.c (.int .i64 1))), none, []⟩, ⟨(some 5), (.mov (.t 17)), none, []⟩])))))) (.seq (.region [⟨(some 26), (.mov (.t 1)), none, []⟩, ⟨(some 4), (.mov (.t 26)),
  none, []⟩]) .ret)))))⟩
theorem irOk47 : compFun Try.prog.underlying Try.prog.info? sq Try.f47 = some ir47 := by kernel_rfl
def ir48 : BFun := ⟨[(.tmp 2)], (.seq (.region [⟨(some 2), (.mov (.c (.bool false))), none, []⟩]) (.seq (.region [⟨(some 3), (.mov (.t 0)), none, []⟩, ⟨(some 4), (.nilck (.t 3)), none, []⟩, ⟨(some 5), (.lea 1 (.t 4)), none, []⟩, ⟨(some 6),
  (.load none none (.t 5)), none, []⟩, ⟨(some 7), (.len 1 (.t 6)), none, []⟩, ⟨(some 8), (.bin .leq (.t 7) (.c (.int .i64 40))), none, []⟩, ⟨(some 9), (.mov (.t 8)), none, []⟩, ⟨(some 10), (.mov (.t 0)), (some (9, true)), []⟩, ⟨(some 11),
  (.nilck (.t 10)), (some (9, true)), []⟩, ⟨(some 12), (.lea 2 (.t 11)), (some (9, true)), []⟩, ⟨(some 13), (.load none none (.t 12)), (some (9, true)), []⟩, ⟨(some 14), (.len 1 (.t 13)), (some (9, true)), []⟩, ⟨(some 15), (.bin .leq (.t 14)
  (.c (.int .i64 200))), (some (9, true)), []⟩, ⟨(some 16), (.pick (.t 9) (.t 15) (.c (.bool false))), none, []⟩, ⟨(some 17), (.mov (.t 16)), none, []⟩, ⟨(some 18), (.mov (.t 0)), (some (17, true)), []⟩, ⟨(some 19), (.call (.c (.fn 75 []))
  [(.t 18)]), (some (17, true)), []⟩, ⟨(some 20), (.pick (.t 17) (.t 19) (.c (.bool false))), none, []⟩, ⟨(some 2), (.mov (.t 20)), none, []⟩]) .ret))⟩
theorem irOk48 : compFun Try.prog.underlying Try.prog.info? sq Try.f48 = some ir48 := by kernel_rfl
def ir49 : BFun := ⟨[(.tmp 2)], (.seq (.region [⟨(some 2), (.mov (.c .nils)), none, []⟩]) (.seq (.region [⟨(some 5), (.mov (.t 0)), none, []⟩, ⟨(some 6), (.len 1 (.t 5)), none, []⟩, ⟨(some 7), (.mksl 4 1 [(.bool false)] (.t 6) (.t 6)), none,
  []⟩, ⟨(some 3), (.mov (.t 7)), none, []⟩]) (.seq (.seq (.region [⟨(some 4), (.mov (.c (.int .i64 0))), none, []⟩]) (.block 0 (.loop (.seq (.seq (.region [⟨(some 8), (.mov (.t 4)), none, []⟩, ⟨(some 9), (.mov (.t 0)), none, []⟩, ⟨(some 10),
  (.len 1 (.t 9)), none, []⟩, ⟨(some 11), (.bin .lss (.t 8) (.t 10)), none, []⟩]) (.cond (.t 11) .skip (.exit 0))) (.seq (.block 1 (.region [⟨(some 14), (.mov (.t 3)), none, []⟩, ⟨(some 15), (.mov (.t 4)), none, []⟩, ⟨(some 16), (.mov (.t
  0)), none, []⟩, ⟨(some 17), (.mov (.t 4)), none, []⟩, ⟨(some 18), (.idx 1 (.t 16) (.t 17)), none, []⟩, ⟨(some 19), (.load none none (.t 18)), none, []⟩, ⟨(some 20), (.idx 1 (.t 14) (.t 15)), none, []⟩, ⟨none, (.store none 1 (.t 20) (.t
  19)), none, []⟩])) (.region [⟨(some 12), (.mov (.t 4)), none, []⟩, ⟨(some 13), (.bin .add (.t 12) (.c (.int .i64 1))), none, []⟩, ⟨(some 4), (.mov (.t 13)), none, []⟩])))))) (.seq (.region [⟨(some 21), (.mov (.t 3)), none, []⟩, ⟨(some 2),
  (.mov (.t 21)), none, []⟩]) .ret))))⟩
theorem irOk49 : compFun Try.prog.underlying Try.prog.info? sq Try.f49 = some ir49 := by kernel_rfl
def ir50 : BFun := ⟨[(.tmp 2)], (.seq (.region [⟨(some 2), (.mov (.c .nils)), none, []⟩]) (.seq (.region [⟨(some 5), (.mov (.t 0)), none, []⟩, ⟨(some 6), (.len 1 (.t 5)), none, []⟩, ⟨(some 7), (.mksl 54 48 [(.int .i64 0), (.int .i64 0),
  (.str ⟨#[]⟩), (.str ⟨#[]⟩)] (.t 6) (.t 6)), none, []⟩, ⟨(some 3), (.mov (.t 7)), none, []⟩]) (.seq (.seq (.region [⟨(some 4), (.mov (.c (.int .i64 0))), none, []⟩]) (.block 0 (.loop (.seq (.seq (.region [⟨(some 8), (.mov (.t 4)), none,
  []⟩, ⟨(some 9), (.mov (.t 0)), none, []⟩, ⟨(some 10), (.len 1 (.t 9)), none, []⟩, ⟨(some 11), (.bin .lss (.t 8) (.t 10)), none, []⟩]) (.cond (.t 11) .skip (.exit 0))) (.seq (.block 1 (.region [⟨(some 14), (.mov (.t 3)), none, []⟩, ⟨(some
  15), (.mov (.t 4)), none, []⟩, ⟨(some 16), (.mov (.t 0)), none, []⟩, ⟨(some 17), (.mov (.t 4)), none, []⟩, ⟨(some 18), (.idx 4 (.t 16) (.t 17)), none, []⟩, ⟨(some 19), (.load none (some 4) (.t 18)), none, []⟩, ⟨(some 20), (.call (.c (.fn
  76 [])) [(.t 19)]), none, []⟩, ⟨(some 21), (.idx 4 (.t 14) (.t 15)), none, []⟩, ⟨none, (.store none 4 (.t 21) (.t 20)), none, []⟩])) (.region [⟨(some 12), (.mov (.t 4)), none, []⟩, ⟨(some 13), (.bin .add (.t 12) (.c (.int .i64 1))), none,
  []⟩, ⟨(some 4), (.mov (.t 13)), none, []⟩])))))) (.seq (.region [⟨(some 22), (.mov (.t 3)), none, []⟩, ⟨(some 2), (.mov (.t 22)), none, []⟩]) .ret))))⟩
theorem irOk50 : compFun Try.prog.underlying Try.prog.info? sq Try.f50 = some ir50 := by kernel_rfl
def ir51 : BFun := ⟨[(.tmp 2)], (.seq (.region [⟨(some 2), (.mov (.c (.bool false))), none, []⟩]) (.seq (.region [⟨(some 3), (.mov (.t 0)), none, []⟩, ⟨(some 4), (.bin .eql (.t 3) (.c (.str ⟨#[]⟩))), none, []⟩, ⟨(some 5), (.mov (.t 4)),
  none, []⟩, ⟨(some 6), (.mov (.t 0)), (some (5, false)), []⟩, ⟨(some 7), (.bin .eql (.t 6) (.c (.str ⟨#[97]⟩))), (some (5, false)), []⟩, ⟨(some 8), (.pick (.t 5) (.c (.bool true)) (.t 7)), none, []⟩, ⟨(some 9), (.mov (.t 8)), none, []⟩,
  ⟨(some 10), (.mov (.t 0)), (some (9, false)), []⟩, ⟨(some 11), (.bin .eql (.t 10) (.c (.str ⟨#[98]⟩))), (some (9, false)), []⟩, ⟨(some 12), (.pick (.t 9) (.c (.bool true)) (.t 11)), none, []⟩, ⟨(some 2), (.mov (.t 12)), none, []⟩]) .ret))⟩
theorem irOk51 : compFun Try.prog.underlying Try.prog.info? sq Try.f51 = some ir51 := by kernel_rfl
def ir52 : BFun := ⟨[(.tmp 4)], (.seq (.region [⟨(some 4), (.mov (.c (.bool false))), none, []⟩]) (.seq (.seq (.region [⟨(some 6), (.mov (.t 0)), none, []⟩, ⟨(some 7), (.len 1 (.t 6)), none, []⟩, ⟨(some 8), (.mov (.t 1)), none, []⟩, ⟨(some
  9), (.len 1 (.t 8)), none, []⟩, ⟨(some 10), (.bin .neq (.t 7) (.t 9)), none, []⟩]) (.cond (.t 10) (.seq (.region [⟨(some 4), (.mov (.c (.bool false))), none, []⟩]) .ret) .skip)) (.seq (.seq (.region [⟨(some 5), (.mov (.c (.int .i64 0))),
  none, []⟩]) (.block 0 (.loop (.seq (.seq (.region [⟨(some 11), (.mov (.t 5)), none, []⟩, ⟨(some 12), (.mov (.t 0)), none, []⟩, ⟨(some 13), (.len 1 (.t 12)), none, []⟩, ⟨(some 14), (.bin .lss (.t 11) (.t 13)), none, []⟩]) (.cond (.t 14)
  .skip (.exit 0))) (.seq (.block 1 (.seq (.region [⟨(some 17), (.mov (.t 0)), none, []⟩, ⟨(some 18), (.mov (.t 5)), none, []⟩, ⟨(some 19), (.idx 1 (.t 17) (.t 18)), none, []⟩, ⟨(some 20), (.load none none (.t 19)), none, []⟩, ⟨(some 21),
  (.mov (.t 1)), none, []⟩, ⟨(some 22), (.mov (.t 5)), none, []⟩, ⟨(some 23), (.idx 1 (.t 21) (.t 22)), none, []⟩, ⟨(some 24), (.load none none (.t 23)), none, []⟩, ⟨(some 25), (.beq true (.t 20) (.t 24)), none, []⟩]) (.cond (.t 25) (.seq
  (.region [⟨(some 4), (.mov (.c (.bool false))), none, []⟩]) .ret) .skip))) (.region [⟨(some 15), (.mov (.t 5)), none, []⟩, ⟨(some 16), (.bin .add (.t 15) (.c (.int .i64 1))), none, []⟩, ⟨(some 5), (.mov (.t 16)), none, []⟩])))))) (.seq
  (.region [⟨(some 4), (.mov (.c (.bool true))), none, []⟩]) .ret))))⟩
theorem irOk52 : compFun Try.prog.underlying Try.prog.info? sq Try.f52 = some ir52 := by kernel_rfl
def ir53 : BFun := ⟨[(.tmp 4)], (.seq (.region [⟨(some 4), (.mov (.c (.bool false))), none, []⟩]) (.seq (.seq (.region [⟨(some 6), (.mov (.t 0)), none, []⟩, ⟨(some 7), (.len 1 (.t 6)), none, []⟩, ⟨(some 8), (.mov (.t 1)), none, []⟩, ⟨(some
  9), (.len 1 (.t 8)), none, []⟩, ⟨(some 10), (.bin .neq (.t 7) (.t 9)), none, []⟩]) (.cond (.t 10) (.seq (.region [⟨(some 4), (.mov (.c (.bool false))), none, []⟩]) .ret) .skip)) (.seq (.seq (.region [⟨(some 5), (.mov (.c (.int .i64 0))),
  none, []⟩]) (.block 0 (.loop (.seq (.seq (.region [⟨(some 11), (.mov (.t 5)), none, []⟩, ⟨(some 12), (.mov (.t 0)), none, []⟩, ⟨(some 13), (.len 1 (.t 12)), none, []⟩, ⟨(some 14), (.bin .lss (.t 11) (.t 13)), none, []⟩]) (.cond (.t 14)
  .skip (.exit 0))) (.seq (.block 1 (.seq (.region [⟨(some 17), (.mov (.t 0)), none, []⟩, ⟨(some 18), (.mov (.t 5)), none, []⟩, ⟨(some 19), (.idx 4 (.t 17) (.t 18)), none, []⟩, ⟨(some 20), (.load none (some 4) (.t 19)), none, []⟩, ⟨(some
  21), (.mov (.t 1)), none, []⟩, ⟨(some 22), (.mov (.t 5)), none, []⟩, ⟨(some 23), (.idx 4 (.t 21) (.t 22)), none, []⟩, ⟨(some 24), (.load none (some 4) (.t 23)), none, []⟩, ⟨(some 25), (.call (.c (.fn 77 [])) [(.t 20), (.t 24)]), none, []⟩,
  ⟨(some 26), (.not (.t 25)), none, []⟩]) (.cond (.t 26) (.seq (.region [⟨(some 4), (.mov (.c (.bool false))), none, []⟩]) .ret) .skip))) (.region [⟨(some 15), (.mov (.t 5)), none, []⟩, ⟨(some 16), (.bin .add (.t 15) (.c (.int .i64 1))),
  none, []⟩, ⟨(some 5), (.mov (.t 16)), none, []⟩])))))) (.seq (.region [⟨(some 4), (.mov (.c (.bool true))), none, []⟩]) .ret))))⟩
theorem irOk53 : compFun Try.prog.underlying Try.prog.info? sq Try.f53 = some ir53 := by kernel_rfl
def ir54 : BFun := ⟨[(.tmp 4)], (.seq (.region [⟨(some 4), (.mov (.c (.bool false))), none, []⟩]) (.seq (.seq (.region [⟨(some 6), (.mov (.t 0)), none, []⟩, ⟨(some 7), (.nilck (.t 6)), none, []⟩, ⟨(some 8), (.lea 0 (.t 7)), none, []⟩, ⟨(some
  9), (.load none none (.t 8)), none, []⟩, ⟨(some 10), (.mov (.t 1)), none, []⟩, ⟨(some 11), (.nilck (.t 10)), none, []⟩, ⟨(some 12), (.lea 0 (.t 11)), none, []⟩, ⟨(some 13), (.load none none (.t 12)), none, []⟩, ⟨(some 14), (.bin .neq (.t
  9) (.t 13)), none, []⟩, ⟨(some 15), (.mov (.t 14)), none, []⟩, ⟨(some 16), (.mov (.t 0)), (some (15, false)), []⟩, ⟨(some 17), (.nilck (.t 16)), (some (15, false)), []⟩, ⟨(some 18), (.lea 1 (.t 17)), (some (15, false)), []⟩, ⟨(some 19),
  (.load none none (.t 18)), (some (15, false)), []⟩, ⟨(some 20), (.mov (.t 1)), (some (15, false)), []⟩, ⟨(some 21), (.nilck (.t 20)), (some (15, false)), []⟩, ⟨(some 22), (.lea 1 (.t 21)), (some (15, false)), []⟩, ⟨(some 23), (.load none
  none (.t 22)), (some (15, false)), []⟩, ⟨(some 24), (.call (.c (.fn 78 [])) [(.t 19), (.t 23)]), (some (15, false)), []⟩, ⟨(some 25), (.not (.t 24)), (some (15, false)), []⟩, ⟨(some 26), (.pick (.t 15) (.c (.bool true)) (.t 25)), none,
  []⟩, ⟨(some 27), (.mov (.t 26)), none, []⟩, ⟨(some 28), (.mov (.t 0)), (some (27, false)), []⟩, ⟨(some 29), (.nilck (.t 28)), (some (27, false)), []⟩, ⟨(some 30), (.lea 2 (.t 29)), (some (27, false)), []⟩, ⟨(some 31), (.load none none (.t
  30)), (some (27, false)), []⟩, ⟨(some 32), (.len 1 (.t 31)), (some (27, false)), []⟩, ⟨(some 33), (.mov (.t 1)), (some (27, false)), []⟩, ⟨(some 34), (.nilck (.t 33)), (some (27, false)), []⟩, ⟨(some 35), (.lea 2 (.t 34)), (some (27,
  false)), []⟩, ⟨(some 36), (.load none none (.t 35)), (some (27, false)), []⟩, ⟨(some 37), (.len 1 (.t 36)), (some (27, false)), []⟩, ⟨(some 38), (.bin .neq (.t 32) (.t 37)), (some (27, false)), []⟩, ⟨(some 39), (.pick (.t 27) (.c (.bool
  true)) (.t 38)), none, []⟩]) (.cond (.t 39) (.seq (.region [⟨(some 4), (.mov (.c (.bool false))), none, []⟩]) .ret) .skip)) (.seq (.seq (.region [⟨(some 5), (.mov (.c (.int .i64 0))), none, []⟩]) (.block 0 (.loop (.seq (.seq (.region
  [⟨(some 40), (.mov (.t 5)), none, []⟩, ⟨(some 41), (.mov (.t 0)), none, []⟩, ⟨(some 42), (.nilck (.t 41)), none, []⟩, ⟨(some 43), (.lea 2 (.t 42)), none, []⟩, ⟨(some 44), (.load none none (.t 43)), none, []⟩, ⟨(some 45), (.len 1 (.t 44)),
  none, []⟩, ⟨(some 46), (.bin .lss (.t 40) (.t 45)), none, []⟩]) (.cond (.t 46) .skip (.exit 0))) (.seq (.block 1 (.seq (.region [⟨(some 49), (.mov (.t 0)), none, []⟩, ⟨(some 50), (.nilck (.t 49)), none, []⟩, ⟨(some 51), (.lea 2 (.t 50)),
  none, []⟩, ⟨(some 52), (.load none none (.t 51)), none, []⟩, ⟨(some 53), (.mov (.t 5)), none, []⟩, ⟨(some 54), (.idx 4 (.t 52) (.t 53)), none, []⟩, ⟨(some 55), (.load none (some 4) (.t 54)), none, []⟩, ⟨(some 56), (.mov (.t 1)), none, []⟩,
  ⟨(some 57), (.nilck (.t 56)), none, []⟩, ⟨(some 58), (.lea 2 (.t 57)), none, []⟩, ⟨(some 59), (.load none none (.t 58)), none, []⟩, ⟨(some 60), (.mov (.t 5)), none, []⟩, ⟨(some 61), (.idx 4 (.t 59) (.t 60)), none, []⟩, ⟨(some 62), (.load
  none (some 4) (.t 61)), none, []⟩, ⟨(some 63), (.eqs true [(0, 0), (1, 0), (2, 1), (3, 1)] (.t 55) (.t 62)), none, []⟩]) (.cond (.t 63) (.seq (.region [⟨(some 4), (.mov (.c (.bool false))), none, []⟩]) .ret) .skip))) (.region [⟨(some 47),
  (.mov (.t 5)), none, []⟩, ⟨(some 48), (.bin .add (.t 47) (.c (.int .i64 1))), none, []⟩, ⟨(some 5), (.mov (.t 48)), none, []⟩])))))) (.seq (.region [⟨(some 4), (.mov (.c (.bool true))), none, []⟩]) .ret))))⟩
theorem irOk54 : compFun Try.prog.underlying Try.prog.info? sq Try.f54 = some ir54 := by kernel_rfl
def ir55 : BFun := ⟨[(.tmp 4)], (.seq (.region [⟨(some 4), (.mov (.c (.bool false))), none, []⟩]) (.seq (.seq (.region [⟨(some 6), (.mov (.t 0)), none, []⟩, ⟨(some 7), (.len 1 (.t 6)), none, []⟩, ⟨(some 8), (.mov (.t 1)), none, []⟩, ⟨(some
  9), (.len 1 (.t 8)), none, []⟩, ⟨(some 10), (.bin .neq (.t 7) (.t 9)), none, []⟩]) (.cond (.t 10) (.seq (.region [⟨(some 4), (.mov (.c (.bool false))), none, []⟩]) .ret) .skip)) (.seq (.seq (.region [⟨(some 11), (.mov (.t 0)), none, []⟩,
  ⟨(some 12), (.len 1 (.t 11)), none, []⟩, ⟨(some 13), (.mov (.c (.int .i64 0))), none, []⟩]) (.block 0 (.loop (.seq (.region [⟨(some 14), (.bin .lss (.t 13) (.t 12)), none, []⟩]) (.seq (.cond (.t 14) .skip (.exit 0)) (.seq (.block 1 (.seq
  (.region [⟨(some 15), (.mov (.t 13)), none, []⟩, ⟨(some 5), (.mov (.t 15)), none, []⟩]) (.seq (.region [⟨(some 16), (.mov (.t 0)), none, []⟩, ⟨(some 17), (.mov (.t 5)), none, []⟩, ⟨(some 18), (.idx 1 (.t 16) (.t 17)), none, []⟩, ⟨(some
  19), (.load none none (.t 18)), none, []⟩, ⟨(some 20), (.mov (.t 1)), none, []⟩, ⟨(some 21), (.mov (.t 5)), none, []⟩, ⟨(some 22), (.idx 1 (.t 20) (.t 21)), none, []⟩, ⟨(some 23), (.load none none (.t 22)), none, []⟩, ⟨(some 24), (.beq
  true (.t 19) (.t 23)), none, []⟩]) (.cond (.t 24) (.seq (.region [⟨(some 4), (.mov (.c (.bool false))), none, []⟩]) .ret) .skip)))) (.region [⟨(some 25), (.bin .add (.t 13) (.c (.int .i64 1))), none, []⟩, ⟨(some 13), (.mov (.t 25)), none,
  []⟩]))))))) (.seq (.region [⟨(some 4), (.mov (.c (.bool true))), none, []⟩]) .ret))))⟩
theorem irOk55 : compFun Try.prog.underlying Try.prog.info? sq Try.f55 = some ir55 := by kernel_rfl
def ir56 : BFun := ⟨[(.tmp 4)], (.seq (.region [⟨(some 4), (.mov (.c (.bool false))), none, []⟩]) (.seq (.seq (.region [⟨(some 6), (.mov (.t 0)), none, []⟩, ⟨(some 7), (.len 1 (.t 6)), none, []⟩, ⟨(some 8), (.mov (.t 1)), none, []⟩, ⟨(some
  9), (.len 1 (.t 8)), none, []⟩, ⟨(some 10), (.bin .neq (.t 7) (.t 9)), none, []⟩]) (.cond (.t 10) (.seq (.region [⟨(some 4), (.mov (.c (.bool false))), none, []⟩]) .ret) .skip)) (.seq (.seq (.region [⟨(some 11), (.mov (.t 0)), none, []⟩,
  ⟨(some 12), (.len 1 (.t 11)), none, []⟩, ⟨(some 13), (.mov (.c (.int .i64 0))), none, []⟩]) (.block 0 (.loop (.seq (.region [⟨(some 14), (.bin .lss (.t 13) (.t 12)), none, []⟩]) (.seq (.cond (.t 14) .skip (.exit 0)) (.seq (.block 1 (.seq
  (.region [⟨(some 15), (.mov (.t 13)), none, []⟩, ⟨(some 5), (.mov (.t 15)), none, []⟩]) (.seq (.region [⟨(some 16), (.mov (.t 0)), none, []⟩, ⟨(some 17), (.mov (.t 5)), none, []⟩, ⟨(some 18), (.idx 4 (.t 16) (.t 17)), none, []⟩, ⟨(some
  19), (.load none (some 4) (.t 18)), none, []⟩, ⟨(some 20), (.mov (.t 1)), none, []⟩, ⟨(some 21), (.mov (.t 5)), none, []⟩, ⟨(some 22), (.idx 4 (.t 20) (.t 21)), none, []⟩, ⟨(some 23), (.load none (some 4) (.t 22)), none, []⟩, ⟨(some 24),
  (.eqs true [(0, 0), (1, 0), (2, 1), (3, 1)] (.t 19) (.t 23)), none, []⟩]) (.cond (.t 24) (.seq (.region [⟨(some 4), (.mov (.c (.bool false))), none, []⟩]) .ret) .skip)))) (.region [⟨(some 25), (.bin .add (.t 13) (.c (.int .i64 1))), none,
  []⟩, ⟨(some 13), (.mov (.t 25)), none, []⟩]))))))) (.seq (.region [⟨(some 4), (.mov (.c (.bool true))), none, []⟩]) .ret))))⟩
theorem irOk56 : compFun Try.prog.underlying Try.prog.info? sq Try.f56 = some ir56 := by kernel_rfl
def ir57 : BFun := ⟨[(.cell 2 (some 3))], (.seq (.region [⟨(some 2), (.new 34 [(.int .i64 0), .nils, .nils]), none, []⟩]) (.seq (.region [⟨(some 6), (.mov (.t 0)), none, []⟩, ⟨(some 7), (.nilck (.t 6)), none, []⟩, ⟨(some 8), (.lea 0 (.t 7)),
  none, []⟩, ⟨(some 9), (.load (some 34) none (.t 8)), none, []⟩, ⟨(some 11), (.mov (.t 0)), none, []⟩, ⟨(some 12), (.nilck (.t 11)), none, []⟩, ⟨(some 13), (.lea 1 (.t 12)), none, []⟩, ⟨(some 14), (.load none none (.t 13)), none, []⟩,
  ⟨(some 10), (.mk 4 0 [] []), none, []⟩, ⟨(some 15), (.app 4 1 1 (.t 10) (.t 14)), none, []⟩, ⟨(some 16), (.build [(.int .i64 0), .nils, .nils] [(0, (1, (.t 9))), (1, (1, (.t 15)))]), none, []⟩, ⟨(some 3), (.new 34 [(.int .i64 0), .nils,
  .nils]), none, []⟩, ⟨none, (.store none 3 (.t 3) (.t 16)), none, []⟩]) (.seq (.seq (.region [⟨(some 4), (.mov (.c (.int .i64 0))), none, []⟩]) (.block 0 (.loop (.seq (.seq (.region [⟨(some 17), (.mov (.t 4)), none, []⟩, ⟨(some 18), (.mov
  (.t 0)), none, []⟩, ⟨(some 19), (.nilck (.t 18)), none, []⟩, ⟨(some 20), (.lea 2 (.t 19)), none, []⟩, ⟨(some 21), (.load none none (.t 20)), none, []⟩, ⟨(some 22), (.len 1 (.t 21)), none, []⟩, ⟨(some 23), (.bin .lss (.t 17) (.t 22)), none,
  []⟩]) (.cond (.t 23) .skip (.exit 0))) (.seq (.block 1 (.seq (.region [⟨(some 26), (.mov (.t 0)), none, []⟩, ⟨(some 27), (.nilck (.t 26)), none, []⟩, ⟨(some 28), (.lea 2 (.t 27)), none, []⟩, ⟨(some 29), (.load none none (.t 28)), none,
  []⟩, ⟨(some 30), (.mov (.t 4)), none, []⟩, ⟨(some 31), (.idx 4 (.t 29) (.t 30)), none, []⟩, ⟨(some 32), (.load none (some 4) (.t 31)), none, []⟩, ⟨(some 5), (.new 54 [(.int .i64 0), (.int .i64 0), (.str ⟨#[]⟩), (.str ⟨#[]⟩)]), none, []⟩,
  ⟨none, (.store none 4 (.t 5) (.t 32)), none, []⟩]) (.region [⟨(some 33), (.lea 2 (.t 3)), none, []⟩, ⟨(some 34), (.load none none (.t 33)), none, []⟩, ⟨(some 35), (.lea 0 (.t 5)), none, []⟩, ⟨(some 36), (.load none none (.t 35)), none,
  []⟩, ⟨(some 37), (.lea 1 (.t 5)), none, []⟩, ⟨(some 38), (.load none none (.t 37)), none, []⟩, ⟨(some 39), (.lea 3 (.t 5)), none, []⟩, ⟨(some 40), (.load none none (.t 39)), none, []⟩, ⟨(some 41), (.lea 2 (.t 5)), none, []⟩, ⟨(some 42),
  (.load none none (.t 41)), none, []⟩, ⟨(some 43), (.build [(.int .i64 0), (.int .i64 0), (.str ⟨#[]⟩), (.str ⟨#[]⟩)] [(0, (1, (.t 36))), (1, (1, (.t 38))), (2, (1, (.t 40))), (3, (1, (.t 42)))]), none, []⟩, ⟨(some 44), (.mk 54 1 [(.int
  .i64 0), (.int .i64 0), (.str ⟨#[]⟩), (.str ⟨#[]⟩)] [(0, (4, (.t 43)))]), none, []⟩, ⟨(some 45), (.app 54 4 48 (.t 34) (.t 44)), none, []⟩, ⟨(some 46), (.lea 2 (.t 3)), none, []⟩, ⟨none, (.store none 1 (.t 46) (.t 45)), none, []⟩])))
  (.region [⟨(some 24), (.mov (.t 4)), none, []⟩, ⟨(some 25), (.bin .add (.t 24) (.c (.int .i64 1))), none, []⟩, ⟨(some 4), (.mov (.t 25)), none, []⟩])))))) (.seq (.region [⟨(some 47), (.load none (some 3) (.t 3)), none, []⟩, ⟨none, (.store
  none 3 (.t 2) (.t 47)), none, []⟩]) .ret))))⟩
theorem irOk57 : compFun Try.prog.underlying Try.prog.info? sq Try.f57 = some ir57 := by kernel_rfl
def ir58 : BFun := ⟨[(.cell 2 (some 3))], (.seq (.region [⟨(some 1), (.box 34 (.t 0)), none, []⟩, ⟨(some 2), (.new 34 [(.int .i64 0), .nils, .nils]), none, []⟩]) (.seq (.region [⟨(some 6), (.lea 0 (.t 1)), none, []⟩, ⟨(some 7), (.load (some
  34) none (.t 6)), none, []⟩, ⟨(some 8), (.lea 1 (.t 1)), none, []⟩, ⟨(some 9), (.load none none (.t 8)), none, []⟩, ⟨(some 10), (.call (.c (.fn 79 [])) [(.t 9)]), none, [34]⟩, ⟨(some 11), (.build [(.int .i64 0), .nils, .nils] [(0, (1, (.t
  7))), (1, (1, (.t 10)))]), none, []⟩, ⟨(some 3), (.new 34 [(.int .i64 0), .nils, .nils]), none, []⟩, ⟨none, (.store none 3 (.t 3) (.t 11)), none, []⟩]) (.seq (.seq (.region [⟨(some 12), (.lea 2 (.t 1)), none, []⟩, ⟨(some 13), (.load none
  none (.t 12)), none, []⟩, ⟨(some 14), (.len 1 (.t 13)), none, []⟩, ⟨(some 15), (.mov (.c (.int .i64 0))), none, []⟩]) (.block 0 (.loop (.seq (.region [⟨(some 16), (.bin .lss (.t 15) (.t 14)), none, []⟩]) (.seq (.cond (.t 16) .skip (.exit
  0)) (.seq (.block 1 (.seq (.region [⟨(some 17), (.idx 4 (.t 13) (.t 15)), none, []⟩, ⟨(some 18), (.load none (some 4) (.t 17)), none, []⟩, ⟨(some 5), (.new 54 [(.int .i64 0), (.int .i64 0), (.str ⟨#[]⟩), (.str ⟨#[]⟩)]), none, []⟩, ⟨none,
  (.store none 4 (.t 5) (.t 18)), none, []⟩]) (.region [⟨(some 19), (.lea 2 (.t 3)), none, []⟩, ⟨(some 20), (.load none none (.t 19)), none, []⟩, ⟨(some 21), (.lea 0 (.t 5)), none, []⟩, ⟨(some 22), (.load none none (.t 21)), none, []⟩,
  ⟨(some 23), (.lea 1 (.t 5)), none, []⟩, ⟨(some 24), (.load none none (.t 23)), none, []⟩, ⟨(some 25), (.lea 3 (.t 5)), none, []⟩, ⟨(some 26), (.load none none (.t 25)), none, []⟩, ⟨(some 27), (.lea 2 (.t 5)), none, []⟩, ⟨(some 28), (.load
  none none (.t 27)), none, []⟩, ⟨(some 29), (.build [(.int .i64 0), (.int .i64 0), (.str ⟨#[]⟩), (.str ⟨#[]⟩)] [(0, (1, (.t 22))), (1, (1, (.t 24))), (2, (1, (.t 26))), (3, (1, (.t 28)))]), none, []⟩, ⟨(some 30), (.mk 54 1 [(.int .i64 0),
  (.int .i64 0), (.str ⟨#[]⟩), (.str ⟨#[]⟩)] [(0, (4, (.t 29)))]), none, []⟩, ⟨(some 31), (.app 54 4 48 (.t 20) (.t 30)), none, []⟩, ⟨(some 32), (.lea 2 (.t 3)), none, []⟩, ⟨none, (.store none 1 (.t 32) (.t 31)), none, []⟩]))) (.region
  [⟨(some 33), (.bin .add (.t 15) (.c (.int .i64 1))), none, []⟩, ⟨(some 15), (.mov (.t 33)), none, []⟩]))))))) (.seq (.region [⟨(some 34), (.load none (some 3) (.t 3)), none, []⟩, ⟨none, (.store none 3 (.t 2) (.t 34)), none, []⟩]) .ret))))⟩
theorem irOk58 : compFun Try.prog.underlying Try.prog.info? sq Try.f58 = some ir58 := by kernel_rfl
def ir59 : BFun := ⟨[(.tmp 4)], (.seq (.region [⟨(some 4), (.mov (.c (.int .i64 0))), none, []⟩]) (.seq (.seq (.region [⟨(some 5), (.mov (.c (.int .i64 0))), none, []⟩]) (.block 0 (.loop (.seq (.seq (.region [⟨(some 6), (.mov (.t 5)), none,
  []⟩, ⟨(some 7), (.mov (.t 0)), none, []⟩, ⟨(some 8), (.len 1 (.t 7)), none, []⟩, ⟨(some 9), (.bin .lss (.t 6) (.t 8)), none, []⟩]) (.cond (.t 9) .skip (.exit 0))) (.seq (.block 1 (.seq (.region [⟨(some 12), (.mov (.t 0)), none, []⟩, ⟨(some
  13), (.mov (.t 5)), none, []⟩, ⟨(some 14), (.mov (.t 1)), none, []⟩, ⟨(some 15), (.bin .rem (.t 14) (.c (.int .i64 3))), none, []⟩, ⟨(some 16), (.bin .eql (.t 15) (.c (.int .i64 0))), none, []⟩, ⟨(some 17), (.idx 1 (.t 12) (.t 13)), none,
  []⟩, ⟨none, (.store none 1 (.t 17) (.t 16)), none, []⟩]) (.region [⟨(some 18), (.mov (.t 1)), none, []⟩, ⟨(some 19), (.bin .add (.t 18) (.c (.int .i64 1))), none, []⟩, ⟨(some 1), (.mov (.t 19)), none, []⟩]))) (.region [⟨(some 10), (.mov
  (.t 5)), none, []⟩, ⟨(some 11), (.bin .add (.t 10) (.c (.int .i64 1))), none, []⟩, ⟨(some 5), (.mov (.t 11)), none, []⟩])))))) (.seq (.region [⟨(some 20), (.mov (.t 1)), none, []⟩, ⟨(some 4), (.mov (.t 20)), none, []⟩]) .ret)))⟩
theorem irOk59 : compFun Try.prog.underlying Try.prog.info? sq Try.f59 = some ir59 := by kernel_rfl
def ir60 : BFun := ⟨[(.tmp 4)], (.seq (.region [⟨(some 4), (.mov (.c (.int .i64 0))), none, []⟩]) (.seq (.seq (.region [⟨(some 5), (.mov (.c (.int .i64 0))), none, []⟩]) (.block 0 (.loop (.seq (.seq (.region [⟨(some 6), (.mov (.t 5)), none,
  []⟩, ⟨(some 7), (.mov (.t 0)), none, []⟩, ⟨(some 8), (.len 1 (.t 7)), none, []⟩, ⟨(some 9), (.bin .lss (.t 6) (.t 8)), none, []⟩]) (.cond (.t 9) .skip (.exit 0))) (.seq (.block 1 (.seq (.region [⟨(some 12), (.mov (.t 0)), none, []⟩, ⟨(some
  13), (.mov (.t 5)), none, []⟩, ⟨(some 14), (.mov (.t 1)), none, []⟩, ⟨(some 15), (.idx 4 (.t 12) (.t 13)), none, []⟩, ⟨(some 16), (.lea 0 (.t 15)), none, []⟩, ⟨none, (.store none 1 (.t 16) (.t 14)), none, []⟩]) (.seq (.region [⟨(some 17),
  (.mov (.t 1)), none, []⟩, ⟨(some 18), (.bin .add (.t 17) (.c (.int .i64 1))), none, []⟩, ⟨(some 1), (.mov (.t 18)), none, []⟩]) (.seq (.region [⟨(some 19), (.mov (.t 0)), none, []⟩, ⟨(some 20), (.mov (.t 5)), none, []⟩, ⟨(some 21), (.mov
  (.t 1)), none, []⟩, ⟨(some 22), (.idx 4 (.t 19) (.t 20)), none, []⟩, ⟨(some 23), (.lea 1 (.t 22)), none, []⟩, ⟨none, (.store none 1 (.t 23) (.t 21)), none, []⟩]) (.seq (.region [⟨(some 24), (.mov (.t 1)), none, []⟩, ⟨(some 25), (.bin .add
  (.t 24) (.c (.int .i64 1))), none, []⟩, ⟨(some 1), (.mov (.t 25)), none, []⟩]) (.seq (.region [⟨(some 26), (.mov (.t 0)), none, []⟩, ⟨(some 27), (.mov (.t 5)), none, []⟩, ⟨(some 28), (.mov (.t 1)), none, []⟩, ⟨(some 29), (.call (.c (.fn 80
  [])) [(.t 28)]), none, []⟩, ⟨(some 30), (.idx 4 (.t 26) (.t 27)), none, []⟩, ⟨(some 31), (.lea 2 (.t 30)), none, []⟩, ⟨none, (.store none 1 (.t 31) (.t 29)), none, []⟩]) (.seq (.region [⟨(some 32), (.mov (.t 1)), none, []⟩, ⟨(some 33),
  (.bin .add (.t 32) (.c (.int .i64 1))), none, []⟩, ⟨(some 1), (.mov (.t 33)), none, []⟩]) (.seq (.region [⟨(some 34), (.mov (.t 0)), none, []⟩, ⟨(some 35), (.mov (.t 5)), none, []⟩, ⟨(some 36), (.mov (.t 1)), none, []⟩, ⟨(some 37), (.call
  (.c (.fn 80 [])) [(.t 36)]), none, []⟩, ⟨(some 38), (.idx 4 (.t 34) (.t 35)), none, []⟩, ⟨(some 39), (.lea 3 (.t 38)), none, []⟩, ⟨none, (.store none 1 (.t 39) (.t 37)), none, []⟩]) (.region [⟨(some 40), (.mov (.t 1)), none, []⟩, ⟨(some
  41), (.bin .add (.t 40) (.c (.int .i64 1))), none, []⟩, ⟨(some 1), (.mov (.t 41)), none, []⟩]))))))))) (.region [⟨(some 10), (.mov (.t 5)), none, []⟩, ⟨(some 11), (.bin .add (.t 10) (.c (.int .i64 1))), none, []⟩, ⟨(some 5), (.mov (.t
  11)), none, []⟩])))))) (.seq (.region [⟨(some 42), (.mov (.t 1)), none, []⟩, ⟨(some 4), (.mov (.t 42)), none, []⟩]) .ret)))⟩
theorem irOk60 : compFun Try.prog.underlying Try.prog.info? sq Try.f60 = some ir60 := by kernel_rfl
def ir61 : BFun := ⟨[(.tmp 4)], (.seq (.region [⟨(some 4), (.mov (.c (.int .i64 0))), none, []⟩]) (.seq (.seq (.region [⟨(some 5), (.mov (.c (.int .i64 0))), none, []⟩]) (.block 0 (.loop (.seq (.seq (.region [⟨(some 6), (.mov (.t 5)), none,
  []⟩, ⟨(some 7), (.mov (.t 0)), none, []⟩, ⟨(some 8), (.len 1 (.t 7)), none, []⟩, ⟨(some 9), (.bin .lss (.t 6) (.t 8)), none, []⟩]) (.cond (.t 9) .skip (.exit 0))) (.seq (.block 1 (.seq (.seq (.region [⟨(some 12), (.mov (.t 0)), none, []⟩,
  ⟨(some 13), (.mov (.t 5)), none, []⟩, ⟨(some 14), (.idx 1 (.t 12) (.t 13)), none, []⟩, ⟨(some 15), (.load none none (.t 14)), none, []⟩, ⟨(some 16), (.mov (.t 1)), none, []⟩, ⟨(some 17), (.bin .rem (.t 16) (.c (.int .i64 3))), none, []⟩,
  ⟨(some 18), (.bin .eql (.t 17) (.c (.int .i64 0))), none, []⟩, ⟨(some 19), (.beq true (.t 15) (.t 18)), none, []⟩]) (.cond (.t 19) (.seq (.region [⟨(some 4), (.mov (.c (.int .i64 (-1)))), none, []⟩]) .ret) .skip)) (.region [⟨(some 20),
  (.mov (.t 1)), none, []⟩, ⟨(some 21), (.bin .add (.t 20) (.c (.int .i64 1))), none, []⟩, ⟨(some 1), (.mov (.t 21)), none, []⟩]))) (.region [⟨(some 10), (.mov (.t 5)), none, []⟩, ⟨(some 11), (.bin .add (.t 10) (.c (.int .i64 1))), none,
  []⟩, ⟨(some 5), (.mov (.t 11)), none, []⟩])))))) (.seq (.region [⟨(some 22), (.mov (.t 1)), none, []⟩, ⟨(some 4), (.mov (.t 22)), none, []⟩]) .ret)))⟩
theorem irOk61 : compFun Try.prog.underlying Try.prog.info? sq Try.f61 = some ir61 := by kernel_rfl
def ir62 : BFun := ⟨[(.tmp 4)], (.seq (.region [⟨(some 4), (.mov (.c (.int .i64 0))), none, []⟩]) (.seq (.seq (.region [⟨(some 5), (.mov (.c (.int .i64 0))), none, []⟩]) (.block 0 (.loop (.seq (.seq (.region [⟨(some 6), (.mov (.t 5)), none,
  []⟩, ⟨(some 7), (.mov (.t 0)), none, []⟩, ⟨(some 8), (.len 1 (.t 7)), none, []⟩, ⟨(some 9), (.bin .lss (.t 6) (.t 8)), none, []⟩]) (.cond (.t 9) .skip (.exit 0))) (.seq (.block 1 (.seq (.seq (.region [⟨(some 12), (.mov (.t 0)), none, []⟩,
  ⟨(some 13), (.mov (.t 5)), none, []⟩, ⟨(some 14), (.idx 4 (.t 12) (.t 13)), none, []⟩, ⟨(some 15), (.lea 0 (.t 14)), none, []⟩, ⟨(some 16), (.load none none (.t 15)), none, []⟩, ⟨(some 17), (.mov (.t 1)), none, []⟩, ⟨(some 18), (.bin .neq
  (.t 16) (.t 17)), none, []⟩]) (.cond (.t 18) (.seq (.region [⟨(some 4), (.mov (.c (.int .i64 (-1)))), none, []⟩]) .ret) .skip)) (.seq (.region [⟨(some 19), (.mov (.t 1)), none, []⟩, ⟨(some 20), (.bin .add (.t 19) (.c (.int .i64 1))), none,
  []⟩, ⟨(some 1), (.mov (.t 20)), none, []⟩]) (.seq (.seq (.region [⟨(some 21), (.mov (.t 0)), none, []⟩, ⟨(some 22), (.mov (.t 5)), none, []⟩, ⟨(some 23), (.idx 4 (.t 21) (.t 22)), none, []⟩, ⟨(some 24), (.lea 1 (.t 23)), none, []⟩, ⟨(some
  25), (.load none none (.t 24)), none, []⟩, ⟨(some 26), (.mov (.t 1)), none, []⟩, ⟨(some 27), (.bin .neq (.t 25) (.t 26)), none, []⟩]) (.cond (.t 27) (.seq (.region [⟨(some 4), (.mov (.c (.int .i64 (-1)))), none, []⟩]) .ret) .skip)) (.seq
  (.region [⟨(some 28), (.mov (.t 1)), none, []⟩, ⟨(some 29), (.bin .add (.t 28) (.c (.int .i64 1))), none, []⟩, ⟨(some 1), (.mov (.t 29)), none, []⟩]) (.seq (.seq (.region [⟨(some 30), (.mov (.t 0)), none, []⟩, ⟨(some 31), (.mov (.t 5)),
  none, []⟩, ⟨(some 32), (.idx 4 (.t 30) (.t 31)), none, []⟩, ⟨(some 33), (.lea 2 (.t 32)), none, []⟩, ⟨(some 34), (.load (some 54) none (.t 33)), none, []⟩, ⟨(some 35), (.mov (.t 1)), none, []⟩, ⟨(some 36), (.call (.c (.fn 80 [])) [(.t
  35)]), none, [54]⟩, ⟨(some 37), (.bin .neq (.t 34) (.t 36)), none, []⟩]) (.cond (.t 37) (.seq (.region [⟨(some 4), (.mov (.c (.int .i64 (-1)))), none, []⟩]) .ret) .skip)) (.seq (.region [⟨(some 38), (.mov (.t 1)), none, []⟩, ⟨(some 39),
  (.bin .add (.t 38) (.c (.int .i64 1))), none, []⟩, ⟨(some 1), (.mov (.t 39)), none, []⟩]) (.seq (.seq (.region [⟨(some 40), (.mov (.t 0)), none, []⟩, ⟨(some 41), (.mov (.t 5)), none, []⟩, ⟨(some 42), (.idx 4 (.t 40) (.t 41)), none, []⟩,
  ⟨(some 43), (.lea 3 (.t 42)), none, []⟩, ⟨(some 44), (.load (some 54) none (.t 43)), none, []⟩, ⟨(some 45), (.mov (.t 1)), none, []⟩, ⟨(some 46), (.call (.c (.fn 80 [])) [(.t 45)]), none, [54]⟩, ⟨(some 47), (.bin .neq (.t 44) (.t 46)),
  none, []⟩]) (.cond (.t 47) (.seq (.region [⟨(some 4), (.mov (.c (.int .i64 (-1)))), none, []⟩]) .ret) .skip)) (.region [⟨(some 48), (.mov (.t 1)), none, []⟩, ⟨(some 49), (.bin .add (.t 48) (.c (.int .i64 1))), none, []⟩, ⟨(some 1), (.mov
  (.t 49)), none, []⟩]))))))))) (.region [⟨(some 10), (.mov (.t 5)), none, []⟩, ⟨(some 11), (.bin .add (.t 10) (.c (.int .i64 1))), none, []⟩, ⟨(some 5), (.mov (.t 11)), none, []⟩])))))) (.seq (.region [⟨(some 50), (.mov (.t 1)), none, []⟩,
  ⟨(some 4), (.mov (.t 50)), none, []⟩]) .ret)))⟩
theorem irOk62 : compFun Try.prog.underlying Try.prog.info? sq Try.f62 = some ir62 := by kernel_rfl
def ir63 : BFun := ⟨[], (.seq (.region [⟨(some 6), (.mov (.c (.int .i64 0))), none, []⟩]) (.block 0 (.loop (.seq (.seq (.region [⟨(some 8), (.mov (.t 6)), none, []⟩, ⟨(some 9), (.mov (.t 1)), none, []⟩, ⟨(some 10), (.nilck (.t 9)), none,
  []⟩, ⟨(some 11), (.lea 2 (.t 10)), none, []⟩, ⟨(some 12), (.load none none (.t 11)), none, []⟩, ⟨(some 13), (.len 1 (.t 12)), none, []⟩, ⟨(some 14), (.bin .lss (.t 8) (.t 13)), none, []⟩]) (.cond (.t 14) .skip (.exit 0))) (.seq (.block 1
  (.seq (.region [⟨(some 17), (.mov (.t 1)), none, []⟩, ⟨(some 18), (.nilck (.t 17)), none, []⟩, ⟨(some 19), (.lea 2 (.t 18)), none, []⟩, ⟨(some 20), (.load none none (.t 19)), none, []⟩, ⟨(some 21), (.mov (.t 6)), none, []⟩, ⟨(some 22),
  (.idx 4 (.t 20) (.t 21)), none, []⟩, ⟨(some 23), (.load none (some 4) (.t 22)), none, []⟩, ⟨(some 7), (.new 54 [(.int .i64 0), (.int .i64 0), (.str ⟨#[]⟩), (.str ⟨#[]⟩)]), none, []⟩, ⟨none, (.store none 4 (.t 7) (.t 23)), none, []⟩])
  (.region [⟨(some 24), (.mov (.t 0)), none, []⟩, ⟨(some 25), (.mov (.t 0)), none, []⟩, ⟨(some 26), (.nilck (.t 25)), none, []⟩, ⟨(some 27), (.lea 2 (.t 26)), none, []⟩, ⟨(some 28), (.load none none (.t 27)), none, []⟩, ⟨(some 29), (.lea 0
  (.t 7)), none, []⟩, ⟨(some 30), (.load none none (.t 29)), none, []⟩, ⟨(some 31), (.mov (.t 2)), none, []⟩, ⟨(some 32), (.bin .add (.t 30) (.t 31)), none, []⟩, ⟨(some 33), (.lea 1 (.t 7)), none, []⟩, ⟨(some 34), (.load none none (.t 33)),
  none, []⟩, ⟨(some 35), (.mov (.t 2)), none, []⟩, ⟨(some 36), (.bin .add (.t 34) (.t 35)), none, []⟩, ⟨(some 37), (.lea 2 (.t 7)), none, []⟩, ⟨(some 38), (.load none none (.t 37)), none, []⟩, ⟨(some 39), (.lea 3 (.t 7)), none, []⟩, ⟨(some
  40), (.load none none (.t 39)), none, []⟩, ⟨(some 41), (.build [(.int .i64 0), (.int .i64 0), (.str ⟨#[]⟩), (.str ⟨#[]⟩)] [(0, (1, (.t 32))), (1, (1, (.t 36))), (2, (1, (.t 38))), (3, (1, (.t 40)))]), none, []⟩, ⟨(some 42), (.mk 54 1
  [(.int .i64 0), (.int .i64 0), (.str ⟨#[]⟩), (.str ⟨#[]⟩)] [(0, (4, (.t 41)))]), none, []⟩, ⟨(some 43), (.app 54 4 48 (.t 28) (.t 42)), none, []⟩, ⟨(some 44), (.nilck (.t 24)), none, []⟩, ⟨(some 45), (.lea 2 (.t 44)), none, []⟩, ⟨none,
  (.store none 1 (.t 45) (.t 43)), none, []⟩]))) (.region [⟨(some 15), (.mov (.t 6)), none, []⟩, ⟨(some 16), (.bin .add (.t 15) (.c (.int .i64 1))), none, []⟩, ⟨(some 6), (.mov (.t 16)), none, []⟩]))))))⟩
theorem irOk63 : compFun Try.prog.underlying Try.prog.info? sq Try.f63 = some ir63 := by kernel_rfl
def ir64 : BFun := ⟨[(.cell 2 (some 3)), (.tmp 3)], (.seq (.region [⟨(some 1), (.box 34 (.t 0)), none, []⟩, ⟨(some 2), (.new 34 [(.int .i64 0), .nils, .nils]), none, []⟩, ⟨(some 3), (.mov (.c (.int .i64 0))), none, []⟩]) (.seq (.seq (.region
  [⟨(some 4), (.lea 1 (.t 1)), none, []⟩, ⟨(some 5), (.load none none (.t 4)), none, []⟩, ⟨(some 6), (.len 1 (.t 5)), none, []⟩, ⟨(some 7), (.bin .gtr (.t 6) (.c (.int .i64 40))), none, []⟩, ⟨(some 8), (.mov (.t 7)), none, []⟩, ⟨(some 9),
  (.lea 2 (.t 1)), (some (8, false)), []⟩, ⟨(some 10), (.load none none (.t 9)), (some (8, false)), []⟩, ⟨(some 11), (.len 1 (.t 10)), (some (8, false)), []⟩, ⟨(some 12), (.bin .gtr (.t 11) (.c (.int .i64 200))), (some (8, false)), []⟩,
  ⟨(some 13), (.pick (.t 8) (.c (.bool true)) (.t 12)), none, []⟩]) (.cond (.t 13) (.seq (.region [⟨(some 14), (.build [(.int .i64 0), .nils, .nils] []), none, []⟩, ⟨none, (.store none 3 (.t 2) (.t 14)), none, []⟩, ⟨(some 3), (.mov (.c (.int
  .i64 3))), none, []⟩]) .ret) .skip)) (.seq (.region [⟨(some 15), (.load none (some 3) (.t 1)), none, []⟩, ⟨none, (.store none 3 (.t 2) (.t 15)), none, []⟩, ⟨(some 3), (.mov (.c (.int .i64 0))), none, []⟩]) .ret)))⟩
theorem irOk64 : compFun Try.prog.underlying Try.prog.info? sq Try.f64 = some ir64 := by kernel_rfl
def ir65 : BFun := ⟨[(.tmp 2)], (.seq (.region [⟨(some 1), (.box 34 (.t 0)), none, []⟩, ⟨(some 2), (.mov (.c (.int .i64 0))), none, []⟩]) (.seq (.region [⟨(some 3), (.lea 1 (.t 1)), none, []⟩, ⟨(some 4), (.load none none (.t 3)), none, []⟩,
  ⟨(some 5), (.len 1 (.t 4)), none, []⟩, ⟨(some 2), (.mov (.t 5)), none, []⟩]) .ret))⟩
theorem irOk65 : compFun Try.prog.underlying Try.prog.info? sq Try.f65 = some ir65 := by kernel_rfl
def ir66 : BFun := ⟨[(.tmp 4)], (.seq (.region [⟨(some 4), (.mov (.c .nils)), none, []⟩]) (.seq (.region [⟨(some 5), (.mov (.c .nils)), none, []⟩]) (.seq (.seq (.region [⟨(some 8), (.mov (.t 0)), none, []⟩, ⟨(some 9), (.len 1 (.t 8)), none,
  []⟩, ⟨(some 10), (.mov (.c (.int .i64 0))), none, []⟩]) (.block 0 (.loop (.seq (.region [⟨(some 11), (.bin .lss (.t 10) (.t 9)), none, []⟩]) (.seq (.cond (.t 11) .skip (.exit 0)) (.seq (.block 1 (.seq (.region [⟨(some 12), (.idx 4 (.t 8)
  (.t 10)), none, []⟩, ⟨(some 13), (.load none (some 4) (.t 12)), none, []⟩, ⟨(some 7), (.new 54 [(.int .i64 0), (.int .i64 0), (.str ⟨#[]⟩), (.str ⟨#[]⟩)]), none, []⟩, ⟨none, (.store none 4 (.t 7) (.t 13)), none, []⟩]) (.seq (.region
  [⟨(some 14), (.lea 0 (.t 7)), none, []⟩, ⟨(some 15), (.load none none (.t 14)), none, []⟩, ⟨(some 16), (.mov (.t 1)), none, []⟩, ⟨(some 17), (.bin .add (.t 15) (.t 16)), none, []⟩, ⟨(some 18), (.lea 0 (.t 7)), none, []⟩, ⟨none, (.store
  none 1 (.t 18) (.t 17)), none, []⟩]) (.seq (.region [⟨(some 19), (.lea 1 (.t 7)), none, []⟩, ⟨(some 20), (.load none none (.t 19)), none, []⟩, ⟨(some 21), (.mov (.t 1)), none, []⟩, ⟨(some 22), (.bin .add (.t 20) (.t 21)), none, []⟩, ⟨(some
  23), (.lea 1 (.t 7)), none, []⟩, ⟨none, (.store none 1 (.t 23) (.t 22)), none, []⟩]) (.region [⟨(some 24), (.mov (.t 5)), none, []⟩, ⟨(some 25), (.load none (some 4) (.t 7)), none, []⟩, ⟨(some 26), (.mk 54 1 [(.int .i64 0), (.int .i64 0),
  (.str ⟨#[]⟩), (.str ⟨#[]⟩)] [(0, (4, (.t 25)))]), none, []⟩, ⟨(some 27), (.app 54 4 48 (.t 24) (.t 26)), none, []⟩, ⟨(some 5), (.mov (.t 27)), none, []⟩]))))) (.region [⟨(some 28), (.bin .add (.t 10) (.c (.int .i64 1))), none, []⟩, ⟨(some
  10), (.mov (.t 28)), none, []⟩]))))))) (.seq (.region [⟨(some 29), (.mov (.t 5)), none, []⟩, ⟨(some 4), (.mov (.t 29)), none, []⟩]) .ret))))⟩
theorem irOk66 : compFun Try.prog.underlying Try.prog.info? sq Try.f66 = some ir66 := by kernel_rfl
def ir67 : BFun := ⟨[(.cell 2 (some 3)), (.tmp 3)], (.seq (.region [⟨(some 1), (.box 34 (.t 0)), none, []⟩, ⟨(some 2), (.new 34 [(.int .i64 0), .nils, .nils]), none, []⟩, ⟨(some 3), (.mov (.c (.int .i64 0))), none, []⟩]) (.seq (.seq (.region
  [⟨(some 4), (.lea 1 (.t 1)), none, []⟩, ⟨(some 5), (.load none none (.t 4)), none, []⟩, ⟨(some 6), (.len 1 (.t 5)), none, []⟩, ⟨(some 7), (.bin .gtr (.t 6) (.c (.int .i64 40))), none, []⟩, ⟨(some 8), (.mov (.t 7)), none, []⟩, ⟨(some 9),
  (.lea 2 (.t 1)), (some (8, false)), []⟩, ⟨(some 10), (.load none none (.t 9)), (some (8, false)), []⟩, ⟨(some 11), (.len 1 (.t 10)), (some (8, false)), []⟩, ⟨(some 12), (.bin .gtr (.t 11) (.c (.int .i64 200))), (some (8, false)), []⟩,
  ⟨(some 13), (.pick (.t 8) (.c (.bool true)) (.t 12)), none, []⟩]) (.cond (.t 13) (.seq (.region [⟨(some 14), (.build [(.int .i64 0), .nils, .nils] []), none, []⟩, ⟨none, (.store none 3 (.t 2) (.t 14)), none, []⟩, ⟨(some 3), (.mov (.c (.int
  .i64 3))), none, []⟩]) .ret) .skip)) (.seq (.region [⟨(some 15), (.load none (some 3) (.t 1)), none, []⟩, ⟨none, (.store none 3 (.t 2) (.t 15)), none, []⟩, ⟨(some 3), (.mov (.c (.int .i64 0))), none, []⟩]) .ret)))⟩
theorem irOk67 : compFun Try.prog.underlying Try.prog.info? sq Try.f67 = some ir67 := by kernel_rfl
def ir68 : BFun := ⟨[(.tmp 2)], (.seq (.region [⟨(some 2), (.mov (.c .nils)), none, []⟩]) (.seq (.seq (.region [⟨(some 3), (.mov (.t 0)), none, []⟩, ⟨(some 4), (.isnil false (.t 3)), none, []⟩]) (.cond (.t 4) (.seq (.region [⟨(some 2), (.mov
  (.c .nils)), none, []⟩]) .ret) .skip)) (.seq (.region [⟨(some 5), (.mk 54 0 [] []), none, []⟩, ⟨(some 6), (.mov (.t 0)), none, []⟩, ⟨(some 7), (.app 54 4 48 (.t 5) (.t 6)), none, []⟩, ⟨(some 2), (.mov (.t 7)), none, []⟩]) .ret)))⟩
theorem irOk68 : compFun Try.prog.underlying Try.prog.info? sq Try.f68 = some ir68 := by kernel_rfl
def ir69 : BFun := ⟨[(.cell 2 (some 3))], (.seq (.region [⟨(some 2), (.new 34 [(.int .i64 0), .nils, .nils]), none, []⟩]) (.seq (.region [⟨(some 11), (.mov (.t 0)), none, []⟩, ⟨(some 12), (.nilck (.t 11)), none, []⟩, ⟨(some 13), (.lea 1 (.t
  12)), none, []⟩, ⟨(some 14), (.load none none (.t 13)), none, []⟩, ⟨(some 15), (.len 1 (.t 14)), none, []⟩, ⟨(some 3), (.mov (.t 15)), none, []⟩]) (.seq (.region [⟨(some 16), (.mov (.t 3)), none, []⟩, ⟨(some 17), (.mksl 4 1 [(.bool false)]
  (.t 16) (.t 16)), none, []⟩, ⟨(some 4), (.mov (.t 17)), none, []⟩]) (.seq (.region [⟨(some 18), (.mov (.t 4)), none, []⟩, ⟨(some 19), (.mov (.t 0)), none, []⟩, ⟨(some 20), (.nilck (.t 19)), none, []⟩, ⟨(some 21), (.lea 0 (.t 20)), none,
  []⟩, ⟨(some 22), (.load none none (.t 21)), none, []⟩, ⟨(some 23), (.idx 1 (.t 18) (.t 22)), none, []⟩, ⟨none, (.store none 1 (.t 23) (.c (.bool true))), none, []⟩]) (.seq (.region [⟨(some 24), (.mov (.t 0)), none, []⟩, ⟨(some 25), (.mov
  (.t 4)), none, []⟩, ⟨(some 26), (.call (.c (.fn 81 [])) [(.t 24), (.t 25), (.c (.bool false))]), none, []⟩, ⟨(some 4), (.mov (.t 26)), none, []⟩]) (.seq (.region [⟨(some 27), (.mov (.t 0)), none, []⟩, ⟨(some 28), (.mk 4 0 [] []), none,
  []⟩, ⟨(some 29), (.mov (.t 0)), none, []⟩, ⟨(some 30), (.nilck (.t 29)), none, []⟩, ⟨(some 31), (.lea 1 (.t 30)), none, []⟩, ⟨(some 32), (.load none none (.t 31)), none, []⟩, ⟨(some 33), (.app 4 1 1 (.t 28) (.t 32)), none, []⟩, ⟨(some 34),
  (.call (.c (.fn 81 [])) [(.t 27), (.t 33), (.c (.bool true))]), none, []⟩, ⟨(some 5), (.mov (.t 34)), none, []⟩]) (.seq (.region [⟨(some 35), (.mov (.t 3)), none, []⟩, ⟨(some 36), (.mksl 2 8 [(.int .i64 0)] (.t 35) (.t 35)), none, []⟩,
  ⟨(some 6), (.mov (.t 36)), none, []⟩]) (.seq (.region [⟨(some 37), (.build [(.int .i64 0), .nils, .nils] []), none, []⟩, ⟨(some 7), (.new 34 [(.int .i64 0), .nils, .nils]), none, []⟩, ⟨none, (.store none 3 (.t 7) (.t 37)), none, []⟩])
  (.seq (.seq (.region [⟨(some 8), (.mov (.c (.int .i64 0))), none, []⟩]) (.block 0 (.loop (.seq (.seq (.region [⟨(some 38), (.mov (.t 8)), none, []⟩, ⟨(some 39), (.mov (.t 3)), none, []⟩, ⟨(some 40), (.bin .lss (.t 38) (.t 39)), none, []⟩])
  (.cond (.t 40) .skip (.exit 0))) (.seq (.block 1 (.seq (.region [⟨(some 43), (.mov (.t 6)), none, []⟩, ⟨(some 44), (.mov (.t 8)), none, []⟩, ⟨(some 45), (.idx 1 (.t 43) (.t 44)), none, []⟩, ⟨none, (.store none 1 (.t 45) (.c (.int .i64
  (-1)))), none, []⟩]) (.seq (.region [⟨(some 46), (.mov (.t 4)), none, []⟩, ⟨(some 47), (.mov (.t 8)), none, []⟩, ⟨(some 48), (.idx 1 (.t 46) (.t 47)), none, []⟩, ⟨(some 49), (.load none none (.t 48)), none, []⟩, ⟨(some 50), (.mov (.t 49)),
  none, []⟩, ⟨(some 51), (.mov (.t 5)), (some (50, true)), []⟩, ⟨(some 52), (.mov (.t 8)), (some (50, true)), []⟩, ⟨(some 53), (.idx 1 (.t 51) (.t 52)), (some (50, true)), []⟩, ⟨(some 54), (.load none none (.t 53)), (some (50, true)), []⟩,
  ⟨(some 55), (.pick (.t 50) (.t 54) (.c (.bool false))), none, []⟩, ⟨(some 56), (.mov (.t 55)), none, []⟩, ⟨(some 57), (.mov (.t 8)), (some (56, false)), []⟩, ⟨(some 58), (.mov (.t 0)), (some (56, false)), []⟩, ⟨(some 59), (.nilck (.t 58)),
  (some (56, false)), []⟩, ⟨(some 60), (.lea 0 (.t 59)), (some (56, false)), []⟩, ⟨(some 61), (.load none none (.t 60)), (some (56, false)), []⟩, ⟨(some 62), (.bin .eql (.t 57) (.t 61)), (some (56, false)), []⟩, ⟨(some 63), (.pick (.t 56)
  (.c (.bool true)) (.t 62)), none, []⟩]) (.cond (.t 63) (.seq (.region [⟨(some 64), (.mov (.t 6)), none, []⟩, ⟨(some 65), (.mov (.t 8)), none, []⟩, ⟨(some 66), (.lea 1 (.t 7)), none, []⟩, ⟨(some 67), (.load none none (.t 66)), none, []⟩,
  ⟨(some 68), (.len 1 (.t 67)), none, []⟩, ⟨(some 69), (.idx 1 (.t 64) (.t 65)), none, []⟩, ⟨none, (.store none 1 (.t 69) (.t 68)), none, []⟩]) (.region [⟨(some 70), (.lea 1 (.t 7)), none, []⟩, ⟨(some 71), (.load none none (.t 70)), none,
  []⟩, ⟨(some 72), (.mov (.t 0)), none, []⟩, ⟨(some 73), (.nilck (.t 72)), none, []⟩, ⟨(some 74), (.lea 1 (.t 73)), none, []⟩, ⟨(some 75), (.load none none (.t 74)), none, []⟩, ⟨(some 76), (.mov (.t 8)), none, []⟩, ⟨(some 77), (.idx 1 (.t
  75) (.t 76)), none, []⟩, ⟨(some 78), (.load none none (.t 77)), none, []⟩, ⟨(some 79), (.mk 4 1 [(.bool false)] [(0, (1, (.t 78)))]), none, []⟩, ⟨(some 80), (.app 4 1 1 (.t 71) (.t 79)), none, []⟩, ⟨(some 81), (.lea 1 (.t 7)), none, []⟩,
  ⟨none, (.store none 1 (.t 81) (.t 80)), none, []⟩])) .skip)))) (.region [⟨(some 41), (.mov (.t 8)), none, []⟩, ⟨(some 42), (.bin .add (.t 41) (.c (.int .i64 1))), none, []⟩, ⟨(some 8), (.mov (.t 42)), none, []⟩])))))) (.seq (.region
  [⟨(some 82), (.mov (.t 6)), none, []⟩, ⟨(some 83), (.mov (.t 0)), none, []⟩, ⟨(some 84), (.nilck (.t 83)), none, []⟩, ⟨(some 85), (.lea 0 (.t 84)), none, []⟩, ⟨(some 86), (.load none none (.t 85)), none, []⟩, ⟨(some 87), (.idx 1 (.t 82)
  (.t 86)), none, []⟩, ⟨(some 88), (.load none none (.t 87)), none, []⟩, ⟨(some 89), (.lea 0 (.t 7)), none, []⟩, ⟨none, (.store none 1 (.t 89) (.t 88)), none, []⟩]) (.seq (.seq (.region [⟨(some 9), (.mov (.c (.int .i64 0))), none, []⟩])
  (.block 2 (.loop (.seq (.seq (.region [⟨(some 90), (.mov (.t 9)), none, []⟩, ⟨(some 91), (.mov (.t 0)), none, []⟩, ⟨(some 92), (.nilck (.t 91)), none, []⟩, ⟨(some 93), (.lea 2 (.t 92)), none, []⟩, ⟨(some 94), (.load none none (.t 93)),
  none, []⟩, ⟨(some 95), (.len 1 (.t 94)), none, []⟩, ⟨(some 96), (.bin .lss (.t 90) (.t 95)), none, []⟩]) (.cond (.t 96) .skip (.exit 2))) (.seq (.block 3 (.seq (.region [⟨(some 99), (.mov (.t 0)), none, []⟩, ⟨(some 100), (.nilck (.t 99)),
  none, []⟩, ⟨(some 101), (.lea 2 (.t 100)), none, []⟩, ⟨(some 102), (.load none none (.t 101)), none, []⟩, ⟨(some 103), (.mov (.t 9)), none, []⟩, ⟨(some 104), (.idx 4 (.t 102) (.t 103)), none, []⟩, ⟨(some 105), (.load none (some 4) (.t
  104)), none, []⟩, ⟨(some 10), (.new 54 [(.int .i64 0), (.int .i64 0), (.str ⟨#[]⟩), (.str ⟨#[]⟩)]), none, []⟩, ⟨none, (.store none 4 (.t 10) (.t 105)), none, []⟩]) (.seq (.region [⟨(some 106), (.mov (.t 6)), none, []⟩, ⟨(some 107), (.lea 0
  (.t 10)), none, []⟩, ⟨(some 108), (.load none none (.t 107)), none, []⟩, ⟨(some 109), (.idx 1 (.t 106) (.t 108)), none, []⟩, ⟨(some 110), (.load none none (.t 109)), none, []⟩, ⟨(some 111), (.bin .geq (.t 110) (.c (.int .i64 0))), none,
  []⟩, ⟨(some 112), (.mov (.t 111)), none, []⟩, ⟨(some 113), (.mov (.t 6)), (some (112, true)), []⟩, ⟨(some 114), (.lea 1 (.t 10)), (some (112, true)), []⟩, ⟨(some 115), (.load none none (.t 114)), (some (112, true)), []⟩, ⟨(some 116), (.idx
  1 (.t 113) (.t 115)), (some (112, true)), []⟩, ⟨(some 117), (.load none none (.t 116)), (some (112, true)), []⟩, ⟨(some 118), (.bin .geq (.t 117) (.c (.int .i64 0))), (some (112, true)), []⟩, ⟨(some 119), (.pick (.t 112) (.t 118) (.c
  (.bool false))), none, []⟩]) (.cond (.t 119) (.region [⟨(some 120), (.lea 2 (.t 7)), none, []⟩, ⟨(some 121), (.load none none (.t 120)), none, []⟩, ⟨(some 122), (.mov (.t 6)), none, []⟩, ⟨(some 123), (.lea 0 (.t 10)), none, []⟩, ⟨(some
  124), (.load none none (.t 123)), none, []⟩, ⟨(some 125), (.idx 1 (.t 122) (.t 124)), none, []⟩, ⟨(some 126), (.load none none (.t 125)), none, []⟩, ⟨(some 127), (.mov (.t 6)), none, []⟩, ⟨(some 128), (.lea 1 (.t 10)), none, []⟩, ⟨(some
  129), (.load none none (.t 128)), none, []⟩, ⟨(some 130), (.idx 1 (.t 127) (.t 129)), none, []⟩, ⟨(some 131), (.load none none (.t 130)), none, []⟩, ⟨(some 132), (.lea 2 (.t 10)), none, []⟩, ⟨(some 133), (.load none none (.t 132)), none,
  []⟩, ⟨(some 134), (.lea 3 (.t 10)), none, []⟩, ⟨(some 135), (.load none none (.t 134)), none, []⟩, ⟨(some 136), (.build [(.int .i64 0), (.int .i64 0), (.str ⟨#[]⟩), (.str ⟨#[]⟩)] [(0, (1, (.t 126))), (1, (1, (.t 131))), (2, (1, (.t 133))),
  (3, (1, (.t 135)))]), none, []⟩, ⟨(some 137), (.mk 54 1 [(.int .i64 0), (.int .i64 0), (.str ⟨#[]⟩), (.str ⟨#[]⟩)] [(0, (4, (.t 136)))]), none, []⟩, ⟨(some 138), (.app 54 4 48 (.t 121) (.t 137)), none, []⟩, ⟨(some 139), (.lea 2 (.t 7)),
  none, []⟩, ⟨none, (.store none 1 (.t 139) (.t 138)), none, []⟩]) .skip)))) (.region [⟨(some 97), (.mov (.t 9)), none, []⟩, ⟨(some 98), (.bin .add (.t 97) (.c (.int .i64 1))), none, []⟩, ⟨(some 9), (.mov (.t 98)), none, []⟩])))))) (.seq
  (.region [⟨(some 140), (.load none (some 3) (.t 7)), none, []⟩, ⟨none, (.store none 3 (.t 2) (.t 140)), none, []⟩]) .ret))))))))))))⟩
theorem irOk69 : compFun Try.prog.underlying Try.prog.info? sq Try.f69 = some ir69 := by kernel_rfl
def ir70 : BFun := ⟨[(.tmp 2)], (.seq (.region [⟨(some 2), (.mov (.c (.bool false))), none, []⟩]) (.seq (.region [⟨(some 8), (.mov (.t 0)), none, []⟩, ⟨(some 9), (.call (.c (.fn 82 [])) [(.t 8), (.c (.int .i64 1))]), none, []⟩, ⟨(some 7),
  (.mov (.t 9)), none, []⟩, ⟨(some 10), (.ext 0 (.t 7)), none, []⟩, ⟨(some 11), (.ext 1 (.t 7)), none, []⟩, ⟨(some 3), (.mov (.t 10)), none, []⟩, ⟨(some 4), (.mov (.t 11)), none, []⟩]) (.seq (.region [⟨(some 13), (.mov (.t 0)), none, []⟩,
  ⟨(some 14), (.call (.c (.fn 82 [])) [(.t 13), (.c (.int .i64 (-1)))]), none, []⟩, ⟨(some 12), (.mov (.t 14)), none, []⟩, ⟨(some 15), (.ext 0 (.t 12)), none, []⟩, ⟨(some 16), (.ext 1 (.t 12)), none, []⟩, ⟨(some 5), (.mov (.t 15)), none,
  []⟩, ⟨(some 6), (.mov (.t 16)), none, []⟩]) (.seq (.region [⟨(some 17), (.mov (.t 4)), none, []⟩, ⟨(some 18), (.mov (.t 17)), none, []⟩, ⟨(some 19), (.mov (.t 6)), (some (18, true)), []⟩, ⟨(some 20), (.pick (.t 18) (.t 19) (.c (.bool
  false))), none, []⟩, ⟨(some 2), (.mov (.t 20)), none, []⟩]) .ret))))⟩
theorem irOk70 : compFun Try.prog.underlying Try.prog.info? sq Try.f70 = some ir70 := by kernel_rfl
def ir71 : BFun := ⟨[(.cell 2 (some 3))], (.seq (.region [⟨(some 1), (.box 34 (.t 0)), none, []⟩, ⟨(some 2), (.new 34 [(.int .i64 0), .nils, .nils]), none, []⟩]) (.seq (.region [⟨(some 12), (.load none (some 3) (.t 1)), none, []⟩, ⟨(some
  15), (.lea 1 (.t 1)), none, []⟩, ⟨(some 16), (.load (some 34) none (.t 15)), none, []⟩, ⟨(some 13), (.call (.c (.fn 65 [])) [(.t 12)]), none, [34]⟩, ⟨(some 17), (.call (.c (.fn 79 [])) [(.t 16)]), none, []⟩, ⟨(some 14), (.mksl 4 1 [(.bool
  false)] (.t 13) (.t 13)), none, []⟩, ⟨(some 3), (.mov (.t 14)), none, []⟩, ⟨(some 4), (.mov (.t 17)), none, []⟩]) (.seq (.region [⟨(some 18), (.mov (.t 3)), none, []⟩, ⟨(some 19), (.lea 0 (.t 1)), none, []⟩, ⟨(some 20), (.load none none
  (.t 19)), none, []⟩, ⟨(some 21), (.idx 1 (.t 18) (.t 20)), none, []⟩, ⟨none, (.store none 1 (.t 21) (.c (.bool true))), none, []⟩]) (.seq (.seq (.region [⟨(some 22), (.lea 1 (.t 1)), none, []⟩, ⟨(some 23), (.load none none (.t 22)), none,
  []⟩, ⟨(some 24), (.len 1 (.t 23)), none, []⟩, ⟨(some 25), (.mov (.c (.int .i64 0))), none, []⟩]) (.block 0 (.loop (.seq (.region [⟨(some 26), (.bin .lss (.t 25) (.t 24)), none, []⟩]) (.seq (.cond (.t 26) .skip (.exit 0)) (.seq (.block 1
  (.seq (.region [⟨(some 27), (.lea 2 (.t 1)), none, []⟩, ⟨(some 28), (.load none none (.t 27)), none, []⟩, ⟨(some 29), (.len 1 (.t 28)), none, []⟩, ⟨(some 30), (.mov (.c (.int .i64 0))), none, []⟩]) (.block 2 (.loop (.seq (.region [⟨(some
  31), (.bin .lss (.t 30) (.t 29)), none, []⟩]) (.seq (.cond (.t 31) .skip (.exit 2)) (.seq (.block 3 (.seq (.region [⟨(some 32), (.idx 4 (.t 28) (.t 30)), none, []⟩, ⟨(some 33), (.load none (some 4) (.t 32)), none, []⟩, ⟨(some 6), (.new 54
  [(.int .i64 0), (.int .i64 0), (.str ⟨#[]⟩), (.str ⟨#[]⟩)]), none, []⟩, ⟨none, (.store none 4 (.t 6) (.t 33)), none, []⟩]) (.seq (.region [⟨(some 34), (.mov (.t 3)), none, []⟩, ⟨(some 35), (.lea 1 (.t 6)), none, []⟩, ⟨(some 36), (.load
  none none (.t 35)), none, []⟩, ⟨(some 37), (.mov (.t 3)), none, []⟩, ⟨(some 38), (.lea 1 (.t 6)), none, []⟩, ⟨(some 39), (.load none none (.t 38)), none, []⟩, ⟨(some 40), (.idx 1 (.t 37) (.t 39)), none, []⟩, ⟨(some 41), (.load none none
  (.t 40)), none, []⟩, ⟨(some 42), (.mov (.t 41)), none, []⟩, ⟨(some 43), (.mov (.t 3)), (some (42, false)), []⟩, ⟨(some 44), (.lea 0 (.t 6)), (some (42, false)), []⟩, ⟨(some 45), (.load none none (.t 44)), (some (42, false)), []⟩, ⟨(some
  46), (.idx 1 (.t 43) (.t 45)), (some (42, false)), []⟩, ⟨(some 47), (.load none none (.t 46)), (some (42, false)), []⟩, ⟨(some 48), (.pick (.t 42) (.c (.bool true)) (.t 47)), none, []⟩, ⟨(some 49), (.idx 1 (.t 34) (.t 36)), none, []⟩,
  ⟨none, (.store none 1 (.t 49) (.t 48)), none, []⟩]) (.region [⟨(some 50), (.mov (.t 4)), none, []⟩, ⟨(some 51), (.lea 0 (.t 6)), none, []⟩, ⟨(some 52), (.load none none (.t 51)), none, []⟩, ⟨(some 53), (.mov (.t 4)), none, []⟩, ⟨(some 54),
  (.lea 0 (.t 6)), none, []⟩, ⟨(some 55), (.load none none (.t 54)), none, []⟩, ⟨(some 56), (.idx 1 (.t 53) (.t 55)), none, []⟩, ⟨(some 57), (.load none none (.t 56)), none, []⟩, ⟨(some 58), (.mov (.t 57)), none, []⟩, ⟨(some 59), (.mov (.t
  4)), (some (58, false)), []⟩, ⟨(some 60), (.lea 1 (.t 6)), (some (58, false)), []⟩, ⟨(some 61), (.load none none (.t 60)), (some (58, false)), []⟩, ⟨(some 62), (.idx 1 (.t 59) (.t 61)), (some (58, false)), []⟩, ⟨(some 63), (.load none none
  (.t 62)), (some (58, false)), []⟩, ⟨(some 64), (.pick (.t 58) (.c (.bool true)) (.t 63)), none, []⟩, ⟨(some 65), (.idx 1 (.t 50) (.t 52)), none, []⟩, ⟨none, (.store none 1 (.t 65) (.t 64)), none, []⟩])))) (.region [⟨(some 66), (.bin .add
  (.t 30) (.c (.int .i64 1))), none, []⟩, ⟨(some 30), (.mov (.t 66)), none, []⟩])))))))) (.region [⟨(some 67), (.bin .add (.t 25) (.c (.int .i64 1))), none, []⟩, ⟨(some 25), (.mov (.t 67)), none, []⟩]))))))) (.seq (.region [⟨(some 68),
  (.load none (some 3) (.t 1)), none, []⟩, ⟨(some 69), (.call (.c (.fn 65 [])) [(.t 68)]), none, []⟩, ⟨(some 70), (.mksl 2 8 [(.int .i64 0)] (.t 69) (.t 69)), none, []⟩, ⟨(some 7), (.mov (.t 70)), none, []⟩]) (.seq (.region [⟨(some 8), (.new
  34 [(.int .i64 0), .nils, .nils]), none, []⟩]) (.seq (.seq (.region [⟨(some 71), (.mov (.t 7)), none, []⟩, ⟨(some 72), (.len 1 (.t 71)), none, []⟩, ⟨(some 73), (.mov (.c (.int .i64 0))), none, []⟩]) (.block 4 (.loop (.seq (.region [⟨(some
  74), (.bin .lss (.t 73) (.t 72)), none, []⟩]) (.seq (.cond (.t 74) .skip (.exit 4)) (.seq (.block 5 (.seq (.region [⟨(some 75), (.mov (.t 73)), none, []⟩, ⟨(some 9), (.mov (.t 75)), none, []⟩]) (.seq (.region [⟨(some 76), (.mov (.t 7)),
  none, []⟩, ⟨(some 77), (.mov (.t 9)), none, []⟩, ⟨(some 78), (.idx 1 (.t 76) (.t 77)), none, []⟩, ⟨none, (.store none 1 (.t 78) (.c (.int .i64 (-1)))), none, []⟩]) (.seq (.region [⟨(some 79), (.mov (.t 3)), none, []⟩, ⟨(some 80), (.mov (.t
  9)), none, []⟩, ⟨(some 81), (.idx 1 (.t 79) (.t 80)), none, []⟩, ⟨(some 82), (.load none none (.t 81)), none, []⟩, ⟨(some 83), (.mov (.t 82)), none, []⟩, ⟨(some 84), (.mov (.t 4)), (some (83, true)), []⟩, ⟨(some 85), (.mov (.t 9)), (some
  (83, true)), []⟩, ⟨(some 86), (.idx 1 (.t 84) (.t 85)), (some (83, true)), []⟩, ⟨(some 87), (.load none none (.t 86)), (some (83, true)), []⟩, ⟨(some 88), (.pick (.t 83) (.t 87) (.c (.bool false))), none, []⟩, ⟨(some 89), (.mov (.t 88)),
  none, []⟩, ⟨(some 90), (.mov (.t 9)), (some (89, false)), []⟩, ⟨(some 91), (.lea 0 (.t 1)), (some (89, false)), []⟩, ⟨(some 92), (.load none none (.t 91)), (some (89, false)), []⟩, ⟨(some 93), (.bin .eql (.t 90) (.t 92)), (some (89,
  false)), []⟩, ⟨(some 94), (.pick (.t 89) (.c (.bool true)) (.t 93)), none, []⟩]) (.cond (.t 94) (.seq (.region [⟨(some 95), (.mov (.t 7)), none, []⟩, ⟨(some 96), (.mov (.t 9)), none, []⟩, ⟨(some 97), (.load none (some 3) (.t 8)), none,
  []⟩, ⟨(some 98), (.call (.c (.fn 65 [])) [(.t 97)]), none, []⟩, ⟨(some 99), (.idx 1 (.t 95) (.t 96)), none, []⟩, ⟨none, (.store none 1 (.t 99) (.t 98)), none, []⟩]) (.region [⟨(some 100), (.lea 1 (.t 8)), none, []⟩, ⟨(some 101), (.load
  none none (.t 100)), none, []⟩, ⟨(some 102), (.lea 1 (.t 1)), none, []⟩, ⟨(some 103), (.load none none (.t 102)), none, []⟩, ⟨(some 104), (.mov (.t 9)), none, []⟩, ⟨(some 105), (.idx 1 (.t 103) (.t 104)), none, []⟩, ⟨(some 106), (.load
  none none (.t 105)), none, []⟩, ⟨(some 107), (.mk 4 1 [(.bool false)] [(0, (1, (.t 106)))]), none, []⟩, ⟨(some 108), (.app 4 1 1 (.t 101) (.t 107)), none, []⟩, ⟨(some 109), (.lea 1 (.t 8)), none, []⟩, ⟨none, (.store none 1 (.t 109) (.t
  108)), none, []⟩])) .skip))))) (.region [⟨(some 110), (.bin .add (.t 73) (.c (.int .i64 1))), none, []⟩, ⟨(some 73), (.mov (.t 110)), none, []⟩]))))))) (.seq (.region [⟨(some 111), (.mov (.t 7)), none, []⟩, ⟨(some 112), (.lea 0 (.t 1)),
  none, []⟩, ⟨(some 113), (.load none none (.t 112)), none, []⟩, ⟨(some 114), (.idx 1 (.t 111) (.t 113)), none, []⟩, ⟨(some 115), (.load none none (.t 114)), none, []⟩, ⟨(some 116), (.lea 0 (.t 8)), none, []⟩, ⟨none, (.store none 1 (.t 116)
  (.t 115)), none, []⟩]) (.seq (.seq (.region [⟨(some 117), (.lea 2 (.t 1)), none, []⟩, ⟨(some 118), (.load none none (.t 117)), none, []⟩, ⟨(some 119), (.len 1 (.t 118)), none, []⟩, ⟨(some 120), (.mov (.c (.int .i64 0))), none, []⟩])
  (.block 6 (.loop (.seq (.region [⟨(some 121), (.bin .lss (.t 120) (.t 119)), none, []⟩]) (.seq (.cond (.t 121) .skip (.exit 6)) (.seq (.block 7 (.seq (.region [⟨(some 122), (.idx 4 (.t 118) (.t 120)), none, []⟩, ⟨(some 123), (.load none
  (some 4) (.t 122)), none, []⟩, ⟨(some 11), (.new 54 [(.int .i64 0), (.int .i64 0), (.str ⟨#[]⟩), (.str ⟨#[]⟩)]), none, []⟩, ⟨none, (.store none 4 (.t 11) (.t 123)), none, []⟩]) (.seq (.region [⟨(some 124), (.mov (.t 7)), none, []⟩, ⟨(some
  125), (.lea 0 (.t 11)), none, []⟩, ⟨(some 126), (.load none none (.t 125)), none, []⟩, ⟨(some 127), (.idx 1 (.t 124) (.t 126)), none, []⟩, ⟨(some 128), (.load none none (.t 127)), none, []⟩, ⟨(some 129), (.bin .geq (.t 128) (.c (.int .i64
  0))), none, []⟩, ⟨(some 130), (.mov (.t 129)), none, []⟩, ⟨(some 131), (.mov (.t 7)), (some (130, true)), []⟩, ⟨(some 132), (.lea 1 (.t 11)), (some (130, true)), []⟩, ⟨(some 133), (.load none none (.t 132)), (some (130, true)), []⟩, ⟨(some
  134), (.idx 1 (.t 131) (.t 133)), (some (130, true)), []⟩, ⟨(some 135), (.load none none (.t 134)), (some (130, true)), []⟩, ⟨(some 136), (.bin .geq (.t 135) (.c (.int .i64 0))), (some (130, true)), []⟩, ⟨(some 137), (.pick (.t 130) (.t
  136) (.c (.bool false))), none, []⟩]) (.cond (.t 137) (.seq (.region [⟨(some 138), (.mov (.t 7)), none, []⟩, ⟨(some 139), (.lea 0 (.t 11)), none, []⟩, ⟨(some 140), (.load none none (.t 139)), none, []⟩, ⟨(some 141), (.idx 1 (.t 138) (.t
  140)), none, []⟩, ⟨(some 142), (.load none none (.t 141)), none, []⟩, ⟨(some 143), (.mov (.t 7)), none, []⟩, ⟨(some 144), (.lea 1 (.t 11)), none, []⟩, ⟨(some 145), (.load none none (.t 144)), none, []⟩, ⟨(some 146), (.idx 1 (.t 143) (.t
  145)), none, []⟩, ⟨(some 147), (.load (some 2) none (.t 146)), none, []⟩, ⟨(some 148), (.lea 0 (.t 11)), none, []⟩, ⟨none, (.store (some 54) 1 (.t 148) (.t 142)), none, []⟩, ⟨(some 149), (.lea 1 (.t 11)), none, []⟩, ⟨none, (.store none 1
  (.t 149) (.t 147)), none, []⟩]) (.region [⟨(some 150), (.lea 2 (.t 8)), none, []⟩, ⟨(some 151), (.load none none (.t 150)), none, []⟩, ⟨(some 152), (.load none (some 4) (.t 11)), none, []⟩, ⟨(some 153), (.mk 54 1 [(.int .i64 0), (.int .i64
  0), (.str ⟨#[]⟩), (.str ⟨#[]⟩)] [(0, (4, (.t 152)))]), none, []⟩, ⟨(some 154), (.app 54 4 48 (.t 151) (.t 153)), none, []⟩, ⟨(some 155), (.lea 2 (.t 8)), none, []⟩, ⟨none, (.store none 1 (.t 155) (.t 154)), none, []⟩])) .skip)))) (.region
  [⟨(some 156), (.bin .add (.t 120) (.c (.int .i64 1))), none, []⟩, ⟨(some 120), (.mov (.t 156)), none, []⟩]))))))) (.seq (.region [⟨(some 157), (.load none (some 3) (.t 8)), none, []⟩, ⟨none, (.store none 3 (.t 2) (.t 157)), none, []⟩])
  .ret))))))))))⟩
theorem irOk71 : compFun Try.prog.underlying Try.prog.info? sq Try.f71 = some ir71 := by kernel_rfl
def ir72 : BFun := ⟨[(.tmp 2)], (.seq (.region [⟨(some 1), (.box 34 (.t 0)), none, []⟩, ⟨(some 2), (.mov (.c (.bool false))), none, []⟩]) (.seq (.region [⟨(some 19), (.load none (some 3) (.t 1)), none, []⟩, ⟨(some 20), (.call (.c (.fn 65
  [])) [(.t 19)]), none, []⟩, ⟨(some 21), (.mksl 26 24 [.nils] (.t 20) (.t 20)), none, []⟩, ⟨(some 3), (.mov (.t 21)), none, []⟩]) (.seq (.seq (.region [⟨(some 22), (.mov (.t 3)), none, []⟩, ⟨(some 23), (.len 1 (.t 22)), none, []⟩, ⟨(some
  24), (.mov (.c (.int .i64 0))), none, []⟩]) (.block 0 (.loop (.seq (.region [⟨(some 25), (.bin .lss (.t 24) (.t 23)), none, []⟩]) (.seq (.cond (.t 25) .skip (.exit 0)) (.seq (.block 1 (.seq (.region [⟨(some 26), (.mov (.t 24)), none, []⟩,
  ⟨(some 4), (.mov (.t 26)), none, []⟩]) (.seq (.region [⟨(some 27), (.mov (.t 3)), none, []⟩, ⟨(some 28), (.mov (.t 4)), none, []⟩, ⟨(some 29), (.load none (some 3) (.t 1)), none, []⟩, ⟨(some 30), (.call (.c (.fn 65 [])) [(.t 29)]), none,
  []⟩, ⟨(some 31), (.mksl 4 1 [(.bool false)] (.t 30) (.t 30)), none, []⟩, ⟨(some 32), (.idx 1 (.t 27) (.t 28)), none, []⟩, ⟨none, (.store none 1 (.t 32) (.t 31)), none, []⟩]) (.region [⟨(some 33), (.mov (.t 3)), none, []⟩, ⟨(some 34), (.mov
  (.t 4)), none, []⟩, ⟨(some 35), (.idx 1 (.t 33) (.t 34)), none, []⟩, ⟨(some 36), (.load none none (.t 35)), none, []⟩, ⟨(some 37), (.mov (.t 4)), none, []⟩, ⟨(some 38), (.idx 1 (.t 36) (.t 37)), none, []⟩, ⟨none, (.store none 1 (.t 38) (.c
  (.bool true))), none, []⟩])))) (.region [⟨(some 39), (.bin .add (.t 24) (.c (.int .i64 1))), none, []⟩, ⟨(some 24), (.mov (.t 39)), none, []⟩]))))))) (.seq (.seq (.region [⟨(some 40), (.lea 2 (.t 1)), none, []⟩, ⟨(some 41), (.load none
  none (.t 40)), none, []⟩, ⟨(some 42), (.len 1 (.t 41)), none, []⟩, ⟨(some 43), (.mov (.c (.int .i64 0))), none, []⟩]) (.block 2 (.loop (.seq (.region [⟨(some 44), (.bin .lss (.t 43) (.t 42)), none, []⟩]) (.seq (.cond (.t 44) .skip (.exit
  2)) (.seq (.block 3 (.seq (.region [⟨(some 45), (.idx 4 (.t 41) (.t 43)), none, []⟩, ⟨(some 46), (.load none (some 4) (.t 45)), none, []⟩, ⟨(some 6), (.new 54 [(.int .i64 0), (.int .i64 0), (.str ⟨#[]⟩), (.str ⟨#[]⟩)]), none, []⟩, ⟨none,
  (.store none 4 (.t 6) (.t 46)), none, []⟩]) (.region [⟨(some 47), (.mov (.t 3)), none, []⟩, ⟨(some 48), (.lea 0 (.t 6)), none, []⟩, ⟨(some 49), (.load none none (.t 48)), none, []⟩, ⟨(some 50), (.idx 1 (.t 47) (.t 49)), none, []⟩, ⟨(some
  51), (.load none none (.t 50)), none, []⟩, ⟨(some 52), (.lea 1 (.t 6)), none, []⟩, ⟨(some 53), (.load none none (.t 52)), none, []⟩, ⟨(some 54), (.idx 1 (.t 51) (.t 53)), none, []⟩, ⟨none, (.store none 1 (.t 54) (.c (.bool true))), none,
  []⟩]))) (.region [⟨(some 55), (.bin .add (.t 43) (.c (.int .i64 1))), none, []⟩, ⟨(some 43), (.mov (.t 55)), none, []⟩]))))))) (.seq (.seq (.region [⟨(some 56), (.mov (.t 3)), none, []⟩, ⟨(some 57), (.len 1 (.t 56)), none, []⟩, ⟨(some 58),
  (.mov (.c (.int .i64 0))), none, []⟩]) (.block 4 (.loop (.seq (.region [⟨(some 59), (.bin .lss (.t 58) (.t 57)), none, []⟩]) (.seq (.cond (.t 59) .skip (.exit 4)) (.seq (.block 5 (.seq (.region [⟨(some 60), (.mov (.t 58)), none, []⟩,
  ⟨(some 7), (.mov (.t 60)), none, []⟩]) (.seq (.region [⟨(some 61), (.mov (.t 3)), none, []⟩, ⟨(some 62), (.len 1 (.t 61)), none, []⟩, ⟨(some 63), (.mov (.c (.int .i64 0))), none, []⟩]) (.block 6 (.loop (.seq (.region [⟨(some 64), (.bin
  .lss (.t 63) (.t 62)), none, []⟩]) (.seq (.cond (.t 64) .skip (.exit 6)) (.seq (.block 7 (.seq (.region [⟨(some 65), (.mov (.t 63)), none, []⟩, ⟨(some 8), (.mov (.t 65)), none, []⟩]) (.seq (.region [⟨(some 66), (.mov (.t 3)), none, []⟩,
  ⟨(some 67), (.len 1 (.t 66)), none, []⟩, ⟨(some 68), (.mov (.c (.int .i64 0))), none, []⟩]) (.block 8 (.loop (.seq (.region [⟨(some 69), (.bin .lss (.t 68) (.t 67)), none, []⟩]) (.seq (.cond (.t 69) .skip (.exit 8)) (.seq (.block 9 (.seq
  (.region [⟨(some 70), (.mov (.t 68)), none, []⟩, ⟨(some 9), (.mov (.t 70)), none, []⟩]) (.region [⟨(some 71), (.mov (.t 3)), none, []⟩, ⟨(some 72), (.mov (.t 8)), none, []⟩, ⟨(some 73), (.idx 1 (.t 71) (.t 72)), none, []⟩, ⟨(some 74),
  (.load none none (.t 73)), none, []⟩, ⟨(some 75), (.mov (.t 9)), none, []⟩, ⟨(some 76), (.mov (.t 3)), none, []⟩, ⟨(some 77), (.mov (.t 8)), none, []⟩, ⟨(some 78), (.idx 1 (.t 76) (.t 77)), none, []⟩, ⟨(some 79), (.load none none (.t 78)),
  none, []⟩, ⟨(some 80), (.mov (.t 9)), none, []⟩, ⟨(some 81), (.idx 1 (.t 79) (.t 80)), none, []⟩, ⟨(some 82), (.load none none (.t 81)), none, []⟩, ⟨(some 83), (.mov (.t 82)), none, []⟩, ⟨(some 84), (.mov (.t 3)), (some (83, false)), []⟩,
  ⟨(some 85), (.mov (.t 8)), (some (83, false)), []⟩, ⟨(some 86), (.idx 1 (.t 84) (.t 85)), (some (83, false)), []⟩, ⟨(some 87), (.load none none (.t 86)), (some (83, false)), []⟩, ⟨(some 88), (.mov (.t 7)), (some (83, false)), []⟩, ⟨(some
  89), (.idx 1 (.t 87) (.t 88)), (some (83, false)), []⟩, ⟨(some 90), (.load none none (.t 89)), (some (83, false)), []⟩, ⟨(some 91), (.mov (.t 90)), (some (83, false)), []⟩, ⟨(some 92), (.mov (.t 3)), (some (91, true)), []⟩, ⟨(some 93),
  (.mov (.t 7)), (some (91, true)), []⟩, ⟨(some 94), (.idx 1 (.t 92) (.t 93)), (some (91, true)), []⟩, ⟨(some 95), (.load none none (.t 94)), (some (91, true)), []⟩, ⟨(some 96), (.mov (.t 9)), (some (91, true)), []⟩, ⟨(some 97), (.idx 1 (.t
  95) (.t 96)), (some (91, true)), []⟩, ⟨(some 98), (.load none none (.t 97)), (some (91, true)), []⟩, ⟨(some 99), (.pick (.t 91) (.t 98) (.c (.bool false))), (some (83, false)), []⟩, ⟨(some 100), (.pick (.t 83) (.c (.bool true)) (.t 99)),
  none, []⟩, ⟨(some 101), (.idx 1 (.t 74) (.t 75)), none, []⟩, ⟨none, (.store none 1 (.t 101) (.t 100)), none, []⟩]))) (.region [⟨(some 102), (.bin .add (.t 68) (.c (.int .i64 1))), none, []⟩, ⟨(some 68), (.mov (.t 102)), none, []⟩])))))))))
  (.region [⟨(some 103), (.bin .add (.t 63) (.c (.int .i64 1))), none, []⟩, ⟨(some 63), (.mov (.t 103)), none, []⟩]))))))))) (.region [⟨(some 104), (.bin .add (.t 58) (.c (.int .i64 1))), none, []⟩, ⟨(some 58), (.mov (.t 104)), none,
  []⟩]))))))) (.seq (.seq (.region [⟨(some 105), (.load none (some 3) (.t 1)), none, []⟩, ⟨(some 106), (.call (.c (.fn 65 [])) [(.t 105)]), none, []⟩, ⟨(some 107), (.mov (.c (.int .i64 0))), none, []⟩]) (.block 10 (.loop (.seq (.region
  [⟨(some 108), (.bin .lss (.t 107) (.t 106)), none, []⟩]) (.seq (.cond (.t 108) .skip (.exit 10)) (.seq (.block 11 (.seq (.region [⟨(some 109), (.mov (.t 107)), none, []⟩, ⟨(some 10), (.mov (.t 109)), none, []⟩]) (.seq (.region [⟨(some
  110), .mkmap, none, []⟩, ⟨(some 111), (.mov (.t 10)), none, []⟩, ⟨none, (.mset 0 (.t 110) (.t 111) (.c (.int .i64 0))), none, []⟩, ⟨(some 112), (.mov (.t 110)), none, []⟩, ⟨(some 11), (.mov (.t 112)), none, []⟩]) (.seq (.region [⟨(some
  113), (.mov (.t 10)), none, []⟩, ⟨(some 114), (.mk 2 1 [(.int .i64 0)] [(0, (1, (.t 113)))]), none, []⟩, ⟨(some 12), (.mov (.t 114)), none, []⟩]) (.seq (.region [⟨(some 13), (.mov (.c (.int .i64 0))), none, []⟩]) (.block 12 (.loop (.seq
  (.seq (.region [⟨(some 115), (.mov (.t 13)), none, []⟩, ⟨(some 116), (.mov (.t 12)), none, []⟩, ⟨(some 117), (.len 1 (.t 116)), none, []⟩, ⟨(some 118), (.bin .lss (.t 115) (.t 117)), none, []⟩]) (.cond (.t 118) .skip (.exit 12))) (.seq
  (.block 13 (.seq (.region [⟨(some 121), (.lea 2 (.t 1)), none, []⟩, ⟨(some 122), (.load none none (.t 121)), none, []⟩, ⟨(some 123), (.len 1 (.t 122)), none, []⟩, ⟨(some 124), (.mov (.c (.int .i64 0))), none, []⟩]) (.block 14 (.loop (.seq
  (.region [⟨(some 125), (.bin .lss (.t 124) (.t 123)), none, []⟩]) (.seq (.cond (.t 125) .skip (.exit 14)) (.seq (.block 15 (.seq (.region [⟨(some 126), (.idx 4 (.t 122) (.t 124)), none, []⟩, ⟨(some 127), (.load none (some 4) (.t 126)),
  none, []⟩, ⟨(some 15), (.new 54 [(.int .i64 0), (.int .i64 0), (.str ⟨#[]⟩), (.str ⟨#[]⟩)]), none, []⟩, ⟨none, (.store none 4 (.t 15) (.t 127)), none, []⟩]) (.seq (.seq (.region [⟨(some 128), (.lea 0 (.t 15)), none, []⟩, ⟨(some 129),
  (.load none none (.t 128)), none, []⟩, ⟨(some 130), (.mov (.t 12)), none, []⟩, ⟨(some 131), (.mov (.t 13)), none, []⟩, ⟨(some 132), (.idx 1 (.t 130) (.t 131)), none, []⟩, ⟨(some 133), (.load none none (.t 132)), none, []⟩, ⟨(some 134),
  (.bin .neq (.t 129) (.t 133)), none, []⟩, ⟨(some 135), (.mov (.t 134)), none, []⟩, ⟨(some 136), (.mov (.t 3)), (some (135, false)), []⟩, ⟨(some 137), (.lea 1 (.t 15)), (some (135, false)), []⟩, ⟨(some 138), (.load none none (.t 137)),
  (some (135, false)), []⟩, ⟨(some 139), (.idx 1 (.t 136) (.t 138)), (some (135, false)), []⟩, ⟨(some 140), (.load none none (.t 139)), (some (135, false)), []⟩, ⟨(some 141), (.mov (.t 10)), (some (135, false)), []⟩, ⟨(some 142), (.idx 1 (.t
  140) (.t 141)), (some (135, false)), []⟩, ⟨(some 143), (.load none none (.t 142)), (some (135, false)), []⟩, ⟨(some 144), (.not (.t 143)), (some (135, false)), []⟩, ⟨(some 145), (.pick (.t 135) (.c (.bool true)) (.t 144)), none, []⟩])
  (.cond (.t 145) (.exit 15) .skip)) (.seq (.region [⟨(some 146), (.mov (.t 11)), none, []⟩, ⟨(some 147), (.lea 0 (.t 15)), none, []⟩, ⟨(some 148), (.load (some 54) none (.t 147)), none, []⟩, ⟨(some 149), (.look 0 false (.int .i64 0) (.t
  146) (.t 148)), none, []⟩, ⟨(some 150), (.load none (some 4) (.t 15)), none, []⟩, ⟨(some 151), (.call (.c (.fn 83 [])) [(.t 150)]), none, [54, 1000000007]⟩, ⟨(some 152), (.bin .add (.t 149) (.t 151)), none, []⟩, ⟨(some 16), (.mov (.t
  152)), none, []⟩]) (.seq (.region [⟨(some 154), (.mov (.t 11)), none, []⟩, ⟨(some 155), (.lea 1 (.t 15)), none, []⟩, ⟨(some 156), (.load none none (.t 155)), none, []⟩, ⟨(some 157), (.look 0 true (.int .i64 0) (.t 154) (.t 156)), none,
  []⟩, ⟨(some 153), (.mov (.t 157)), none, []⟩, ⟨(some 158), (.ext 0 (.t 153)), none, []⟩, ⟨(some 159), (.ext 1 (.t 153)), none, []⟩, ⟨(some 17), (.mov (.t 158)), none, []⟩, ⟨(some 18), (.mov (.t 159)), none, []⟩]) (.seq (.seq (.region
  [⟨(some 160), (.mov (.t 18)), none, []⟩, ⟨(some 161), (.mov (.t 160)), none, []⟩, ⟨(some 162), (.mov (.t 17)), (some (161, true)), []⟩, ⟨(some 163), (.mov (.t 16)), (some (161, true)), []⟩, ⟨(some 164), (.bin .neq (.t 162) (.t 163)), (some
  (161, true)), []⟩, ⟨(some 165), (.pick (.t 161) (.t 164) (.c (.bool false))), none, []⟩]) (.cond (.t 165) (.seq (.region [⟨(some 2), (.mov (.c (.bool false))), none, []⟩]) .ret) .skip)) (.seq (.region [⟨(some 166), (.mov (.t 18)), none,
  []⟩, ⟨(some 167), (.not (.t 166)), none, []⟩]) (.cond (.t 167) (.seq (.region [⟨(some 168), (.mov (.t 11)), none, []⟩, ⟨(some 169), (.lea 1 (.t 15)), none, []⟩, ⟨(some 170), (.load none none (.t 169)), none, []⟩, ⟨(some 171), (.mov (.t
  16)), none, []⟩, ⟨none, (.mset 0 (.t 168) (.t 170) (.t 171)), none, []⟩]) (.region [⟨(some 172), (.mov (.t 12)), none, []⟩, ⟨(some 173), (.lea 1 (.t 15)), none, []⟩, ⟨(some 174), (.load none none (.t 173)), none, []⟩, ⟨(some 175), (.mk 2 1
  [(.int .i64 0)] [(0, (1, (.t 174)))]), none, []⟩, ⟨(some 176), (.app 2 1 8 (.t 172) (.t 175)), none, []⟩, ⟨(some 12), (.mov (.t 176)), none, []⟩])) .skip)))))))) (.region [⟨(some 177), (.bin .add (.t 124) (.c (.int .i64 1))), none, []⟩,
  ⟨(some 124), (.mov (.t 177)), none, []⟩])))))))) (.region [⟨(some 119), (.mov (.t 13)), none, []⟩, ⟨(some 120), (.bin .add (.t 119) (.c (.int .i64 1))), none, []⟩, ⟨(some 13), (.mov (.t 120)), none, []⟩])))))))))) (.region [⟨(some 178),
  (.bin .add (.t 107) (.c (.int .i64 1))), none, []⟩, ⟨(some 107), (.mov (.t 178)), none, []⟩]))))))) (.seq (.region [⟨(some 2), (.mov (.c (.bool true))), none, []⟩]) .ret)))))))⟩
theorem irOk72 : compFun Try.prog.underlying Try.prog.info? sq Try.f72 = some ir72 := by kernel_rfl
def ir73 : BFun := ⟨[(.tmp 4)], (.seq (.region [⟨(some 4), (.mov (.c .nils)), none, []⟩]) (.seq (.region [⟨(some 7), (.mk 54 0 [] []), none, []⟩, ⟨(some 5), (.mov (.t 7)), none, []⟩]) (.seq (.seq (.region [⟨(some 6), (.mov (.c (.int .i64
  0))), none, []⟩]) (.block 0 (.loop (.seq (.seq (.region [⟨(some 8), (.mov (.t 6)), none, []⟩, ⟨(some 9), (.mov (.t 0)), none, []⟩, ⟨(some 10), (.nilck (.t 9)), none, []⟩, ⟨(some 11), (.lea 2 (.t 10)), none, []⟩, ⟨(some 12), (.load none
  none (.t 11)), none, []⟩, ⟨(some 13), (.len 1 (.t 12)), none, []⟩, ⟨(some 14), (.bin .lss (.t 8) (.t 13)), none, []⟩]) (.cond (.t 14) .skip (.exit 0))) (.seq (.block 1 (.seq (.region [⟨(some 17), (.mov (.t 0)), none, []⟩, ⟨(some 18),
  (.nilck (.t 17)), none, []⟩, ⟨(some 19), (.lea 2 (.t 18)), none, []⟩, ⟨(some 20), (.load none none (.t 19)), none, []⟩, ⟨(some 21), (.mov (.t 6)), none, []⟩, ⟨(some 22), (.idx 4 (.t 20) (.t 21)), none, []⟩, ⟨(some 23), (.lea 0 (.t 22)),
  none, []⟩, ⟨(some 24), (.load none none (.t 23)), none, []⟩, ⟨(some 25), (.mov (.t 1)), none, []⟩, ⟨(some 26), (.bin .eql (.t 24) (.t 25)), none, []⟩]) (.cond (.t 26) (.region [⟨(some 27), (.mov (.t 5)), none, []⟩, ⟨(some 28), (.mov (.t
  0)), none, []⟩, ⟨(some 29), (.nilck (.t 28)), none, []⟩, ⟨(some 30), (.lea 2 (.t 29)), none, []⟩, ⟨(some 31), (.load none none (.t 30)), none, []⟩, ⟨(some 32), (.mov (.t 6)), none, []⟩, ⟨(some 33), (.idx 4 (.t 31) (.t 32)), none, []⟩,
  ⟨(some 34), (.load none (some 4) (.t 33)), none, []⟩, ⟨(some 35), (.mk 54 1 [(.int .i64 0), (.int .i64 0), (.str ⟨#[]⟩), (.str ⟨#[]⟩)] [(0, (4, (.t 34)))]), none, []⟩, ⟨(some 36), (.app 54 4 48 (.t 27) (.t 35)), none, []⟩, ⟨(some 5), (.mov
  (.t 36)), none, []⟩]) .skip))) (.region [⟨(some 15), (.mov (.t 6)), none, []⟩, ⟨(some 16), (.bin .add (.t 15) (.c (.int .i64 1))), none, []⟩, ⟨(some 6), (.mov (.t 16)), none, []⟩])))))) (.seq (.region [⟨(some 37), (.mov (.t 5)), none, []⟩,
  ⟨(some 4), (.mov (.t 37)), none, []⟩]) .ret))))⟩
theorem irOk73 : compFun Try.prog.underlying Try.prog.info? sq Try.f73 = some ir73 := by kernel_rfl
def ir74 : BFun := ⟨[(.tmp 4)], (.seq (.region [⟨(some 2), (.box 70 (.t 0)), none, []⟩, ⟨(some 4), (.mov (.c (.int .i64 0))), none, []⟩]) (.seq (.region [⟨(some 5), (.mov (.t 1)), none, []⟩, ⟨(some 6), (.lea 2 (.t 2)), none, []⟩, ⟨(some 7),
  (.load none none (.t 6)), none, []⟩, ⟨(some 8), (.len 0 (.t 7)), none, []⟩, ⟨(some 9), (.bin .sub (.t 5) (.t 8)), none, []⟩, ⟨(some 1), (.mov (.t 9)), none, []⟩]) (.seq (.seq (.region [⟨(some 10), (.mov (.t 1)), none, []⟩, ⟨(some 11),
  (.bin .lss (.t 10) (.c (.int .i64 0))), none, []⟩]) (.cond (.t 11) (.seq (.region [⟨(some 4), (.mov (.c (.int .i64 (-1)))), none, []⟩]) .ret) .skip)) (.seq (.region [⟨(some 12), (.mov (.t 1)), none, []⟩, ⟨(some 13), (.lea 3 (.t 2)), none,
  []⟩, ⟨(some 14), (.load none none (.t 13)), none, []⟩, ⟨(some 15), (.len 0 (.t 14)), none, []⟩, ⟨(some 16), (.bin .sub (.t 12) (.t 15)), none, []⟩, ⟨(some 1), (.mov (.t 16)), none, []⟩]) (.seq (.seq (.region [⟨(some 17), (.mov (.t 1)),
  none, []⟩, ⟨(some 18), (.bin .lss (.t 17) (.c (.int .i64 0))), none, []⟩]) (.cond (.t 18) (.seq (.region [⟨(some 4), (.mov (.c (.int .i64 (-1)))), none, []⟩]) .ret) .skip)) (.seq (.region [⟨(some 19), (.mov (.t 1)), none, []⟩, ⟨(some 4),
  (.mov (.t 19)), none, []⟩]) .ret))))))⟩
theorem irOk74 : compFun Try.prog.underlying Try.prog.info? sq Try.f74 = some ir74 := by kernel_rfl
def ir75 : BFun := ⟨[(.tmp 2)], (.seq (.region [⟨(some 2), (.mov (.c (.bool false))), none, []⟩]) (.seq (.region [⟨(some 6), (.mov (.t 0)), none, []⟩, ⟨(some 7), (.nilck (.t 6)), none, []⟩, ⟨(some 8), (.lea 1 (.t 7)), none, []⟩, ⟨(some 9),
  (.load none none (.t 8)), none, []⟩, ⟨(some 10), (.len 1 (.t 9)), none, []⟩, ⟨(some 3), (.mov (.t 10)), none, []⟩]) (.seq (.seq (.region [⟨(some 11), (.mov (.t 0)), none, []⟩, ⟨(some 12), (.nilck (.t 11)), none, []⟩, ⟨(some 13), (.lea 0
  (.t 12)), none, []⟩, ⟨(some 14), (.load none none (.t 13)), none, []⟩, ⟨(some 15), (.mov (.t 3)), none, []⟩, ⟨(some 16), (.bin .sub (.t 15) (.c (.int .i64 1))), none, []⟩, ⟨(some 17), (.call (.c (.fn 41 [])) [(.t 14), (.c (.int .i64 0)),
  (.t 16)]), none, []⟩, ⟨(some 18), (.not (.t 17)), none, []⟩]) (.cond (.t 18) (.seq (.region [⟨(some 2), (.mov (.c (.bool false))), none, []⟩]) .ret) .skip)) (.seq (.seq (.region [⟨(some 4), (.mov (.c (.int .i64 0))), none, []⟩]) (.block 0
  (.loop (.seq (.seq (.region [⟨(some 19), (.mov (.t 4)), none, []⟩, ⟨(some 20), (.mov (.t 0)), none, []⟩, ⟨(some 21), (.nilck (.t 20)), none, []⟩, ⟨(some 22), (.lea 2 (.t 21)), none, []⟩, ⟨(some 23), (.load none none (.t 22)), none, []⟩,
  ⟨(some 24), (.len 1 (.t 23)), none, []⟩, ⟨(some 25), (.bin .lss (.t 19) (.t 24)), none, []⟩]) (.cond (.t 25) .skip (.exit 0))) (.seq (.block 1 (.seq (.region [⟨(some 28), (.mov (.t 0)), none, []⟩, ⟨(some 29), (.nilck (.t 28)), none, []⟩,
  ⟨(some 30), (.lea 2 (.t 29)), none, []⟩, ⟨(some 31), (.load none none (.t 30)), none, []⟩, ⟨(some 32), (.mov (.t 4)), none, []⟩, ⟨(some 33), (.idx 4 (.t 31) (.t 32)), none, []⟩, ⟨(some 5), (.mov (.t 33)), none, []⟩]) (.seq (.region [⟨(some
  34), (.mov (.t 5)), none, []⟩, ⟨(some 35), (.nilck (.t 34)), none, []⟩, ⟨(some 36), (.lea 0 (.t 35)), none, []⟩, ⟨(some 37), (.load none none (.t 36)), none, []⟩, ⟨(some 38), (.mov (.t 3)), none, []⟩, ⟨(some 39), (.bin .sub (.t 38) (.c
  (.int .i64 1))), none, []⟩, ⟨(some 40), (.call (.c (.fn 41 [])) [(.t 37), (.c (.int .i64 0)), (.t 39)]), none, []⟩, ⟨(some 41), (.not (.t 40)), none, []⟩, ⟨(some 42), (.mov (.t 41)), none, []⟩, ⟨(some 43), (.mov (.t 5)), (some (42,
  false)), []⟩, ⟨(some 44), (.nilck (.t 43)), (some (42, false)), []⟩, ⟨(some 45), (.lea 1 (.t 44)), (some (42, false)), []⟩, ⟨(some 46), (.load none none (.t 45)), (some (42, false)), []⟩, ⟨(some 47), (.mov (.t 3)), (some (42, false)), []⟩,
  ⟨(some 48), (.bin .sub (.t 47) (.c (.int .i64 1))), (some (42, false)), []⟩, ⟨(some 49), (.call (.c (.fn 41 [])) [(.t 46), (.c (.int .i64 0)), (.t 48)]), (some (42, false)), []⟩, ⟨(some 50), (.not (.t 49)), (some (42, false)), []⟩, ⟨(some
  51), (.pick (.t 42) (.c (.bool true)) (.t 50)), none, []⟩, ⟨(some 52), (.mov (.t 51)), none, []⟩, ⟨(some 53), (.mov (.t 5)), (some (52, false)), []⟩, ⟨(some 54), (.nilck (.t 53)), (some (52, false)), []⟩, ⟨(some 55), (.lea 2 (.t 54)),
  (some (52, false)), []⟩, ⟨(some 56), (.load none none (.t 55)), (some (52, false)), []⟩, ⟨(some 57), (.call (.c (.fn 84 [])) [(.t 56)]), (some (52, false)), []⟩, ⟨(some 58), (.not (.t 57)), (some (52, false)), []⟩, ⟨(some 59), (.pick (.t
  52) (.c (.bool true)) (.t 58)), none, []⟩, ⟨(some 60), (.mov (.t 59)), none, []⟩, ⟨(some 61), (.mov (.t 5)), (some (60, false)), []⟩, ⟨(some 62), (.nilck (.t 61)), (some (60, false)), []⟩, ⟨(some 63), (.lea 3 (.t 62)), (some (60, false)),
  []⟩, ⟨(some 64), (.load none none (.t 63)), (some (60, false)), []⟩, ⟨(some 65), (.call (.c (.fn 84 [])) [(.t 64)]), (some (60, false)), []⟩, ⟨(some 66), (.not (.t 65)), (some (60, false)), []⟩, ⟨(some 67), (.pick (.t 60) (.c (.bool true))
  (.t 66)), none, []⟩]) (.cond (.t 67) (.seq (.region [⟨(some 2), (.mov (.c (.bool false))), none, []⟩]) .ret) .skip)))) (.region [⟨(some 26), (.mov (.t 4)), none, []⟩, ⟨(some 27), (.bin .add (.t 26) (.c (.int .i64 1))), none, []⟩, ⟨(some
  4), (.mov (.t 27)), none, []⟩])))))) (.seq (.region [⟨(some 2), (.mov (.c (.bool true))), none, []⟩]) .ret)))))⟩
theorem irOk75 : compFun Try.prog.underlying Try.prog.info? sq Try.f75 = some ir75 := by kernel_rfl
def ir76 : BFun := ⟨[(.cell 2 (some 4))], (.seq (.region [⟨(some 1), (.box 70 (.t 0)), none, []⟩, ⟨(some 2), (.new 54 [(.int .i64 0), (.int .i64 0), (.str ⟨#[]⟩), (.str ⟨#[]⟩)]), none, []⟩]) (.seq (.region [⟨(some 3), (.new 54 [(.int .i64
  0), (.int .i64 0), (.str ⟨#[]⟩), (.str ⟨#[]⟩)]), none, []⟩]) (.seq (.region [⟨(some 4), (.lea 0 (.t 1)), none, []⟩, ⟨(some 5), (.load none none (.t 4)), none, []⟩, ⟨(some 6), (.lea 0 (.t 3)), none, []⟩, ⟨none, (.store none 1 (.t 6) (.t
  5)), none, []⟩]) (.seq (.region [⟨(some 7), (.lea 1 (.t 1)), none, []⟩, ⟨(some 8), (.load none none (.t 7)), none, []⟩, ⟨(some 9), (.lea 1 (.t 3)), none, []⟩, ⟨none, (.store none 1 (.t 9) (.t 8)), none, []⟩]) (.seq (.region [⟨(some 10),
  (.lea 2 (.t 1)), none, []⟩, ⟨(some 11), (.load none none (.t 10)), none, []⟩, ⟨(some 12), (.lea 2 (.t 3)), none, []⟩, ⟨none, (.store none 1 (.t 12) (.t 11)), none, []⟩]) (.seq (.region [⟨(some 13), (.lea 3 (.t 1)), none, []⟩, ⟨(some 14),
  (.load none none (.t 13)), none, []⟩, ⟨(some 15), (.lea 3 (.t 3)), none, []⟩, ⟨none, (.store none 1 (.t 15) (.t 14)), none, []⟩]) (.seq (.region [⟨(some 16), (.load none (some 4) (.t 3)), none, []⟩, ⟨none, (.store none 4 (.t 2) (.t 16)),
  none, []⟩]) .ret)))))))⟩
theorem irOk76 : compFun Try.prog.underlying Try.prog.info? sq Try.f76 = some ir76 := by kernel_rfl
def ir77 : BFun := ⟨[(.tmp 4)], (.seq (.region [⟨(some 2), (.box 54 (.t 0)), none, []⟩, ⟨(some 3), (.box 54 (.t 1)), none, []⟩, ⟨(some 4), (.mov (.c (.bool false))), none, []⟩]) (.seq (.seq (.region [⟨(some 5), (.lea 0 (.t 2)), none, []⟩,
  ⟨(some 6), (.load none none (.t 5)), none, []⟩, ⟨(some 7), (.lea 0 (.t 3)), none, []⟩, ⟨(some 8), (.load none none (.t 7)), none, []⟩, ⟨(some 9), (.bin .neq (.t 6) (.t 8)), none, []⟩]) (.cond (.t 9) (.seq (.region [⟨(some 4), (.mov (.c
  (.bool false))), none, []⟩]) .ret) .skip)) (.seq (.seq (.region [⟨(some 10), (.lea 1 (.t 2)), none, []⟩, ⟨(some 11), (.load none none (.t 10)), none, []⟩, ⟨(some 12), (.lea 1 (.t 3)), none, []⟩, ⟨(some 13), (.load none none (.t 12)), none,
  []⟩, ⟨(some 14), (.bin .neq (.t 11) (.t 13)), none, []⟩]) (.cond (.t 14) (.seq (.region [⟨(some 4), (.mov (.c (.bool false))), none, []⟩]) .ret) .skip)) (.seq (.seq (.region [⟨(some 15), (.lea 2 (.t 2)), none, []⟩, ⟨(some 16), (.load none
  none (.t 15)), none, []⟩, ⟨(some 17), (.lea 2 (.t 3)), none, []⟩, ⟨(some 18), (.load none none (.t 17)), none, []⟩, ⟨(some 19), (.bin .neq (.t 16) (.t 18)), none, []⟩]) (.cond (.t 19) (.seq (.region [⟨(some 4), (.mov (.c (.bool false))),
  none, []⟩]) .ret) .skip)) (.seq (.seq (.region [⟨(some 20), (.lea 3 (.t 2)), none, []⟩, ⟨(some 21), (.load none none (.t 20)), none, []⟩, ⟨(some 22), (.lea 3 (.t 3)), none, []⟩, ⟨(some 23), (.load none none (.t 22)), none, []⟩, ⟨(some 24),
  (.bin .neq (.t 21) (.t 23)), none, []⟩]) (.cond (.t 24) (.seq (.region [⟨(some 4), (.mov (.c (.bool false))), none, []⟩]) .ret) .skip)) (.seq (.region [⟨(some 4), (.mov (.c (.bool true))), none, []⟩]) .ret))))))⟩
theorem irOk77 : compFun Try.prog.underlying Try.prog.info? sq Try.f77 = some ir77 := by kernel_rfl
def ir78 : BFun := ⟨[(.tmp 4)], (.seq (.region [⟨(some 4), (.mov (.c (.bool false))), none, []⟩]) (.seq (.seq (.region [⟨(some 6), (.mov (.t 0)), none, []⟩, ⟨(some 7), (.len 1 (.t 6)), none, []⟩, ⟨(some 8), (.mov (.t 1)), none, []⟩, ⟨(some
  9), (.len 1 (.t 8)), none, []⟩, ⟨(some 10), (.bin .neq (.t 7) (.t 9)), none, []⟩]) (.cond (.t 10) (.seq (.region [⟨(some 4), (.mov (.c (.bool false))), none, []⟩]) .ret) .skip)) (.seq (.seq (.region [⟨(some 5), (.mov (.c (.int .i64 0))),
  none, []⟩]) (.block 0 (.loop (.seq (.seq (.region [⟨(some 11), (.mov (.t 5)), none, []⟩, ⟨(some 12), (.mov (.t 0)), none, []⟩, ⟨(some 13), (.len 1 (.t 12)), none, []⟩, ⟨(some 14), (.bin .lss (.t 11) (.t 13)), none, []⟩]) (.cond (.t 14)
  .skip (.exit 0))) (.seq (.block 1 (.seq (.region [⟨(some 17), (.mov (.t 0)), none, []⟩, ⟨(some 18), (.mov (.t 5)), none, []⟩, ⟨(some 19), (.idx 1 (.t 17) (.t 18)), none, []⟩, ⟨(some 20), (.load none none (.t 19)), none, []⟩, ⟨(some 21),
  (.mov (.t 1)), none, []⟩, ⟨(some 22), (.mov (.t 5)), none, []⟩, ⟨(some 23), (.idx 1 (.t 21) (.t 22)), none, []⟩, ⟨(some 24), (.load none none (.t 23)), none, []⟩, ⟨(some 25), (.beq true (.t 20) (.t 24)), none, []⟩]) (.cond (.t 25) (.seq
  (.region [⟨(some 4), (.mov (.c (.bool false))), none, []⟩]) .ret) .skip))) (.region [⟨(some 15), (.mov (.t 5)), none, []⟩, ⟨(some 16), (.bin .add (.t 15) (.c (.int .i64 1))), none, []⟩, ⟨(some 5), (.mov (.t 16)), none, []⟩])))))) (.seq
  (.region [⟨(some 4), (.mov (.c (.bool true))), none, []⟩]) .ret))))⟩
theorem irOk78 : compFun Try.prog.underlying Try.prog.info? sq Try.f78 = some ir78 := by kernel_rfl
def ir79 : BFun := ⟨[(.tmp 2)], (.seq (.region [⟨(some 2), (.mov (.c .nils)), none, []⟩]) (.seq (.seq (.region [⟨(some 3), (.mov (.t 0)), none, []⟩, ⟨(some 4), (.isnil false (.t 3)), none, []⟩]) (.cond (.t 4) (.seq (.region [⟨(some 2), (.mov
  (.c .nils)), none, []⟩]) .ret) .skip)) (.seq (.region [⟨(some 5), (.mk 4 0 [] []), none, []⟩, ⟨(some 6), (.mov (.t 0)), none, []⟩, ⟨(some 7), (.app 4 1 1 (.t 5) (.t 6)), none, []⟩, ⟨(some 2), (.mov (.t 7)), none, []⟩]) .ret)))⟩
theorem irOk79 : compFun Try.prog.underlying Try.prog.info? sq Try.f79 = some ir79 := by kernel_rfl
def ir80 : BFun := ⟨[(.tmp 2)], (.seq (.region [⟨(some 2), (.mov (.c (.str ⟨#[]⟩))), none, []⟩]) (.seq (.seq (.region [⟨(some 4), (.mov (.t 0)), none, []⟩, ⟨(some 5), (.bin .leq (.t 4) (.c (.int .i64 0))), none, []⟩]) (.cond (.t 5) (.seq
  (.region [⟨(some 2), (.mov (.c (.str ⟨#[109, 48]⟩))), none, []⟩]) .ret) .skip)) (.seq (.region [⟨(some 3), (.mov (.c (.str ⟨#[]⟩))), none, []⟩]) (.seq (.block 0 (.loop (.seq (.seq (.region [⟨(some 6), (.mov (.t 0)), none, []⟩, ⟨(some 7),
  (.bin .gtr (.t 6) (.c (.int .i64 0))), none, []⟩]) (.cond (.t 7) .skip (.exit 0))) (.block 1 (.seq (.region [⟨(some 8), (.mov (.t 0)), none, []⟩, ⟨(some 9), (.bin .rem (.t 8) (.c (.int .i64 10))), none, []⟩, ⟨(some 10), (.bin .add (.c
  (.int .i64 48)) (.t 9)), none, []⟩, ⟨(some 11), (.conv .u8 (.t 10)), none, []⟩, ⟨(some 12), (.mk 5 1 [(.int .u8 0)] [(0, (1, (.t 11)))]), none, []⟩, ⟨(some 13), (.b2s 5 (.t 12)), none, []⟩, ⟨(some 14), (.mov (.t 3)), none, []⟩, ⟨(some 15),
  (.bin .add (.t 13) (.t 14)), none, []⟩, ⟨(some 3), (.mov (.t 15)), none, []⟩]) (.region [⟨(some 16), (.mov (.t 0)), none, []⟩, ⟨(some 17), (.bin .quo (.t 16) (.c (.int .i64 10))), none, []⟩, ⟨(some 0), (.mov (.t 17)), none, []⟩]))))))
  (.seq (.region [⟨(some 18), (.mov (.t 3)), none, []⟩, ⟨(some 19), (.bin .add (.c (.str ⟨#[109]⟩)) (.t 18)), none, []⟩, ⟨(some 2), (.mov (.t 19)), none, []⟩]) .ret)))))⟩
theorem irOk80 : compFun Try.prog.underlying Try.prog.info? sq Try.f80 = some ir80 := by kernel_rfl
def ir81 : BFun := ⟨[(.tmp 6)], (.seq (.region [⟨(some 6), (.mov (.c .nils)), none, []⟩]) (.seq (.seq (.region [⟨(some 7), (.mov (.c (.bool true))), none, []⟩]) (.block 0 (.loop (.seq (.seq (.region [⟨(some 11), (.mov (.t 7)), none, []⟩])
  (.cond (.t 11) .skip (.exit 0))) (.block 1 (.seq (.region [⟨(some 7), (.mov (.c (.bool false))), none, []⟩]) (.seq (.region [⟨(some 8), (.mov (.c (.int .i64 0))), none, []⟩]) (.block 2 (.loop (.seq (.seq (.region [⟨(some 12), (.mov (.t
  8)), none, []⟩, ⟨(some 13), (.mov (.t 0)), none, []⟩, ⟨(some 14), (.nilck (.t 13)), none, []⟩, ⟨(some 15), (.lea 2 (.t 14)), none, []⟩, ⟨(some 16), (.load none none (.t 15)), none, []⟩, ⟨(some 17), (.len 1 (.t 16)), none, []⟩, ⟨(some 18),
  (.bin .lss (.t 12) (.t 17)), none, []⟩]) (.cond (.t 18) .skip (.exit 2))) (.seq (.block 3 (.seq (.region [⟨(some 21), (.mov (.t 0)), none, []⟩, ⟨(some 22), (.nilck (.t 21)), none, []⟩, ⟨(some 23), (.lea 2 (.t 22)), none, []⟩, ⟨(some 24),
  (.load none none (.t 23)), none, []⟩, ⟨(some 25), (.mov (.t 8)), none, []⟩, ⟨(some 26), (.idx 4 (.t 24) (.t 25)), none, []⟩, ⟨(some 27), (.lea 0 (.t 26)), none, []⟩, ⟨(some 28), (.load none none (.t 27)), none, []⟩, ⟨(some 9), (.mov (.t
  28)), none, []⟩]) (.seq (.region [⟨(some 29), (.mov (.t 0)), none, []⟩, ⟨(some 30), (.nilck (.t 29)), none, []⟩, ⟨(some 31), (.lea 2 (.t 30)), none, []⟩, ⟨(some 32), (.load none none (.t 31)), none, []⟩, ⟨(some 33), (.mov (.t 8)), none,
  []⟩, ⟨(some 34), (.idx 4 (.t 32) (.t 33)), none, []⟩, ⟨(some 35), (.lea 1 (.t 34)), none, []⟩, ⟨(some 36), (.load none none (.t 35)), none, []⟩, ⟨(some 10), (.mov (.t 36)), none, []⟩]) (.seq (.seq (.region [⟨(some 37), (.mov (.t 2)), none,
  []⟩]) (.cond (.t 37) (.seq (.region [⟨(some 38), (.mov (.t 0)), none, []⟩, ⟨(some 39), (.nilck (.t 38)), none, []⟩, ⟨(some 40), (.lea 2 (.t 39)), none, []⟩, ⟨(some 41), (.load none none (.t 40)), none, []⟩, ⟨(some 42), (.mov (.t 8)), none,
  []⟩, ⟨(some 43), (.idx 4 (.t 41) (.t 42)), none, []⟩, ⟨(some 44), (.lea 1 (.t 43)), none, []⟩, ⟨(some 45), (.load none none (.t 44)), none, []⟩, ⟨(some 9), (.mov (.t 45)), none, []⟩]) (.region [⟨(some 46), (.mov (.t 0)), none, []⟩, ⟨(some
  47), (.nilck (.t 46)), none, []⟩, ⟨(some 48), (.lea 2 (.t 47)), none, []⟩, ⟨(some 49), (.load none none (.t 48)), none, []⟩, ⟨(some 50), (.mov (.t 8)), none, []⟩, ⟨(some 51), (.idx 4 (.t 49) (.t 50)), none, []⟩, ⟨(some 52), (.lea 0 (.t
  51)), none, []⟩, ⟨(some 53), (.load none none (.t 52)), none, []⟩, ⟨(some 10), (.mov (.t 53)), none, []⟩])) .skip)) (.seq (.region [⟨(some 54), (.mov (.t 1)), none, []⟩, ⟨(some 55), (.mov (.t 9)), none, []⟩, ⟨(some 56), (.idx 1 (.t 54) (.t
  55)), none, []⟩, ⟨(some 57), (.load none none (.t 56)), none, []⟩, ⟨(some 58), (.mov (.t 57)), none, []⟩, ⟨(some 59), (.mov (.t 1)), (some (58, true)), []⟩, ⟨(some 60), (.mov (.t 10)), (some (58, true)), []⟩, ⟨(some 61), (.idx 1 (.t 59)
  (.t 60)), (some (58, true)), []⟩, ⟨(some 62), (.load none none (.t 61)), (some (58, true)), []⟩, ⟨(some 63), (.not (.t 62)), (some (58, true)), []⟩, ⟨(some 64), (.pick (.t 58) (.t 63) (.c (.bool false))), none, []⟩]) (.cond (.t 64) (.seq
  (.region [⟨(some 65), (.mov (.t 1)), none, []⟩, ⟨(some 66), (.mov (.t 10)), none, []⟩, ⟨(some 67), (.idx 1 (.t 65) (.t 66)), none, []⟩, ⟨none, (.store none 1 (.t 67) (.c (.bool true))), none, []⟩]) (.region [⟨(some 7), (.mov (.c (.bool
  true))), none, []⟩])) .skip)))))) (.region [⟨(some 19), (.mov (.t 8)), none, []⟩, ⟨(some 20), (.bin .add (.t 19) (.c (.int .i64 1))), none, []⟩, ⟨(some 8), (.mov (.t 20)), none, []⟩])))))))))))) (.seq (.region [⟨(some 68), (.mov (.t 1)),
  none, []⟩, ⟨(some 6), (.mov (.t 68)), none, []⟩]) .ret)))⟩
theorem irOk81 : compFun Try.prog.underlying Try.prog.info? sq Try.f81 = some ir81 := by kernel_rfl
def ir82 : BFun := ⟨[(.tmp 4), (.tmp 5)], (.seq (.region [⟨(some 4), (.mov (.c .nils)), none, []⟩, ⟨(some 5), (.mov (.c (.bool false))), none, []⟩]) (.seq (.region [⟨(some 14), (.mov (.t 0)), none, []⟩, ⟨(some 15), (.nilck (.t 14)), none,
  []⟩, ⟨(some 16), (.lea 1 (.t 15)), none, []⟩, ⟨(some 17), (.load none none (.t 16)), none, []⟩, ⟨(some 18), (.len 1 (.t 17)), none, []⟩, ⟨(some 6), (.mov (.t 18)), none, []⟩]) (.seq (.region [⟨(some 19), (.mov (.t 6)), none, []⟩, ⟨(some
  20), (.mksl 2 8 [(.int .i64 0)] (.t 19) (.t 19)), none, []⟩, ⟨(some 7), (.mov (.t 20)), none, []⟩]) (.seq (.region [⟨(some 21), (.mov (.t 6)), none, []⟩, ⟨(some 22), (.mksl 4 1 [(.bool false)] (.t 21) (.t 21)), none, []⟩, ⟨(some 8), (.mov
  (.t 22)), none, []⟩]) (.seq (.region [⟨(some 23), (.mov (.t 8)), none, []⟩, ⟨(some 24), (.mov (.t 0)), none, []⟩, ⟨(some 25), (.nilck (.t 24)), none, []⟩, ⟨(some 26), (.lea 0 (.t 25)), none, []⟩, ⟨(some 27), (.load none none (.t 26)),
  none, []⟩, ⟨(some 28), (.idx 1 (.t 23) (.t 27)), none, []⟩, ⟨none, (.store none 1 (.t 28) (.c (.bool true))), none, []⟩]) (.seq (.seq (.region [⟨(some 9), (.mov (.c (.int .i64 0))), none, []⟩]) (.block 0 (.loop (.seq (.seq (.region [⟨(some
  29), (.mov (.t 9)), none, []⟩, ⟨(some 30), (.mov (.t 6)), none, []⟩, ⟨(some 31), (.bin .leq (.t 29) (.t 30)), none, []⟩]) (.cond (.t 31) .skip (.exit 0))) (.seq (.block 1 (.seq (.region [⟨(some 10), (.mov (.c (.bool false))), none, []⟩])
  (.seq (.seq (.region [⟨(some 11), (.mov (.c (.int .i64 0))), none, []⟩]) (.block 2 (.loop (.seq (.seq (.region [⟨(some 34), (.mov (.t 11)), none, []⟩, ⟨(some 35), (.mov (.t 0)), none, []⟩, ⟨(some 36), (.nilck (.t 35)), none, []⟩, ⟨(some
  37), (.lea 2 (.t 36)), none, []⟩, ⟨(some 38), (.load none none (.t 37)), none, []⟩, ⟨(some 39), (.len 1 (.t 38)), none, []⟩, ⟨(some 40), (.bin .lss (.t 34) (.t 39)), none, []⟩]) (.cond (.t 40) .skip (.exit 2))) (.seq (.block 3 (.seq
  (.region [⟨(some 43), (.mov (.t 0)), none, []⟩, ⟨(some 44), (.nilck (.t 43)), none, []⟩, ⟨(some 45), (.lea 2 (.t 44)), none, []⟩, ⟨(some 46), (.load none none (.t 45)), none, []⟩, ⟨(some 47), (.mov (.t 11)), none, []⟩, ⟨(some 48), (.idx 4
  (.t 46) (.t 47)), none, []⟩, ⟨(some 12), (.mov (.t 48)), none, []⟩]) (.seq (.seq (.region [⟨(some 49), (.mov (.t 8)), none, []⟩, ⟨(some 50), (.mov (.t 12)), none, []⟩, ⟨(some 51), (.nilck (.t 50)), none, []⟩, ⟨(some 52), (.lea 0 (.t 51)),
  none, []⟩, ⟨(some 53), (.load none none (.t 52)), none, []⟩, ⟨(some 54), (.idx 1 (.t 49) (.t 53)), none, []⟩, ⟨(some 55), (.load none none (.t 54)), none, []⟩, ⟨(some 56), (.not (.t 55)), none, []⟩]) (.cond (.t 56) (.exit 3) .skip)) (.seq
  (.region [⟨(some 57), (.mov (.t 7)), none, []⟩, ⟨(some 58), (.mov (.t 12)), none, []⟩, ⟨(some 59), (.nilck (.t 58)), none, []⟩, ⟨(some 60), (.lea 0 (.t 59)), none, []⟩, ⟨(some 61), (.load (some 54) none (.t 60)), none, []⟩, ⟨(some 62),
  (.idx 1 (.t 57) (.t 61)), none, []⟩, ⟨(some 63), (.load (some 2) none (.t 62)), none, []⟩, ⟨(some 64), (.mov (.t 1)), none, []⟩, ⟨(some 65), (.mov (.t 12)), none, []⟩, ⟨(some 66), (.call (.c (.fn 85 [])) [(.t 65)]), none, [54, 2]⟩, ⟨(some
  67), (.bin .mul (.t 64) (.t 66)), none, []⟩, ⟨(some 68), (.bin .add (.t 63) (.t 67)), none, []⟩, ⟨(some 13), (.mov (.t 68)), none, []⟩]) (.seq (.region [⟨(some 69), (.mov (.t 8)), none, []⟩, ⟨(some 70), (.mov (.t 12)), none, []⟩, ⟨(some
  71), (.nilck (.t 70)), none, []⟩, ⟨(some 72), (.lea 1 (.t 71)), none, []⟩, ⟨(some 73), (.load none none (.t 72)), none, []⟩, ⟨(some 74), (.idx 1 (.t 69) (.t 73)), none, []⟩, ⟨(some 75), (.load none none (.t 74)), none, []⟩, ⟨(some 76),
  (.not (.t 75)), none, []⟩, ⟨(some 77), (.mov (.t 76)), none, []⟩, ⟨(some 78), (.mov (.t 13)), (some (77, false)), []⟩, ⟨(some 79), (.mov (.t 7)), (some (77, false)), []⟩, ⟨(some 80), (.mov (.t 12)), (some (77, false)), []⟩, ⟨(some 81),
  (.nilck (.t 80)), (some (77, false)), []⟩, ⟨(some 82), (.lea 1 (.t 81)), (some (77, false)), []⟩, ⟨(some 83), (.load none none (.t 82)), (some (77, false)), []⟩, ⟨(some 84), (.idx 1 (.t 79) (.t 83)), (some (77, false)), []⟩, ⟨(some 85),
  (.load none none (.t 84)), (some (77, false)), []⟩, ⟨(some 86), (.bin .gtr (.t 78) (.t 85)), (some (77, false)), []⟩, ⟨(some 87), (.pick (.t 77) (.c (.bool true)) (.t 86)), none, []⟩]) (.cond (.t 87) (.seq (.region [⟨(some 88), (.mov (.t
  7)), none, []⟩, ⟨(some 89), (.mov (.t 12)), none, []⟩, ⟨(some 90), (.nilck (.t 89)), none, []⟩, ⟨(some 91), (.lea 1 (.t 90)), none, []⟩, ⟨(some 92), (.load none none (.t 91)), none, []⟩, ⟨(some 93), (.mov (.t 13)), none, []⟩, ⟨(some 94),
  (.idx 1 (.t 88) (.t 92)), none, []⟩, ⟨none, (.store none 1 (.t 94) (.t 93)), none, []⟩]) (.seq (.region [⟨(some 95), (.mov (.t 8)), none, []⟩, ⟨(some 96), (.mov (.t 12)), none, []⟩, ⟨(some 97), (.nilck (.t 96)), none, []⟩, ⟨(some 98),
  (.lea 1 (.t 97)), none, []⟩, ⟨(some 99), (.load none none (.t 98)), none, []⟩, ⟨(some 100), (.idx 1 (.t 95) (.t 99)), none, []⟩, ⟨none, (.store none 1 (.t 100) (.c (.bool true))), none, []⟩]) (.region [⟨(some 10), (.mov (.c (.bool true))),
  none, []⟩]))) .skip)))))) (.region [⟨(some 41), (.mov (.t 11)), none, []⟩, ⟨(some 42), (.bin .add (.t 41) (.c (.int .i64 1))), none, []⟩, ⟨(some 11), (.mov (.t 42)), none, []⟩])))))) (.seq (.region [⟨(some 101), (.mov (.t 10)), none, []⟩,
  ⟨(some 102), (.not (.t 101)), none, []⟩]) (.cond (.t 102) (.seq (.region [⟨(some 103), (.mov (.t 7)), none, []⟩, ⟨(some 4), (.mov (.t 103)), none, []⟩, ⟨(some 5), (.mov (.c (.bool true))), none, []⟩]) .ret) .skip))))) (.region [⟨(some 32),
  (.mov (.t 9)), none, []⟩, ⟨(some 33), (.bin .add (.t 32) (.c (.int .i64 1))), none, []⟩, ⟨(some 9), (.mov (.t 33)), none, []⟩])))))) (.seq (.region [⟨(some 104), (.mov (.t 7)), none, []⟩, ⟨(some 4), (.mov (.t 104)), none, []⟩, ⟨(some 5),
  (.mov (.c (.bool false))), none, []⟩]) .ret)))))))⟩
theorem irOk82 : compFun Try.prog.underlying Try.prog.info? sq Try.f82 = some ir82 := by kernel_rfl
def ir83 : BFun := ⟨[(.tmp 2)], (.seq (.region [⟨(some 1), (.box 54 (.t 0)), none, []⟩, ⟨(some 2), (.mov (.c (.int .i64 0))), none, []⟩]) (.seq (.region [⟨(some 3), (.lea 2 (.t 1)), none, []⟩, ⟨(some 4), (.load none none (.t 3)), none, []⟩,
  ⟨(some 5), (.len 0 (.t 4)), none, []⟩, ⟨(some 6), (.lea 3 (.t 1)), none, []⟩, ⟨(some 7), (.load none none (.t 6)), none, []⟩, ⟨(some 8), (.len 0 (.t 7)), none, []⟩, ⟨(some 9), (.bin .sub (.t 5) (.t 8)), none, []⟩, ⟨(some 2), (.mov (.t 9)),
  none, []⟩]) .ret))⟩
theorem irOk83 : compFun Try.prog.underlying Try.prog.info? sq Try.f83 = some ir83 := by kernel_rfl
def ir84 : BFun := ⟨[(.tmp 2)], (.seq (.region [⟨(some 2), (.mov (.c (.bool false))), none, []⟩]) (.seq (.region [⟨(some 3), (.mov (.t 0)), none, []⟩, ⟨(some 4), (.bin .eql (.t 3) (.c (.str ⟨#[]⟩))), none, []⟩, ⟨(some 5), (.mov (.t 4)),
  none, []⟩, ⟨(some 6), (.mov (.t 0)), (some (5, false)), []⟩, ⟨(some 7), (.bin .eql (.t 6) (.c (.str ⟨#[97]⟩))), (some (5, false)), []⟩, ⟨(some 8), (.pick (.t 5) (.c (.bool true)) (.t 7)), none, []⟩, ⟨(some 9), (.mov (.t 8)), none, []⟩,
  ⟨(some 10), (.mov (.t 0)), (some (9, false)), []⟩, ⟨(some 11), (.bin .eql (.t 10) (.c (.str ⟨#[98]⟩))), (some (9, false)), []⟩, ⟨(some 12), (.pick (.t 9) (.c (.bool true)) (.t 11)), none, []⟩, ⟨(some 2), (.mov (.t 12)), none, []⟩]) .ret))⟩
theorem irOk84 : compFun Try.prog.underlying Try.prog.info? sq Try.f84 = some ir84 := by kernel_rfl
def ir85 : BFun := ⟨[(.tmp 2)], (.seq (.region [⟨(some 2), (.mov (.c (.int .i64 0))), none, []⟩]) (.seq (.region [⟨(some 3), (.mov (.t 0)), none, []⟩, ⟨(some 4), (.nilck (.t 3)), none, []⟩, ⟨(some 5), (.lea 2 (.t 4)), none, []⟩, ⟨(some 6),
  (.load none none (.t 5)), none, []⟩, ⟨(some 7), (.len 0 (.t 6)), none, []⟩, ⟨(some 8), (.mov (.t 0)), none, []⟩, ⟨(some 9), (.nilck (.t 8)), none, []⟩, ⟨(some 10), (.lea 3 (.t 9)), none, []⟩, ⟨(some 11), (.load none none (.t 10)), none,
  []⟩, ⟨(some 12), (.len 0 (.t 11)), none, []⟩, ⟨(some 13), (.bin .sub (.t 7) (.t 12)), none, []⟩, ⟨(some 2), (.mov (.t 13)), none, []⟩]) .ret))⟩
theorem irOk85 : compFun Try.prog.underlying Try.prog.info? sq Try.f85 = some ir85 := by kernel_rfl
def fnOf : Nat → Option BFun
  | 5 => some ir5
  | 6 => some ir6
  | 7 => some ir7
  | 8 => some ir8
  | 9 => some ir9
  | 10 => some ir10
  | 11 => some ir11
  | 12 => some ir12
  | 13 => some ir13
  | 18 => some ir18
  | 19 => some ir19
  | 20 => some ir20
  | 21 => some ir21
  | 22 => some ir22
  | 23 => some ir23
  | 24 => some ir24
  | 25 => some ir25
  | 26 => some ir26
  | 27 => some ir27
  | 28 => some ir28
  | 29 => some ir29
  | 30 => some ir30
  | 31 => some ir31
  | 32 => some ir32
  | 33 => some ir33
  | 34 => some ir34
  | 35 => some ir35
  | 36 => some ir36
  | 37 => some ir37
  | 38 => some ir38
  | 39 => some ir39
  | 40 => some ir40
  | 41 => some ir41
  | 42 => some ir42
  | 46 => some ir46
  | 47 => some ir47
  | 48 => some ir48
  | 49 => some ir49
  | 50 => some ir50
  | 51 => some ir51
  | 52 => some ir52
  | 53 => some ir53
  | 54 => some ir54
  | 55 => some ir55
  | 56 => some ir56
  | 57 => some ir57
  | 58 => some ir58
  | 59 => some ir59
  | 60 => some ir60
  | 61 => some ir61
  | 62 => some ir62
  | 63 => some ir63
  | 64 => some ir64
  | 65 => some ir65
  | 66 => some ir66
  | 67 => some ir67
  | 68 => some ir68
  | 69 => some ir69
  | 70 => some ir70
  | 71 => some ir71
  | 72 => some ir72
  | 73 => some ir73
  | 74 => some ir74
  | 75 => some ir75
  | 76 => some ir76
  | 77 => some ir77
  | 78 => some ir78
  | 79 => some ir79
  | 80 => some ir80
  | 81 => some ir81
  | 82 => some ir82
  | 83 => some ir83
  | 84 => some ir84
  | 85 => some ir85
  | _ => none
def gam (base : Nat) : Ctx := ⟨base, fnOf, fun _ _ _ _ _ => False⟩
theorem linked (base : Nat) : Linked Try.prog sq (gam base) := by
  intro f bfn h
  simp only [gam, fnOf] at h
  split at h
  · cases h; exact ⟨Try.f5, Try.func5, irOk5, by kernel_rfl⟩
  · cases h; exact ⟨Try.f6, Try.func6, irOk6, by kernel_rfl⟩
  · cases h; exact ⟨Try.f7, Try.func7, irOk7, by kernel_rfl⟩
  · cases h; exact ⟨Try.f8, Try.func8, irOk8, by kernel_rfl⟩
  · cases h; exact ⟨Try.f9, Try.func9, irOk9, by kernel_rfl⟩
  · cases h; exact ⟨Try.f10, Try.func10, irOk10, by kernel_rfl⟩
  · cases h; exact ⟨Try.f11, Try.func11, irOk11, by kernel_rfl⟩
  · cases h; exact ⟨Try.f12, Try.func12, irOk12, by kernel_rfl⟩
  · cases h; exact ⟨Try.f13, Try.func13, irOk13, by kernel_rfl⟩
  · cases h; exact ⟨Try.f18, Try.func18, irOk18, by kernel_rfl⟩
  · cases h; exact ⟨Try.f19, Try.func19, irOk19, by kernel_rfl⟩
  · cases h; exact ⟨Try.f20, Try.func20, irOk20, by kernel_rfl⟩
  · cases h; exact ⟨Try.f21, Try.func21, irOk21, by kernel_rfl⟩
  · cases h; exact ⟨Try.f22, Try.func22, irOk22, by kernel_rfl⟩
  · cases h; exact ⟨Try.f23, Try.func23, irOk23, by kernel_rfl⟩
  · cases h; exact ⟨Try.f24, Try.func24, irOk24, by kernel_rfl⟩
  · cases h; exact ⟨Try.f25, Try.func25, irOk25, by kernel_rfl⟩
  · cases h; exact ⟨Try.f26, Try.func26, irOk26, by kernel_rfl⟩
  · cases h; exact ⟨Try.f27, Try.func27, irOk27, by kernel_rfl⟩
  · cases h; exact ⟨Try.f28, Try.func28, irOk28, by kernel_rfl⟩
  · cases h; exact ⟨Try.f29, Try.func29, irOk29, by kernel_rfl⟩
  · cases h; exact ⟨Try.f30, Try.func30, irOk30, by kernel_rfl⟩
  · cases h; exact ⟨Try.f31, Try.func31, irOk31, by kernel_rfl⟩
  · cases h; exact ⟨Try.f32, Try.func32, irOk32, by kernel_rfl⟩
  · cases h; exact ⟨Try.f33, Try.func33, irOk33, by kernel_rfl⟩
  · cases h; exact ⟨Try.f34, Try.func34, irOk34, by kernel_rfl⟩
  · cases h; exact ⟨Try.f35, Try.func35, irOk35, by kernel_rfl⟩
  · cases h; exact ⟨Try.f36, Try.func36, irOk36, by kernel_rfl⟩
  · cases h; exact ⟨Try.f37, Try.func37, irOk37, by kernel_rfl⟩
  · cases h; exact ⟨Try.f38, Try.func38, irOk38, by kernel_rfl⟩
  · cases h; exact ⟨Try.f39, Try.func39, irOk39, by kernel_rfl⟩
  · cases h; exact ⟨Try.f40, Try.func40, irOk40, by kernel_rfl⟩
  · cases h; exact ⟨Try.f41, Try.func41, irOk41, by kernel_rfl⟩
  · cases h; exact ⟨Try.f42, Try.func42, irOk42, by kernel_rfl⟩
  · cases h; exact ⟨Try.f46, Try.func46, irOk46, by kernel_rfl⟩
  · cases h; exact ⟨Try.f47, Try.func47, irOk47, by kernel_rfl⟩
  · cases h; exact ⟨Try.f48, Try.func48, irOk48, by kernel_rfl⟩
  · cases h; exact ⟨Try.f49, Try.func49, irOk49, by kernel_rfl⟩
  · cases h; exact ⟨Try.f50, Try.func50, irOk50, by kernel_rfl⟩
  · cases h; exact ⟨Try.f51, Try.func51, irOk51, by kernel_rfl⟩
  · cases h; exact ⟨Try.f52, Try.func52, irOk52, by kernel_rfl⟩
  · cases h; exact ⟨Try.f53, Try.func53, irOk53, by kernel_rfl⟩
  · cases h; exact ⟨Try.f54, Try.func54, irOk54, by kernel_rfl⟩
  · cases h; exact ⟨Try.f55, Try.func55, irOk55, by kernel_rfl⟩
  · cases h; exact ⟨Try.f56, Try.func56, irOk56, by kernel_rfl⟩
  · cases h; exact ⟨Try.f57, Try.func57, irOk57, by kernel_rfl⟩
  · cases h; exact ⟨Try.f58, Try.func58, irOk58, by kernel_rfl⟩
  · cases h; exact ⟨Try.f59, Try.func59, irOk59, by kernel_rfl⟩
  · cases h; exact ⟨Try.f60, Try.func60, irOk60, by kernel_rfl⟩
  · cases h; exact ⟨Try.f61, Try.func61, irOk61, by kernel_rfl⟩
  · cases h; exact ⟨Try.f62, Try.func62, irOk62, by kernel_rfl⟩
  · cases h; exact ⟨Try.f63, Try.func63, irOk63, by kernel_rfl⟩
  · cases h; exact ⟨Try.f64, Try.func64, irOk64, by kernel_rfl⟩
  · cases h; exact ⟨Try.f65, Try.func65, irOk65, by kernel_rfl⟩
  · cases h; exact ⟨Try.f66, Try.func66, irOk66, by kernel_rfl⟩
  · cases h; exact ⟨Try.f67, Try.func67, irOk67, by kernel_rfl⟩
  · cases h; exact ⟨Try.f68, Try.func68, irOk68, by kernel_rfl⟩
  · cases h; exact ⟨Try.f69, Try.func69, irOk69, by kernel_rfl⟩
  · cases h; exact ⟨Try.f70, Try.func70, irOk70, by kernel_rfl⟩
  · cases h; exact ⟨Try.f71, Try.func71, irOk71, by kernel_rfl⟩
  · cases h; exact ⟨Try.f72, Try.func72, irOk72, by kernel_rfl⟩
  · cases h; exact ⟨Try.f73, Try.func73, irOk73, by kernel_rfl⟩
  · cases h; exact ⟨Try.f74, Try.func74, irOk74, by kernel_rfl⟩
  · cases h; exact ⟨Try.f75, Try.func75, irOk75, by kernel_rfl⟩
  · cases h; exact ⟨Try.f76, Try.func76, irOk76, by kernel_rfl⟩
  · cases h; exact ⟨Try.f77, Try.func77, irOk77, by kernel_rfl⟩
  · cases h; exact ⟨Try.f78, Try.func78, irOk78, by kernel_rfl⟩
  · cases h; exact ⟨Try.f79, Try.func79, irOk79, by kernel_rfl⟩
  · cases h; exact ⟨Try.f80, Try.func80, irOk80, by kernel_rfl⟩
  · cases h; exact ⟨Try.f81, Try.func81, irOk81, by kernel_rfl⟩
  · cases h; exact ⟨Try.f82, Try.func82, irOk82, by kernel_rfl⟩
  · cases h; exact ⟨Try.f83, Try.func83, irOk83, by kernel_rfl⟩
  · cases h; exact ⟨Try.f84, Try.func84, irOk84, by kernel_rfl⟩
  · cases h; exact ⟨Try.f85, Try.func85, irOk85, by kernel_rfl⟩
  · cases h
end Go.Proofs.Ytkmlmkbpdldjgaa.W
