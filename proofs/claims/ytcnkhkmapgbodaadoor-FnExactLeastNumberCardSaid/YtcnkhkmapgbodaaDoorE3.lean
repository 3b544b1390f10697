/-
Texts of our own, put together: Ir.
-/
import Derived.Test.YtcnkhkmapgbodaaDoorE2
import Derived.Test.YtcnkhkmapgbodaaDoorProg
import Derived.KernelRfl
section
namespace Go.Proofs.YtcnkhkmapgbodaaDoor.W
set_option linter.unusedVariables false
open Go.B
noncomputable def sq (t : Nat) : Bool := !Tryd.prog.stoodInHeld t && !Tryd.prog.eqGuardType Tryd.prog.depth t
theorem sqOk (t : Nat) (h : sq t = true) : Tryd.prog.stoodInHeld t = false ∧ Tryd.prog.eqGuardType Tryd.prog.depth t = false := by
  simpa [sq] using h
def ir3 : BFun := ⟨[(.tmp 2)], (.seq (.region [⟨(some 1), (.box 25 (.t 0)), none, []⟩, ⟨(some 2), (.mov (.c (.bool false))), none, []⟩]) (.seq (.region [⟨(some 3), (.mov (.c (.int .i64 1048576))), none, []⟩]) (.seq (.region [⟨(some 9),
  (.load none (some 4) (.t 1)), none, []⟩, ⟨(some 10), (.mov (.t 3)), none, []⟩, ⟨(some 11), (.call (.c (.fn 7 [])) [(.t 9), (.t 10)]), none, []⟩, ⟨(some 3), (.mov (.t 11)), none, []⟩]) (.seq (.seq (.region [⟨(some 12), (.mov (.t 3)), none,
  []⟩, ⟨(some 13), (.bin .lss (.t 12) (.c (.int .i64 0))), none, []⟩]) (.cond (.t 13) (.seq (.region [⟨(some 2), (.mov (.c (.bool true))), none, []⟩]) .ret) .skip)) (.seq (.region [⟨(some 15), (.load none (some 4) (.t 1)), none, []⟩, ⟨(some
  16), (.call (.c (.fn 9 [])) [(.t 15)]), none, []⟩, ⟨(some 17), (.call (.c (.fn 8 [])) [(.t 16)]), none, []⟩, ⟨(some 14), (.mov (.t 17)), none, []⟩, ⟨(some 18), (.ext 0 (.t 14)), none, []⟩, ⟨(some 19), (.ext 1 (.t 14)), none, []⟩, ⟨(some
  4), (.mov (.t 18)), none, []⟩, ⟨(some 5), (.mov (.t 19)), none, []⟩]) (.seq (.region [⟨(some 20), (.load none (some 4) (.t 1)), none, []⟩, ⟨(some 21), (.call (.c (.fn 9 [])) [(.t 20)]), none, []⟩, ⟨(some 6), (.new 29 [(.int .i64 0), (.int
  .i64 0), .nils, .nils]), none, []⟩, ⟨none, (.store none 4 (.t 6) (.t 21)), none, []⟩]) (.seq (.region [⟨(some 23), (.load none (some 4) (.t 6)), none, []⟩, ⟨(some 24), (.call (.c (.fn 10 [])) [(.t 23)]), none, []⟩, ⟨(some 22), (.mov (.t
  24)), none, []⟩, ⟨(some 25), (.ext 0 (.t 22)), none, []⟩, ⟨(some 26), (.ext 1 (.t 22)), none, []⟩, ⟨(some 7), (.mov (.t 25)), none, []⟩, ⟨(some 8), (.mov (.t 26)), none, []⟩]) (.seq (.seq (.region [⟨(some 27), (.mov (.t 7)), none, []⟩,
  ⟨(some 28), (.mov (.t 4)), none, []⟩, ⟨(some 29), (.beq true (.t 27) (.t 28)), none, []⟩, ⟨(some 30), (.mov (.t 29)), none, []⟩, ⟨(some 31), (.mov (.t 8)), (some (30, false)), []⟩, ⟨(some 32), (.mov (.t 5)), (some (30, false)), []⟩, ⟨(some
  33), (.bin .neq (.t 31) (.t 32)), (some (30, false)), []⟩, ⟨(some 34), (.pick (.t 30) (.c (.bool true)) (.t 33)), none, []⟩]) (.cond (.t 34) (.seq (.region [⟨(some 2), (.mov (.c (.bool false))), none, []⟩]) .ret) .skip)) (.seq (.seq
  (.region [⟨(some 35), (.load (some 29) (some 4) (.t 6)), none, []⟩, ⟨(some 36), (.load none (some 4) (.t 1)), none, []⟩, ⟨(some 37), (.call (.c (.fn 9 [])) [(.t 36)]), none, [29]⟩, ⟨(some 38), (.call (.c (.fn 11 [])) [(.t 35), (.t 37)]),
  none, []⟩, ⟨(some 39), (.not (.t 38)), none, []⟩]) (.cond (.t 39) (.seq (.region [⟨(some 2), (.mov (.c (.bool false))), none, []⟩]) .ret) .skip)) (.seq (.region [⟨(some 2), (.mov (.c (.bool true))), none, []⟩]) .ret))))))))))⟩
theorem irOk3 : compFun Tryd.prog.underlying Tryd.prog.info? sq Tryd.f3 = some ir3 := by kernel_rfl
def ir4 : BFun := ⟨[(.tmp 4)], (.seq (.region [⟨(some 2), (.box 25 (.t 0)), none, []⟩, ⟨(some 4), (.mov (.c (.bool false))), none, []⟩]) (.seq (.region [⟨(some 5), (.mov (.c (.int .i64 1048576))), none, []⟩]) (.seq (.region [⟨(some 11),
  (.load none (some 4) (.t 2)), none, []⟩, ⟨(some 12), (.mov (.t 5)), none, []⟩, ⟨(some 13), (.call (.c (.fn 7 [])) [(.t 11), (.t 12)]), none, []⟩, ⟨(some 5), (.mov (.t 13)), none, []⟩]) (.seq (.seq (.region [⟨(some 14), (.mov (.t 5)), none,
  []⟩, ⟨(some 15), (.bin .lss (.t 14) (.c (.int .i64 0))), none, []⟩]) (.cond (.t 15) (.seq (.region [⟨(some 4), (.mov (.c (.bool true))), none, []⟩]) .ret) .skip)) (.seq (.region [⟨(some 17), (.load none (some 4) (.t 2)), none, []⟩, ⟨(some
  18), (.call (.c (.fn 9 [])) [(.t 17)]), none, []⟩, ⟨(some 19), (.mov (.t 1)), none, []⟩, ⟨(some 20), (.call (.c (.fn 12 [])) [(.t 18), (.t 19)]), none, []⟩, ⟨(some 16), (.mov (.t 20)), none, []⟩, ⟨(some 21), (.ext 0 (.t 16)), none, []⟩,
  ⟨(some 22), (.ext 1 (.t 16)), none, []⟩, ⟨(some 6), (.mov (.t 21)), none, []⟩, ⟨(some 7), (.mov (.t 22)), none, []⟩]) (.seq (.region [⟨(some 23), (.load none (some 4) (.t 2)), none, []⟩, ⟨(some 24), (.call (.c (.fn 9 [])) [(.t 23)]), none,
  []⟩, ⟨(some 8), (.new 29 [(.int .i64 0), (.int .i64 0), .nils, .nils]), none, []⟩, ⟨none, (.store none 4 (.t 8) (.t 24)), none, []⟩]) (.seq (.region [⟨(some 26), (.load none (some 4) (.t 8)), none, []⟩, ⟨(some 27), (.mov (.t 1)), none,
  []⟩, ⟨(some 28), (.call (.c (.fn 13 [])) [(.t 26), (.t 27)]), none, []⟩, ⟨(some 25), (.mov (.t 28)), none, []⟩, ⟨(some 29), (.ext 0 (.t 25)), none, []⟩, ⟨(some 30), (.ext 1 (.t 25)), none, []⟩, ⟨(some 9), (.mov (.t 29)), none, []⟩, ⟨(some
  10), (.mov (.t 30)), none, []⟩]) (.seq (.seq (.region [⟨(some 31), (.mov (.t 9)), none, []⟩, ⟨(some 32), (.mov (.t 6)), none, []⟩, ⟨(some 33), (.bin .neq (.t 31) (.t 32)), none, []⟩, ⟨(some 34), (.mov (.t 33)), none, []⟩, ⟨(some 35), (.mov
  (.t 10)), (some (34, false)), []⟩, ⟨(some 36), (.mov (.t 7)), (some (34, false)), []⟩, ⟨(some 37), (.bin .neq (.t 35) (.t 36)), (some (34, false)), []⟩, ⟨(some 38), (.pick (.t 34) (.c (.bool true)) (.t 37)), none, []⟩]) (.cond (.t 38)
  (.seq (.region [⟨(some 4), (.mov (.c (.bool false))), none, []⟩]) .ret) .skip)) (.seq (.seq (.region [⟨(some 39), (.load (some 29) (some 4) (.t 8)), none, []⟩, ⟨(some 40), (.load none (some 4) (.t 2)), none, []⟩, ⟨(some 41), (.call (.c
  (.fn 9 [])) [(.t 40)]), none, [29]⟩, ⟨(some 42), (.call (.c (.fn 11 [])) [(.t 39), (.t 41)]), none, []⟩, ⟨(some 43), (.not (.t 42)), none, []⟩]) (.cond (.t 43) (.seq (.region [⟨(some 4), (.mov (.c (.bool false))), none, []⟩]) .ret) .skip))
  (.seq (.region [⟨(some 4), (.mov (.c (.bool true))), none, []⟩]) .ret))))))))))⟩
theorem irOk4 : compFun Tryd.prog.underlying Tryd.prog.info? sq Tryd.f4 = some ir4 := by kernel_rfl
def ir5 : BFun := ⟨[(.tmp 2)], (.seq (.region [⟨(some 1), (.box 25 (.t 0)), none, []⟩, ⟨(some 2), (.mov (.c (.bool false))), none, []⟩]) (.seq (.region [⟨(some 3), (.mov (.c (.int .i64 1048576))), none, []⟩]) (.seq (.region [⟨(some 9),
  (.load none (some 4) (.t 1)), none, []⟩, ⟨(some 10), (.mov (.t 3)), none, []⟩, ⟨(some 11), (.call (.c (.fn 7 [])) [(.t 9), (.t 10)]), none, []⟩, ⟨(some 3), (.mov (.t 11)), none, []⟩]) (.seq (.seq (.region [⟨(some 12), (.mov (.t 3)), none,
  []⟩, ⟨(some 13), (.bin .lss (.t 12) (.c (.int .i64 0))), none, []⟩]) (.cond (.t 13) (.seq (.region [⟨(some 2), (.mov (.c (.bool true))), none, []⟩]) .ret) .skip)) (.seq (.region [⟨(some 15), (.load none (some 4) (.t 1)), none, []⟩, ⟨(some
  16), (.call (.c (.fn 9 [])) [(.t 15)]), none, []⟩, ⟨(some 17), (.call (.c (.fn 14 [])) [(.t 16)]), none, []⟩, ⟨(some 14), (.mov (.t 17)), none, []⟩, ⟨(some 18), (.ext 0 (.t 14)), none, []⟩, ⟨(some 19), (.ext 1 (.t 14)), none, []⟩, ⟨(some
  4), (.mov (.t 18)), none, []⟩, ⟨(some 5), (.mov (.t 19)), none, []⟩]) (.seq (.region [⟨(some 20), (.load none (some 4) (.t 1)), none, []⟩, ⟨(some 21), (.call (.c (.fn 9 [])) [(.t 20)]), none, []⟩, ⟨(some 6), (.new 29 [(.int .i64 0), (.int
  .i64 0), .nils, .nils]), none, []⟩, ⟨none, (.store none 4 (.t 6) (.t 21)), none, []⟩]) (.seq (.region [⟨(some 23), (.load none (some 4) (.t 6)), none, []⟩, ⟨(some 24), (.call (.c (.fn 15 [])) [(.t 23)]), none, []⟩, ⟨(some 22), (.mov (.t
  24)), none, []⟩, ⟨(some 25), (.ext 0 (.t 22)), none, []⟩, ⟨(some 26), (.ext 1 (.t 22)), none, []⟩, ⟨(some 7), (.mov (.t 25)), none, []⟩, ⟨(some 8), (.mov (.t 26)), none, []⟩]) (.seq (.seq (.region [⟨(some 27), (.mov (.t 7)), none, []⟩,
  ⟨(some 28), (.mov (.t 4)), none, []⟩, ⟨(some 29), (.bin .neq (.t 27) (.t 28)), none, []⟩, ⟨(some 30), (.mov (.t 29)), none, []⟩, ⟨(some 31), (.mov (.t 8)), (some (30, false)), []⟩, ⟨(some 32), (.mov (.t 5)), (some (30, false)), []⟩, ⟨(some
  33), (.bin .neq (.t 31) (.t 32)), (some (30, false)), []⟩, ⟨(some 34), (.pick (.t 30) (.c (.bool true)) (.t 33)), none, []⟩]) (.cond (.t 34) (.seq (.region [⟨(some 2), (.mov (.c (.bool false))), none, []⟩]) .ret) .skip)) (.seq (.seq
  (.region [⟨(some 35), (.load (some 29) (some 4) (.t 6)), none, []⟩, ⟨(some 36), (.load none (some 4) (.t 1)), none, []⟩, ⟨(some 37), (.call (.c (.fn 9 [])) [(.t 36)]), none, [29]⟩, ⟨(some 38), (.call (.c (.fn 11 [])) [(.t 35), (.t 37)]),
  none, []⟩, ⟨(some 39), (.not (.t 38)), none, []⟩]) (.cond (.t 39) (.seq (.region [⟨(some 2), (.mov (.c (.bool false))), none, []⟩]) .ret) .skip)) (.seq (.region [⟨(some 2), (.mov (.c (.bool true))), none, []⟩]) .ret))))))))))⟩
theorem irOk5 : compFun Tryd.prog.underlying Tryd.prog.info? sq Tryd.f5 = some ir5 := by kernel_rfl
def ir7 : BFun := ⟨[(.tmp 4)], (.seq (.region [⟨(some 2), (.box 25 (.t 0)), none, []⟩, ⟨(some 4), (.mov (.c (.int .i64 0))), none, []⟩]) (.seq (.region [⟨(some 5), (.lea 2 (.t 2)), none, []⟩, ⟨(some 6), (.load none none (.t 5)), none, []⟩,
  ⟨(some 7), (.mov (.t 1)), none, []⟩, ⟨(some 8), (.call (.c (.fn 23 [])) [(.t 6), (.t 7)]), none, []⟩, ⟨(some 1), (.mov (.t 8)), none, []⟩]) (.seq (.seq (.region [⟨(some 9), (.mov (.t 1)), none, []⟩, ⟨(some 10), (.bin .lss (.t 9) (.c (.int
  .i64 0))), none, []⟩]) (.cond (.t 10) (.seq (.region [⟨(some 4), (.mov (.c (.int .i64 (-1)))), none, []⟩]) .ret) .skip)) (.seq (.region [⟨(some 11), (.lea 3 (.t 2)), none, []⟩, ⟨(some 12), (.load none none (.t 11)), none, []⟩, ⟨(some 13),
  (.mov (.t 1)), none, []⟩, ⟨(some 14), (.call (.c (.fn 24 [])) [(.t 12), (.t 13)]), none, []⟩, ⟨(some 1), (.mov (.t 14)), none, []⟩]) (.seq (.seq (.region [⟨(some 15), (.mov (.t 1)), none, []⟩, ⟨(some 16), (.bin .lss (.t 15) (.c (.int .i64
  0))), none, []⟩]) (.cond (.t 16) (.seq (.region [⟨(some 4), (.mov (.c (.int .i64 (-1)))), none, []⟩]) .ret) .skip)) (.seq (.region [⟨(some 17), (.mov (.t 1)), none, []⟩, ⟨(some 4), (.mov (.t 17)), none, []⟩]) .ret))))))⟩
theorem irOk7 : compFun Tryd.prog.underlying Tryd.prog.info? sq Tryd.f7 = some ir7 := by kernel_rfl
def ir8 : BFun := ⟨[(.tmp 2), (.tmp 3)], (.seq (.region [⟨(some 1), (.box 29 (.t 0)), none, []⟩, ⟨(some 2), (.mov (.c (.bool false))), none, []⟩, ⟨(some 3), (.mov (.c (.int .i64 0))), none, []⟩]) (.seq (.seq (.region [⟨(some 4), (.call (.c
  (.fn 25 [])) [(.t 1)]), none, []⟩, ⟨(some 5), (.not (.t 4)), none, []⟩]) (.cond (.t 5) (.seq (.region [⟨(some 2), (.mov (.c (.bool false))), none, []⟩, ⟨(some 3), (.mov (.c (.int .i64 1))), none, []⟩]) .ret) .skip)) (.seq (.seq (.region
  [⟨(some 6), (.lea 0 (.t 1)), none, []⟩, ⟨(some 7), (.load none none (.t 6)), none, []⟩, ⟨(some 8), (.bin .neq (.t 7) (.c (.int .i64 1))), none, []⟩]) (.cond (.t 8) (.seq (.region [⟨(some 2), (.mov (.c (.bool false))), none, []⟩, ⟨(some 3),
  (.mov (.c (.int .i64 2))), none, []⟩]) .ret) .skip)) (.seq (.region [⟨(some 9), (.call (.c (.fn 26 [])) [(.t 1)]), none, []⟩, ⟨(some 2), (.mov (.t 9)), none, []⟩, ⟨(some 3), (.mov (.c (.int .i64 0))), none, []⟩]) .ret))))⟩
theorem irOk8 : compFun Tryd.prog.underlying Tryd.prog.info? sq Tryd.f8 = some ir8 := by kernel_rfl
def ir9 : BFun := ⟨[(.cell 2 (some 4))], (.seq (.region [⟨(some 1), (.box 25 (.t 0)), none, []⟩, ⟨(some 2), (.new 29 [(.int .i64 0), (.int .i64 0), .nils, .nils]), none, []⟩]) (.seq (.region [⟨(some 3), (.new 29 [(.int .i64 0), (.int .i64
  0), .nils, .nils]), none, []⟩]) (.seq (.region [⟨(some 4), (.lea 0 (.t 1)), none, []⟩, ⟨(some 5), (.load none none (.t 4)), none, []⟩, ⟨(some 6), (.lea 0 (.t 3)), none, []⟩, ⟨none, (.store none 1 (.t 6) (.t 5)), none, []⟩]) (.seq (.region
  [⟨(some 7), (.lea 1 (.t 1)), none, []⟩, ⟨(some 8), (.load none none (.t 7)), none, []⟩, ⟨(some 9), (.lea 1 (.t 3)), none, []⟩, ⟨none, (.store none 1 (.t 9) (.t 8)), none, []⟩]) (.seq (.region [⟨(some 10), (.lea 2 (.t 1)), none, []⟩, ⟨(some
  11), (.load none none (.t 10)), none, []⟩, ⟨(some 12), (.call (.c (.fn 27 [])) [(.t 11)]), none, []⟩, ⟨(some 13), (.lea 2 (.t 3)), none, []⟩, ⟨none, (.store none 1 (.t 13) (.t 12)), none, []⟩]) (.seq (.region [⟨(some 14), (.lea 3 (.t 1)),
  none, []⟩, ⟨(some 15), (.load none none (.t 14)), none, []⟩, ⟨(some 16), (.call (.c (.fn 28 [])) [(.t 15)]), none, []⟩, ⟨(some 17), (.lea 3 (.t 3)), none, []⟩, ⟨none, (.store none 1 (.t 17) (.t 16)), none, []⟩]) (.seq (.region [⟨(some 18),
  (.load none (some 4) (.t 3)), none, []⟩, ⟨none, (.store none 4 (.t 2) (.t 18)), none, []⟩]) .ret)))))))⟩
theorem irOk9 : compFun Tryd.prog.underlying Tryd.prog.info? sq Tryd.f9 = some ir9 := by kernel_rfl
def ir10 : BFun := ⟨[(.tmp 2), (.tmp 3)], (.seq (.region [⟨(some 1), (.box 29 (.t 0)), none, []⟩, ⟨(some 2), (.mov (.c (.bool false))), none, []⟩, ⟨(some 3), (.mov (.c (.int .i64 0))), none, []⟩]) (.seq (.block 0 (.seq (.region [⟨(some 5),
  (.load none (some 4) (.t 1)), none, []⟩, ⟨(some 6), (.call (.c (.fn 29 [])) [(.t 5)]), none, []⟩, ⟨(some 7), (.not (.t 6)), none, []⟩, ⟨(some 4), (.mov (.t 7)), none, []⟩]) (.cond (.t 4) (.seq (.region [⟨(some 2), (.mov (.c (.bool
  false))), none, []⟩, ⟨(some 3), (.mov (.c (.int .i64 1))), none, []⟩]) .ret) (.seq (.region [⟨(some 9), (.lea 0 (.t 1)), none, []⟩, ⟨(some 10), (.load none none (.t 9)), none, []⟩, ⟨(some 11), (.bin .neq (.t 10) (.c (.int .i64 1))), none,
  []⟩, ⟨(some 8), (.mov (.t 11)), none, []⟩]) (.cond (.t 8) (.seq (.region [⟨(some 2), (.mov (.c (.bool false))), none, []⟩, ⟨(some 3), (.mov (.c (.int .i64 2))), none, []⟩]) .ret) .skip))))) (.seq (.region [⟨(some 12), (.load none (some 4)
  (.t 1)), none, []⟩, ⟨(some 13), (.call (.c (.fn 30 [])) [(.t 12)]), none, []⟩, ⟨(some 2), (.mov (.t 13)), none, []⟩, ⟨(some 3), (.mov (.c (.int .i64 0))), none, []⟩]) .ret)))⟩
theorem irOk10 : compFun Tryd.prog.underlying Tryd.prog.info? sq Tryd.f10 = some ir10 := by kernel_rfl
def ir11 : BFun := ⟨[(.tmp 4)], (.seq (.region [⟨(some 2), (.box 29 (.t 0)), none, []⟩, ⟨(some 3), (.box 29 (.t 1)), none, []⟩, ⟨(some 4), (.mov (.c (.bool false))), none, []⟩]) (.seq (.seq (.region [⟨(some 5), (.lea 0 (.t 2)), none, []⟩,
  ⟨(some 6), (.load none none (.t 5)), none, []⟩, ⟨(some 7), (.lea 0 (.t 3)), none, []⟩, ⟨(some 8), (.load none none (.t 7)), none, []⟩, ⟨(some 9), (.bin .neq (.t 6) (.t 8)), none, []⟩]) (.cond (.t 9) (.seq (.region [⟨(some 4), (.mov (.c
  (.bool false))), none, []⟩]) .ret) .skip)) (.seq (.seq (.region [⟨(some 10), (.lea 1 (.t 2)), none, []⟩, ⟨(some 11), (.load none none (.t 10)), none, []⟩, ⟨(some 12), (.lea 1 (.t 3)), none, []⟩, ⟨(some 13), (.load none none (.t 12)), none,
  []⟩, ⟨(some 14), (.bin .neq (.t 11) (.t 13)), none, []⟩]) (.cond (.t 14) (.seq (.region [⟨(some 4), (.mov (.c (.bool false))), none, []⟩]) .ret) .skip)) (.seq (.seq (.region [⟨(some 15), (.lea 2 (.t 2)), none, []⟩, ⟨(some 16), (.load none
  none (.t 15)), none, []⟩, ⟨(some 17), (.lea 2 (.t 3)), none, []⟩, ⟨(some 18), (.load none none (.t 17)), none, []⟩, ⟨(some 19), (.call (.c (.fn 31 [])) [(.t 16), (.t 18)]), none, []⟩, ⟨(some 20), (.not (.t 19)), none, []⟩]) (.cond (.t 20)
  (.seq (.region [⟨(some 4), (.mov (.c (.bool false))), none, []⟩]) .ret) .skip)) (.seq (.seq (.region [⟨(some 21), (.lea 3 (.t 2)), none, []⟩, ⟨(some 22), (.load none none (.t 21)), none, []⟩, ⟨(some 23), (.lea 3 (.t 3)), none, []⟩, ⟨(some
  24), (.load none none (.t 23)), none, []⟩, ⟨(some 25), (.call (.c (.fn 32 [])) [(.t 22), (.t 24)]), none, []⟩, ⟨(some 26), (.not (.t 25)), none, []⟩]) (.cond (.t 26) (.seq (.region [⟨(some 4), (.mov (.c (.bool false))), none, []⟩]) .ret)
  .skip)) (.seq (.region [⟨(some 4), (.mov (.c (.bool true))), none, []⟩]) .ret))))))⟩
theorem irOk11 : compFun Tryd.prog.underlying Tryd.prog.info? sq Tryd.f11 = some ir11 := by kernel_rfl
def ir12 : BFun := ⟨[(.tmp 4), (.tmp 5)], (.seq (.region [⟨(some 2), (.box 29 (.t 0)), none, []⟩, ⟨(some 4), (.mov (.c (.int .i64 0))), none, []⟩, ⟨(some 5), (.mov (.c (.int .i64 0))), none, []⟩]) (.seq (.seq (.region [⟨(some 9), (.call (.c
  (.fn 33 [])) [(.t 2)]), none, []⟩, ⟨(some 6), (.mov (.t 9)), none, []⟩]) (.seq (.region [⟨(some 10), (.mov (.t 6)), none, []⟩, ⟨(some 11), (.bin .neq (.t 10) (.c (.int .i64 0))), none, []⟩]) (.cond (.t 11) (.seq (.region [⟨(some 12), (.mov
  (.t 6)), none, []⟩, ⟨(some 4), (.mov (.c (.int .i64 0))), none, []⟩, ⟨(some 5), (.mov (.t 12)), none, []⟩]) .ret) .skip))) (.seq (.seq (.region [⟨(some 13), (.mov (.t 1)), none, []⟩, ⟨(some 14), (.call (.c (.fn 34 [])) [(.t 13), (.c (.int
  .i64 0)), (.c (.int .i64 1000))]), none, []⟩, ⟨(some 15), (.not (.t 14)), none, []⟩]) (.cond (.t 15) (.seq (.region [⟨(some 4), (.mov (.c (.int .i64 0))), none, []⟩, ⟨(some 5), (.mov (.c (.int .i64 2))), none, []⟩]) .ret) .skip)) (.seq
  (.region [⟨(some 7), (.mov (.c (.int .i64 0))), none, []⟩]) (.seq (.seq (.region [⟨(some 8), (.mov (.c (.int .i64 0))), none, []⟩]) (.block 0 (.loop (.seq (.seq (.region [⟨(some 16), (.mov (.t 8)), none, []⟩, ⟨(some 17), (.mov (.t 1)),
  none, []⟩, ⟨(some 18), (.bin .lss (.t 16) (.t 17)), none, []⟩]) (.cond (.t 18) .skip (.exit 0))) (.seq (.block 1 (.seq (.region [⟨(some 21), (.mov (.t 8)), none, []⟩, ⟨(some 22), (.call (.c (.fn 36 [])) [(.t 21)]), none, []⟩, ⟨(some 23),
  (.mk 9 1 [(.str ⟨#[]⟩)] [(0, (1, (.t 22)))]), none, []⟩, ⟨(some 24), (.call (.c (.fn 35 [])) [(.t 2), (.t 23)]), none, []⟩]) (.cond (.t 24) (.region [⟨(some 25), (.mov (.t 7)), none, []⟩, ⟨(some 26), (.bin .add (.t 25) (.c (.int .i64 1))),
  none, []⟩, ⟨(some 7), (.mov (.t 26)), none, []⟩]) .skip))) (.region [⟨(some 19), (.mov (.t 8)), none, []⟩, ⟨(some 20), (.bin .add (.t 19) (.c (.int .i64 1))), none, []⟩, ⟨(some 8), (.mov (.t 20)), none, []⟩])))))) (.seq (.region [⟨(some
  27), (.mov (.t 7)), none, []⟩, ⟨(some 4), (.mov (.t 27)), none, []⟩, ⟨(some 5), (.mov (.c (.int .i64 0))), none, []⟩]) .ret))))))⟩
theorem irOk12 : compFun Tryd.prog.underlying Tryd.prog.info? sq Tryd.f12 = some ir12 := by kernel_rfl
def ir13 : BFun := ⟨[(.tmp 4), (.tmp 5)], (.seq (.region [⟨(some 2), (.box 29 (.t 0)), none, []⟩, ⟨(some 4), (.mov (.c (.int .i64 0))), none, []⟩, ⟨(some 5), (.mov (.c (.int .i64 0))), none, []⟩]) (.seq (.seq (.region [⟨(some 10), (.load
  none (some 4) (.t 2)), none, []⟩, ⟨(some 11), (.mk 29 1 [(.int .i64 0), (.int .i64 0), .nils, .nils] [(0, (4, (.t 10)))]), none, []⟩, ⟨(some 12), (.call (.c (.fn 37 [])) [(.t 11)]), none, []⟩, ⟨(some 6), (.mov (.t 12)), none, []⟩]) (.seq
  (.region [⟨(some 13), (.mov (.t 6)), none, []⟩, ⟨(some 14), (.bin .neq (.t 13) (.c (.int .i64 0))), none, []⟩]) (.cond (.t 14) (.seq (.region [⟨(some 15), (.mov (.t 6)), none, []⟩, ⟨(some 4), (.mov (.c (.int .i64 0))), none, []⟩, ⟨(some
  5), (.mov (.t 15)), none, []⟩]) .ret) .skip))) (.seq (.seq (.region [⟨(some 16), (.mov (.t 1)), none, []⟩, ⟨(some 17), (.call (.c (.fn 38 [])) [(.t 16), (.c (.int .i64 0)), (.c (.int .i64 1000))]), none, []⟩, ⟨(some 18), (.not (.t 17)),
  none, []⟩]) (.cond (.t 18) (.seq (.region [⟨(some 4), (.mov (.c (.int .i64 0))), none, []⟩, ⟨(some 5), (.mov (.c (.int .i64 2))), none, []⟩]) .ret) .skip)) (.seq (.region [⟨(some 19), (.load none (some 4) (.t 2)), none, []⟩, ⟨(some 20),
  (.call (.c (.fn 39 [])) [(.t 19)]), none, []⟩, ⟨(some 7), (.new 62 [(.int .i64 0), (.int .i64 0), .nils, .nils]), none, []⟩, ⟨none, (.store none 4 (.t 7) (.t 20)), none, []⟩]) (.seq (.region [⟨(some 8), (.mov (.c (.int .i64 0))), none,
  []⟩]) (.seq (.seq (.region [⟨(some 9), (.mov (.c (.int .i64 0))), none, []⟩]) (.block 0 (.loop (.seq (.seq (.region [⟨(some 21), (.mov (.t 9)), none, []⟩, ⟨(some 22), (.mov (.t 1)), none, []⟩, ⟨(some 23), (.bin .lss (.t 21) (.t 22)), none,
  []⟩]) (.cond (.t 23) .skip (.exit 0))) (.seq (.block 1 (.seq (.region [⟨(some 26), (.load (some 62) (some 4) (.t 7)), none, []⟩, ⟨(some 27), (.mov (.t 9)), none, []⟩, ⟨(some 28), (.call (.c (.fn 42 [])) [(.t 27)]), none, [62]⟩, ⟨(some 29),
  (.mk 9 1 [(.str ⟨#[]⟩)] [(0, (1, (.t 28)))]), none, []⟩, ⟨(some 30), (.call (.c (.fn 41 [])) [(.t 29)]), none, [62]⟩, ⟨(some 31), (.call (.c (.fn 40 [])) [(.t 26), (.t 30)]), none, []⟩]) (.cond (.t 31) (.region [⟨(some 32), (.mov (.t 8)),
  none, []⟩, ⟨(some 33), (.bin .add (.t 32) (.c (.int .i64 1))), none, []⟩, ⟨(some 8), (.mov (.t 33)), none, []⟩]) .skip))) (.region [⟨(some 24), (.mov (.t 9)), none, []⟩, ⟨(some 25), (.bin .add (.t 24) (.c (.int .i64 1))), none, []⟩, ⟨(some
  9), (.mov (.t 25)), none, []⟩])))))) (.seq (.region [⟨(some 34), (.mov (.t 8)), none, []⟩, ⟨(some 4), (.mov (.t 34)), none, []⟩, ⟨(some 5), (.mov (.c (.int .i64 0))), none, []⟩]) .ret)))))))⟩
theorem irOk13 : compFun Tryd.prog.underlying Tryd.prog.info? sq Tryd.f13 = some ir13 := by kernel_rfl
def ir14 : BFun := ⟨[(.tmp 2), (.tmp 3)], (.seq (.region [⟨(some 1), (.box 29 (.t 0)), none, []⟩, ⟨(some 2), (.mov (.c (.int .i64 0))), none, []⟩, ⟨(some 3), (.mov (.c (.int .i64 0))), none, []⟩]) (.seq (.seq (.region [⟨(some 5), (.call (.c
  (.fn 33 [])) [(.t 1)]), none, []⟩, ⟨(some 4), (.mov (.t 5)), none, []⟩]) (.seq (.region [⟨(some 6), (.mov (.t 4)), none, []⟩, ⟨(some 7), (.bin .neq (.t 6) (.c (.int .i64 0))), none, []⟩]) (.cond (.t 7) (.seq (.region [⟨(some 8), (.mov (.t
  4)), none, []⟩, ⟨(some 2), (.mov (.c (.int .i64 0))), none, []⟩, ⟨(some 3), (.mov (.t 8)), none, []⟩]) .ret) .skip))) (.seq (.region [⟨(some 9), (.call (.c (.fn 43 [])) [(.t 1), (.c (.bool false))]), none, []⟩, ⟨(some 10), (.ext 0 (.t 9)),
  none, []⟩, ⟨(some 11), (.ext 1 (.t 9)), none, []⟩, ⟨(some 2), (.mov (.t 10)), none, []⟩, ⟨(some 3), (.mov (.t 11)), none, []⟩]) .ret)))⟩
theorem irOk14 : compFun Tryd.prog.underlying Tryd.prog.info? sq Tryd.f14 = some ir14 := by kernel_rfl
def ir15 : BFun := ⟨[(.tmp 2), (.tmp 3)], (.seq (.region [⟨(some 1), (.box 29 (.t 0)), none, []⟩, ⟨(some 2), (.mov (.c (.int .i64 0))), none, []⟩, ⟨(some 3), (.mov (.c (.int .i64 0))), none, []⟩]) (.seq (.seq (.region [⟨(some 7), (.load none
  (some 4) (.t 1)), none, []⟩, ⟨(some 8), (.mk 29 1 [(.int .i64 0), (.int .i64 0), .nils, .nils] [(0, (4, (.t 7)))]), none, []⟩, ⟨(some 9), (.call (.c (.fn 37 [])) [(.t 8)]), none, []⟩, ⟨(some 4), (.mov (.t 9)), none, []⟩]) (.seq (.region
  [⟨(some 10), (.mov (.t 4)), none, []⟩, ⟨(some 11), (.bin .neq (.t 10) (.c (.int .i64 0))), none, []⟩]) (.cond (.t 11) (.seq (.region [⟨(some 12), (.mov (.t 4)), none, []⟩, ⟨(some 2), (.mov (.c (.int .i64 0))), none, []⟩, ⟨(some 3), (.mov
  (.t 12)), none, []⟩]) .ret) .skip))) (.seq (.region [⟨(some 13), (.load none (some 4) (.t 1)), none, []⟩, ⟨(some 14), (.call (.c (.fn 44 [])) [(.t 13)]), none, []⟩, ⟨(some 5), (.new 62 [(.int .i64 0), (.int .i64 0), .nils, .nils]), none,
  []⟩, ⟨none, (.store none 4 (.t 5) (.t 14)), none, []⟩]) (.seq (.region [⟨(some 15), (.load none (some 4) (.t 5)), none, []⟩, ⟨(some 17), (.lea 1 (.t 5)), none, []⟩, ⟨(some 18), (.load (some 62) none (.t 17)), none, []⟩, ⟨(some 16), (.call
  (.c (.fn 45 [])) [(.t 15)]), none, [62]⟩, ⟨(some 19), (.idx 1 (.t 16) (.t 18)), none, []⟩, ⟨(some 20), (.load none none (.t 19)), none, []⟩, ⟨(some 6), (.mov (.t 20)), none, []⟩]) (.seq (.seq (.region [⟨(some 21), (.mov (.t 6)), none, []⟩,
  ⟨(some 22), (.bin .lss (.t 21) (.c (.int .i64 0))), none, []⟩]) (.cond (.t 22) (.seq (.region [⟨(some 2), (.mov (.c (.int .i64 0))), none, []⟩, ⟨(some 3), (.mov (.c (.int .i64 6))), none, []⟩]) .ret) .skip)) (.seq (.region [⟨(some 23),
  (.load none (some 4) (.t 5)), none, []⟩, ⟨(some 24), (.mov (.t 6)), none, []⟩, ⟨(some 25), (.call (.c (.fn 47 [])) [(.t 23), (.t 24), (.c (.bool false))]), none, []⟩, ⟨(some 26), (.call (.c (.fn 46 [])) [(.t 25)]), none, []⟩, ⟨(some 27),
  (.ext 0 (.t 26)), none, []⟩, ⟨(some 28), (.ext 1 (.t 26)), none, []⟩, ⟨(some 2), (.mov (.t 27)), none, []⟩, ⟨(some 3), (.mov (.t 28)), none, []⟩]) .ret))))))⟩
theorem irOk15 : compFun Tryd.prog.underlying Tryd.prog.info? sq Tryd.f15 = some ir15 := by kernel_rfl
def ir17 : BFun := ⟨[(.tmp 2)], (.seq (.region [⟨(some 2), (.mov (.c .nils)), none, []⟩]) (.seq (.region [⟨(some 5), (.mov (.t 0)), none, []⟩, ⟨(some 6), (.len 1 (.t 5)), none, []⟩, ⟨(some 7), (.mksl 2 8 [(.int .i64 0)] (.t 6) (.t 6)), none,
  []⟩, ⟨(some 3), (.mov (.t 7)), none, []⟩]) (.seq (.seq (.region [⟨(some 4), (.mov (.c (.int .i64 0))), none, []⟩]) (.block 0 (.loop (.seq (.seq (.region [⟨(some 8), (.mov (.t 4)), none, []⟩, ⟨(some 9), (.mov (.t 0)), none, []⟩, ⟨(some 10),
  (.len 1 (.t 9)), none, []⟩, ⟨(some 11), (.bin .lss (.t 8) (.t 10)), none, []⟩]) (.cond (.t 11) .skip (.exit 0))) (.seq (.block 1 (.region [⟨(some 14), (.mov (.t 3)), none, []⟩, ⟨(some 15), (.mov (.t 4)), none, []⟩, ⟨(some 16), (.mov (.t
  0)), none, []⟩, ⟨(some 17), (.mov (.t 4)), none, []⟩, ⟨(some 18), (.idx 1 (.t 16) (.t 17)), none, []⟩, ⟨(some 19), (.load none none (.t 18)), none, []⟩, ⟨(some 20), (.idx 1 (.t 14) (.t 15)), none, []⟩, ⟨none, (.store none 1 (.t 20) (.t
  19)), none, []⟩])) (.region [⟨(some 12), (.mov (.t 4)), none, []⟩, ⟨(some 13), (.bin .add (.t 12) (.c (.int .i64 1))), none, []⟩, ⟨(some 4), (.mov (.t 13)), none, []⟩])))))) (.seq (.region [⟨(some 21), (.mov (.t 3)), none, []⟩, ⟨(some 2),
  (.mov (.t 21)), none, []⟩]) .ret))))⟩
theorem irOk17 : compFun Tryd.prog.underlying Tryd.prog.info? sq Tryd.f17 = some ir17 := by kernel_rfl
def ir19 : BFun := ⟨[(.tmp 4)], (.seq (.region [⟨(some 4), (.mov (.c (.bool false))), none, []⟩]) (.seq (.seq (.region [⟨(some 6), (.mov (.t 0)), none, []⟩, ⟨(some 7), (.len 1 (.t 6)), none, []⟩, ⟨(some 8), (.mov (.t 1)), none, []⟩, ⟨(some
  9), (.len 1 (.t 8)), none, []⟩, ⟨(some 10), (.bin .neq (.t 7) (.t 9)), none, []⟩]) (.cond (.t 10) (.seq (.region [⟨(some 4), (.mov (.c (.bool false))), none, []⟩]) .ret) .skip)) (.seq (.seq (.region [⟨(some 5), (.mov (.c (.int .i64 0))),
  none, []⟩]) (.block 0 (.loop (.seq (.seq (.region [⟨(some 11), (.mov (.t 5)), none, []⟩, ⟨(some 12), (.mov (.t 0)), none, []⟩, ⟨(some 13), (.len 1 (.t 12)), none, []⟩, ⟨(some 14), (.bin .lss (.t 11) (.t 13)), none, []⟩]) (.cond (.t 14)
  .skip (.exit 0))) (.seq (.block 1 (.seq (.region [⟨(some 17), (.mov (.t 0)), none, []⟩, ⟨(some 18), (.mov (.t 5)), none, []⟩, ⟨(some 19), (.idx 1 (.t 17) (.t 18)), none, []⟩, ⟨(some 20), (.load none none (.t 19)), none, []⟩, ⟨(some 21),
  (.mov (.t 1)), none, []⟩, ⟨(some 22), (.mov (.t 5)), none, []⟩, ⟨(some 23), (.idx 1 (.t 21) (.t 22)), none, []⟩, ⟨(some 24), (.load none none (.t 23)), none, []⟩, ⟨(some 25), (.bin .neq (.t 20) (.t 24)), none, []⟩]) (.cond (.t 25) (.seq
  (.region [⟨(some 4), (.mov (.c (.bool false))), none, []⟩]) .ret) .skip))) (.region [⟨(some 15), (.mov (.t 5)), none, []⟩, ⟨(some 16), (.bin .add (.t 15) (.c (.int .i64 1))), none, []⟩, ⟨(some 5), (.mov (.t 16)), none, []⟩])))))) (.seq
  (.region [⟨(some 4), (.mov (.c (.bool true))), none, []⟩]) .ret))))⟩
theorem irOk19 : compFun Tryd.prog.underlying Tryd.prog.info? sq Tryd.f19 = some ir19 := by kernel_rfl
def ir23 : BFun := ⟨[(.tmp 4)], (.seq (.region [⟨(some 4), (.mov (.c (.int .i64 0))), none, []⟩]) (.seq (.region [⟨(some 5), (.mov (.t 1)), none, []⟩, ⟨(some 6), (.mov (.t 0)), none, []⟩, ⟨(some 7), (.len 1 (.t 6)), none, []⟩, ⟨(some 8),
  (.bin .sub (.t 5) (.t 7)), none, []⟩, ⟨(some 1), (.mov (.t 8)), none, []⟩]) (.seq (.seq (.region [⟨(some 9), (.mov (.t 1)), none, []⟩, ⟨(some 10), (.bin .lss (.t 9) (.c (.int .i64 0))), none, []⟩]) (.cond (.t 10) (.seq (.region [⟨(some 4),
  (.mov (.c (.int .i64 (-1)))), none, []⟩]) .ret) .skip)) (.seq (.region [⟨(some 11), (.mov (.t 1)), none, []⟩, ⟨(some 4), (.mov (.t 11)), none, []⟩]) .ret))))⟩
theorem irOk23 : compFun Tryd.prog.underlying Tryd.prog.info? sq Tryd.f23 = some ir23 := by kernel_rfl
def ir24 : BFun := ⟨[(.tmp 4)], (.seq (.region [⟨(some 4), (.mov (.c (.int .i64 0))), none, []⟩]) (.seq (.region [⟨(some 6), (.mov (.t 1)), none, []⟩, ⟨(some 7), (.mov (.t 0)), none, []⟩, ⟨(some 8), (.len 1 (.t 7)), none, []⟩, ⟨(some 9),
  (.bin .sub (.t 6) (.t 8)), none, []⟩, ⟨(some 1), (.mov (.t 9)), none, []⟩]) (.seq (.seq (.region [⟨(some 10), (.mov (.t 1)), none, []⟩, ⟨(some 11), (.bin .lss (.t 10) (.c (.int .i64 0))), none, []⟩]) (.cond (.t 11) (.seq (.region [⟨(some
  4), (.mov (.c (.int .i64 (-1)))), none, []⟩]) .ret) .skip)) (.seq (.seq (.region [⟨(some 5), (.mov (.c (.int .i64 0))), none, []⟩]) (.block 0 (.loop (.seq (.seq (.region [⟨(some 12), (.mov (.t 5)), none, []⟩, ⟨(some 13), (.mov (.t 0)),
  none, []⟩, ⟨(some 14), (.len 1 (.t 13)), none, []⟩, ⟨(some 15), (.bin .lss (.t 12) (.t 14)), none, []⟩]) (.cond (.t 15) .skip (.exit 0))) (.seq (.block 1 (.seq (.region [⟨(some 18), (.mov (.t 0)), none, []⟩, ⟨(some 19), (.mov (.t 5)),
  none, []⟩, ⟨(some 20), (.idx 1 (.t 18) (.t 19)), none, []⟩, ⟨(some 21), (.load none none (.t 20)), none, []⟩, ⟨(some 22), (.mov (.t 1)), none, []⟩, ⟨(some 23), (.call (.c (.fn 55 [])) [(.t 21), (.t 22)]), none, []⟩, ⟨(some 1), (.mov (.t
  23)), none, []⟩]) (.seq (.region [⟨(some 24), (.mov (.t 1)), none, []⟩, ⟨(some 25), (.bin .lss (.t 24) (.c (.int .i64 0))), none, []⟩]) (.cond (.t 25) (.seq (.region [⟨(some 4), (.mov (.c (.int .i64 (-1)))), none, []⟩]) .ret) .skip))))
  (.region [⟨(some 16), (.mov (.t 5)), none, []⟩, ⟨(some 17), (.bin .add (.t 16) (.c (.int .i64 1))), none, []⟩, ⟨(some 5), (.mov (.t 17)), none, []⟩])))))) (.seq (.region [⟨(some 26), (.mov (.t 1)), none, []⟩, ⟨(some 4), (.mov (.t 26)),
  none, []⟩]) .ret)))))⟩
theorem irOk24 : compFun Tryd.prog.underlying Tryd.prog.info? sq Tryd.f24 = some ir24 := by kernel_rfl
def ir25 : BFun := ⟨[(.tmp 2)], (.seq (.region [⟨(some 2), (.mov (.c (.bool false))), none, []⟩]) (.seq (.region [⟨(some 3), (.mov (.t 0)), none, []⟩, ⟨(some 4), (.nilck (.t 3)), none, []⟩, ⟨(some 5), (.lea 2 (.t 4)), none, []⟩, ⟨(some 6),
  (.load none none (.t 5)), none, []⟩, ⟨(some 7), (.len 1 (.t 6)), none, []⟩, ⟨(some 8), (.bin .leq (.t 7) (.c (.int .i64 150))), none, []⟩, ⟨(some 9), (.mov (.t 8)), none, []⟩, ⟨(some 10), (.mov (.t 0)), (some (9, true)), []⟩, ⟨(some 11),
  (.call (.c (.fn 56 [])) [(.t 10)]), (some (9, true)), []⟩, ⟨(some 12), (.pick (.t 9) (.t 11) (.c (.bool false))), none, []⟩, ⟨(some 2), (.mov (.t 12)), none, []⟩]) .ret))⟩
theorem irOk25 : compFun Tryd.prog.underlying Tryd.prog.info? sq Tryd.f25 = some ir25 := by kernel_rfl
def ir26 : BFun := ⟨[(.tmp 2)], (.seq (.region [⟨(some 2), (.mov (.c (.bool false))), none, []⟩]) (.seq (.seq (.region [⟨(some 5), (.mov (.t 0)), none, []⟩, ⟨(some 6), (.nilck (.t 5)), none, []⟩, ⟨(some 7), (.lea 0 (.t 6)), none, []⟩, ⟨(some
  8), (.load none none (.t 7)), none, []⟩, ⟨(some 9), (.bin .neq (.t 8) (.c (.int .i64 1))), none, []⟩]) (.cond (.t 9) (.seq (.region [⟨(some 2), (.mov (.c (.bool false))), none, []⟩]) .ret) .skip)) (.seq (.region [⟨(some 11), (.mov (.t 0)),
  none, []⟩, ⟨(some 12), (.nilck (.t 11)), none, []⟩, ⟨(some 13), (.load (some 29) (some 4) (.t 12)), none, []⟩, ⟨(some 14), (.call (.c (.fn 58 [])) []), none, [29]⟩, ⟨(some 15), (.call (.c (.fn 57 [])) [(.t 13), (.t 14)]), none, []⟩, ⟨(some
  10), (.mov (.t 15)), none, []⟩, ⟨(some 16), (.ext 0 (.t 10)), none, []⟩, ⟨(some 17), (.ext 1 (.t 10)), none, []⟩, ⟨(some 3), (.mov (.t 16)), none, []⟩, ⟨(some 4), (.mov (.t 17)), none, []⟩]) (.seq (.region [⟨(some 18), (.mov (.t 3)), none,
  []⟩, ⟨(some 19), (.mov (.t 18)), none, []⟩, ⟨(some 20), (.mov (.t 4)), (some (19, true)), []⟩, ⟨(some 21), (.bin .eql (.t 20) (.c (.int .i64 0))), (some (19, true)), []⟩, ⟨(some 22), (.pick (.t 19) (.t 21) (.c (.bool false))), none, []⟩,
  ⟨(some 2), (.mov (.t 22)), none, []⟩]) .ret))))⟩
theorem irOk26 : compFun Tryd.prog.underlying Tryd.prog.info? sq Tryd.f26 = some ir26 := by kernel_rfl
def ir27 : BFun := ⟨[(.tmp 2)], (.seq (.region [⟨(some 2), (.mov (.c .nils)), none, []⟩]) (.seq (.region [⟨(some 5), (.mov (.t 0)), none, []⟩, ⟨(some 6), (.len 1 (.t 5)), none, []⟩, ⟨(some 7), (.mksl 4 1 [(.bool false)] (.t 6) (.t 6)), none,
  []⟩, ⟨(some 3), (.mov (.t 7)), none, []⟩]) (.seq (.seq (.region [⟨(some 4), (.mov (.c (.int .i64 0))), none, []⟩]) (.block 0 (.loop (.seq (.seq (.region [⟨(some 8), (.mov (.t 4)), none, []⟩, ⟨(some 9), (.mov (.t 0)), none, []⟩, ⟨(some 10),
  (.len 1 (.t 9)), none, []⟩, ⟨(some 11), (.bin .lss (.t 8) (.t 10)), none, []⟩]) (.cond (.t 11) .skip (.exit 0))) (.seq (.block 1 (.region [⟨(some 14), (.mov (.t 3)), none, []⟩, ⟨(some 15), (.mov (.t 4)), none, []⟩, ⟨(some 16), (.mov (.t
  0)), none, []⟩, ⟨(some 17), (.mov (.t 4)), none, []⟩, ⟨(some 18), (.idx 1 (.t 16) (.t 17)), none, []⟩, ⟨(some 19), (.load none none (.t 18)), none, []⟩, ⟨(some 20), (.idx 1 (.t 14) (.t 15)), none, []⟩, ⟨none, (.store none 1 (.t 20) (.t
  19)), none, []⟩])) (.region [⟨(some 12), (.mov (.t 4)), none, []⟩, ⟨(some 13), (.bin .add (.t 12) (.c (.int .i64 1))), none, []⟩, ⟨(some 4), (.mov (.t 13)), none, []⟩])))))) (.seq (.region [⟨(some 21), (.mov (.t 3)), none, []⟩, ⟨(some 2),
  (.mov (.t 21)), none, []⟩]) .ret))))⟩
theorem irOk27 : compFun Tryd.prog.underlying Tryd.prog.info? sq Tryd.f27 = some ir27 := by kernel_rfl
def ir28 : BFun := ⟨[(.tmp 2)], (.seq (.region [⟨(some 2), (.mov (.c .nils)), none, []⟩]) (.seq (.region [⟨(some 5), (.mov (.t 0)), none, []⟩, ⟨(some 6), (.len 1 (.t 5)), none, []⟩, ⟨(some 7), (.mksl 37 24 [.nils] (.t 6) (.t 6)), none, []⟩,
  ⟨(some 3), (.mov (.t 7)), none, []⟩]) (.seq (.seq (.region [⟨(some 4), (.mov (.c (.int .i64 0))), none, []⟩]) (.block 0 (.loop (.seq (.seq (.region [⟨(some 8), (.mov (.t 4)), none, []⟩, ⟨(some 9), (.mov (.t 0)), none, []⟩, ⟨(some 10),
  (.len 1 (.t 9)), none, []⟩, ⟨(some 11), (.bin .lss (.t 8) (.t 10)), none, []⟩]) (.cond (.t 11) .skip (.exit 0))) (.seq (.block 1 (.region [⟨(some 14), (.mov (.t 3)), none, []⟩, ⟨(some 15), (.mov (.t 4)), none, []⟩, ⟨(some 16), (.mov (.t
  0)), none, []⟩, ⟨(some 17), (.mov (.t 4)), none, []⟩, ⟨(some 18), (.idx 1 (.t 16) (.t 17)), none, []⟩, ⟨(some 19), (.load none none (.t 18)), none, []⟩, ⟨(some 20), (.call (.c (.fn 17 [])) [(.t 19)]), none, []⟩, ⟨(some 21), (.idx 1 (.t 14)
  (.t 15)), none, []⟩, ⟨none, (.store none 1 (.t 21) (.t 20)), none, []⟩])) (.region [⟨(some 12), (.mov (.t 4)), none, []⟩, ⟨(some 13), (.bin .add (.t 12) (.c (.int .i64 1))), none, []⟩, ⟨(some 4), (.mov (.t 13)), none, []⟩])))))) (.seq
  (.region [⟨(some 22), (.mov (.t 3)), none, []⟩, ⟨(some 2), (.mov (.t 22)), none, []⟩]) .ret))))⟩
theorem irOk28 : compFun Tryd.prog.underlying Tryd.prog.info? sq Tryd.f28 = some ir28 := by kernel_rfl
def ir29 : BFun := ⟨[(.tmp 2)], (.seq (.region [⟨(some 1), (.box 29 (.t 0)), none, []⟩, ⟨(some 2), (.mov (.c (.bool false))), none, []⟩]) (.seq (.region [⟨(some 8), (.lea 2 (.t 1)), none, []⟩, ⟨(some 9), (.load none none (.t 8)), none, []⟩,
  ⟨(some 10), (.len 1 (.t 9)), none, []⟩, ⟨(some 3), (.mov (.t 10)), none, []⟩]) (.seq (.seq (.region [⟨(some 11), (.lea 0 (.t 1)), none, []⟩, ⟨(some 12), (.load none none (.t 11)), none, []⟩, ⟨(some 13), (.call (.c (.fn 59 [])) [(.t 12)]),
  none, []⟩, ⟨(some 14), (.not (.t 13)), none, []⟩, ⟨(some 15), (.mov (.t 14)), none, []⟩, ⟨(some 16), (.mov (.t 3)), (some (15, false)), []⟩, ⟨(some 17), (.call (.c (.fn 38 [])) [(.t 16), (.c (.int .i64 1)), (.c (.int .i64 150))]), (some
  (15, false)), []⟩, ⟨(some 18), (.not (.t 17)), (some (15, false)), []⟩, ⟨(some 19), (.pick (.t 15) (.c (.bool true)) (.t 18)), none, []⟩, ⟨(some 20), (.mov (.t 19)), none, []⟩, ⟨(some 21), (.lea 3 (.t 1)), (some (20, false)), []⟩, ⟨(some
  22), (.load none none (.t 21)), (some (20, false)), []⟩, ⟨(some 23), (.len 1 (.t 22)), (some (20, false)), []⟩, ⟨(some 24), (.mov (.t 3)), (some (20, false)), []⟩, ⟨(some 25), (.bin .neq (.t 23) (.t 24)), (some (20, false)), []⟩, ⟨(some
  26), (.pick (.t 20) (.c (.bool true)) (.t 25)), none, []⟩, ⟨(some 27), (.mov (.t 26)), none, []⟩, ⟨(some 28), (.lea 1 (.t 1)), (some (27, false)), []⟩, ⟨(some 29), (.load none none (.t 28)), (some (27, false)), []⟩, ⟨(some 30), (.mov (.t
  3)), (some (27, false)), []⟩, ⟨(some 31), (.bin .sub (.t 30) (.c (.int .i64 1))), (some (27, false)), []⟩, ⟨(some 32), (.call (.c (.fn 38 [])) [(.t 29), (.c (.int .i64 0)), (.t 31)]), (some (27, false)), []⟩, ⟨(some 33), (.not (.t 32)),
  (some (27, false)), []⟩, ⟨(some 34), (.pick (.t 27) (.c (.bool true)) (.t 33)), none, []⟩]) (.cond (.t 34) (.seq (.region [⟨(some 2), (.mov (.c (.bool false))), none, []⟩]) .ret) .skip)) (.seq (.seq (.region [⟨(some 35), (.lea 3 (.t 1)),
  none, []⟩, ⟨(some 36), (.load none none (.t 35)), none, []⟩, ⟨(some 37), (.len 1 (.t 36)), none, []⟩, ⟨(some 38), (.mov (.c (.int .i64 0))), none, []⟩]) (.block 0 (.loop (.seq (.region [⟨(some 39), (.bin .lss (.t 38) (.t 37)), none, []⟩])
  (.seq (.cond (.t 39) .skip (.exit 0)) (.seq (.block 1 (.seq (.region [⟨(some 40), (.idx 1 (.t 36) (.t 38)), none, []⟩, ⟨(some 41), (.load none none (.t 40)), none, []⟩, ⟨(some 5), (.mov (.t 41)), none, []⟩]) (.seq (.seq (.region [⟨(some
  42), (.mov (.t 5)), none, []⟩, ⟨(some 43), (.len 1 (.t 42)), none, []⟩, ⟨(some 44), (.lea 0 (.t 1)), none, []⟩, ⟨(some 45), (.load none none (.t 44)), none, []⟩, ⟨(some 46), (.call (.c (.fn 60 [])) [(.t 45)]), none, []⟩, ⟨(some 47), (.bin
  .neq (.t 43) (.t 46)), none, []⟩]) (.cond (.t 47) (.seq (.region [⟨(some 2), (.mov (.c (.bool false))), none, []⟩]) .ret) .skip)) (.seq (.region [⟨(some 48), (.mov (.t 5)), none, []⟩, ⟨(some 49), (.len 1 (.t 48)), none, []⟩, ⟨(some 50),
  (.mov (.c (.int .i64 0))), none, []⟩]) (.block 2 (.loop (.seq (.region [⟨(some 51), (.bin .lss (.t 50) (.t 49)), none, []⟩]) (.seq (.cond (.t 51) .skip (.exit 2)) (.seq (.block 3 (.seq (.region [⟨(some 52), (.idx 1 (.t 48) (.t 50)), none,
  []⟩, ⟨(some 53), (.load none none (.t 52)), none, []⟩, ⟨(some 7), (.mov (.t 53)), none, []⟩]) (.seq (.region [⟨(some 54), (.mov (.t 7)), none, []⟩, ⟨(some 55), (.mov (.t 3)), none, []⟩, ⟨(some 56), (.bin .sub (.t 55) (.c (.int .i64 1))),
  none, []⟩, ⟨(some 57), (.call (.c (.fn 38 [])) [(.t 54), (.c (.int .i64 0)), (.t 56)]), none, []⟩, ⟨(some 58), (.not (.t 57)), none, []⟩]) (.cond (.t 58) (.seq (.region [⟨(some 2), (.mov (.c (.bool false))), none, []⟩]) .ret) .skip))))
  (.region [⟨(some 59), (.bin .add (.t 50) (.c (.int .i64 1))), none, []⟩, ⟨(some 50), (.mov (.t 59)), none, []⟩])))))))))) (.region [⟨(some 60), (.bin .add (.t 38) (.c (.int .i64 1))), none, []⟩, ⟨(some 38), (.mov (.t 60)), none,
  []⟩]))))))) (.seq (.region [⟨(some 2), (.mov (.c (.bool true))), none, []⟩]) .ret)))))⟩
theorem irOk29 : compFun Tryd.prog.underlying Tryd.prog.info? sq Tryd.f29 = some ir29 := by kernel_rfl
def ir30 : BFun := ⟨[(.tmp 2)], (.seq (.region [⟨(some 1), (.box 29 (.t 0)), none, []⟩, ⟨(some 2), (.mov (.c (.bool false))), none, []⟩]) (.seq (.seq (.region [⟨(some 5), (.lea 0 (.t 1)), none, []⟩, ⟨(some 6), (.load none none (.t 5)), none,
  []⟩, ⟨(some 7), (.bin .neq (.t 6) (.c (.int .i64 1))), none, []⟩]) (.cond (.t 7) (.seq (.region [⟨(some 2), (.mov (.c (.bool false))), none, []⟩]) .ret) .skip)) (.seq (.region [⟨(some 9), (.load (some 29) (some 4) (.t 1)), none, []⟩,
  ⟨(some 10), (.call (.c (.fn 62 [])) []), none, [29]⟩, ⟨(some 11), (.call (.c (.fn 61 [])) [(.t 9), (.t 10)]), none, []⟩, ⟨(some 8), (.mov (.t 11)), none, []⟩, ⟨(some 12), (.ext 0 (.t 8)), none, []⟩, ⟨(some 13), (.ext 1 (.t 8)), none, []⟩,
  ⟨(some 3), (.mov (.t 12)), none, []⟩, ⟨(some 4), (.mov (.t 13)), none, []⟩]) (.seq (.region [⟨(some 14), (.mov (.t 3)), none, []⟩, ⟨(some 2), (.mov (.t 14)), none, []⟩]) .ret))))⟩
theorem irOk30 : compFun Tryd.prog.underlying Tryd.prog.info? sq Tryd.f30 = some ir30 := by kernel_rfl
def ir31 : BFun := ⟨[(.tmp 4)], (.seq (.region [⟨(some 4), (.mov (.c (.bool false))), none, []⟩]) (.seq (.seq (.region [⟨(some 6), (.mov (.t 0)), none, []⟩, ⟨(some 7), (.len 1 (.t 6)), none, []⟩, ⟨(some 8), (.mov (.t 1)), none, []⟩, ⟨(some
  9), (.len 1 (.t 8)), none, []⟩, ⟨(some 10), (.bin .neq (.t 7) (.t 9)), none, []⟩]) (.cond (.t 10) (.seq (.region [⟨(some 4), (.mov (.c (.bool false))), none, []⟩]) .ret) .skip)) (.seq (.seq (.region [⟨(some 5), (.mov (.c (.int .i64 0))),
  none, []⟩]) (.block 0 (.loop (.seq (.seq (.region [⟨(some 11), (.mov (.t 5)), none, []⟩, ⟨(some 12), (.mov (.t 0)), none, []⟩, ⟨(some 13), (.len 1 (.t 12)), none, []⟩, ⟨(some 14), (.bin .lss (.t 11) (.t 13)), none, []⟩]) (.cond (.t 14)
  .skip (.exit 0))) (.seq (.block 1 (.seq (.region [⟨(some 17), (.mov (.t 0)), none, []⟩, ⟨(some 18), (.mov (.t 5)), none, []⟩, ⟨(some 19), (.idx 1 (.t 17) (.t 18)), none, []⟩, ⟨(some 20), (.load none none (.t 19)), none, []⟩, ⟨(some 21),
  (.mov (.t 1)), none, []⟩, ⟨(some 22), (.mov (.t 5)), none, []⟩, ⟨(some 23), (.idx 1 (.t 21) (.t 22)), none, []⟩, ⟨(some 24), (.load none none (.t 23)), none, []⟩, ⟨(some 25), (.beq true (.t 20) (.t 24)), none, []⟩]) (.cond (.t 25) (.seq
  (.region [⟨(some 4), (.mov (.c (.bool false))), none, []⟩]) .ret) .skip))) (.region [⟨(some 15), (.mov (.t 5)), none, []⟩, ⟨(some 16), (.bin .add (.t 15) (.c (.int .i64 1))), none, []⟩, ⟨(some 5), (.mov (.t 16)), none, []⟩])))))) (.seq
  (.region [⟨(some 4), (.mov (.c (.bool true))), none, []⟩]) .ret))))⟩
theorem irOk31 : compFun Tryd.prog.underlying Tryd.prog.info? sq Tryd.f31 = some ir31 := by kernel_rfl
def ir32 : BFun := ⟨[(.tmp 4)], (.seq (.region [⟨(some 4), (.mov (.c (.bool false))), none, []⟩]) (.seq (.seq (.region [⟨(some 6), (.mov (.t 0)), none, []⟩, ⟨(some 7), (.len 1 (.t 6)), none, []⟩, ⟨(some 8), (.mov (.t 1)), none, []⟩, ⟨(some
  9), (.len 1 (.t 8)), none, []⟩, ⟨(some 10), (.bin .neq (.t 7) (.t 9)), none, []⟩]) (.cond (.t 10) (.seq (.region [⟨(some 4), (.mov (.c (.bool false))), none, []⟩]) .ret) .skip)) (.seq (.seq (.region [⟨(some 5), (.mov (.c (.int .i64 0))),
  none, []⟩]) (.block 0 (.loop (.seq (.seq (.region [⟨(some 11), (.mov (.t 5)), none, []⟩, ⟨(some 12), (.mov (.t 0)), none, []⟩, ⟨(some 13), (.len 1 (.t 12)), none, []⟩, ⟨(some 14), (.bin .lss (.t 11) (.t 13)), none, []⟩]) (.cond (.t 14)
  .skip (.exit 0))) (.seq (.block 1 (.seq (.region [⟨(some 17), (.mov (.t 0)), none, []⟩, ⟨(some 18), (.mov (.t 5)), none, []⟩, ⟨(some 19), (.idx 1 (.t 17) (.t 18)), none, []⟩, ⟨(some 20), (.load none none (.t 19)), none, []⟩, ⟨(some 21),
  (.mov (.t 1)), none, []⟩, ⟨(some 22), (.mov (.t 5)), none, []⟩, ⟨(some 23), (.idx 1 (.t 21) (.t 22)), none, []⟩, ⟨(some 24), (.load none none (.t 23)), none, []⟩, ⟨(some 25), (.call (.c (.fn 19 [])) [(.t 20), (.t 24)]), none, []⟩, ⟨(some
  26), (.not (.t 25)), none, []⟩]) (.cond (.t 26) (.seq (.region [⟨(some 4), (.mov (.c (.bool false))), none, []⟩]) .ret) .skip))) (.region [⟨(some 15), (.mov (.t 5)), none, []⟩, ⟨(some 16), (.bin .add (.t 15) (.c (.int .i64 1))), none, []⟩,
  ⟨(some 5), (.mov (.t 16)), none, []⟩])))))) (.seq (.region [⟨(some 4), (.mov (.c (.bool true))), none, []⟩]) .ret))))⟩
theorem irOk32 : compFun Tryd.prog.underlying Tryd.prog.info? sq Tryd.f32 = some ir32 := by kernel_rfl
def ir33 : BFun := ⟨[(.tmp 2)], (.seq (.region [⟨(some 2), (.mov (.c (.int .i64 0))), none, []⟩]) (.seq (.seq (.region [⟨(some 3), (.mov (.t 0)), none, []⟩, ⟨(some 4), (.call (.c (.fn 25 [])) [(.t 3)]), none, []⟩, ⟨(some 5), (.not (.t 4)),
  none, []⟩]) (.cond (.t 5) (.seq (.region [⟨(some 2), (.mov (.c (.int .i64 1))), none, []⟩]) .ret) .skip)) (.seq (.seq (.region [⟨(some 6), (.mov (.t 0)), none, []⟩, ⟨(some 7), (.call (.c (.fn 26 [])) [(.t 6)]), none, []⟩, ⟨(some 8), (.not
  (.t 7)), none, []⟩]) (.cond (.t 8) (.seq (.region [⟨(some 2), (.mov (.c (.int .i64 4))), none, []⟩]) .ret) .skip)) (.seq (.region [⟨(some 2), (.mov (.c (.int .i64 0))), none, []⟩]) .ret))))⟩
theorem irOk33 : compFun Tryd.prog.underlying Tryd.prog.info? sq Tryd.f33 = some ir33 := by kernel_rfl
def ir34 : BFun := ⟨[(.tmp 6)], (.seq (.region [⟨(some 6), (.mov (.c (.bool false))), none, []⟩]) (.seq (.region [⟨(some 7), (.mov (.t 0)), none, []⟩, ⟨(some 8), (.mov (.t 1)), none, []⟩, ⟨(some 9), (.bin .geq (.t 7) (.t 8)), none, []⟩,
  ⟨(some 10), (.mov (.t 9)), none, []⟩, ⟨(some 11), (.mov (.t 0)), (some (10, true)), []⟩, ⟨(some 12), (.mov (.t 2)), (some (10, true)), []⟩, ⟨(some 13), (.bin .leq (.t 11) (.t 12)), (some (10, true)), []⟩, ⟨(some 14), (.pick (.t 10) (.t 13)
  (.c (.bool false))), none, []⟩, ⟨(some 6), (.mov (.t 14)), none, []⟩]) .ret))⟩
theorem irOk34 : compFun Tryd.prog.underlying Tryd.prog.info? sq Tryd.f34 = some ir34 := by kernel_rfl
def ir35 : BFun := ⟨[(.tmp 4)], (.seq (.region [⟨(some 4), (.mov (.c (.bool false))), none, []⟩]) (.seq (.region [⟨(some 8), (.mov (.t 1)), none, []⟩, ⟨(some 9), (.call (.c (.fn 63 [])) [(.t 8)]), none, []⟩, ⟨(some 5), (.mov (.t 9)), none,
  []⟩]) (.seq (.region [⟨(some 10), (.mov (.t 0)), none, []⟩, ⟨(some 11), (.nilck (.t 10)), none, []⟩, ⟨(some 12), (.lea 1 (.t 11)), none, []⟩, ⟨(some 13), (.load none none (.t 12)), none, []⟩, ⟨(some 6), (.mov (.t 13)), none, []⟩]) (.seq
  (.seq (.region [⟨(some 7), (.mov (.c (.int .i64 0))), none, []⟩]) (.block 0 (.loop (.seq (.seq (.region [⟨(some 14), (.mov (.t 7)), none, []⟩, ⟨(some 15), (.mov (.t 5)), none, []⟩, ⟨(some 16), (.len 1 (.t 15)), none, []⟩, ⟨(some 17), (.bin
  .lss (.t 14) (.t 16)), none, []⟩]) (.cond (.t 17) .skip (.exit 0))) (.seq (.block 1 (.region [⟨(some 20), (.mov (.t 0)), none, []⟩, ⟨(some 21), (.nilck (.t 20)), none, []⟩, ⟨(some 22), (.lea 3 (.t 21)), none, []⟩, ⟨(some 23), (.load none
  none (.t 22)), none, []⟩, ⟨(some 24), (.mov (.t 6)), none, []⟩, ⟨(some 25), (.idx 1 (.t 23) (.t 24)), none, []⟩, ⟨(some 26), (.load none none (.t 25)), none, []⟩, ⟨(some 27), (.mov (.t 5)), none, []⟩, ⟨(some 28), (.mov (.t 7)), none, []⟩,
  ⟨(some 29), (.idx 1 (.t 27) (.t 28)), none, []⟩, ⟨(some 30), (.load none none (.t 29)), none, []⟩, ⟨(some 31), (.idx 1 (.t 26) (.t 30)), none, []⟩, ⟨(some 32), (.load none none (.t 31)), none, []⟩, ⟨(some 6), (.mov (.t 32)), none, []⟩]))
  (.region [⟨(some 18), (.mov (.t 7)), none, []⟩, ⟨(some 19), (.bin .add (.t 18) (.c (.int .i64 1))), none, []⟩, ⟨(some 7), (.mov (.t 19)), none, []⟩])))))) (.seq (.region [⟨(some 33), (.mov (.t 0)), none, []⟩, ⟨(some 34), (.nilck (.t 33)),
  none, []⟩, ⟨(some 35), (.lea 2 (.t 34)), none, []⟩, ⟨(some 36), (.load none none (.t 35)), none, []⟩, ⟨(some 37), (.mov (.t 6)), none, []⟩, ⟨(some 38), (.idx 1 (.t 36) (.t 37)), none, []⟩, ⟨(some 39), (.load none none (.t 38)), none, []⟩,
  ⟨(some 4), (.mov (.t 39)), none, []⟩]) .ret)))))⟩
theorem irOk35 : compFun Tryd.prog.underlying Tryd.prog.info? sq Tryd.f35 = some ir35 := by kernel_rfl
def ir36 : BFun := ⟨[(.tmp 2)], (.seq (.region [⟨(some 2), (.mov (.c (.str ⟨#[]⟩))), none, []⟩]) (.seq (.region [⟨(some 4), (.mk 5 0 [] []), none, []⟩, ⟨(some 3), (.mov (.t 4)), none, []⟩]) (.seq (.block 0 (.loop (.seq (.seq (.region [⟨(some
  5), (.mov (.t 0)), none, []⟩, ⟨(some 6), (.bin .gtr (.t 5) (.c (.int .i64 0))), none, []⟩]) (.cond (.t 6) .skip (.exit 0))) (.seq (.block 1 (.region [⟨(some 9), (.mov (.t 3)), none, []⟩, ⟨(some 10), (.mov (.t 0)), none, []⟩, ⟨(some 11),
  (.bin .rem (.t 10) (.c (.int .i64 2))), none, []⟩, ⟨(some 12), (.bin .add (.c (.int .i64 97)) (.t 11)), none, []⟩, ⟨(some 13), (.conv .u8 (.t 12)), none, []⟩, ⟨(some 14), (.mk 5 1 [(.int .u8 0)] [(0, (1, (.t 13)))]), none, []⟩, ⟨(some 15),
  (.app 5 1 1 (.t 9) (.t 14)), none, []⟩, ⟨(some 3), (.mov (.t 15)), none, []⟩])) (.region [⟨(some 7), (.mov (.t 0)), none, []⟩, ⟨(some 8), (.bin .quo (.t 7) (.c (.int .i64 2))), none, []⟩, ⟨(some 0), (.mov (.t 8)), none, []⟩]))))) (.seq
  (.region [⟨(some 16), (.mov (.t 3)), none, []⟩, ⟨(some 17), (.b2s 5 (.t 16)), none, []⟩, ⟨(some 2), (.mov (.t 17)), none, []⟩]) .ret))))⟩
theorem irOk36 : compFun Tryd.prog.underlying Tryd.prog.info? sq Tryd.f36 = some ir36 := by kernel_rfl
def ir37 : BFun := ⟨[(.tmp 2)], (.seq (.region [⟨(some 2), (.mov (.c (.int .i64 0))), none, []⟩]) (.seq (.seq (.region [⟨(some 7), (.mov (.t 0)), none, []⟩, ⟨(some 8), (.len 1 (.t 7)), none, []⟩, ⟨(some 9), (.mov (.c (.int .i64 0))), none,
  []⟩]) (.block 0 (.loop (.seq (.region [⟨(some 10), (.bin .lss (.t 9) (.t 8)), none, []⟩]) (.seq (.cond (.t 10) .skip (.exit 0)) (.seq (.block 1 (.seq (.region [⟨(some 11), (.idx 4 (.t 7) (.t 9)), none, []⟩, ⟨(some 12), (.load none (some 4)
  (.t 11)), none, []⟩, ⟨(some 4), (.new 29 [(.int .i64 0), (.int .i64 0), .nils, .nils]), none, []⟩, ⟨none, (.store none 4 (.t 4) (.t 12)), none, []⟩]) (.seq (.region [⟨(some 13), (.load none (some 4) (.t 4)), none, []⟩, ⟨(some 14), (.call
  (.c (.fn 29 [])) [(.t 13)]), none, []⟩, ⟨(some 15), (.not (.t 14)), none, []⟩]) (.cond (.t 15) (.seq (.region [⟨(some 2), (.mov (.c (.int .i64 1))), none, []⟩]) .ret) .skip)))) (.region [⟨(some 16), (.bin .add (.t 9) (.c (.int .i64 1))),
  none, []⟩, ⟨(some 9), (.mov (.t 16)), none, []⟩]))))))) (.seq (.seq (.region [⟨(some 17), (.mov (.t 0)), none, []⟩, ⟨(some 18), (.len 1 (.t 17)), none, []⟩, ⟨(some 19), (.mov (.c (.int .i64 0))), none, []⟩]) (.block 2 (.loop (.seq (.region
  [⟨(some 20), (.bin .lss (.t 19) (.t 18)), none, []⟩]) (.seq (.cond (.t 20) .skip (.exit 2)) (.seq (.block 3 (.seq (.region [⟨(some 21), (.idx 4 (.t 17) (.t 19)), none, []⟩, ⟨(some 22), (.load none (some 4) (.t 21)), none, []⟩, ⟨(some 6),
  (.new 29 [(.int .i64 0), (.int .i64 0), .nils, .nils]), none, []⟩, ⟨none, (.store none 4 (.t 6) (.t 22)), none, []⟩]) (.seq (.region [⟨(some 23), (.load none (some 4) (.t 6)), none, []⟩, ⟨(some 24), (.call (.c (.fn 30 [])) [(.t 23)]),
  none, []⟩, ⟨(some 25), (.not (.t 24)), none, []⟩]) (.cond (.t 25) (.seq (.region [⟨(some 2), (.mov (.c (.int .i64 4))), none, []⟩]) .ret) .skip)))) (.region [⟨(some 26), (.bin .add (.t 19) (.c (.int .i64 1))), none, []⟩, ⟨(some 19), (.mov
  (.t 26)), none, []⟩]))))))) (.seq (.region [⟨(some 2), (.mov (.c (.int .i64 0))), none, []⟩]) .ret))))⟩
theorem irOk37 : compFun Tryd.prog.underlying Tryd.prog.info? sq Tryd.f37 = some ir37 := by kernel_rfl
def ir38 : BFun := ⟨[(.tmp 6)], (.seq (.region [⟨(some 6), (.mov (.c (.bool false))), none, []⟩]) (.seq (.region [⟨(some 7), (.mov (.t 1)), none, []⟩, ⟨(some 8), (.mov (.t 0)), none, []⟩, ⟨(some 9), (.bin .leq (.t 7) (.t 8)), none, []⟩,
  ⟨(some 10), (.mov (.t 9)), none, []⟩, ⟨(some 11), (.mov (.t 0)), (some (10, true)), []⟩, ⟨(some 12), (.mov (.t 2)), (some (10, true)), []⟩, ⟨(some 13), (.bin .leq (.t 11) (.t 12)), (some (10, true)), []⟩, ⟨(some 14), (.pick (.t 10) (.t 13)
  (.c (.bool false))), none, []⟩, ⟨(some 6), (.mov (.t 14)), none, []⟩]) .ret))⟩
theorem irOk38 : compFun Tryd.prog.underlying Tryd.prog.info? sq Tryd.f38 = some ir38 := by kernel_rfl
def ir39 : BFun := ⟨[(.cell 2 (some 4))], (.seq (.region [⟨(some 1), (.box 29 (.t 0)), none, []⟩, ⟨(some 2), (.new 62 [(.int .i64 0), (.int .i64 0), .nils, .nils]), none, []⟩]) (.seq (.region [⟨(some 9), (.lea 0 (.t 1)), none, []⟩, ⟨(some
  10), (.load (some 29) none (.t 9)), none, []⟩, ⟨(some 11), (.lea 1 (.t 1)), none, []⟩, ⟨(some 12), (.load (some 29) none (.t 11)), none, []⟩, ⟨(some 13), (.lea 2 (.t 1)), none, []⟩, ⟨(some 14), (.load none none (.t 13)), none, []⟩, ⟨(some
  15), (.call (.c (.fn 64 [])) [(.t 14)]), none, [29]⟩, ⟨(some 16), (.build [(.int .i64 0), (.int .i64 0), .nils, .nils] [(0, (1, (.t 10))), (1, (1, (.t 12))), (2, (1, (.t 15)))]), none, []⟩, ⟨(some 3), (.new 62 [(.int .i64 0), (.int .i64
  0), .nils, .nils]), none, []⟩, ⟨none, (.store none 4 (.t 3) (.t 16)), none, []⟩]) (.seq (.seq (.region [⟨(some 17), (.lea 3 (.t 1)), none, []⟩, ⟨(some 18), (.load none none (.t 17)), none, []⟩, ⟨(some 19), (.len 1 (.t 18)), none, []⟩,
  ⟨(some 20), (.mov (.c (.int .i64 0))), none, []⟩]) (.block 0 (.loop (.seq (.region [⟨(some 21), (.bin .lss (.t 20) (.t 19)), none, []⟩]) (.seq (.cond (.t 21) .skip (.exit 0)) (.seq (.block 1 (.seq (.region [⟨(some 22), (.idx 1 (.t 18) (.t
  20)), none, []⟩, ⟨(some 23), (.load none none (.t 22)), none, []⟩, ⟨(some 5), (.mov (.t 23)), none, []⟩]) (.seq (.region [⟨(some 6), (.mov (.c .nils)), none, []⟩]) (.seq (.seq (.region [⟨(some 24), (.mov (.t 5)), none, []⟩, ⟨(some 25),
  (.len 1 (.t 24)), none, []⟩, ⟨(some 26), (.mov (.c (.int .i64 0))), none, []⟩]) (.block 2 (.loop (.seq (.region [⟨(some 27), (.bin .lss (.t 26) (.t 25)), none, []⟩]) (.seq (.cond (.t 27) .skip (.exit 2)) (.seq (.block 3 (.seq (.region
  [⟨(some 28), (.idx 1 (.t 24) (.t 26)), none, []⟩, ⟨(some 29), (.load none none (.t 28)), none, []⟩, ⟨(some 8), (.mov (.t 29)), none, []⟩]) (.region [⟨(some 30), (.mov (.t 6)), none, []⟩, ⟨(some 31), (.mov (.t 8)), none, []⟩, ⟨(some 32),
  (.mk 3 1 [(.int .i64 0)] [(0, (1, (.t 31)))]), none, []⟩, ⟨(some 33), (.app 3 1 8 (.t 30) (.t 32)), none, []⟩, ⟨(some 6), (.mov (.t 33)), none, []⟩]))) (.region [⟨(some 34), (.bin .add (.t 26) (.c (.int .i64 1))), none, []⟩, ⟨(some 26),
  (.mov (.t 34)), none, []⟩]))))))) (.region [⟨(some 35), (.lea 3 (.t 3)), none, []⟩, ⟨(some 36), (.load none none (.t 35)), none, []⟩, ⟨(some 37), (.mov (.t 6)), none, []⟩, ⟨(some 38), (.mk 65 1 [.nils] [(0, (1, (.t 37)))]), none, []⟩,
  ⟨(some 39), (.app 65 1 24 (.t 36) (.t 38)), none, []⟩, ⟨(some 40), (.lea 3 (.t 3)), none, []⟩, ⟨none, (.store none 1 (.t 40) (.t 39)), none, []⟩]))))) (.region [⟨(some 41), (.bin .add (.t 20) (.c (.int .i64 1))), none, []⟩, ⟨(some 20),
  (.mov (.t 41)), none, []⟩]))))))) (.seq (.region [⟨(some 42), (.load none (some 4) (.t 3)), none, []⟩, ⟨none, (.store none 4 (.t 2) (.t 42)), none, []⟩]) .ret))))⟩
theorem irOk39 : compFun Tryd.prog.underlying Tryd.prog.info? sq Tryd.f39 = some ir39 := by kernel_rfl
def ir40 : BFun := ⟨[(.tmp 4)], (.seq (.region [⟨(some 2), (.box 62 (.t 0)), none, []⟩, ⟨(some 4), (.mov (.c (.bool false))), none, []⟩]) (.seq (.region [⟨(some 8), (.lea 1 (.t 2)), none, []⟩, ⟨(some 9), (.load none none (.t 8)), none, []⟩,
  ⟨(some 5), (.mov (.t 9)), none, []⟩]) (.seq (.seq (.region [⟨(some 10), (.mov (.t 1)), none, []⟩, ⟨(some 11), (.len 1 (.t 10)), none, []⟩, ⟨(some 12), (.mov (.c (.int .i64 0))), none, []⟩]) (.block 0 (.loop (.seq (.region [⟨(some 13),
  (.bin .lss (.t 12) (.t 11)), none, []⟩]) (.seq (.cond (.t 13) .skip (.exit 0)) (.seq (.block 1 (.seq (.region [⟨(some 14), (.idx 1 (.t 10) (.t 12)), none, []⟩, ⟨(some 15), (.load none none (.t 14)), none, []⟩, ⟨(some 7), (.mov (.t 15)),
  none, []⟩]) (.region [⟨(some 16), (.lea 3 (.t 2)), none, []⟩, ⟨(some 17), (.load none none (.t 16)), none, []⟩, ⟨(some 18), (.mov (.t 5)), none, []⟩, ⟨(some 19), (.idx 1 (.t 17) (.t 18)), none, []⟩, ⟨(some 20), (.load none none (.t 19)),
  none, []⟩, ⟨(some 21), (.mov (.t 7)), none, []⟩, ⟨(some 22), (.idx 1 (.t 20) (.t 21)), none, []⟩, ⟨(some 23), (.load none none (.t 22)), none, []⟩, ⟨(some 5), (.mov (.t 23)), none, []⟩]))) (.region [⟨(some 24), (.bin .add (.t 12) (.c (.int
  .i64 1))), none, []⟩, ⟨(some 12), (.mov (.t 24)), none, []⟩]))))))) (.seq (.region [⟨(some 25), (.lea 2 (.t 2)), none, []⟩, ⟨(some 26), (.load none none (.t 25)), none, []⟩, ⟨(some 27), (.mov (.t 5)), none, []⟩, ⟨(some 28), (.idx 1 (.t 26)
  (.t 27)), none, []⟩, ⟨(some 29), (.load none none (.t 28)), none, []⟩, ⟨(some 4), (.mov (.t 29)), none, []⟩]) .ret))))⟩
theorem irOk40 : compFun Tryd.prog.underlying Tryd.prog.info? sq Tryd.f40 = some ir40 := by kernel_rfl
def ir41 : BFun := ⟨[(.tmp 2)], (.seq (.region [⟨(some 2), (.mov (.c .nils)), none, []⟩]) (.seq (.region [⟨(some 3), (.mov (.c (.int .i64 0))), none, []⟩]) (.seq (.seq (.region [⟨(some 12), (.mov (.t 0)), none, []⟩, ⟨(some 13), (.len 1 (.t
  12)), none, []⟩, ⟨(some 14), (.mov (.c (.int .i64 0))), none, []⟩]) (.block 0 (.loop (.seq (.region [⟨(some 15), (.bin .lss (.t 14) (.t 13)), none, []⟩]) (.seq (.cond (.t 15) .skip (.exit 0)) (.seq (.block 1 (.seq (.region [⟨(some 16),
  (.idx 1 (.t 12) (.t 14)), none, []⟩, ⟨(some 17), (.load none none (.t 16)), none, []⟩, ⟨(some 5), (.mov (.t 17)), none, []⟩]) (.region [⟨(some 18), (.mov (.t 3)), none, []⟩, ⟨(some 19), (.mov (.t 5)), none, []⟩, ⟨(some 20), (.len 0 (.t
  19)), none, []⟩, ⟨(some 21), (.imax (.t 18) (.t 20)), none, []⟩, ⟨(some 3), (.mov (.t 21)), none, []⟩]))) (.region [⟨(some 22), (.bin .add (.t 14) (.c (.int .i64 1))), none, []⟩, ⟨(some 14), (.mov (.t 22)), none, []⟩]))))))) (.seq (.region
  [⟨(some 6), (.mov (.c .nils)), none, []⟩]) (.seq (.seq (.region [⟨(some 7), (.mov (.c (.int .i64 0))), none, []⟩]) (.block 2 (.loop (.seq (.seq (.region [⟨(some 23), (.mov (.t 7)), none, []⟩, ⟨(some 24), (.mov (.t 3)), none, []⟩, ⟨(some
  25), (.bin .lss (.t 23) (.t 24)), none, []⟩]) (.cond (.t 25) .skip (.exit 2))) (.seq (.block 3 (.seq (.region [⟨(some 8), (.mov (.c .nils)), none, []⟩]) (.seq (.seq (.region [⟨(some 28), (.mov (.t 0)), none, []⟩, ⟨(some 29), (.len 1 (.t
  28)), none, []⟩, ⟨(some 30), (.mov (.c (.int .i64 0))), none, []⟩]) (.block 4 (.loop (.seq (.region [⟨(some 31), (.bin .lss (.t 30) (.t 29)), none, []⟩]) (.seq (.cond (.t 31) .skip (.exit 4)) (.seq (.block 5 (.seq (.region [⟨(some 32),
  (.idx 1 (.t 28) (.t 30)), none, []⟩, ⟨(some 33), (.load none none (.t 32)), none, []⟩, ⟨(some 10), (.mov (.t 33)), none, []⟩]) (.seq (.region [⟨(some 11), (.mov (.c (.int .i64 2))), none, []⟩]) (.seq (.seq (.region [⟨(some 34), (.mov (.t
  7)), none, []⟩, ⟨(some 35), (.mov (.t 10)), none, []⟩, ⟨(some 36), (.len 0 (.t 35)), none, []⟩, ⟨(some 37), (.bin .lss (.t 34) (.t 36)), none, []⟩]) (.cond (.t 37) (.region [⟨(some 38), (.mov (.t 10)), none, []⟩, ⟨(some 39), (.mov (.t 7)),
  none, []⟩, ⟨(some 40), (.idxs (.t 38) (.t 39)), none, []⟩, ⟨(some 41), (.bin .sub (.t 40) (.c (.int .u8 97))), none, []⟩, ⟨(some 42), (.conv .i64 (.t 41)), none, []⟩, ⟨(some 11), (.mov (.t 42)), none, []⟩]) .skip)) (.region [⟨(some 43),
  (.mov (.t 8)), none, []⟩, ⟨(some 44), (.mov (.t 11)), none, []⟩, ⟨(some 45), (.mk 3 1 [(.int .i64 0)] [(0, (1, (.t 44)))]), none, []⟩, ⟨(some 46), (.app 3 1 8 (.t 43) (.t 45)), none, []⟩, ⟨(some 8), (.mov (.t 46)), none, []⟩]))))) (.region
  [⟨(some 47), (.bin .add (.t 30) (.c (.int .i64 1))), none, []⟩, ⟨(some 30), (.mov (.t 47)), none, []⟩]))))))) (.region [⟨(some 48), (.mov (.t 6)), none, []⟩, ⟨(some 49), (.mov (.t 8)), none, []⟩, ⟨(some 50), (.call (.c (.fn 65 [])) [(.t
  49)]), none, []⟩, ⟨(some 51), (.mk 3 1 [(.int .i64 0)] [(0, (1, (.t 50)))]), none, []⟩, ⟨(some 52), (.app 3 1 8 (.t 48) (.t 51)), none, []⟩, ⟨(some 6), (.mov (.t 52)), none, []⟩])))) (.region [⟨(some 26), (.mov (.t 7)), none, []⟩, ⟨(some
  27), (.bin .add (.t 26) (.c (.int .i64 1))), none, []⟩, ⟨(some 7), (.mov (.t 27)), none, []⟩])))))) (.seq (.region [⟨(some 53), (.mov (.t 6)), none, []⟩, ⟨(some 2), (.mov (.t 53)), none, []⟩]) .ret))))))⟩
theorem irOk41 : compFun Tryd.prog.underlying Tryd.prog.info? sq Tryd.f41 = some ir41 := by kernel_rfl
def ir42 : BFun := ⟨[(.tmp 2)], (.seq (.region [⟨(some 2), (.mov (.c (.str ⟨#[]⟩))), none, []⟩]) (.seq (.region [⟨(some 3), (.mov (.c (.str ⟨#[]⟩))), none, []⟩]) (.seq (.block 0 (.loop (.seq (.seq (.region [⟨(some 4), (.mov (.t 0)), none,
  []⟩, ⟨(some 5), (.bin .gtr (.t 4) (.c (.int .i64 0))), none, []⟩]) (.cond (.t 5) .skip (.exit 0))) (.seq (.block 1 (.region [⟨(some 8), (.mov (.t 3)), none, []⟩, ⟨(some 9), (.mov (.t 0)), none, []⟩, ⟨(some 10), (.bin .rem (.t 9) (.c (.int
  .i64 2))), none, []⟩, ⟨(some 11), (.mov (.t 0)), none, []⟩, ⟨(some 12), (.bin .rem (.t 11) (.c (.int .i64 2))), none, []⟩, ⟨(some 13), (.bin .add (.t 12) (.c (.int .i64 1))), none, []⟩, ⟨(some 14), (.sslice (.c (.str ⟨#[97, 98]⟩)) (some
  (.t 10)) (some (.t 13))), none, []⟩, ⟨(some 15), (.bin .add (.t 8) (.t 14)), none, []⟩, ⟨(some 3), (.mov (.t 15)), none, []⟩])) (.region [⟨(some 6), (.mov (.t 0)), none, []⟩, ⟨(some 7), (.bin .quo (.t 6) (.c (.int .i64 2))), none, []⟩,
  ⟨(some 0), (.mov (.t 7)), none, []⟩]))))) (.seq (.region [⟨(some 16), (.mov (.t 3)), none, []⟩, ⟨(some 2), (.mov (.t 16)), none, []⟩]) .ret))))⟩
theorem irOk42 : compFun Tryd.prog.underlying Tryd.prog.info? sq Tryd.f42 = some ir42 := by kernel_rfl
def ir43 : BFun := ⟨[(.tmp 4), (.tmp 5)], (.seq (.region [⟨(some 4), (.mov (.c (.int .i64 0))), none, []⟩, ⟨(some 5), (.mov (.c (.int .i64 0))), none, []⟩]) (.seq (.region [⟨(some 12), (.mov (.t 0)), none, []⟩, ⟨(some 13), (.call (.c (.fn 66
  [])) [(.t 12)]), none, []⟩, ⟨(some 6), (.new 29 [(.int .i64 0), (.int .i64 0), .nils, .nils]), none, []⟩, ⟨none, (.store none 4 (.t 6) (.t 13)), none, []⟩]) (.seq (.seq (.region [⟨(some 15), (.call (.c (.fn 67 [])) [(.t 6)]), none, []⟩,
  ⟨(some 14), (.mov (.t 15)), none, []⟩, ⟨(some 16), (.ext 0 (.t 14)), none, []⟩, ⟨(some 17), (.ext 1 (.t 14)), none, []⟩, ⟨(some 7), (.mov (.t 16)), none, []⟩, ⟨(some 8), (.mov (.t 17)), none, []⟩]) (.seq (.region [⟨(some 18), (.mov (.t
  8)), none, []⟩, ⟨(some 19), (.not (.t 18)), none, []⟩]) (.cond (.t 19) (.seq (.region [⟨(some 4), (.mov (.c (.int .i64 0))), none, []⟩, ⟨(some 5), (.mov (.c (.int .i64 6))), none, []⟩]) .ret) .skip))) (.seq (.seq (.region [⟨(some 20),
  (.mov (.t 1)), none, []⟩, ⟨(some 21), (.mov (.t 20)), none, []⟩, ⟨(some 22), (.call (.c (.fn 68 [])) [(.t 6)]), (some (21, true)), []⟩, ⟨(some 23), (.not (.t 22)), (some (21, true)), []⟩, ⟨(some 24), (.pick (.t 21) (.t 23) (.c (.bool
  false))), none, []⟩]) (.cond (.t 24) (.seq (.region [⟨(some 4), (.mov (.c (.int .i64 0))), none, []⟩, ⟨(some 5), (.mov (.c (.int .i64 4))), none, []⟩]) .ret) .skip)) (.seq (.region [⟨(some 26), (.mov (.t 1)), none, []⟩, ⟨(some 27), (.call
  (.c (.fn 69 [])) [(.t 6), (.t 26)]), none, []⟩, ⟨(some 25), (.mov (.t 27)), none, []⟩, ⟨(some 28), (.ext 0 (.t 25)), none, []⟩, ⟨(some 29), (.ext 1 (.t 25)), none, []⟩, ⟨(some 9), (.mov (.t 28)), none, []⟩, ⟨(some 10), (.mov (.t 29)),
  none, []⟩]) (.seq (.seq (.region [⟨(some 30), (.mov (.t 10)), none, []⟩, ⟨(some 31), (.bin .neq (.t 30) (.c (.int .i64 0))), none, []⟩]) (.cond (.t 31) (.seq (.region [⟨(some 32), (.mov (.t 10)), none, []⟩, ⟨(some 4), (.mov (.c (.int .i64
  0))), none, []⟩, ⟨(some 5), (.mov (.t 32)), none, []⟩]) .ret) .skip)) (.seq (.region [⟨(some 33), (.mov (.t 9)), none, []⟩, ⟨(some 34), (.call (.c (.fn 70 [])) [(.t 33)]), none, []⟩, ⟨(some 11), (.mov (.t 34)), none, []⟩]) (.seq (.seq
  (.region [⟨(some 35), (.mov (.t 11)), none, []⟩, ⟨(some 36), (.bin .gtr (.t 35) (.c (.int .i64 1000000000))), none, []⟩]) (.cond (.t 36) (.seq (.region [⟨(some 4), (.mov (.c (.int .i64 0))), none, []⟩, ⟨(some 5), (.mov (.c (.int .i64 2))),
  none, []⟩]) .ret) .skip)) (.seq (.region [⟨(some 37), (.mov (.t 11)), none, []⟩, ⟨(some 4), (.mov (.t 37)), none, []⟩, ⟨(some 5), (.mov (.c (.int .i64 0))), none, []⟩]) .ret)))))))))⟩
theorem irOk43 : compFun Tryd.prog.underlying Tryd.prog.info? sq Tryd.f43 = some ir43 := by kernel_rfl
def ir44 : BFun := ⟨[(.cell 2 (some 4))], (.seq (.region [⟨(some 1), (.box 29 (.t 0)), none, []⟩, ⟨(some 2), (.new 62 [(.int .i64 0), (.int .i64 0), .nils, .nils]), none, []⟩]) (.seq (.region [⟨(some 3), (.load none (some 4) (.t 1)), none,
  []⟩, ⟨(some 4), (.call (.c (.fn 39 [])) [(.t 3)]), none, []⟩, ⟨(some 5), (.call (.c (.fn 71 [])) [(.t 4)]), none, []⟩, ⟨none, (.store none 4 (.t 2) (.t 5)), none, []⟩]) .ret))⟩
theorem irOk44 : compFun Tryd.prog.underlying Tryd.prog.info? sq Tryd.f44 = some ir44 := by kernel_rfl
def ir45 : BFun := ⟨[(.tmp 2)], (.seq (.region [⟨(some 1), (.box 62 (.t 0)), none, []⟩, ⟨(some 2), (.mov (.c .nils)), none, []⟩]) (.seq (.region [⟨(some 11), (.lea 2 (.t 1)), none, []⟩, ⟨(some 12), (.load none none (.t 11)), none, []⟩,
  ⟨(some 13), (.len 1 (.t 12)), none, []⟩, ⟨(some 14), (.mksl 3 8 [(.int .i64 0)] (.t 13) (.t 13)), none, []⟩, ⟨(some 3), (.mov (.t 14)), none, []⟩]) (.seq (.seq (.region [⟨(some 15), (.lea 2 (.t 1)), none, []⟩, ⟨(some 16), (.load none none
  (.t 15)), none, []⟩, ⟨(some 17), (.len 1 (.t 16)), none, []⟩, ⟨(some 18), (.mov (.c (.int .i64 0))), none, []⟩]) (.block 0 (.loop (.seq (.region [⟨(some 19), (.bin .lss (.t 18) (.t 17)), none, []⟩]) (.seq (.cond (.t 19) .skip (.exit 0))
  (.seq (.block 1 (.seq (.region [⟨(some 20), (.mov (.t 18)), none, []⟩, ⟨(some 21), (.idx 1 (.t 16) (.t 18)), none, []⟩, ⟨(some 22), (.load none none (.t 21)), none, []⟩, ⟨(some 4), (.mov (.t 20)), none, []⟩, ⟨(some 5), (.mov (.t 22)),
  none, []⟩]) (.seq (.region [⟨(some 23), (.mov (.t 5)), none, []⟩, ⟨(some 24), (.not (.t 23)), none, []⟩]) (.cond (.t 24) (.region [⟨(some 25), (.mov (.t 3)), none, []⟩, ⟨(some 26), (.mov (.t 4)), none, []⟩, ⟨(some 27), (.idx 1 (.t 25) (.t
  26)), none, []⟩, ⟨none, (.store none 1 (.t 27) (.c (.int .i64 (-1)))), none, []⟩]) .skip)))) (.region [⟨(some 28), (.bin .add (.t 18) (.c (.int .i64 1))), none, []⟩, ⟨(some 18), (.mov (.t 28)), none, []⟩]))))))) (.seq (.seq (.region
  [⟨(some 6), (.mov (.c (.int .i64 1))), none, []⟩]) (.block 2 (.loop (.seq (.seq (.region [⟨(some 29), (.mov (.t 6)), none, []⟩, ⟨(some 30), (.mov (.t 3)), none, []⟩, ⟨(some 31), (.len 1 (.t 30)), none, []⟩, ⟨(some 32), (.bin .leq (.t 29)
  (.t 31)), none, []⟩]) (.cond (.t 32) .skip (.exit 2))) (.seq (.block 3 (.seq (.region [⟨(some 35), (.lea 3 (.t 1)), none, []⟩, ⟨(some 36), (.load none none (.t 35)), none, []⟩, ⟨(some 37), (.len 1 (.t 36)), none, []⟩, ⟨(some 38), (.mov (.c
  (.int .i64 0))), none, []⟩]) (.block 4 (.loop (.seq (.region [⟨(some 39), (.bin .lss (.t 38) (.t 37)), none, []⟩]) (.seq (.cond (.t 39) .skip (.exit 4)) (.seq (.block 5 (.seq (.region [⟨(some 40), (.mov (.t 38)), none, []⟩, ⟨(some 41),
  (.idx 1 (.t 36) (.t 38)), none, []⟩, ⟨(some 42), (.load none none (.t 41)), none, []⟩, ⟨(some 7), (.mov (.t 40)), none, []⟩, ⟨(some 8), (.mov (.t 42)), none, []⟩]) (.seq (.seq (.region [⟨(some 43), (.mov (.t 3)), none, []⟩, ⟨(some 44),
  (.mov (.t 7)), none, []⟩, ⟨(some 45), (.idx 1 (.t 43) (.t 44)), none, []⟩, ⟨(some 46), (.load none none (.t 45)), none, []⟩, ⟨(some 47), (.bin .geq (.t 46) (.c (.int .i64 0))), none, []⟩]) (.cond (.t 47) (.exit 5) .skip)) (.seq (.region
  [⟨(some 48), (.mov (.t 8)), none, []⟩, ⟨(some 49), (.len 1 (.t 48)), none, []⟩, ⟨(some 50), (.mov (.c (.int .i64 0))), none, []⟩]) (.block 6 (.loop (.seq (.region [⟨(some 51), (.bin .lss (.t 50) (.t 49)), none, []⟩]) (.seq (.cond (.t 51)
  .skip (.exit 6)) (.seq (.block 7 (.seq (.region [⟨(some 52), (.idx 1 (.t 48) (.t 50)), none, []⟩, ⟨(some 53), (.load none none (.t 52)), none, []⟩, ⟨(some 10), (.mov (.t 53)), none, []⟩]) (.seq (.region [⟨(some 54), (.mov (.t 3)), none,
  []⟩, ⟨(some 55), (.mov (.t 10)), none, []⟩, ⟨(some 56), (.idx 1 (.t 54) (.t 55)), none, []⟩, ⟨(some 57), (.load none none (.t 56)), none, []⟩, ⟨(some 58), (.mov (.t 6)), none, []⟩, ⟨(some 59), (.bin .sub (.t 58) (.c (.int .i64 1))), none,
  []⟩, ⟨(some 60), (.bin .eql (.t 57) (.t 59)), none, []⟩]) (.cond (.t 60) (.seq (.region [⟨(some 61), (.mov (.t 3)), none, []⟩, ⟨(some 62), (.mov (.t 7)), none, []⟩, ⟨(some 63), (.mov (.t 6)), none, []⟩, ⟨(some 64), (.idx 1 (.t 61) (.t
  62)), none, []⟩, ⟨none, (.store none 1 (.t 64) (.t 63)), none, []⟩]) (.exit 6)) .skip)))) (.region [⟨(some 65), (.bin .add (.t 50) (.c (.int .i64 1))), none, []⟩, ⟨(some 50), (.mov (.t 65)), none, []⟩])))))))))) (.region [⟨(some 66), (.bin
  .add (.t 38) (.c (.int .i64 1))), none, []⟩, ⟨(some 38), (.mov (.t 66)), none, []⟩])))))))) (.region [⟨(some 33), (.mov (.t 6)), none, []⟩, ⟨(some 34), (.bin .add (.t 33) (.c (.int .i64 1))), none, []⟩, ⟨(some 6), (.mov (.t 34)), none,
  []⟩])))))) (.seq (.region [⟨(some 67), (.mov (.t 3)), none, []⟩, ⟨(some 2), (.mov (.t 67)), none, []⟩]) .ret)))))⟩
theorem irOk45 : compFun Tryd.prog.underlying Tryd.prog.info? sq Tryd.f45 = some ir45 := by kernel_rfl
def ir46 : BFun := ⟨[(.tmp 2), (.tmp 3)], (.seq (.region [⟨(some 2), (.mov (.c (.int .i64 0))), none, []⟩, ⟨(some 3), (.mov (.c (.int .i64 0))), none, []⟩]) (.seq (.seq (.region [⟨(some 4), (.mov (.t 0)), none, []⟩, ⟨(some 5), (.len 0 (.t
  4)), none, []⟩, ⟨(some 6), (.bin .gtr (.t 5) (.c (.int .i64 40))), none, []⟩]) (.cond (.t 6) (.seq (.region [⟨(some 2), (.mov (.c (.int .i64 0))), none, []⟩, ⟨(some 3), (.mov (.c (.int .i64 3))), none, []⟩]) .ret) .skip)) (.seq (.seq
  (.region [⟨(some 7), (.mov (.t 0)), none, []⟩, ⟨(some 8), (.call (.c (.fn 72 [])) [(.t 7)]), none, []⟩, ⟨(some 9), (.call (.c (.fn 49 [])) [(.t 8)]), none, []⟩, ⟨(some 10), (.not (.t 9)), none, []⟩]) (.cond (.t 10) (.seq (.region [⟨(some
  2), (.mov (.c (.int .i64 0))), none, []⟩, ⟨(some 3), (.mov (.c (.int .i64 2))), none, []⟩]) .ret) .skip)) (.seq (.region [⟨(some 11), (.mov (.t 0)), none, []⟩, ⟨(some 12), (.call (.c (.fn 72 [])) [(.t 11)]), none, []⟩, ⟨(some 2), (.mov (.t
  12)), none, []⟩, ⟨(some 3), (.mov (.c (.int .i64 0))), none, []⟩]) .ret))))⟩
theorem irOk46 : compFun Tryd.prog.underlying Tryd.prog.info? sq Tryd.f46 = some ir46 := by kernel_rfl
def ir47 : BFun := ⟨[(.tmp 6)], (.seq (.region [⟨(some 3), (.box 62 (.t 0)), none, []⟩, ⟨(some 6), (.mov (.c (.str ⟨#[]⟩))), none, []⟩]) (.seq (.region [⟨(some 23), (.lea 2 (.t 3)), none, []⟩, ⟨(some 24), (.load none none (.t 23)), none,
  []⟩, ⟨(some 25), (.len 1 (.t 24)), none, []⟩, ⟨(some 26), (.mksl 4 1 [(.bool false)] (.t 25) (.t 25)), none, []⟩, ⟨(some 7), (.mov (.t 26)), none, []⟩]) (.seq (.region [⟨(some 27), (.mov (.t 7)), none, []⟩, ⟨(some 28), (.lea 1 (.t 3)),
  none, []⟩, ⟨(some 29), (.load none none (.t 28)), none, []⟩, ⟨(some 30), (.idx 1 (.t 27) (.t 29)), none, []⟩, ⟨none, (.store none 1 (.t 30) (.c (.bool true))), none, []⟩]) (.seq (.region [⟨(some 31), (.mov (.t 7)), none, []⟩, ⟨(some 32),
  (.mk 22 1 [.nils] [(0, (1, (.t 31)))]), none, []⟩, ⟨(some 8), (.mov (.t 32)), none, []⟩]) (.seq (.seq (.region [⟨(some 9), (.mov (.c (.int .i64 0))), none, []⟩]) (.block 0 (.loop (.seq (.seq (.region [⟨(some 33), (.mov (.t 9)), none, []⟩,
  ⟨(some 34), (.mov (.t 1)), none, []⟩, ⟨(some 35), (.bin .lss (.t 33) (.t 34)), none, []⟩]) (.cond (.t 35) .skip (.exit 0))) (.seq (.block 1 (.seq (.region [⟨(some 38), (.mov (.t 7)), none, []⟩, ⟨(some 39), (.len 1 (.t 38)), none, []⟩,
  ⟨(some 40), (.mksl 4 1 [(.bool false)] (.t 39) (.t 39)), none, []⟩, ⟨(some 10), (.mov (.t 40)), none, []⟩]) (.seq (.seq (.region [⟨(some 41), (.mov (.t 8)), none, []⟩, ⟨(some 42), (.mov (.t 9)), none, []⟩, ⟨(some 43), (.idx 1 (.t 41) (.t
  42)), none, []⟩, ⟨(some 44), (.load none none (.t 43)), none, []⟩, ⟨(some 45), (.len 1 (.t 44)), none, []⟩, ⟨(some 46), (.mov (.c (.int .i64 0))), none, []⟩]) (.block 2 (.loop (.seq (.region [⟨(some 47), (.bin .lss (.t 46) (.t 45)), none,
  []⟩]) (.seq (.cond (.t 47) .skip (.exit 2)) (.seq (.block 3 (.seq (.region [⟨(some 48), (.mov (.t 46)), none, []⟩, ⟨(some 49), (.idx 1 (.t 44) (.t 46)), none, []⟩, ⟨(some 50), (.load none none (.t 49)), none, []⟩, ⟨(some 11), (.mov (.t
  48)), none, []⟩, ⟨(some 12), (.mov (.t 50)), none, []⟩]) (.seq (.region [⟨(some 51), (.mov (.t 12)), none, []⟩]) (.cond (.t 51) (.region [⟨(some 52), (.mov (.t 10)), none, []⟩, ⟨(some 53), (.lea 3 (.t 3)), none, []⟩, ⟨(some 54), (.load
  none none (.t 53)), none, []⟩, ⟨(some 55), (.mov (.t 11)), none, []⟩, ⟨(some 56), (.idx 1 (.t 54) (.t 55)), none, []⟩, ⟨(some 57), (.load none none (.t 56)), none, []⟩, ⟨(some 58), (.idx 1 (.t 57) (.c (.int .i64 0))), none, []⟩, ⟨(some
  59), (.load none none (.t 58)), none, []⟩, ⟨(some 60), (.mov (.t 10)), none, []⟩, ⟨(some 61), (.lea 3 (.t 3)), none, []⟩, ⟨(some 62), (.load none none (.t 61)), none, []⟩, ⟨(some 63), (.mov (.t 11)), none, []⟩, ⟨(some 64), (.idx 1 (.t 62)
  (.t 63)), none, []⟩, ⟨(some 65), (.load none none (.t 64)), none, []⟩, ⟨(some 66), (.idx 1 (.t 65) (.c (.int .i64 1))), none, []⟩, ⟨(some 67), (.load none none (.t 66)), none, []⟩, ⟨(some 68), (.idx 1 (.t 52) (.t 59)), none, []⟩, ⟨none,
  (.store none 1 (.t 68) (.c (.bool true))), none, []⟩, ⟨(some 69), (.idx 1 (.t 60) (.t 67)), none, []⟩, ⟨none, (.store none 1 (.t 69) (.c (.bool true))), none, []⟩]) .skip)))) (.region [⟨(some 70), (.bin .add (.t 46) (.c (.int .i64 1))),
  none, []⟩, ⟨(some 46), (.mov (.t 70)), none, []⟩]))))))) (.region [⟨(some 71), (.mov (.t 8)), none, []⟩, ⟨(some 72), (.mov (.t 10)), none, []⟩, ⟨(some 73), (.mk 22 1 [.nils] [(0, (1, (.t 72)))]), none, []⟩, ⟨(some 74), (.app 22 1 24 (.t
  71) (.t 73)), none, []⟩, ⟨(some 8), (.mov (.t 74)), none, []⟩])))) (.region [⟨(some 36), (.mov (.t 9)), none, []⟩, ⟨(some 37), (.bin .add (.t 36) (.c (.int .i64 1))), none, []⟩, ⟨(some 9), (.mov (.t 37)), none, []⟩])))))) (.seq (.region
  [⟨(some 75), (.lea 2 (.t 3)), none, []⟩, ⟨(some 76), (.load none none (.t 75)), none, []⟩, ⟨(some 77), (.call (.c (.fn 64 [])) [(.t 76)]), none, []⟩, ⟨(some 13), (.mov (.t 77)), none, []⟩]) (.seq (.region [⟨(some 78), (.mk 3 2 [(.int .i64
  0), (.int .i64 0)] [(0, (1, (.c (.int .i64 0)))), (1, (1, (.c (.int .i64 1))))]), none, []⟩, ⟨(some 14), (.mov (.t 78)), none, []⟩]) (.seq (.seq (.region [⟨(some 79), (.mov (.t 2)), none, []⟩]) (.cond (.t 79) (.region [⟨(some 80), (.mk 3 2
  [(.int .i64 0), (.int .i64 0)] [(0, (1, (.c (.int .i64 1)))), (1, (1, (.c (.int .i64 0))))]), none, []⟩, ⟨(some 14), (.mov (.t 80)), none, []⟩]) .skip)) (.seq (.region [⟨(some 15), (.mov (.c (.str ⟨#[]⟩))), none, []⟩]) (.seq (.seq (.region
  [⟨(some 81), (.mov (.t 1)), none, []⟩, ⟨(some 16), (.mov (.t 81)), none, []⟩]) (.block 4 (.loop (.seq (.seq (.region [⟨(some 82), (.mov (.t 16)), none, []⟩, ⟨(some 83), (.bin .gtr (.t 82) (.c (.int .i64 0))), none, []⟩]) (.cond (.t 83)
  .skip (.exit 4))) (.seq (.block 5 (.seq (.region [⟨(some 86), (.mov (.t 14)), none, []⟩, ⟨(some 87), (.len 1 (.t 86)), none, []⟩, ⟨(some 88), (.mov (.c (.int .i64 0))), none, []⟩]) (.block 6 (.loop (.seq (.region [⟨(some 89), (.bin .lss
  (.t 88) (.t 87)), none, []⟩]) (.seq (.cond (.t 89) .skip (.exit 6)) (.seq (.block 7 (.seq (.region [⟨(some 90), (.idx 1 (.t 86) (.t 88)), none, []⟩, ⟨(some 91), (.load none none (.t 90)), none, []⟩, ⟨(some 18), (.mov (.t 91)), none, []⟩])
  (.seq (.region [⟨(some 92), (.mov (.t 13)), none, []⟩, ⟨(some 93), (.len 1 (.t 92)), none, []⟩, ⟨(some 94), (.mksl 4 1 [(.bool false)] (.t 93) (.t 93)), none, []⟩, ⟨(some 19), (.mov (.t 94)), none, []⟩]) (.seq (.region [⟨(some 20), (.mov
  (.c (.bool false))), none, []⟩]) (.seq (.seq (.region [⟨(some 95), (.mov (.t 8)), none, []⟩, ⟨(some 96), (.mov (.t 16)), none, []⟩, ⟨(some 97), (.bin .sub (.t 96) (.c (.int .i64 1))), none, []⟩, ⟨(some 98), (.idx 1 (.t 95) (.t 97)), none,
  []⟩, ⟨(some 99), (.load none none (.t 98)), none, []⟩, ⟨(some 100), (.len 1 (.t 99)), none, []⟩, ⟨(some 101), (.mov (.c (.int .i64 0))), none, []⟩]) (.block 8 (.loop (.seq (.region [⟨(some 102), (.bin .lss (.t 101) (.t 100)), none, []⟩])
  (.seq (.cond (.t 102) .skip (.exit 8)) (.seq (.block 9 (.seq (.region [⟨(some 103), (.mov (.t 101)), none, []⟩, ⟨(some 104), (.idx 1 (.t 99) (.t 101)), none, []⟩, ⟨(some 105), (.load none none (.t 104)), none, []⟩, ⟨(some 21), (.mov (.t
  103)), none, []⟩, ⟨(some 22), (.mov (.t 105)), none, []⟩]) (.seq (.region [⟨(some 106), (.mov (.t 22)), none, []⟩, ⟨(some 107), (.mov (.t 106)), none, []⟩, ⟨(some 108), (.mov (.t 13)), (some (107, true)), []⟩, ⟨(some 109), (.lea 3 (.t 3)),
  (some (107, true)), []⟩, ⟨(some 110), (.load none none (.t 109)), (some (107, true)), []⟩, ⟨(some 111), (.mov (.t 21)), (some (107, true)), []⟩, ⟨(some 112), (.idx 1 (.t 110) (.t 111)), (some (107, true)), []⟩, ⟨(some 113), (.load none
  none (.t 112)), (some (107, true)), []⟩, ⟨(some 114), (.mov (.t 18)), (some (107, true)), []⟩, ⟨(some 115), (.idx 1 (.t 113) (.t 114)), (some (107, true)), []⟩, ⟨(some 116), (.load none none (.t 115)), (some (107, true)), []⟩, ⟨(some 117),
  (.idx 1 (.t 108) (.t 116)), (some (107, true)), []⟩, ⟨(some 118), (.load none none (.t 117)), (some (107, true)), []⟩, ⟨(some 119), (.pick (.t 107) (.t 118) (.c (.bool false))), none, []⟩]) (.cond (.t 119) (.region [⟨(some 120), (.mov (.t
  19)), none, []⟩, ⟨(some 121), (.mov (.t 21)), none, []⟩, ⟨(some 122), (.idx 1 (.t 120) (.t 121)), none, []⟩, ⟨none, (.store none 1 (.t 122) (.c (.bool true))), none, []⟩, ⟨(some 20), (.mov (.c (.bool true))), none, []⟩]) .skip)))) (.region
  [⟨(some 123), (.bin .add (.t 101) (.c (.int .i64 1))), none, []⟩, ⟨(some 101), (.mov (.t 123)), none, []⟩]))))))) (.seq (.region [⟨(some 124), (.mov (.t 20)), none, []⟩]) (.cond (.t 124) (.seq (.region [⟨(some 125), (.mov (.t 19)), none,
  []⟩, ⟨(some 13), (.mov (.t 125)), none, []⟩]) (.seq (.region [⟨(some 126), (.mov (.t 18)), none, []⟩, ⟨(some 127), (.mov (.t 18)), none, []⟩, ⟨(some 128), (.bin .add (.t 127) (.c (.int .i64 1))), none, []⟩, ⟨(some 129), (.sslice (.c (.str
  ⟨#[97, 98]⟩)) (some (.t 126)) (some (.t 128))), none, []⟩, ⟨(some 130), (.mov (.t 15)), none, []⟩, ⟨(some 131), (.bin .add (.t 129) (.t 130)), none, []⟩, ⟨(some 15), (.mov (.t 131)), none, []⟩]) (.exit 6))) .skip))))))) (.region [⟨(some
  132), (.bin .add (.t 88) (.c (.int .i64 1))), none, []⟩, ⟨(some 88), (.mov (.t 132)), none, []⟩])))))))) (.region [⟨(some 84), (.mov (.t 16)), none, []⟩, ⟨(some 85), (.bin .sub (.t 84) (.c (.int .i64 1))), none, []⟩, ⟨(some 16), (.mov (.t
  85)), none, []⟩])))))) (.seq (.region [⟨(some 133), (.mov (.t 15)), none, []⟩, ⟨(some 6), (.mov (.t 133)), none, []⟩]) .ret)))))))))))⟩
theorem irOk47 : compFun Tryd.prog.underlying Tryd.prog.info? sq Tryd.f47 = some ir47 := by kernel_rfl
def ir49 : BFun := ⟨[(.tmp 2)], (.seq (.region [⟨(some 2), (.mov (.c (.bool false))), none, []⟩]) (.seq (.region [⟨(some 3), (.mov (.t 0)), none, []⟩, ⟨(some 4), (.call (.c (.fn 38 [])) [(.t 3), (.c (.int .i64 0)), (.c (.int .i64
  1000000000))]), none, []⟩, ⟨(some 2), (.mov (.t 4)), none, []⟩]) .ret))⟩
theorem irOk49 : compFun Tryd.prog.underlying Tryd.prog.info? sq Tryd.f49 = some ir49 := by kernel_rfl
def ir55 : BFun := ⟨[(.tmp 4)], (.seq (.region [⟨(some 4), (.mov (.c (.int .i64 0))), none, []⟩]) (.seq (.region [⟨(some 5), (.mov (.t 1)), none, []⟩, ⟨(some 6), (.mov (.t 0)), none, []⟩, ⟨(some 7), (.len 1 (.t 6)), none, []⟩, ⟨(some 8),
  (.bin .sub (.t 5) (.t 7)), none, []⟩, ⟨(some 1), (.mov (.t 8)), none, []⟩]) (.seq (.seq (.region [⟨(some 9), (.mov (.t 1)), none, []⟩, ⟨(some 10), (.bin .lss (.t 9) (.c (.int .i64 0))), none, []⟩]) (.cond (.t 10) (.seq (.region [⟨(some 4),
  (.mov (.c (.int .i64 (-1)))), none, []⟩]) .ret) .skip)) (.seq (.region [⟨(some 11), (.mov (.t 1)), none, []⟩, ⟨(some 4), (.mov (.t 11)), none, []⟩]) .ret))))⟩
theorem irOk55 : compFun Tryd.prog.underlying Tryd.prog.info? sq Tryd.f55 = some ir55 := by kernel_rfl
def ir56 : BFun := ⟨[(.tmp 2)], (.seq (.region [⟨(some 2), (.mov (.c (.bool false))), none, []⟩]) (.seq (.region [⟨(some 6), (.mov (.t 0)), none, []⟩, ⟨(some 7), (.nilck (.t 6)), none, []⟩, ⟨(some 8), (.lea 2 (.t 7)), none, []⟩, ⟨(some 9),
  (.load none none (.t 8)), none, []⟩, ⟨(some 10), (.len 1 (.t 9)), none, []⟩, ⟨(some 3), (.mov (.t 10)), none, []⟩]) (.seq (.seq (.region [⟨(some 11), (.mov (.t 0)), none, []⟩, ⟨(some 12), (.nilck (.t 11)), none, []⟩, ⟨(some 13), (.lea 0
  (.t 12)), none, []⟩, ⟨(some 14), (.load none none (.t 13)), none, []⟩, ⟨(some 15), (.call (.c (.fn 34 [])) [(.t 14), (.c (.int .i64 1)), (.c (.int .i64 3))]), none, []⟩, ⟨(some 16), (.not (.t 15)), none, []⟩, ⟨(some 17), (.mov (.t 16)),
  none, []⟩, ⟨(some 18), (.mov (.t 3)), (some (17, false)), []⟩, ⟨(some 19), (.bin .lss (.t 18) (.c (.int .i64 1))), (some (17, false)), []⟩, ⟨(some 20), (.pick (.t 17) (.c (.bool true)) (.t 19)), none, []⟩, ⟨(some 21), (.mov (.t 20)), none,
  []⟩, ⟨(some 22), (.mov (.t 0)), (some (21, false)), []⟩, ⟨(some 23), (.nilck (.t 22)), (some (21, false)), []⟩, ⟨(some 24), (.lea 1 (.t 23)), (some (21, false)), []⟩, ⟨(some 25), (.load none none (.t 24)), (some (21, false)), []⟩, ⟨(some
  26), (.mov (.t 3)), (some (21, false)), []⟩, ⟨(some 27), (.bin .sub (.t 26) (.c (.int .i64 1))), (some (21, false)), []⟩, ⟨(some 28), (.call (.c (.fn 34 [])) [(.t 25), (.c (.int .i64 0)), (.t 27)]), (some (21, false)), []⟩, ⟨(some 29),
  (.not (.t 28)), (some (21, false)), []⟩, ⟨(some 30), (.pick (.t 21) (.c (.bool true)) (.t 29)), none, []⟩, ⟨(some 31), (.mov (.t 30)), none, []⟩, ⟨(some 32), (.mov (.t 0)), (some (31, false)), []⟩, ⟨(some 33), (.nilck (.t 32)), (some (31,
  false)), []⟩, ⟨(some 34), (.lea 3 (.t 33)), (some (31, false)), []⟩, ⟨(some 35), (.load none none (.t 34)), (some (31, false)), []⟩, ⟨(some 36), (.len 1 (.t 35)), (some (31, false)), []⟩, ⟨(some 37), (.mov (.t 3)), (some (31, false)), []⟩,
  ⟨(some 38), (.bin .neq (.t 36) (.t 37)), (some (31, false)), []⟩, ⟨(some 39), (.pick (.t 31) (.c (.bool true)) (.t 38)), none, []⟩]) (.cond (.t 39) (.seq (.region [⟨(some 2), (.mov (.c (.bool false))), none, []⟩]) .ret) .skip)) (.seq (.seq
  (.region [⟨(some 4), (.mov (.c (.int .i64 0))), none, []⟩]) (.block 0 (.loop (.seq (.seq (.region [⟨(some 40), (.mov (.t 4)), none, []⟩, ⟨(some 41), (.mov (.t 0)), none, []⟩, ⟨(some 42), (.nilck (.t 41)), none, []⟩, ⟨(some 43), (.lea 3 (.t
  42)), none, []⟩, ⟨(some 44), (.load none none (.t 43)), none, []⟩, ⟨(some 45), (.len 1 (.t 44)), none, []⟩, ⟨(some 46), (.bin .lss (.t 40) (.t 45)), none, []⟩]) (.cond (.t 46) .skip (.exit 0))) (.seq (.block 1 (.seq (.seq (.region [⟨(some
  49), (.mov (.t 0)), none, []⟩, ⟨(some 50), (.nilck (.t 49)), none, []⟩, ⟨(some 51), (.lea 3 (.t 50)), none, []⟩, ⟨(some 52), (.load (some 29) none (.t 51)), none, []⟩, ⟨(some 53), (.mov (.t 4)), none, []⟩, ⟨(some 54), (.idx 1 (.t 52) (.t
  53)), none, []⟩, ⟨(some 55), (.load (some 37) none (.t 54)), none, []⟩, ⟨(some 56), (.len 1 (.t 55)), none, []⟩, ⟨(some 57), (.mov (.t 0)), none, []⟩, ⟨(some 58), (.nilck (.t 57)), none, []⟩, ⟨(some 59), (.lea 0 (.t 58)), none, []⟩, ⟨(some
  60), (.load none none (.t 59)), none, []⟩, ⟨(some 61), (.call (.c (.fn 74 [])) [(.t 60)]), none, [29, 37]⟩, ⟨(some 62), (.bin .neq (.t 56) (.t 61)), none, []⟩]) (.cond (.t 62) (.seq (.region [⟨(some 2), (.mov (.c (.bool false))), none,
  []⟩]) .ret) .skip)) (.seq (.region [⟨(some 5), (.mov (.c (.int .i64 0))), none, []⟩]) (.block 2 (.loop (.seq (.seq (.region [⟨(some 63), (.mov (.t 5)), none, []⟩, ⟨(some 64), (.mov (.t 0)), none, []⟩, ⟨(some 65), (.nilck (.t 64)), none,
  []⟩, ⟨(some 66), (.lea 3 (.t 65)), none, []⟩, ⟨(some 67), (.load none none (.t 66)), none, []⟩, ⟨(some 68), (.mov (.t 4)), none, []⟩, ⟨(some 69), (.idx 1 (.t 67) (.t 68)), none, []⟩, ⟨(some 70), (.load none none (.t 69)), none, []⟩, ⟨(some
  71), (.len 1 (.t 70)), none, []⟩, ⟨(some 72), (.bin .lss (.t 63) (.t 71)), none, []⟩]) (.cond (.t 72) .skip (.exit 2))) (.seq (.block 3 (.seq (.region [⟨(some 75), (.mov (.t 0)), none, []⟩, ⟨(some 76), (.nilck (.t 75)), none, []⟩, ⟨(some
  77), (.lea 3 (.t 76)), none, []⟩, ⟨(some 78), (.load none none (.t 77)), none, []⟩, ⟨(some 79), (.mov (.t 4)), none, []⟩, ⟨(some 80), (.idx 1 (.t 78) (.t 79)), none, []⟩, ⟨(some 81), (.load none none (.t 80)), none, []⟩, ⟨(some 82), (.mov
  (.t 5)), none, []⟩, ⟨(some 83), (.idx 1 (.t 81) (.t 82)), none, []⟩, ⟨(some 84), (.load none none (.t 83)), none, []⟩, ⟨(some 85), (.mov (.t 3)), none, []⟩, ⟨(some 86), (.bin .sub (.t 85) (.c (.int .i64 1))), none, []⟩, ⟨(some 87), (.call
  (.c (.fn 34 [])) [(.t 84), (.c (.int .i64 0)), (.t 86)]), none, []⟩, ⟨(some 88), (.not (.t 87)), none, []⟩]) (.cond (.t 88) (.seq (.region [⟨(some 2), (.mov (.c (.bool false))), none, []⟩]) .ret) .skip))) (.region [⟨(some 73), (.mov (.t
  5)), none, []⟩, ⟨(some 74), (.bin .add (.t 73) (.c (.int .i64 1))), none, []⟩, ⟨(some 5), (.mov (.t 74)), none, []⟩])))))))) (.region [⟨(some 47), (.mov (.t 4)), none, []⟩, ⟨(some 48), (.bin .add (.t 47) (.c (.int .i64 1))), none, []⟩,
  ⟨(some 4), (.mov (.t 48)), none, []⟩])))))) (.seq (.region [⟨(some 2), (.mov (.c (.bool true))), none, []⟩]) .ret)))))⟩
theorem irOk56 : compFun Tryd.prog.underlying Tryd.prog.info? sq Tryd.f56 = some ir56 := by kernel_rfl
def ir57 : BFun := ⟨[(.tmp 4), (.tmp 5)], (.seq (.region [⟨(some 2), (.box 29 (.t 0)), none, []⟩, ⟨(some 3), (.box 29 (.t 1)), none, []⟩, ⟨(some 4), (.mov (.c (.bool false))), none, []⟩, ⟨(some 5), (.mov (.c (.int .i64 0))), none, []⟩])
  (.seq (.seq (.region [⟨(some 12), (.call (.c (.fn 81 [])) [(.t 2), (.t 3)]), none, []⟩, ⟨(some 6), (.mov (.t 12)), none, []⟩]) (.seq (.region [⟨(some 13), (.mov (.t 6)), none, []⟩, ⟨(some 14), (.bin .neq (.t 13) (.c (.int .i64 0))), none,
  []⟩]) (.cond (.t 14) (.seq (.region [⟨(some 15), (.mov (.t 6)), none, []⟩, ⟨(some 4), (.mov (.c (.bool false))), none, []⟩, ⟨(some 5), (.mov (.t 15)), none, []⟩]) .ret) .skip))) (.seq (.region [⟨(some 16), (.call (.c (.fn 66 [])) [(.t
  2)]), none, []⟩, ⟨(some 7), (.new 29 [(.int .i64 0), (.int .i64 0), .nils, .nils]), none, []⟩, ⟨none, (.store none 4 (.t 7) (.t 16)), none, []⟩]) (.seq (.region [⟨(some 17), (.call (.c (.fn 66 [])) [(.t 3)]), none, []⟩, ⟨(some 8), (.new 29
  [(.int .i64 0), (.int .i64 0), .nils, .nils]), none, []⟩, ⟨none, (.store none 4 (.t 8) (.t 17)), none, []⟩]) (.seq (.region [⟨(some 18), (.call (.c (.fn 82 [])) [(.t 7), (.t 8), (.c (.int .i64 3))]), none, []⟩, ⟨(some 9), (.new 29 [(.int
  .i64 0), (.int .i64 0), .nils, .nils]), none, []⟩, ⟨none, (.store none 4 (.t 9) (.t 18)), none, []⟩]) (.seq (.region [⟨(some 20), (.call (.c (.fn 67 [])) [(.t 9)]), none, []⟩, ⟨(some 19), (.mov (.t 20)), none, []⟩, ⟨(some 21), (.ext 0 (.t
  19)), none, []⟩, ⟨(some 22), (.ext 1 (.t 19)), none, []⟩, ⟨(some 10), (.mov (.t 21)), none, []⟩, ⟨(some 11), (.mov (.t 22)), none, []⟩]) (.seq (.region [⟨(some 23), (.mov (.t 11)), none, []⟩, ⟨(some 24), (.not (.t 23)), none, []⟩, ⟨(some
  4), (.mov (.t 24)), none, []⟩, ⟨(some 5), (.mov (.c (.int .i64 0))), none, []⟩]) .ret)))))))⟩
theorem irOk57 : compFun Tryd.prog.underlying Tryd.prog.info? sq Tryd.f57 = some ir57 := by kernel_rfl
def ir58 : BFun := ⟨[(.cell 0 (some 4))], (.seq (.region [⟨(some 0), (.new 29 [(.int .i64 0), (.int .i64 0), .nils, .nils]), none, []⟩]) (.seq (.region [⟨(some 1), (.mk 4 2 [(.bool false), (.bool false)] [(0, (1, (.c (.bool true)))), (1, (1,
  (.c (.bool false))))]), none, []⟩, ⟨(some 2), (.mk 2 2 [(.int .i64 0), (.int .i64 0)] [(0, (1, (.c (.int .i64 1)))), (1, (1, (.c (.int .i64 0))))]), none, []⟩, ⟨(some 3), (.mk 2 2 [(.int .i64 0), (.int .i64 0)] [(0, (1, (.c (.int .i64
  1)))), (1, (1, (.c (.int .i64 0))))]), none, []⟩, ⟨(some 4), (.mk 37 2 [.nils, .nils] [(0, (1, (.t 2))), (1, (1, (.t 3)))]), none, []⟩, ⟨(some 5), (.build [(.int .i64 0), (.int .i64 0), .nils, .nils] [(0, (1, (.c (.int .i64 1)))), (2, (1,
  (.t 1))), (3, (1, (.t 4)))]), none, []⟩, ⟨(some 6), (.box 29 (.t 5)), none, []⟩, ⟨(some 7), (.call (.c (.fn 66 [])) [(.t 6)]), none, []⟩, ⟨none, (.store none 4 (.t 0) (.t 7)), none, []⟩]) .ret))⟩
theorem irOk58 : compFun Tryd.prog.underlying Tryd.prog.info? sq Tryd.f58 = some ir58 := by kernel_rfl
def ir59 : BFun := ⟨[(.tmp 2)], (.seq (.region [⟨(some 2), (.mov (.c (.bool false))), none, []⟩]) (.seq (.region [⟨(some 3), (.mov (.t 0)), none, []⟩, ⟨(some 4), (.call (.c (.fn 38 [])) [(.t 3), (.c (.int .i64 1)), (.c (.int .i64 3))]),
  none, []⟩, ⟨(some 2), (.mov (.t 4)), none, []⟩]) .ret))⟩
theorem irOk59 : compFun Tryd.prog.underlying Tryd.prog.info? sq Tryd.f59 = some ir59 := by kernel_rfl
def ir60 : BFun := ⟨[(.tmp 2)], (.seq (.region [⟨(some 2), (.mov (.c (.int .i64 0))), none, []⟩]) (.seq (.region [⟨(some 3), (.mov (.t 0)), none, []⟩, ⟨(some 4), (.call (.c (.fn 83 [])) [(.t 3)]), none, []⟩, ⟨(some 5), (.bin .sub (.t 4) (.c
  (.int .i64 1))), none, []⟩, ⟨(some 2), (.mov (.t 5)), none, []⟩]) .ret))⟩
theorem irOk60 : compFun Tryd.prog.underlying Tryd.prog.info? sq Tryd.f60 = some ir60 := by kernel_rfl
def ir61 : BFun := ⟨[(.tmp 4), (.tmp 5)], (.seq (.region [⟨(some 2), (.box 29 (.t 0)), none, []⟩, ⟨(some 3), (.box 29 (.t 1)), none, []⟩, ⟨(some 4), (.mov (.c (.bool false))), none, []⟩, ⟨(some 5), (.mov (.c (.int .i64 0))), none, []⟩])
  (.seq (.seq (.region [⟨(some 7), (.load none (some 4) (.t 2)), none, []⟩, ⟨(some 8), (.load none (some 4) (.t 3)), none, []⟩, ⟨(some 9), (.call (.c (.fn 84 [])) [(.t 7), (.t 8)]), none, []⟩, ⟨(some 6), (.mov (.t 9)), none, []⟩]) (.seq
  (.region [⟨(some 10), (.mov (.t 6)), none, []⟩, ⟨(some 11), (.bin .neq (.t 10) (.c (.int .i64 0))), none, []⟩]) (.cond (.t 11) (.seq (.region [⟨(some 12), (.mov (.t 6)), none, []⟩, ⟨(some 4), (.mov (.c (.bool false))), none, []⟩, ⟨(some
  5), (.mov (.t 12)), none, []⟩]) .ret) .skip))) (.seq (.region [⟨(some 13), (.load none (some 4) (.t 2)), none, []⟩, ⟨(some 15), (.load (some 29) (some 4) (.t 3)), none, []⟩, ⟨(some 14), (.call (.c (.fn 44 [])) [(.t 13)]), none, [29]⟩,
  ⟨(some 16), (.call (.c (.fn 44 [])) [(.t 15)]), none, []⟩, ⟨(some 17), (.call (.c (.fn 85 [])) [(.t 14), (.t 16), (.c (.fn 86 []))]), none, []⟩, ⟨(some 18), (.call (.c (.fn 87 [])) [(.t 17)]), none, []⟩, ⟨(some 4), (.mov (.t 18)), none,
  []⟩, ⟨(some 5), (.mov (.c (.int .i64 0))), none, []⟩]) .ret)))⟩
theorem irOk61 : compFun Tryd.prog.underlying Tryd.prog.info? sq Tryd.f61 = some ir61 := by kernel_rfl
def ir62 : BFun := ⟨[(.cell 0 (some 4))], (.seq (.region [⟨(some 0), (.new 29 [(.int .i64 0), (.int .i64 0), .nils, .nils]), none, []⟩]) (.seq (.region [⟨(some 6), (.call (.c (.fn 88 [])) [(.c (.int .i64 1)), (.c (.int .i64 1)), (.c (.int
  .i64 0)), (.c (.fn 89 [])), (.c (.fn 90 []))]), none, []⟩, ⟨(some 5), (.mov (.t 6)), none, []⟩, ⟨(some 7), (.ext 0 (.t 5)), none, []⟩, ⟨(some 8), (.ext 1 (.t 5)), none, []⟩, ⟨(some 1), (.new 62 [(.int .i64 0), (.int .i64 0), .nils,
  .nils]), none, []⟩, ⟨none, (.store none 4 (.t 1) (.t 7)), none, []⟩, ⟨(some 2), (.mov (.t 8)), none, []⟩]) (.seq (.region [⟨(some 10), (.load none (some 4) (.t 1)), none, []⟩, ⟨(some 11), (.call (.c (.fn 79 [])) [(.t 10)]), none, []⟩,
  ⟨(some 9), (.mov (.t 11)), none, []⟩, ⟨(some 12), (.ext 0 (.t 9)), none, []⟩, ⟨(some 13), (.ext 1 (.t 9)), none, []⟩, ⟨(some 3), (.new 29 [(.int .i64 0), (.int .i64 0), .nils, .nils]), none, []⟩, ⟨none, (.store none 4 (.t 3) (.t 12)),
  none, []⟩, ⟨(some 4), (.mov (.t 13)), none, []⟩]) (.seq (.region [⟨(some 14), (.load none (some 4) (.t 3)), none, []⟩, ⟨none, (.store none 4 (.t 0) (.t 14)), none, []⟩]) .ret))))⟩
theorem irOk62 : compFun Tryd.prog.underlying Tryd.prog.info? sq Tryd.f62 = some ir62 := by kernel_rfl
def ir63 : BFun := ⟨[(.tmp 2)], (.seq (.region [⟨(some 2), (.mov (.c .nils)), none, []⟩]) (.seq (.region [⟨(some 9), (.mk 2 0 [] []), none, []⟩, ⟨(some 3), (.mov (.t 9)), none, []⟩]) (.seq (.region [⟨(some 4), (.mov (.c (.int .i64 0))),
  none, []⟩]) (.block 0 (.loop (.seq (.block 1 (.seq (.region [⟨(some 5), (.mov (.c (.int .i64 0))), none, []⟩]) (.seq (.region [⟨(some 6), (.mov (.c (.bool false))), none, []⟩]) (.seq (.seq (.region [⟨(some 7), (.mov (.c (.int .i64 0))),
  none, []⟩]) (.block 2 (.loop (.seq (.seq (.region [⟨(some 12), (.mov (.t 7)), none, []⟩, ⟨(some 13), (.mov (.t 0)), none, []⟩, ⟨(some 14), (.len 1 (.t 13)), none, []⟩, ⟨(some 15), (.bin .lss (.t 12) (.t 14)), none, []⟩]) (.cond (.t 15)
  .skip (.exit 2))) (.seq (.block 3 (.seq (.region [⟨(some 8), (.mov (.c (.int .i64 2))), none, []⟩]) (.seq (.seq (.region [⟨(some 18), (.mov (.t 4)), none, []⟩, ⟨(some 19), (.mov (.t 0)), none, []⟩, ⟨(some 20), (.mov (.t 7)), none, []⟩,
  ⟨(some 21), (.idx 1 (.t 19) (.t 20)), none, []⟩, ⟨(some 22), (.load none none (.t 21)), none, []⟩, ⟨(some 23), (.len 0 (.t 22)), none, []⟩, ⟨(some 24), (.bin .lss (.t 18) (.t 23)), none, []⟩]) (.cond (.t 24) (.seq (.region [⟨(some 25),
  (.mov (.t 0)), none, []⟩, ⟨(some 26), (.mov (.t 7)), none, []⟩, ⟨(some 27), (.idx 1 (.t 25) (.t 26)), none, []⟩, ⟨(some 28), (.load none none (.t 27)), none, []⟩, ⟨(some 29), (.mov (.t 4)), none, []⟩, ⟨(some 30), (.idxs (.t 28) (.t 29)),
  none, []⟩, ⟨(some 31), (.bin .sub (.t 30) (.c (.int .u8 97))), none, []⟩, ⟨(some 32), (.conv .i64 (.t 31)), none, []⟩, ⟨(some 8), (.mov (.t 32)), none, []⟩]) (.region [⟨(some 6), (.mov (.c (.bool true))), none, []⟩])) .skip)) (.region
  [⟨(some 33), (.mov (.t 5)), none, []⟩, ⟨(some 34), (.mov (.t 8)), none, []⟩, ⟨(some 35), (.mov (.t 7)), none, []⟩, ⟨(some 36), (.call (.c (.fn 91 [])) [(.t 35)]), none, []⟩, ⟨(some 37), (.bin .mul (.t 34) (.t 36)), none, []⟩, ⟨(some 38),
  (.bin .add (.t 33) (.t 37)), none, []⟩, ⟨(some 5), (.mov (.t 38)), none, []⟩])))) (.region [⟨(some 16), (.mov (.t 7)), none, []⟩, ⟨(some 17), (.bin .add (.t 16) (.c (.int .i64 1))), none, []⟩, ⟨(some 7), (.mov (.t 17)), none, []⟩]))))))
  (.seq (.seq (.region [⟨(some 39), (.mov (.t 6)), none, []⟩, ⟨(some 40), (.not (.t 39)), none, []⟩]) (.cond (.t 40) (.seq (.region [⟨(some 41), (.mov (.t 3)), none, []⟩, ⟨(some 2), (.mov (.t 41)), none, []⟩]) .ret) .skip)) (.region [⟨(some
  42), (.mov (.t 3)), none, []⟩, ⟨(some 43), (.mov (.t 5)), none, []⟩, ⟨(some 44), (.mk 2 1 [(.int .i64 0)] [(0, (1, (.t 43)))]), none, []⟩, ⟨(some 45), (.app 2 1 8 (.t 42) (.t 44)), none, []⟩, ⟨(some 3), (.mov (.t 45)), none, []⟩]))))))
  (.region [⟨(some 10), (.mov (.t 4)), none, []⟩, ⟨(some 11), (.bin .add (.t 10) (.c (.int .i64 1))), none, []⟩, ⟨(some 4), (.mov (.t 11)), none, []⟩])))))))⟩
theorem irOk63 : compFun Tryd.prog.underlying Tryd.prog.info? sq Tryd.f63 = some ir63 := by kernel_rfl
def ir64 : BFun := ⟨[(.tmp 2)], (.seq (.region [⟨(some 2), (.mov (.c .nils)), none, []⟩]) (.seq (.seq (.region [⟨(some 3), (.mov (.t 0)), none, []⟩, ⟨(some 4), (.isnil false (.t 3)), none, []⟩]) (.cond (.t 4) (.seq (.region [⟨(some 2), (.mov
  (.c .nils)), none, []⟩]) .ret) .skip)) (.seq (.region [⟨(some 5), (.mk 4 0 [] []), none, []⟩, ⟨(some 6), (.mov (.t 0)), none, []⟩, ⟨(some 7), (.app 4 1 1 (.t 5) (.t 6)), none, []⟩, ⟨(some 2), (.mov (.t 7)), none, []⟩]) .ret)))⟩
theorem irOk64 : compFun Tryd.prog.underlying Tryd.prog.info? sq Tryd.f64 = some ir64 := by kernel_rfl
def ir65 : BFun := ⟨[(.tmp 2)], (.seq (.region [⟨(some 2), (.mov (.c (.int .i64 0))), none, []⟩]) (.seq (.region [⟨(some 3), (.mov (.c (.int .i64 0))), none, []⟩]) (.seq (.seq (.region [⟨(some 5), (.mov (.t 0)), none, []⟩, ⟨(some 6), (.len 1
  (.t 5)), none, []⟩, ⟨(some 7), (.bin .sub (.t 6) (.c (.int .i64 1))), none, []⟩, ⟨(some 4), (.mov (.t 7)), none, []⟩]) (.block 0 (.loop (.seq (.seq (.region [⟨(some 8), (.mov (.t 4)), none, []⟩, ⟨(some 9), (.bin .geq (.t 8) (.c (.int .i64
  0))), none, []⟩]) (.cond (.t 9) .skip (.exit 0))) (.seq (.block 1 (.region [⟨(some 12), (.mov (.t 3)), none, []⟩, ⟨(some 13), (.bin .mul (.c (.int .i64 3)) (.t 12)), none, []⟩, ⟨(some 14), (.mov (.t 0)), none, []⟩, ⟨(some 15), (.mov (.t
  4)), none, []⟩, ⟨(some 16), (.idx 1 (.t 14) (.t 15)), none, []⟩, ⟨(some 17), (.load none none (.t 16)), none, []⟩, ⟨(some 18), (.bin .add (.t 13) (.t 17)), none, []⟩, ⟨(some 3), (.mov (.t 18)), none, []⟩])) (.region [⟨(some 10), (.mov (.t
  4)), none, []⟩, ⟨(some 11), (.bin .sub (.t 10) (.c (.int .i64 1))), none, []⟩, ⟨(some 4), (.mov (.t 11)), none, []⟩])))))) (.seq (.region [⟨(some 19), (.mov (.t 3)), none, []⟩, ⟨(some 2), (.mov (.t 19)), none, []⟩]) .ret))))⟩
theorem irOk65 : compFun Tryd.prog.underlying Tryd.prog.info? sq Tryd.f65 = some ir65 := by kernel_rfl
def ir66 : BFun := ⟨[(.cell 2 (some 4))], (.seq (.region [⟨(some 2), (.new 29 [(.int .i64 0), (.int .i64 0), .nils, .nils]), none, []⟩]) (.seq (.region [⟨(some 17), (.mov (.t 0)), none, []⟩, ⟨(some 18), (.call (.c (.fn 92 [])) [(.t 17)]),
  none, []⟩, ⟨(some 3), (.new 29 [(.int .i64 0), (.int .i64 0), .nils, .nils]), none, []⟩, ⟨none, (.store none 4 (.t 3) (.t 18)), none, []⟩]) (.seq (.region [⟨(some 19), (.lea 2 (.t 3)), none, []⟩, ⟨(some 20), (.load none none (.t 19)),
  none, []⟩, ⟨(some 21), (.len 1 (.t 20)), none, []⟩, ⟨(some 22), (.mksl 2 8 [(.int .i64 0)] (.t 21) (.t 21)), none, []⟩, ⟨(some 4), (.mov (.t 22)), none, []⟩]) (.seq (.seq (.region [⟨(some 5), (.mov (.c (.int .i64 0))), none, []⟩]) (.block
  0 (.loop (.seq (.seq (.region [⟨(some 23), (.mov (.t 5)), none, []⟩, ⟨(some 24), (.lea 2 (.t 3)), none, []⟩, ⟨(some 25), (.load none none (.t 24)), none, []⟩, ⟨(some 26), (.len 1 (.t 25)), none, []⟩, ⟨(some 27), (.bin .lss (.t 23) (.t
  26)), none, []⟩]) (.cond (.t 27) .skip (.exit 0))) (.seq (.block 1 (.seq (.region [⟨(some 30), (.lea 2 (.t 3)), none, []⟩, ⟨(some 31), (.load none none (.t 30)), none, []⟩, ⟨(some 32), (.mov (.t 5)), none, []⟩, ⟨(some 33), (.idx 1 (.t 31)
  (.t 32)), none, []⟩, ⟨(some 34), (.load none none (.t 33)), none, []⟩]) (.cond (.t 34) (.region [⟨(some 35), (.mov (.t 4)), none, []⟩, ⟨(some 36), (.mov (.t 5)), none, []⟩, ⟨(some 37), (.idx 1 (.t 35) (.t 36)), none, []⟩, ⟨none, (.store
  none 1 (.t 37) (.c (.int .i64 1))), none, []⟩]) .skip))) (.region [⟨(some 28), (.mov (.t 5)), none, []⟩, ⟨(some 29), (.bin .add (.t 28) (.c (.int .i64 1))), none, []⟩, ⟨(some 5), (.mov (.t 29)), none, []⟩])))))) (.seq (.region [⟨(some 6),
  (.mov (.c (.int .i64 0))), none, []⟩]) (.seq (.block 2 (.loop (.block 3 (.seq (.region [⟨(some 39), (.mov (.t 4)), none, []⟩, ⟨(some 40), (.call (.c (.fn 93 [])) [(.t 3), (.t 39)]), none, []⟩, ⟨(some 38), (.mov (.t 40)), none, []⟩, ⟨(some
  41), (.ext 0 (.t 38)), none, []⟩, ⟨(some 42), (.ext 1 (.t 38)), none, []⟩, ⟨(some 7), (.mov (.t 41)), none, []⟩, ⟨(some 8), (.mov (.t 42)), none, []⟩]) (.seq (.region [⟨(some 43), (.mov (.t 7)), none, []⟩, ⟨(some 4), (.mov (.t 43)), none,
  []⟩]) (.seq (.seq (.region [⟨(some 44), (.mov (.t 8)), none, []⟩, ⟨(some 45), (.mov (.t 6)), none, []⟩, ⟨(some 46), (.bin .eql (.t 44) (.t 45)), none, []⟩]) (.cond (.t 46) (.exit 2) .skip)) (.region [⟨(some 47), (.mov (.t 8)), none, []⟩,
  ⟨(some 6), (.mov (.t 47)), none, []⟩]))))))) (.seq (.region [⟨(some 48), (.mov (.t 6)), none, []⟩, ⟨(some 49), (.mksl 2 8 [(.int .i64 0)] (.t 48) (.t 48)), none, []⟩, ⟨(some 9), (.mov (.t 49)), none, []⟩]) (.seq (.seq (.region [⟨(some 10),
  (.mov (.c (.int .i64 0))), none, []⟩]) (.block 4 (.loop (.seq (.seq (.region [⟨(some 50), (.mov (.t 10)), none, []⟩, ⟨(some 51), (.mov (.t 6)), none, []⟩, ⟨(some 52), (.bin .lss (.t 50) (.t 51)), none, []⟩]) (.cond (.t 52) .skip (.exit
  4))) (.seq (.block 5 (.region [⟨(some 55), (.mov (.t 9)), none, []⟩, ⟨(some 56), (.mov (.t 10)), none, []⟩, ⟨(some 57), (.idx 1 (.t 55) (.t 56)), none, []⟩, ⟨none, (.store none 1 (.t 57) (.c (.int .i64 (-1)))), none, []⟩])) (.region
  [⟨(some 53), (.mov (.t 10)), none, []⟩, ⟨(some 54), (.bin .add (.t 53) (.c (.int .i64 1))), none, []⟩, ⟨(some 10), (.mov (.t 54)), none, []⟩])))))) (.seq (.region [⟨(some 58), (.lea 1 (.t 3)), none, []⟩, ⟨(some 59), (.load none none (.t
  58)), none, []⟩, ⟨(some 60), (.mk 2 1 [(.int .i64 0)] [(0, (1, (.t 59)))]), none, []⟩, ⟨(some 11), (.mov (.t 60)), none, []⟩]) (.seq (.region [⟨(some 61), (.mov (.t 9)), none, []⟩, ⟨(some 62), (.mov (.t 4)), none, []⟩, ⟨(some 63), (.lea 1
  (.t 3)), none, []⟩, ⟨(some 64), (.load none none (.t 63)), none, []⟩, ⟨(some 65), (.idx 1 (.t 62) (.t 64)), none, []⟩, ⟨(some 66), (.load none none (.t 65)), none, []⟩, ⟨(some 67), (.idx 1 (.t 61) (.t 66)), none, []⟩, ⟨none, (.store none 1
  (.t 67) (.c (.int .i64 0))), none, []⟩]) (.seq (.region [⟨(some 68), (.mov (.t 0)), none, []⟩, ⟨(some 69), (.nilck (.t 68)), none, []⟩, ⟨(some 70), (.lea 0 (.t 69)), none, []⟩, ⟨(some 71), (.load none none (.t 70)), none, []⟩, ⟨(some 72),
  (.build [(.int .i64 0), (.int .i64 0), .nils, .nils] [(0, (1, (.t 71)))]), none, []⟩, ⟨(some 12), (.new 29 [(.int .i64 0), (.int .i64 0), .nils, .nils]), none, []⟩, ⟨none, (.store none 4 (.t 12) (.t 72)), none, []⟩]) (.seq (.seq (.region
  [⟨(some 13), (.mov (.c (.int .i64 0))), none, []⟩]) (.block 6 (.loop (.seq (.seq (.region [⟨(some 73), (.mov (.t 13)), none, []⟩, ⟨(some 74), (.mov (.t 11)), none, []⟩, ⟨(some 75), (.len 1 (.t 74)), none, []⟩, ⟨(some 76), (.bin .lss (.t
  73) (.t 75)), none, []⟩]) (.cond (.t 76) .skip (.exit 6))) (.seq (.block 7 (.seq (.region [⟨(some 79), (.mk 2 0 [] []), none, []⟩, ⟨(some 14), (.mov (.t 79)), none, []⟩]) (.seq (.seq (.region [⟨(some 15), (.mov (.c (.int .i64 0))), none,
  []⟩]) (.block 8 (.loop (.seq (.seq (.region [⟨(some 80), (.mov (.t 15)), none, []⟩, ⟨(some 81), (.lea 3 (.t 3)), none, []⟩, ⟨(some 82), (.load none none (.t 81)), none, []⟩, ⟨(some 83), (.mov (.t 11)), none, []⟩, ⟨(some 84), (.mov (.t
  13)), none, []⟩, ⟨(some 85), (.idx 1 (.t 83) (.t 84)), none, []⟩, ⟨(some 86), (.load none none (.t 85)), none, []⟩, ⟨(some 87), (.idx 1 (.t 82) (.t 86)), none, []⟩, ⟨(some 88), (.load none none (.t 87)), none, []⟩, ⟨(some 89), (.len 1 (.t
  88)), none, []⟩, ⟨(some 90), (.bin .lss (.t 80) (.t 89)), none, []⟩]) (.cond (.t 90) .skip (.exit 8))) (.seq (.block 9 (.seq (.region [⟨(some 93), (.lea 3 (.t 3)), none, []⟩, ⟨(some 94), (.load none none (.t 93)), none, []⟩, ⟨(some 95),
  (.mov (.t 11)), none, []⟩, ⟨(some 96), (.mov (.t 13)), none, []⟩, ⟨(some 97), (.idx 1 (.t 95) (.t 96)), none, []⟩, ⟨(some 98), (.load none none (.t 97)), none, []⟩, ⟨(some 99), (.idx 1 (.t 94) (.t 98)), none, []⟩, ⟨(some 100), (.load none
  none (.t 99)), none, []⟩, ⟨(some 101), (.mov (.t 15)), none, []⟩, ⟨(some 102), (.idx 1 (.t 100) (.t 101)), none, []⟩, ⟨(some 103), (.load none none (.t 102)), none, []⟩, ⟨(some 16), (.mov (.t 103)), none, []⟩]) (.seq (.seq (.region [⟨(some
  104), (.mov (.t 9)), none, []⟩, ⟨(some 105), (.mov (.t 4)), none, []⟩, ⟨(some 106), (.mov (.t 16)), none, []⟩, ⟨(some 107), (.idx 1 (.t 105) (.t 106)), none, []⟩, ⟨(some 108), (.load none none (.t 107)), none, []⟩, ⟨(some 109), (.idx 1 (.t
  104) (.t 108)), none, []⟩, ⟨(some 110), (.load none none (.t 109)), none, []⟩, ⟨(some 111), (.bin .lss (.t 110) (.c (.int .i64 0))), none, []⟩]) (.cond (.t 111) (.seq (.region [⟨(some 112), (.mov (.t 9)), none, []⟩, ⟨(some 113), (.mov (.t
  4)), none, []⟩, ⟨(some 114), (.mov (.t 16)), none, []⟩, ⟨(some 115), (.idx 1 (.t 113) (.t 114)), none, []⟩, ⟨(some 116), (.load none none (.t 115)), none, []⟩, ⟨(some 117), (.mov (.t 11)), none, []⟩, ⟨(some 118), (.len 1 (.t 117)), none,
  []⟩, ⟨(some 119), (.idx 1 (.t 112) (.t 116)), none, []⟩, ⟨none, (.store none 1 (.t 119) (.t 118)), none, []⟩]) (.region [⟨(some 120), (.mov (.t 11)), none, []⟩, ⟨(some 121), (.mov (.t 16)), none, []⟩, ⟨(some 122), (.mk 2 1 [(.int .i64 0)]
  [(0, (1, (.t 121)))]), none, []⟩, ⟨(some 123), (.app 2 1 8 (.t 120) (.t 122)), none, []⟩, ⟨(some 11), (.mov (.t 123)), none, []⟩])) .skip)) (.region [⟨(some 124), (.mov (.t 14)), none, []⟩, ⟨(some 125), (.mov (.t 9)), none, []⟩, ⟨(some
  126), (.mov (.t 4)), none, []⟩, ⟨(some 127), (.mov (.t 16)), none, []⟩, ⟨(some 128), (.idx 1 (.t 126) (.t 127)), none, []⟩, ⟨(some 129), (.load none none (.t 128)), none, []⟩, ⟨(some 130), (.idx 1 (.t 125) (.t 129)), none, []⟩, ⟨(some
  131), (.load none none (.t 130)), none, []⟩, ⟨(some 132), (.mk 2 1 [(.int .i64 0)] [(0, (1, (.t 131)))]), none, []⟩, ⟨(some 133), (.app 2 1 8 (.t 124) (.t 132)), none, []⟩, ⟨(some 14), (.mov (.t 133)), none, []⟩])))) (.region [⟨(some 91),
  (.mov (.t 15)), none, []⟩, ⟨(some 92), (.bin .add (.t 91) (.c (.int .i64 1))), none, []⟩, ⟨(some 15), (.mov (.t 92)), none, []⟩])))))) (.seq (.region [⟨(some 134), (.lea 2 (.t 12)), none, []⟩, ⟨(some 135), (.load none none (.t 134)), none,
  []⟩, ⟨(some 136), (.lea 2 (.t 3)), none, []⟩, ⟨(some 137), (.load none none (.t 136)), none, []⟩, ⟨(some 138), (.mov (.t 11)), none, []⟩, ⟨(some 139), (.mov (.t 13)), none, []⟩, ⟨(some 140), (.idx 1 (.t 138) (.t 139)), none, []⟩, ⟨(some
  141), (.load none none (.t 140)), none, []⟩, ⟨(some 142), (.idx 1 (.t 137) (.t 141)), none, []⟩, ⟨(some 143), (.load none none (.t 142)), none, []⟩, ⟨(some 144), (.mk 4 1 [(.bool false)] [(0, (1, (.t 143)))]), none, []⟩, ⟨(some 145), (.app
  4 1 1 (.t 135) (.t 144)), none, []⟩, ⟨(some 146), (.lea 2 (.t 12)), none, []⟩, ⟨none, (.store none 1 (.t 146) (.t 145)), none, []⟩]) (.region [⟨(some 147), (.lea 3 (.t 12)), none, []⟩, ⟨(some 148), (.load none none (.t 147)), none, []⟩,
  ⟨(some 149), (.mov (.t 14)), none, []⟩, ⟨(some 150), (.mk 37 1 [.nils] [(0, (1, (.t 149)))]), none, []⟩, ⟨(some 151), (.app 37 1 24 (.t 148) (.t 150)), none, []⟩, ⟨(some 152), (.lea 3 (.t 12)), none, []⟩, ⟨none, (.store none 1 (.t 152) (.t
  151)), none, []⟩]))))) (.region [⟨(some 77), (.mov (.t 13)), none, []⟩, ⟨(some 78), (.bin .add (.t 77) (.c (.int .i64 1))), none, []⟩, ⟨(some 13), (.mov (.t 78)), none, []⟩])))))) (.seq (.region [⟨(some 153), (.load none (some 4) (.t 12)),
  none, []⟩, ⟨none, (.store none 4 (.t 2) (.t 153)), none, []⟩]) .ret)))))))))))))⟩
theorem irOk66 : compFun Tryd.prog.underlying Tryd.prog.info? sq Tryd.f66 = some ir66 := by kernel_rfl
def ir67 : BFun := ⟨[(.tmp 2), (.tmp 3)], (.seq (.region [⟨(some 2), (.mov (.c .nils)), none, []⟩, ⟨(some 3), (.mov (.c (.bool false))), none, []⟩]) (.seq (.region [⟨(some 15), (.mov (.t 0)), none, []⟩, ⟨(some 16), (.nilck (.t 15)), none,
  []⟩, ⟨(some 17), (.lea 2 (.t 16)), none, []⟩, ⟨(some 18), (.load none none (.t 17)), none, []⟩, ⟨(some 19), (.len 1 (.t 18)), none, []⟩, ⟨(some 20), (.mksl 4 1 [(.bool false)] (.t 19) (.t 19)), none, []⟩, ⟨(some 4), (.mov (.t 20)), none,
  []⟩]) (.seq (.region [⟨(some 21), (.mov (.t 4)), none, []⟩, ⟨(some 22), (.mov (.t 0)), none, []⟩, ⟨(some 23), (.nilck (.t 22)), none, []⟩, ⟨(some 24), (.lea 1 (.t 23)), none, []⟩, ⟨(some 25), (.load none none (.t 24)), none, []⟩, ⟨(some
  26), (.idx 1 (.t 21) (.t 25)), none, []⟩, ⟨none, (.store none 1 (.t 26) (.c (.bool true))), none, []⟩]) (.seq (.region [⟨(some 27), (.mov (.t 0)), none, []⟩, ⟨(some 28), (.nilck (.t 27)), none, []⟩, ⟨(some 29), (.lea 1 (.t 28)), none, []⟩,
  ⟨(some 30), (.load none none (.t 29)), none, []⟩, ⟨(some 31), (.mk 2 1 [(.int .i64 0)] [(0, (1, (.t 30)))]), none, []⟩, ⟨(some 5), (.mov (.t 31)), none, []⟩]) (.seq (.region [⟨(some 32), (.mk 3 1 [(.int .i64 0)] [(0, (1, (.c (.int .i64
  (-1)))))]), none, []⟩, ⟨(some 6), (.mov (.t 32)), none, []⟩]) (.seq (.region [⟨(some 33), (.mk 2 1 [(.int .i64 0)] [(0, (1, (.c (.int .i64 0))))]), none, []⟩, ⟨(some 7), (.mov (.t 33)), none, []⟩]) (.seq (.seq (.region [⟨(some 8), (.mov
  (.c (.int .i64 0))), none, []⟩]) (.block 0 (.loop (.seq (.seq (.region [⟨(some 34), (.mov (.t 8)), none, []⟩, ⟨(some 35), (.mov (.t 5)), none, []⟩, ⟨(some 36), (.len 1 (.t 35)), none, []⟩, ⟨(some 37), (.bin .lss (.t 34) (.t 36)), none,
  []⟩]) (.cond (.t 37) .skip (.exit 0))) (.seq (.block 1 (.seq (.seq (.region [⟨(some 40), (.mov (.t 0)), none, []⟩, ⟨(some 41), (.nilck (.t 40)), none, []⟩, ⟨(some 42), (.lea 2 (.t 41)), none, []⟩, ⟨(some 43), (.load none none (.t 42)),
  none, []⟩, ⟨(some 44), (.mov (.t 5)), none, []⟩, ⟨(some 45), (.mov (.t 8)), none, []⟩, ⟨(some 46), (.idx 1 (.t 44) (.t 45)), none, []⟩, ⟨(some 47), (.load none none (.t 46)), none, []⟩, ⟨(some 48), (.idx 1 (.t 43) (.t 47)), none, []⟩,
  ⟨(some 49), (.load none none (.t 48)), none, []⟩]) (.cond (.t 49) (.seq (.region [⟨(some 50), (.mk 2 0 [] []), none, []⟩, ⟨(some 9), (.mov (.t 50)), none, []⟩]) (.seq (.seq (.region [⟨(some 51), (.mov (.t 8)), none, []⟩, ⟨(some 10), (.mov
  (.t 51)), none, []⟩]) (.block 2 (.loop (.seq (.seq (.region [⟨(some 52), (.mov (.t 6)), none, []⟩, ⟨(some 53), (.mov (.t 10)), none, []⟩, ⟨(some 54), (.idx 1 (.t 52) (.t 53)), none, []⟩, ⟨(some 55), (.load none none (.t 54)), none, []⟩,
  ⟨(some 56), (.bin .geq (.t 55) (.c (.int .i64 0))), none, []⟩]) (.cond (.t 56) .skip (.exit 2))) (.seq (.block 3 (.region [⟨(some 61), (.mov (.t 9)), none, []⟩, ⟨(some 62), (.mov (.t 7)), none, []⟩, ⟨(some 63), (.mov (.t 10)), none, []⟩,
  ⟨(some 64), (.idx 1 (.t 62) (.t 63)), none, []⟩, ⟨(some 65), (.load none none (.t 64)), none, []⟩, ⟨(some 66), (.mk 2 1 [(.int .i64 0)] [(0, (1, (.t 65)))]), none, []⟩, ⟨(some 67), (.app 2 1 8 (.t 61) (.t 66)), none, []⟩, ⟨(some 9), (.mov
  (.t 67)), none, []⟩])) (.region [⟨(some 57), (.mov (.t 6)), none, []⟩, ⟨(some 58), (.mov (.t 10)), none, []⟩, ⟨(some 59), (.idx 1 (.t 57) (.t 58)), none, []⟩, ⟨(some 60), (.load none none (.t 59)), none, []⟩, ⟨(some 10), (.mov (.t 60)),
  none, []⟩])))))) (.seq (.region [⟨(some 68), (.mk 2 0 [] []), none, []⟩, ⟨(some 11), (.mov (.t 68)), none, []⟩]) (.seq (.seq (.region [⟨(some 69), (.mov (.t 9)), none, []⟩, ⟨(some 70), (.len 1 (.t 69)), none, []⟩, ⟨(some 71), (.bin .sub
  (.t 70) (.c (.int .i64 1))), none, []⟩, ⟨(some 12), (.mov (.t 71)), none, []⟩]) (.block 4 (.loop (.seq (.seq (.region [⟨(some 72), (.mov (.t 12)), none, []⟩, ⟨(some 73), (.bin .geq (.t 72) (.c (.int .i64 0))), none, []⟩]) (.cond (.t 73)
  .skip (.exit 4))) (.seq (.block 5 (.region [⟨(some 76), (.mov (.t 11)), none, []⟩, ⟨(some 77), (.mov (.t 9)), none, []⟩, ⟨(some 78), (.mov (.t 12)), none, []⟩, ⟨(some 79), (.idx 1 (.t 77) (.t 78)), none, []⟩, ⟨(some 80), (.load none none
  (.t 79)), none, []⟩, ⟨(some 81), (.mk 2 1 [(.int .i64 0)] [(0, (1, (.t 80)))]), none, []⟩, ⟨(some 82), (.app 2 1 8 (.t 76) (.t 81)), none, []⟩, ⟨(some 11), (.mov (.t 82)), none, []⟩])) (.region [⟨(some 74), (.mov (.t 12)), none, []⟩,
  ⟨(some 75), (.bin .sub (.t 74) (.c (.int .i64 1))), none, []⟩, ⟨(some 12), (.mov (.t 75)), none, []⟩])))))) (.seq (.region [⟨(some 83), (.mov (.t 11)), none, []⟩, ⟨(some 2), (.mov (.t 83)), none, []⟩, ⟨(some 3), (.mov (.c (.bool true))),
  none, []⟩]) .ret))))) .skip)) (.seq (.region [⟨(some 13), (.mov (.c (.int .i64 0))), none, []⟩]) (.block 6 (.loop (.seq (.seq (.region [⟨(some 84), (.mov (.t 13)), none, []⟩, ⟨(some 85), (.mov (.t 0)), none, []⟩, ⟨(some 86), (.nilck (.t
  85)), none, []⟩, ⟨(some 87), (.lea 3 (.t 86)), none, []⟩, ⟨(some 88), (.load none none (.t 87)), none, []⟩, ⟨(some 89), (.mov (.t 5)), none, []⟩, ⟨(some 90), (.mov (.t 8)), none, []⟩, ⟨(some 91), (.idx 1 (.t 89) (.t 90)), none, []⟩, ⟨(some
  92), (.load none none (.t 91)), none, []⟩, ⟨(some 93), (.idx 1 (.t 88) (.t 92)), none, []⟩, ⟨(some 94), (.load none none (.t 93)), none, []⟩, ⟨(some 95), (.len 1 (.t 94)), none, []⟩, ⟨(some 96), (.bin .lss (.t 84) (.t 95)), none, []⟩])
  (.cond (.t 96) .skip (.exit 6))) (.seq (.block 7 (.seq (.region [⟨(some 99), (.mov (.t 0)), none, []⟩, ⟨(some 100), (.nilck (.t 99)), none, []⟩, ⟨(some 101), (.lea 3 (.t 100)), none, []⟩, ⟨(some 102), (.load none none (.t 101)), none, []⟩,
  ⟨(some 103), (.mov (.t 5)), none, []⟩, ⟨(some 104), (.mov (.t 8)), none, []⟩, ⟨(some 105), (.idx 1 (.t 103) (.t 104)), none, []⟩, ⟨(some 106), (.load none none (.t 105)), none, []⟩, ⟨(some 107), (.idx 1 (.t 102) (.t 106)), none, []⟩,
  ⟨(some 108), (.load none none (.t 107)), none, []⟩, ⟨(some 109), (.mov (.t 13)), none, []⟩, ⟨(some 110), (.idx 1 (.t 108) (.t 109)), none, []⟩, ⟨(some 111), (.load none none (.t 110)), none, []⟩, ⟨(some 14), (.mov (.t 111)), none, []⟩])
  (.seq (.region [⟨(some 112), (.mov (.t 4)), none, []⟩, ⟨(some 113), (.mov (.t 14)), none, []⟩, ⟨(some 114), (.idx 1 (.t 112) (.t 113)), none, []⟩, ⟨(some 115), (.load none none (.t 114)), none, []⟩, ⟨(some 116), (.not (.t 115)), none,
  []⟩]) (.cond (.t 116) (.seq (.region [⟨(some 117), (.mov (.t 4)), none, []⟩, ⟨(some 118), (.mov (.t 14)), none, []⟩, ⟨(some 119), (.idx 1 (.t 117) (.t 118)), none, []⟩, ⟨none, (.store none 1 (.t 119) (.c (.bool true))), none, []⟩]) (.seq
  (.region [⟨(some 120), (.mov (.t 5)), none, []⟩, ⟨(some 121), (.mov (.t 14)), none, []⟩, ⟨(some 122), (.mk 2 1 [(.int .i64 0)] [(0, (1, (.t 121)))]), none, []⟩, ⟨(some 123), (.app 2 1 8 (.t 120) (.t 122)), none, []⟩, ⟨(some 5), (.mov (.t
  123)), none, []⟩]) (.seq (.region [⟨(some 124), (.mov (.t 6)), none, []⟩, ⟨(some 125), (.mov (.t 8)), none, []⟩, ⟨(some 126), (.mk 3 1 [(.int .i64 0)] [(0, (1, (.t 125)))]), none, []⟩, ⟨(some 127), (.app 3 1 8 (.t 124) (.t 126)), none,
  []⟩, ⟨(some 6), (.mov (.t 127)), none, []⟩]) (.region [⟨(some 128), (.mov (.t 7)), none, []⟩, ⟨(some 129), (.mov (.t 13)), none, []⟩, ⟨(some 130), (.mk 2 1 [(.int .i64 0)] [(0, (1, (.t 129)))]), none, []⟩, ⟨(some 131), (.app 2 1 8 (.t 128)
  (.t 130)), none, []⟩, ⟨(some 7), (.mov (.t 131)), none, []⟩])))) .skip)))) (.region [⟨(some 97), (.mov (.t 13)), none, []⟩, ⟨(some 98), (.bin .add (.t 97) (.c (.int .i64 1))), none, []⟩, ⟨(some 13), (.mov (.t 98)), none, []⟩]))))))))
  (.region [⟨(some 38), (.mov (.t 8)), none, []⟩, ⟨(some 39), (.bin .add (.t 38) (.c (.int .i64 1))), none, []⟩, ⟨(some 8), (.mov (.t 39)), none, []⟩])))))) (.seq (.region [⟨(some 132), (.mk 2 0 [] []), none, []⟩, ⟨(some 2), (.mov (.t 132)),
  none, []⟩, ⟨(some 3), (.mov (.c (.bool false))), none, []⟩]) .ret))))))))⟩
theorem irOk67 : compFun Tryd.prog.underlying Tryd.prog.info? sq Tryd.f67 = some ir67 := by kernel_rfl
def ir69 : BFun := ⟨[(.tmp 4), (.tmp 5)], (.seq (.region [⟨(some 4), (.mov (.c (.str ⟨#[]⟩))), none, []⟩, ⟨(some 5), (.mov (.c (.int .i64 0))), none, []⟩]) (.seq (.region [⟨(some 6), (.mov (.c (.int .i64 0))), none, []⟩]) (.seq (.seq
  (.region [⟨(some 15), (.mov (.t 1)), none, []⟩]) (.cond (.t 15) (.seq (.region [⟨(some 16), (.mov (.t 0)), none, []⟩, ⟨(some 17), (.nilck (.t 16)), none, []⟩, ⟨(some 18), (.lea 2 (.t 17)), none, []⟩, ⟨(some 19), (.load none none (.t 18)),
  none, []⟩, ⟨(some 20), (.len 1 (.t 19)), none, []⟩, ⟨(some 6), (.mov (.t 20)), none, []⟩]) (.block 0 (.loop (.seq (.seq (.region [⟨(some 21), (.mov (.t 0)), none, []⟩, ⟨(some 22), (.mov (.t 6)), none, []⟩, ⟨(some 23), (.call (.c (.fn 95
  [])) [(.t 21), (.t 22)]), none, []⟩, ⟨(some 24), (.bin .eql (.t 23) (.c (.int .i64 0))), none, []⟩]) (.cond (.t 24) .skip (.exit 0))) (.seq (.block 1 (.seq (.region [⟨(some 27), (.mov (.t 6)), none, []⟩, ⟨(some 28), (.bin .eql (.t 27) (.c
  (.int .i64 0))), none, []⟩]) (.cond (.t 28) (.exit 0) .skip))) (.region [⟨(some 25), (.mov (.t 6)), none, []⟩, ⟨(some 26), (.bin .sub (.t 25) (.c (.int .i64 1))), none, []⟩, ⟨(some 6), (.mov (.t 26)), none, []⟩])))))) (.block 2 (.loop
  (.seq (.seq (.region [⟨(some 29), (.mov (.t 0)), none, []⟩, ⟨(some 30), (.mov (.t 6)), none, []⟩, ⟨(some 31), (.call (.c (.fn 95 [])) [(.t 29), (.t 30)]), none, []⟩, ⟨(some 32), (.bin .eql (.t 31) (.c (.int .i64 0))), none, []⟩]) (.cond
  (.t 32) .skip (.exit 2))) (.block 3 (.region [⟨(some 33), (.mov (.t 6)), none, []⟩, ⟨(some 34), (.bin .add (.t 33) (.c (.int .i64 1))), none, []⟩, ⟨(some 6), (.mov (.t 34)), none, []⟩]))))))) (.seq (.seq (.region [⟨(some 35), (.mov (.t
  6)), none, []⟩, ⟨(some 36), (.bin .gtr (.t 35) (.c (.int .i64 40))), none, []⟩]) (.cond (.t 36) (.seq (.region [⟨(some 4), (.mov (.c (.str ⟨#[]⟩))), none, []⟩, ⟨(some 5), (.mov (.c (.int .i64 3))), none, []⟩]) .ret) .skip)) (.seq (.region
  [⟨(some 37), (.mov (.t 0)), none, []⟩, ⟨(some 38), (.mov (.t 6)), none, []⟩, ⟨(some 39), (.call (.c (.fn 96 [])) [(.t 37), (.t 38)]), none, []⟩, ⟨(some 7), (.mov (.t 39)), none, []⟩]) (.seq (.region [⟨(some 40), (.mov (.t 6)), none, []⟩,
  ⟨(some 41), (.mksl 5 1 [(.int .u8 0)] (.t 40) (.t 40)), none, []⟩, ⟨(some 8), (.mov (.t 41)), none, []⟩]) (.seq (.region [⟨(some 42), (.mk 4 0 [] []), none, []⟩, ⟨(some 9), (.mov (.t 42)), none, []⟩]) (.seq (.seq (.region [⟨(some 10),
  (.mov (.c (.int .i64 0))), none, []⟩]) (.block 4 (.loop (.seq (.seq (.region [⟨(some 43), (.mov (.t 10)), none, []⟩, ⟨(some 44), (.mov (.t 0)), none, []⟩, ⟨(some 45), (.nilck (.t 44)), none, []⟩, ⟨(some 46), (.lea 2 (.t 45)), none, []⟩,
  ⟨(some 47), (.load none none (.t 46)), none, []⟩, ⟨(some 48), (.len 1 (.t 47)), none, []⟩, ⟨(some 49), (.bin .lss (.t 43) (.t 48)), none, []⟩]) (.cond (.t 49) .skip (.exit 4))) (.seq (.block 5 (.region [⟨(some 52), (.mov (.t 9)), none,
  []⟩, ⟨(some 53), (.mov (.t 0)), none, []⟩, ⟨(some 54), (.nilck (.t 53)), none, []⟩, ⟨(some 55), (.lea 2 (.t 54)), none, []⟩, ⟨(some 56), (.load none none (.t 55)), none, []⟩, ⟨(some 57), (.mov (.t 10)), none, []⟩, ⟨(some 58), (.idx 1 (.t
  56) (.t 57)), none, []⟩, ⟨(some 59), (.load none none (.t 58)), none, []⟩, ⟨(some 60), (.mov (.t 59)), none, []⟩, ⟨(some 61), (.mov (.t 7)), (some (60, true)), []⟩, ⟨(some 62), (.mov (.t 6)), (some (60, true)), []⟩, ⟨(some 63), (.idx 1 (.t
  61) (.t 62)), (some (60, true)), []⟩, ⟨(some 64), (.load none none (.t 63)), (some (60, true)), []⟩, ⟨(some 65), (.mov (.t 10)), (some (60, true)), []⟩, ⟨(some 66), (.idx 1 (.t 64) (.t 65)), (some (60, true)), []⟩, ⟨(some 67), (.load none
  none (.t 66)), (some (60, true)), []⟩, ⟨(some 68), (.pick (.t 60) (.t 67) (.c (.bool false))), none, []⟩, ⟨(some 69), (.mk 4 1 [(.bool false)] [(0, (1, (.t 68)))]), none, []⟩, ⟨(some 70), (.app 4 1 1 (.t 52) (.t 69)), none, []⟩, ⟨(some 9),
  (.mov (.t 70)), none, []⟩])) (.region [⟨(some 50), (.mov (.t 10)), none, []⟩, ⟨(some 51), (.bin .add (.t 50) (.c (.int .i64 1))), none, []⟩, ⟨(some 10), (.mov (.t 51)), none, []⟩])))))) (.seq (.seq (.region [⟨(some 71), (.mov (.t 6)),
  none, []⟩, ⟨(some 72), (.bin .sub (.t 71) (.c (.int .i64 1))), none, []⟩, ⟨(some 11), (.mov (.t 72)), none, []⟩]) (.block 6 (.loop (.seq (.seq (.region [⟨(some 73), (.mov (.t 11)), none, []⟩, ⟨(some 74), (.bin .geq (.t 73) (.c (.int .i64
  0))), none, []⟩]) (.cond (.t 74) .skip (.exit 6))) (.seq (.block 7 (.seq (.region [⟨(some 12), (.mov (.c (.int .i64 0))), none, []⟩]) (.seq (.seq (.region [⟨(some 77), (.mov (.t 1)), none, []⟩]) (.cond (.t 77) (.region [⟨(some 12), (.mov
  (.c (.int .i64 1))), none, []⟩]) .skip)) (.seq (.region [⟨(some 78), (.mov (.t 12)), none, []⟩, ⟨(some 13), (.mov (.t 78)), none, []⟩]) (.seq (.region [⟨(some 79), (.mov (.t 0)), none, []⟩, ⟨(some 80), (.mov (.t 7)), none, []⟩, ⟨(some 81),
  (.mov (.t 11)), none, []⟩, ⟨(some 82), (.idx 1 (.t 80) (.t 81)), none, []⟩, ⟨(some 83), (.load none none (.t 82)), none, []⟩, ⟨(some 84), (.mov (.t 9)), none, []⟩, ⟨(some 85), (.mov (.t 13)), none, []⟩, ⟨(some 86), (.call (.c (.fn 97 []))
  [(.t 79), (.t 83), (.t 84), (.t 85)]), none, []⟩, ⟨(some 14), (.mov (.t 86)), none, []⟩]) (.seq (.seq (.region [⟨(some 87), (.mov (.t 14)), none, []⟩, ⟨(some 88), (.call (.c (.fn 98 [])) [(.t 87)]), none, []⟩, ⟨(some 89), (.not (.t 88)),
  none, []⟩]) (.cond (.t 89) (.seq (.region [⟨(some 90), (.mov (.t 12)), none, []⟩, ⟨(some 91), (.bin .sub (.c (.int .i64 1)) (.t 90)), none, []⟩, ⟨(some 13), (.mov (.t 91)), none, []⟩]) (.region [⟨(some 92), (.mov (.t 0)), none, []⟩, ⟨(some
  93), (.mov (.t 7)), none, []⟩, ⟨(some 94), (.mov (.t 11)), none, []⟩, ⟨(some 95), (.idx 1 (.t 93) (.t 94)), none, []⟩, ⟨(some 96), (.load none none (.t 95)), none, []⟩, ⟨(some 97), (.mov (.t 9)), none, []⟩, ⟨(some 98), (.mov (.t 13)),
  none, []⟩, ⟨(some 99), (.call (.c (.fn 97 [])) [(.t 92), (.t 96), (.t 97), (.t 98)]), none, []⟩, ⟨(some 14), (.mov (.t 99)), none, []⟩])) .skip)) (.seq (.region [⟨(some 100), (.mov (.t 8)), none, []⟩, ⟨(some 101), (.mov (.t 11)), none,
  []⟩, ⟨(some 102), (.mov (.t 13)), none, []⟩, ⟨(some 103), (.bin .add (.c (.int .i64 97)) (.t 102)), none, []⟩, ⟨(some 104), (.conv .u8 (.t 103)), none, []⟩, ⟨(some 105), (.idx 1 (.t 100) (.t 101)), none, []⟩, ⟨none, (.store none 1 (.t 105)
  (.t 104)), none, []⟩]) (.region [⟨(some 106), (.mov (.t 14)), none, []⟩, ⟨(some 9), (.mov (.t 106)), none, []⟩])))))))) (.region [⟨(some 75), (.mov (.t 11)), none, []⟩, ⟨(some 76), (.bin .sub (.t 75) (.c (.int .i64 1))), none, []⟩, ⟨(some
  11), (.mov (.t 76)), none, []⟩])))))) (.seq (.region [⟨(some 107), (.mov (.t 8)), none, []⟩, ⟨(some 108), (.b2s 5 (.t 107)), none, []⟩, ⟨(some 4), (.mov (.t 108)), none, []⟩, ⟨(some 5), (.mov (.c (.int .i64 0))), none, []⟩])
  .ret))))))))))⟩
theorem irOk69 : compFun Tryd.prog.underlying Tryd.prog.info? sq Tryd.f69 = some ir69 := by kernel_rfl
def ir70 : BFun := ⟨[(.tmp 2)], (.seq (.region [⟨(some 2), (.mov (.c (.int .i64 0))), none, []⟩]) (.seq (.region [⟨(some 3), (.mov (.c (.int .i64 0))), none, []⟩]) (.seq (.seq (.region [⟨(some 5), (.mov (.t 0)), none, []⟩, ⟨(some 6), (.len 0
  (.t 5)), none, []⟩, ⟨(some 7), (.bin .sub (.t 6) (.c (.int .i64 1))), none, []⟩, ⟨(some 4), (.mov (.t 7)), none, []⟩]) (.block 0 (.loop (.seq (.seq (.region [⟨(some 8), (.mov (.t 4)), none, []⟩, ⟨(some 9), (.bin .geq (.t 8) (.c (.int .i64
  0))), none, []⟩]) (.cond (.t 9) .skip (.exit 0))) (.seq (.block 1 (.region [⟨(some 12), (.mov (.t 3)), none, []⟩, ⟨(some 13), (.bin .mul (.c (.int .i64 2)) (.t 12)), none, []⟩, ⟨(some 14), (.mov (.t 0)), none, []⟩, ⟨(some 15), (.mov (.t
  4)), none, []⟩, ⟨(some 16), (.idxs (.t 14) (.t 15)), none, []⟩, ⟨(some 17), (.bin .sub (.t 16) (.c (.int .u8 97))), none, []⟩, ⟨(some 18), (.conv .i64 (.t 17)), none, []⟩, ⟨(some 19), (.bin .add (.t 13) (.t 18)), none, []⟩, ⟨(some 3),
  (.mov (.t 19)), none, []⟩])) (.region [⟨(some 10), (.mov (.t 4)), none, []⟩, ⟨(some 11), (.bin .sub (.t 10) (.c (.int .i64 1))), none, []⟩, ⟨(some 4), (.mov (.t 11)), none, []⟩])))))) (.seq (.region [⟨(some 20), (.mov (.t 3)), none, []⟩,
  ⟨(some 2), (.mov (.t 20)), none, []⟩]) .ret))))⟩
theorem irOk70 : compFun Tryd.prog.underlying Tryd.prog.info? sq Tryd.f70 = some ir70 := by kernel_rfl
def ir71 : BFun := ⟨[(.cell 2 (some 4))], (.seq (.region [⟨(some 1), (.box 62 (.t 0)), none, []⟩, ⟨(some 2), (.new 62 [(.int .i64 0), (.int .i64 0), .nils, .nils]), none, []⟩]) (.seq (.region [⟨(some 9), (.lea 0 (.t 1)), none, []⟩, ⟨(some
  10), (.load none none (.t 9)), none, []⟩, ⟨(some 11), (.call (.c (.fn 60 [])) [(.t 10)]), none, []⟩, ⟨(some 12), (.mksl 3 8 [(.int .i64 0)] (.t 11) (.t 11)), none, []⟩, ⟨(some 3), (.new 65 [.nils]), none, []⟩, ⟨none, (.store none 1 (.t 3)
  (.t 12)), none, []⟩]) (.seq (.seq (.region [⟨(some 13), (.load none none (.t 3)), none, []⟩, ⟨(some 14), (.len 1 (.t 13)), none, []⟩, ⟨(some 15), (.mov (.c (.int .i64 0))), none, []⟩]) (.block 0 (.loop (.seq (.region [⟨(some 16), (.bin
  .lss (.t 15) (.t 14)), none, []⟩]) (.seq (.cond (.t 16) .skip (.exit 0)) (.seq (.block 1 (.seq (.region [⟨(some 17), (.mov (.t 15)), none, []⟩, ⟨(some 4), (.mov (.t 17)), none, []⟩]) (.seq (.region [⟨(some 18), (.lea 0 (.t 1)), none, []⟩,
  ⟨(some 19), (.load none none (.t 18)), none, []⟩, ⟨(some 20), (.mov (.t 4)), none, []⟩, ⟨(some 21), (.call (.c (.fn 99 [])) [(.t 19), (.t 20)]), none, []⟩, ⟨(some 22), (.len 1 (.t 21)), none, []⟩, ⟨(some 23), (.mov (.c (.int .i64 0))),
  none, []⟩]) (.block 2 (.loop (.seq (.region [⟨(some 24), (.bin .lss (.t 23) (.t 22)), none, []⟩]) (.seq (.cond (.t 24) .skip (.exit 2)) (.seq (.block 3 (.seq (.region [⟨(some 25), (.mov (.t 23)), none, []⟩, ⟨(some 26), (.idx 1 (.t 21) (.t
  23)), none, []⟩, ⟨(some 27), (.load none none (.t 26)), none, []⟩, ⟨(some 5), (.mov (.t 25)), none, []⟩, ⟨(some 6), (.mov (.t 27)), none, []⟩]) (.seq (.region [⟨(some 28), (.mov (.t 6)), none, []⟩, ⟨(some 29), (.bin .eql (.t 28) (.c (.int
  .i64 2))), none, []⟩]) (.cond (.t 29) (.region [⟨(some 30), (.load none none (.t 3)), none, []⟩, ⟨(some 31), (.mov (.t 4)), none, []⟩, ⟨(some 32), (.idx 1 (.t 30) (.t 31)), none, []⟩, ⟨(some 33), (.load none none (.t 32)), none, []⟩,
  ⟨(some 34), (.mov (.t 5)), none, []⟩, ⟨(some 35), (.bin .shl (.c (.int .i64 1)) (.t 34)), none, []⟩, ⟨(some 36), (.bin .or (.t 33) (.t 35)), none, []⟩, ⟨(some 37), (.idx 1 (.t 30) (.t 31)), none, []⟩, ⟨none, (.store none 1 (.t 37) (.t
  36)), none, []⟩]) .skip)))) (.region [⟨(some 38), (.bin .add (.t 23) (.c (.int .i64 1))), none, []⟩, ⟨(some 23), (.mov (.t 38)), none, []⟩]))))))))) (.region [⟨(some 39), (.bin .add (.t 15) (.c (.int .i64 1))), none, []⟩, ⟨(some 15), (.mov
  (.t 39)), none, []⟩]))))))) (.seq (.region [⟨(some 41), (.lea 0 (.t 1)), none, []⟩, ⟨(some 42), (.load none none (.t 41)), none, []⟩, ⟨(some 43), (.lea 1 (.t 1)), none, []⟩, ⟨(some 44), (.load none none (.t 43)), none, []⟩, ⟨(some 45),
  (.build [(.int .i64 0), (.int .i64 0)] [(0, (1, (.t 44)))]), none, []⟩, ⟨(some 46), (.mkfn 101 [(.t 1)]), none, []⟩, ⟨(some 47), (.mkfn 102 [(.t 3), (.t 1)]), none, []⟩, ⟨(some 48), (.call (.c (.fn 100 [])) [(.t 42), (.t 45), (.c (.int
  .i64 0)), (.t 46), (.t 47)]), none, []⟩, ⟨(some 40), (.mov (.t 48)), none, []⟩, ⟨(some 49), (.ext 0 (.t 40)), none, []⟩, ⟨(some 50), (.ext 1 (.t 40)), none, []⟩, ⟨(some 7), (.new 62 [(.int .i64 0), (.int .i64 0), .nils, .nils]), none, []⟩,
  ⟨none, (.store none 4 (.t 7) (.t 49)), none, []⟩, ⟨(some 8), (.mov (.t 50)), none, []⟩]) (.seq (.region [⟨(some 51), (.load none (some 4) (.t 7)), none, []⟩, ⟨(some 52), (.call (.c (.fn 103 [])) [(.t 51)]), none, []⟩, ⟨none, (.store none 4
  (.t 2) (.t 52)), none, []⟩]) .ret)))))⟩
theorem irOk71 : compFun Tryd.prog.underlying Tryd.prog.info? sq Tryd.f71 = some ir71 := by kernel_rfl
def ir72 : BFun := ⟨[(.tmp 2)], (.seq (.region [⟨(some 2), (.mov (.c (.int .i64 0))), none, []⟩]) (.seq (.region [⟨(some 3), (.mov (.c (.int .i64 0))), none, []⟩]) (.seq (.seq (.region [⟨(some 5), (.mov (.t 0)), none, []⟩, ⟨(some 6), (.len 0
  (.t 5)), none, []⟩, ⟨(some 7), (.bin .sub (.t 6) (.c (.int .i64 1))), none, []⟩, ⟨(some 4), (.mov (.t 7)), none, []⟩]) (.block 0 (.loop (.seq (.seq (.region [⟨(some 8), (.mov (.t 4)), none, []⟩, ⟨(some 9), (.bin .geq (.t 8) (.c (.int .i64
  0))), none, []⟩]) (.cond (.t 9) .skip (.exit 0))) (.seq (.block 1 (.region [⟨(some 12), (.mov (.t 3)), none, []⟩, ⟨(some 13), (.bin .mul (.c (.int .i64 2)) (.t 12)), none, []⟩, ⟨(some 14), (.mov (.t 0)), none, []⟩, ⟨(some 15), (.mov (.t
  4)), none, []⟩, ⟨(some 16), (.idxs (.t 14) (.t 15)), none, []⟩, ⟨(some 17), (.bin .sub (.t 16) (.c (.int .u8 97))), none, []⟩, ⟨(some 18), (.conv .i64 (.t 17)), none, []⟩, ⟨(some 19), (.bin .add (.t 13) (.t 18)), none, []⟩, ⟨(some 3),
  (.mov (.t 19)), none, []⟩])) (.region [⟨(some 10), (.mov (.t 4)), none, []⟩, ⟨(some 11), (.bin .sub (.t 10) (.c (.int .i64 1))), none, []⟩, ⟨(some 4), (.mov (.t 11)), none, []⟩])))))) (.seq (.region [⟨(some 20), (.mov (.t 3)), none, []⟩,
  ⟨(some 2), (.mov (.t 20)), none, []⟩]) .ret))))⟩
theorem irOk72 : compFun Tryd.prog.underlying Tryd.prog.info? sq Tryd.f72 = some ir72 := by kernel_rfl
def ir74 : BFun := ⟨[(.tmp 2)], (.seq (.region [⟨(some 2), (.mov (.c (.int .i64 0))), none, []⟩]) (.seq (.region [⟨(some 3), (.mov (.t 0)), none, []⟩, ⟨(some 4), (.call (.c (.fn 91 [])) [(.t 3)]), none, []⟩, ⟨(some 5), (.bin .sub (.t 4) (.c
  (.int .i64 1))), none, []⟩, ⟨(some 2), (.mov (.t 5)), none, []⟩]) .ret))⟩
theorem irOk74 : compFun Tryd.prog.underlying Tryd.prog.info? sq Tryd.f74 = some ir74 := by kernel_rfl
def ir79 : BFun := ⟨[(.cell 2 (some 4)), (.tmp 3)], (.seq (.region [⟨(some 1), (.box 62 (.t 0)), none, []⟩, ⟨(some 2), (.new 29 [(.int .i64 0), (.int .i64 0), .nils, .nils]), none, []⟩, ⟨(some 3), (.mov (.c (.int .i64 0))), none, []⟩]) (.seq
  (.region [⟨(some 4), (.load none (some 4) (.t 1)), none, []⟩, ⟨(some 5), (.call (.c (.fn 71 [])) [(.t 4)]), none, []⟩, ⟨(some 6), (.call (.c (.fn 109 [])) [(.t 5)]), none, []⟩, ⟨(some 7), (.ext 0 (.t 6)), none, []⟩, ⟨(some 8), (.ext 1 (.t
  6)), none, []⟩, ⟨none, (.store none 4 (.t 2) (.t 7)), none, []⟩, ⟨(some 3), (.mov (.t 8)), none, []⟩]) .ret))⟩
theorem irOk79 : compFun Tryd.prog.underlying Tryd.prog.info? sq Tryd.f79 = some ir79 := by kernel_rfl
def ir81 : BFun := ⟨[(.tmp 4)], (.seq (.region [⟨(some 4), (.mov (.c (.int .i64 0))), none, []⟩]) (.seq (.seq (.region [⟨(some 5), (.mov (.t 0)), none, []⟩, ⟨(some 6), (.call (.c (.fn 25 [])) [(.t 5)]), none, []⟩, ⟨(some 7), (.not (.t 6)),
  none, []⟩, ⟨(some 8), (.mov (.t 7)), none, []⟩, ⟨(some 9), (.mov (.t 1)), (some (8, false)), []⟩, ⟨(some 10), (.call (.c (.fn 25 [])) [(.t 9)]), (some (8, false)), []⟩, ⟨(some 11), (.not (.t 10)), (some (8, false)), []⟩, ⟨(some 12), (.pick
  (.t 8) (.c (.bool true)) (.t 11)), none, []⟩]) (.cond (.t 12) (.seq (.region [⟨(some 4), (.mov (.c (.int .i64 1))), none, []⟩]) .ret) .skip)) (.seq (.seq (.region [⟨(some 13), (.mov (.t 0)), none, []⟩, ⟨(some 14), (.nilck (.t 13)), none,
  []⟩, ⟨(some 15), (.lea 0 (.t 14)), none, []⟩, ⟨(some 16), (.load none none (.t 15)), none, []⟩, ⟨(some 17), (.mov (.t 1)), none, []⟩, ⟨(some 18), (.nilck (.t 17)), none, []⟩, ⟨(some 19), (.lea 0 (.t 18)), none, []⟩, ⟨(some 20), (.load none
  none (.t 19)), none, []⟩, ⟨(some 21), (.bin .neq (.t 16) (.t 20)), none, []⟩]) (.cond (.t 21) (.seq (.region [⟨(some 4), (.mov (.c (.int .i64 2))), none, []⟩]) .ret) .skip)) (.seq (.region [⟨(some 4), (.mov (.c (.int .i64 0))), none, []⟩])
  .ret))))⟩
theorem irOk81 : compFun Tryd.prog.underlying Tryd.prog.info? sq Tryd.f81 = some ir81 := by kernel_rfl
def ir82 : BFun := ⟨[(.cell 6 (some 4))], (.seq (.region [⟨(some 6), (.new 29 [(.int .i64 0), (.int .i64 0), .nils, .nils]), none, []⟩]) (.seq (.region [⟨(some 13), (.mov (.t 0)), none, []⟩, ⟨(some 14), (.mov (.t 1)), none, []⟩, ⟨(some 15),
  (.call (.c (.fn 110 [])) [(.t 13), (.t 14)]), none, []⟩, ⟨(some 7), (.new 29 [(.int .i64 0), (.int .i64 0), .nils, .nils]), none, []⟩, ⟨none, (.store none 4 (.t 7) (.t 15)), none, []⟩]) (.seq (.region [⟨(some 16), (.mov (.t 1)), none, []⟩,
  ⟨(some 17), (.nilck (.t 16)), none, []⟩, ⟨(some 18), (.lea 2 (.t 17)), none, []⟩, ⟨(some 19), (.load none none (.t 18)), none, []⟩, ⟨(some 20), (.len 1 (.t 19)), none, []⟩, ⟨(some 8), (.mov (.t 20)), none, []⟩]) (.seq (.seq (.region
  [⟨(some 9), (.mov (.c (.int .i64 0))), none, []⟩]) (.block 0 (.loop (.seq (.seq (.region [⟨(some 21), (.mov (.t 9)), none, []⟩, ⟨(some 22), (.mov (.t 0)), none, []⟩, ⟨(some 23), (.nilck (.t 22)), none, []⟩, ⟨(some 24), (.lea 2 (.t 23)),
  none, []⟩, ⟨(some 25), (.load none none (.t 24)), none, []⟩, ⟨(some 26), (.len 1 (.t 25)), none, []⟩, ⟨(some 27), (.bin .lss (.t 21) (.t 26)), none, []⟩]) (.cond (.t 27) .skip (.exit 0))) (.seq (.block 1 (.seq (.region [⟨(some 10), (.mov
  (.c (.int .i64 0))), none, []⟩]) (.block 2 (.loop (.seq (.seq (.region [⟨(some 30), (.mov (.t 10)), none, []⟩, ⟨(some 31), (.mov (.t 8)), none, []⟩, ⟨(some 32), (.bin .lss (.t 30) (.t 31)), none, []⟩]) (.cond (.t 32) .skip (.exit 2)))
  (.seq (.block 3 (.seq (.region [⟨(some 35), (.mov (.t 0)), none, []⟩, ⟨(some 36), (.nilck (.t 35)), none, []⟩, ⟨(some 37), (.lea 2 (.t 36)), none, []⟩, ⟨(some 38), (.load none none (.t 37)), none, []⟩, ⟨(some 39), (.mov (.t 9)), none, []⟩,
  ⟨(some 40), (.idx 1 (.t 38) (.t 39)), none, []⟩, ⟨(some 41), (.load none none (.t 40)), none, []⟩, ⟨(some 11), (.mov (.t 41)), none, []⟩]) (.seq (.region [⟨(some 42), (.mov (.t 1)), none, []⟩, ⟨(some 43), (.nilck (.t 42)), none, []⟩,
  ⟨(some 44), (.lea 2 (.t 43)), none, []⟩, ⟨(some 45), (.load none none (.t 44)), none, []⟩, ⟨(some 46), (.mov (.t 10)), none, []⟩, ⟨(some 47), (.idx 1 (.t 45) (.t 46)), none, []⟩, ⟨(some 48), (.load none none (.t 47)), none, []⟩, ⟨(some
  12), (.mov (.t 48)), none, []⟩]) (.seq (.region [⟨(some 49), (.mov (.t 2)), none, []⟩]) (.block 4 (.seq (.region [⟨(some 64), (.bin .eql (.t 49) (.c (.int .i64 1))), none, []⟩, ⟨(some 63), (.mov (.t 64)), none, []⟩]) (.cond (.t 63)
  (.region [⟨(some 65), (.lea 2 (.t 7)), none, []⟩, ⟨(some 66), (.load none none (.t 65)), none, []⟩, ⟨(some 67), (.mov (.t 9)), none, []⟩, ⟨(some 68), (.mov (.t 8)), none, []⟩, ⟨(some 69), (.bin .mul (.t 67) (.t 68)), none, []⟩, ⟨(some 70),
  (.mov (.t 10)), none, []⟩, ⟨(some 71), (.bin .add (.t 69) (.t 70)), none, []⟩, ⟨(some 72), (.mov (.t 11)), none, []⟩, ⟨(some 73), (.mov (.t 72)), none, []⟩, ⟨(some 74), (.mov (.t 12)), (some (73, true)), []⟩, ⟨(some 75), (.pick (.t 73) (.t
  74) (.c (.bool false))), none, []⟩, ⟨(some 76), (.idx 1 (.t 66) (.t 71)), none, []⟩, ⟨none, (.store none 1 (.t 76) (.t 75)), none, []⟩]) (.seq (.region [⟨(some 78), (.bin .eql (.t 49) (.c (.int .i64 2))), none, []⟩, ⟨(some 77), (.mov (.t
  78)), none, []⟩]) (.cond (.t 77) (.region [⟨(some 79), (.lea 2 (.t 7)), none, []⟩, ⟨(some 80), (.load none none (.t 79)), none, []⟩, ⟨(some 81), (.mov (.t 9)), none, []⟩, ⟨(some 82), (.mov (.t 8)), none, []⟩, ⟨(some 83), (.bin .mul (.t 81)
  (.t 82)), none, []⟩, ⟨(some 84), (.mov (.t 10)), none, []⟩, ⟨(some 85), (.bin .add (.t 83) (.t 84)), none, []⟩, ⟨(some 86), (.mov (.t 11)), none, []⟩, ⟨(some 87), (.mov (.t 86)), none, []⟩, ⟨(some 88), (.mov (.t 12)), (some (87, false)),
  []⟩, ⟨(some 89), (.pick (.t 87) (.c (.bool true)) (.t 88)), none, []⟩, ⟨(some 90), (.idx 1 (.t 80) (.t 85)), none, []⟩, ⟨none, (.store none 1 (.t 90) (.t 89)), none, []⟩]) (.region [⟨(some 50), (.lea 2 (.t 7)), none, []⟩, ⟨(some 51),
  (.load none none (.t 50)), none, []⟩, ⟨(some 52), (.mov (.t 9)), none, []⟩, ⟨(some 53), (.mov (.t 8)), none, []⟩, ⟨(some 54), (.bin .mul (.t 52) (.t 53)), none, []⟩, ⟨(some 55), (.mov (.t 10)), none, []⟩, ⟨(some 56), (.bin .add (.t 54) (.t
  55)), none, []⟩, ⟨(some 57), (.mov (.t 11)), none, []⟩, ⟨(some 58), (.mov (.t 57)), none, []⟩, ⟨(some 59), (.mov (.t 12)), (some (58, true)), []⟩, ⟨(some 60), (.not (.t 59)), (some (58, true)), []⟩, ⟨(some 61), (.pick (.t 58) (.t 60) (.c
  (.bool false))), none, []⟩, ⟨(some 62), (.idx 1 (.t 51) (.t 56)), none, []⟩, ⟨none, (.store none 1 (.t 62) (.t 61)), none, []⟩])))))))))) (.region [⟨(some 33), (.mov (.t 10)), none, []⟩, ⟨(some 34), (.bin .add (.t 33) (.c (.int .i64 1))),
  none, []⟩, ⟨(some 10), (.mov (.t 34)), none, []⟩]))))))) (.region [⟨(some 28), (.mov (.t 9)), none, []⟩, ⟨(some 29), (.bin .add (.t 28) (.c (.int .i64 1))), none, []⟩, ⟨(some 9), (.mov (.t 29)), none, []⟩])))))) (.seq (.region [⟨(some 91),
  (.load none (some 4) (.t 7)), none, []⟩, ⟨none, (.store none 4 (.t 6) (.t 91)), none, []⟩]) .ret)))))⟩
theorem irOk82 : compFun Tryd.prog.underlying Tryd.prog.info? sq Tryd.f82 = some ir82 := by kernel_rfl
def ir83 : BFun := ⟨[(.tmp 2)], (.seq (.region [⟨(some 2), (.mov (.c (.int .i64 0))), none, []⟩]) (.seq (.region [⟨(some 3), (.mov (.c (.int .i64 1))), none, []⟩]) (.seq (.block 0 (.loop (.seq (.seq (.region [⟨(some 4), (.mov (.t 0)), none,
  []⟩, ⟨(some 5), (.bin .gtr (.t 4) (.c (.int .i64 0))), none, []⟩]) (.cond (.t 5) .skip (.exit 0))) (.seq (.block 1 (.region [⟨(some 8), (.mov (.t 3)), none, []⟩, ⟨(some 9), (.bin .mul (.t 8) (.c (.int .i64 3))), none, []⟩, ⟨(some 3), (.mov
  (.t 9)), none, []⟩])) (.region [⟨(some 6), (.mov (.t 0)), none, []⟩, ⟨(some 7), (.bin .sub (.t 6) (.c (.int .i64 1))), none, []⟩, ⟨(some 0), (.mov (.t 7)), none, []⟩]))))) (.seq (.region [⟨(some 10), (.mov (.t 3)), none, []⟩, ⟨(some 2),
  (.mov (.t 10)), none, []⟩]) .ret))))⟩
theorem irOk83 : compFun Tryd.prog.underlying Tryd.prog.info? sq Tryd.f83 = some ir83 := by kernel_rfl
def ir84 : BFun := ⟨[(.tmp 4)], (.seq (.region [⟨(some 2), (.box 29 (.t 0)), none, []⟩, ⟨(some 3), (.box 29 (.t 1)), none, []⟩, ⟨(some 4), (.mov (.c (.int .i64 0))), none, []⟩]) (.seq (.block 0 (.seq (.region [⟨(some 6), (.load none (some 4)
  (.t 2)), none, []⟩, ⟨(some 7), (.call (.c (.fn 29 [])) [(.t 6)]), none, []⟩, ⟨(some 8), (.not (.t 7)), none, []⟩, ⟨(some 9), (.mov (.t 8)), none, []⟩, ⟨(some 10), (.load none (some 4) (.t 3)), (some (9, false)), []⟩, ⟨(some 11), (.call (.c
  (.fn 29 [])) [(.t 10)]), (some (9, false)), []⟩, ⟨(some 12), (.not (.t 11)), (some (9, false)), []⟩, ⟨(some 13), (.pick (.t 9) (.c (.bool true)) (.t 12)), none, []⟩, ⟨(some 5), (.mov (.t 13)), none, []⟩]) (.cond (.t 5) (.seq (.region
  [⟨(some 4), (.mov (.c (.int .i64 1))), none, []⟩]) .ret) (.seq (.region [⟨(some 15), (.lea 0 (.t 2)), none, []⟩, ⟨(some 16), (.load none none (.t 15)), none, []⟩, ⟨(some 17), (.lea 0 (.t 3)), none, []⟩, ⟨(some 18), (.load none none (.t
  17)), none, []⟩, ⟨(some 19), (.bin .neq (.t 16) (.t 18)), none, []⟩, ⟨(some 14), (.mov (.t 19)), none, []⟩]) (.cond (.t 14) (.seq (.region [⟨(some 4), (.mov (.c (.int .i64 2))), none, []⟩]) .ret) .skip))))) (.seq (.region [⟨(some 4), (.mov
  (.c (.int .i64 0))), none, []⟩]) .ret)))⟩
theorem irOk84 : compFun Tryd.prog.underlying Tryd.prog.info? sq Tryd.f84 = some ir84 := by kernel_rfl
def ir85 : BFun := ⟨[(.cell 6 (some 4))], (.seq (.region [⟨(some 3), (.box 62 (.t 0)), none, []⟩, ⟨(some 4), (.box 62 (.t 1)), none, []⟩, ⟨(some 5), (.box 98 (.t 2)), none, []⟩, ⟨(some 6), (.new 62 [(.int .i64 0), (.int .i64 0), .nils,
  .nils]), none, []⟩]) (.seq (.region [⟨(some 10), (.lea 0 (.t 3)), none, []⟩, ⟨(some 11), (.load none none (.t 10)), none, []⟩, ⟨(some 12), (.lea 1 (.t 3)), none, []⟩, ⟨(some 13), (.load none none (.t 12)), none, []⟩, ⟨(some 14), (.lea 1
  (.t 4)), none, []⟩, ⟨(some 15), (.load none none (.t 14)), none, []⟩, ⟨(some 16), (.build [(.int .i64 0), (.int .i64 0)] [(0, (1, (.t 13))), (1, (1, (.t 15)))]), none, []⟩, ⟨(some 17), (.mkfn 112 [(.t 5), (.t 3), (.t 4)]), none, []⟩,
  ⟨(some 18), (.mkfn 113 [(.t 3), (.t 4)]), none, []⟩, ⟨(some 19), (.call (.c (.fn 111 [])) [(.t 11), (.t 16), (.c (.int .i64 0)), (.t 17), (.t 18)]), none, []⟩, ⟨(some 9), (.mov (.t 19)), none, []⟩, ⟨(some 20), (.ext 0 (.t 9)), none, []⟩,
  ⟨(some 21), (.ext 1 (.t 9)), none, []⟩, ⟨(some 7), (.new 62 [(.int .i64 0), (.int .i64 0), .nils, .nils]), none, []⟩, ⟨none, (.store none 4 (.t 7) (.t 20)), none, []⟩, ⟨(some 8), (.mov (.t 21)), none, []⟩]) (.seq (.region [⟨(some 22),
  (.load none (some 4) (.t 7)), none, []⟩, ⟨none, (.store none 4 (.t 6) (.t 22)), none, []⟩]) .ret)))⟩
theorem irOk85 : compFun Tryd.prog.underlying Tryd.prog.info? sq Tryd.f85 = some ir85 := by kernel_rfl
def ir86 : BFun := ⟨[(.tmp 4)], (.seq (.region [⟨(some 4), (.mov (.c (.bool false))), none, []⟩]) (.seq (.region [⟨(some 5), (.mov (.t 0)), none, []⟩, ⟨(some 6), (.mov (.t 5)), none, []⟩, ⟨(some 7), (.mov (.t 1)), (some (6, true)), []⟩,
  ⟨(some 8), (.not (.t 7)), (some (6, true)), []⟩, ⟨(some 9), (.pick (.t 6) (.t 8) (.c (.bool false))), none, []⟩, ⟨(some 4), (.mov (.t 9)), none, []⟩]) .ret))⟩
theorem irOk86 : compFun Tryd.prog.underlying Tryd.prog.info? sq Tryd.f86 = some ir86 := by kernel_rfl
def ir87 : BFun := ⟨[(.tmp 2)], (.seq (.region [⟨(some 1), (.box 62 (.t 0)), none, []⟩, ⟨(some 2), (.mov (.c (.bool false))), none, []⟩]) (.seq (.region [⟨(some 3), (.lea 2 (.t 1)), none, []⟩, ⟨(some 4), (.load none none (.t 3)), none, []⟩,
  ⟨(some 5), (.call (.c (.fn 114 [])) [(.t 4), (.c (.bool true))]), none, []⟩, ⟨(some 6), (.not (.t 5)), none, []⟩, ⟨(some 2), (.mov (.t 6)), none, []⟩]) .ret))⟩
theorem irOk87 : compFun Tryd.prog.underlying Tryd.prog.info? sq Tryd.f87 = some ir87 := by kernel_rfl
def ir88 : BFun := ⟨[(.cell 10 (some 4)), (.tmp 11)], (.seq (.region [⟨(some 10), (.new 62 [(.int .i64 0), (.int .i64 0), .nils, .nils]), none, []⟩, ⟨(some 11), (.mov (.c (.bool false))), none, []⟩]) (.seq (.region [⟨(some 22), (.mov (.t
  0)), none, []⟩, ⟨(some 23), (.build [(.int .i64 0), (.int .i64 0), .nils, .nils] [(0, (1, (.t 22)))]), none, []⟩, ⟨(some 12), (.new 62 [(.int .i64 0), (.int .i64 0), .nils, .nils]), none, []⟩, ⟨none, (.store none 4 (.t 12) (.t 23)), none,
  []⟩]) (.seq (.region [⟨(some 24), .mkmap, none, []⟩, ⟨(some 25), (.mov (.t 1)), none, []⟩, ⟨none, (.mset 0 (.t 24) (.t 25) (.c (.int .i64 0))), none, []⟩, ⟨(some 26), (.mov (.t 24)), none, []⟩, ⟨(some 13), (.mov (.t 26)), none, []⟩]) (.seq
  (.region [⟨(some 27), (.mov (.t 1)), none, []⟩, ⟨(some 28), (.mk 3 1 [(.int .i64 0)] [(0, (1, (.t 27)))]), none, []⟩, ⟨(some 14), (.mov (.t 28)), none, []⟩]) (.seq (.seq (.region [⟨(some 15), (.mov (.c (.int .i64 0))), none, []⟩]) (.block
  0 (.loop (.seq (.seq (.region [⟨(some 29), (.mov (.t 15)), none, []⟩, ⟨(some 30), (.mov (.t 14)), none, []⟩, ⟨(some 31), (.len 1 (.t 30)), none, []⟩, ⟨(some 32), (.bin .lss (.t 29) (.t 31)), none, []⟩]) (.cond (.t 32) .skip (.exit 0)))
  (.seq (.block 1 (.seq (.region [⟨(some 35), (.mov (.t 14)), none, []⟩, ⟨(some 36), (.mov (.t 15)), none, []⟩, ⟨(some 37), (.idx 1 (.t 35) (.t 36)), none, []⟩, ⟨(some 38), (.load none none (.t 37)), none, []⟩, ⟨(some 16), (.mov (.t 38)),
  none, []⟩]) (.seq (.region [⟨(some 17), (.mov (.c .nils)), none, []⟩]) (.seq (.seq (.region [⟨(some 18), (.mov (.c (.int .i64 0))), none, []⟩]) (.block 2 (.loop (.seq (.seq (.region [⟨(some 39), (.mov (.t 18)), none, []⟩, ⟨(some 40), (.mov
  (.t 0)), none, []⟩, ⟨(some 41), (.call (.c (.fn 60 [])) [(.t 40)]), none, []⟩, ⟨(some 42), (.bin .lss (.t 39) (.t 41)), none, []⟩]) (.cond (.t 42) .skip (.exit 2))) (.seq (.block 3 (.seq (.region [⟨(some 45), (.mov (.t 4)), none, []⟩,
  ⟨(some 46), (.mov (.t 16)), none, []⟩, ⟨(some 47), (.mov (.t 18)), none, []⟩, ⟨(some 48), (.call (.t 45) [(.t 46), (.t 47)]), none, []⟩, ⟨(some 19), (.mov (.t 48)), none, []⟩]) (.seq (.region [⟨(some 50), (.mov (.t 13)), none, []⟩, ⟨(some
  51), (.mov (.t 19)), none, []⟩, ⟨(some 52), (.look 0 true (.int .i64 0) (.t 50) (.t 51)), none, []⟩, ⟨(some 49), (.mov (.t 52)), none, []⟩, ⟨(some 53), (.ext 0 (.t 49)), none, []⟩, ⟨(some 54), (.ext 1 (.t 49)), none, []⟩, ⟨(some 20), (.mov
  (.t 53)), none, []⟩, ⟨(some 21), (.mov (.t 54)), none, []⟩]) (.seq (.seq (.region [⟨(some 55), (.mov (.t 21)), none, []⟩, ⟨(some 56), (.not (.t 55)), none, []⟩]) (.cond (.t 56) (.seq (.region [⟨(some 57), (.mov (.t 14)), none, []⟩, ⟨(some
  58), (.len 1 (.t 57)), none, []⟩, ⟨(some 20), (.mov (.t 58)), none, []⟩]) (.seq (.region [⟨(some 59), (.mov (.t 13)), none, []⟩, ⟨(some 60), (.mov (.t 19)), none, []⟩, ⟨(some 61), (.mov (.t 20)), none, []⟩, ⟨none, (.mset 0 (.t 59) (.t 60)
  (.t 61)), none, []⟩]) (.seq (.region [⟨(some 62), (.mov (.t 14)), none, []⟩, ⟨(some 63), (.mov (.t 19)), none, []⟩, ⟨(some 64), (.mk 3 1 [(.int .i64 0)] [(0, (1, (.t 63)))]), none, []⟩, ⟨(some 65), (.app 3 1 8 (.t 62) (.t 64)), none, []⟩,
  ⟨(some 14), (.mov (.t 65)), none, []⟩]) (.seq (.region [⟨(some 66), (.mov (.t 2)), none, []⟩, ⟨(some 67), (.bin .gtr (.t 66) (.c (.int .i64 0))), none, []⟩, ⟨(some 68), (.mov (.t 67)), none, []⟩, ⟨(some 69), (.mov (.t 14)), (some (68,
  true)), []⟩, ⟨(some 70), (.len 1 (.t 69)), (some (68, true)), []⟩, ⟨(some 71), (.mov (.t 2)), (some (68, true)), []⟩, ⟨(some 72), (.bin .gtr (.t 70) (.t 71)), (some (68, true)), []⟩, ⟨(some 73), (.pick (.t 68) (.t 72) (.c (.bool false))),
  none, []⟩]) (.cond (.t 73) (.seq (.region [⟨(some 74), (.build [(.int .i64 0), (.int .i64 0), .nils, .nils] []), none, []⟩, ⟨none, (.store none 4 (.t 10) (.t 74)), none, []⟩, ⟨(some 11), (.mov (.c (.bool false))), none, []⟩]) .ret)
  .skip))))) .skip)) (.region [⟨(some 75), (.mov (.t 17)), none, []⟩, ⟨(some 76), (.mov (.t 20)), none, []⟩, ⟨(some 77), (.mk 3 1 [(.int .i64 0)] [(0, (1, (.t 76)))]), none, []⟩, ⟨(some 78), (.app 3 1 8 (.t 75) (.t 77)), none, []⟩, ⟨(some
  17), (.mov (.t 78)), none, []⟩]))))) (.region [⟨(some 43), (.mov (.t 18)), none, []⟩, ⟨(some 44), (.bin .add (.t 43) (.c (.int .i64 1))), none, []⟩, ⟨(some 18), (.mov (.t 44)), none, []⟩])))))) (.seq (.region [⟨(some 79), (.lea 2 (.t 12)),
  none, []⟩, ⟨(some 80), (.load (some 62) none (.t 79)), none, []⟩, ⟨(some 81), (.mov (.t 3)), none, []⟩, ⟨(some 82), (.mov (.t 16)), none, []⟩, ⟨(some 83), (.call (.t 81) [(.t 82)]), none, [62]⟩, ⟨(some 84), (.mk 4 1 [(.bool false)] [(0,
  (1, (.t 83)))]), none, []⟩, ⟨(some 85), (.app 4 1 1 (.t 80) (.t 84)), none, []⟩, ⟨(some 86), (.lea 2 (.t 12)), none, []⟩, ⟨none, (.store none 1 (.t 86) (.t 85)), none, []⟩]) (.region [⟨(some 87), (.lea 3 (.t 12)), none, []⟩, ⟨(some 88),
  (.load none none (.t 87)), none, []⟩, ⟨(some 89), (.mov (.t 17)), none, []⟩, ⟨(some 90), (.mk 65 1 [.nils] [(0, (1, (.t 89)))]), none, []⟩, ⟨(some 91), (.app 65 1 24 (.t 88) (.t 90)), none, []⟩, ⟨(some 92), (.lea 3 (.t 12)), none, []⟩,
  ⟨none, (.store none 1 (.t 92) (.t 91)), none, []⟩])))))) (.region [⟨(some 33), (.mov (.t 15)), none, []⟩, ⟨(some 34), (.bin .add (.t 33) (.c (.int .i64 1))), none, []⟩, ⟨(some 15), (.mov (.t 34)), none, []⟩])))))) (.seq (.region [⟨(some
  93), (.load none (some 4) (.t 12)), none, []⟩, ⟨none, (.store none 4 (.t 10) (.t 93)), none, []⟩, ⟨(some 11), (.mov (.c (.bool true))), none, []⟩]) .ret))))))⟩
theorem irOk88 : compFun Tryd.prog.underlying Tryd.prog.info? sq Tryd.f88 = some ir88 := by kernel_rfl
def ir89 : BFun := ⟨[(.tmp 2)], (.seq (.region [⟨(some 2), (.mov (.c (.bool false))), none, []⟩]) (.seq (.region [⟨(some 3), (.mov (.t 0)), none, []⟩, ⟨(some 4), (.bin .eql (.t 3) (.c (.int .i64 1))), none, []⟩, ⟨(some 2), (.mov (.t 4)),
  none, []⟩]) .ret))⟩
theorem irOk89 : compFun Tryd.prog.underlying Tryd.prog.info? sq Tryd.f89 = some ir89 := by kernel_rfl
def ir90 : BFun := ⟨[(.tmp 4)], (.seq (.region [⟨(some 4), (.mov (.c (.int .i64 0))), none, []⟩]) (.seq (.region [⟨(some 5), (.mov (.t 1)), none, []⟩, ⟨(some 4), (.mov (.t 5)), none, []⟩]) .ret))⟩
theorem irOk90 : compFun Tryd.prog.underlying Tryd.prog.info? sq Tryd.f90 = some ir90 := by kernel_rfl
def ir91 : BFun := ⟨[(.tmp 2)], (.seq (.region [⟨(some 2), (.mov (.c (.int .i64 0))), none, []⟩]) (.seq (.region [⟨(some 3), (.mov (.c (.int .i64 1))), none, []⟩]) (.seq (.block 0 (.loop (.seq (.seq (.region [⟨(some 4), (.mov (.t 0)), none,
  []⟩, ⟨(some 5), (.bin .gtr (.t 4) (.c (.int .i64 0))), none, []⟩]) (.cond (.t 5) .skip (.exit 0))) (.seq (.block 1 (.region [⟨(some 8), (.mov (.t 3)), none, []⟩, ⟨(some 9), (.bin .mul (.c (.int .i64 3)) (.t 8)), none, []⟩, ⟨(some 3), (.mov
  (.t 9)), none, []⟩])) (.region [⟨(some 6), (.mov (.t 0)), none, []⟩, ⟨(some 7), (.bin .sub (.t 6) (.c (.int .i64 1))), none, []⟩, ⟨(some 0), (.mov (.t 7)), none, []⟩]))))) (.seq (.region [⟨(some 10), (.mov (.t 3)), none, []⟩, ⟨(some 2),
  (.mov (.t 10)), none, []⟩]) .ret))))⟩
theorem irOk91 : compFun Tryd.prog.underlying Tryd.prog.info? sq Tryd.f91 = some ir91 := by kernel_rfl
def ir92 : BFun := ⟨[(.cell 2 (some 4))], (.seq (.region [⟨(some 2), (.new 29 [(.int .i64 0), (.int .i64 0), .nils, .nils]), none, []⟩]) (.seq (.region [⟨(some 20), (.mov (.t 0)), none, []⟩, ⟨(some 21), (.nilck (.t 20)), none, []⟩, ⟨(some
  22), (.lea 2 (.t 21)), none, []⟩, ⟨(some 23), (.load none none (.t 22)), none, []⟩, ⟨(some 24), (.len 1 (.t 23)), none, []⟩, ⟨(some 3), (.mov (.t 24)), none, []⟩]) (.seq (.region [⟨(some 25), (.mov (.t 0)), none, []⟩, ⟨(some 26), (.nilck
  (.t 25)), none, []⟩, ⟨(some 27), (.lea 0 (.t 26)), none, []⟩, ⟨(some 28), (.load none none (.t 27)), none, []⟩, ⟨(some 29), (.conv .u64 (.t 28)), none, []⟩, ⟨(some 30), (.bin .shl (.c (.int .i64 1)) (.t 29)), none, []⟩, ⟨(some 4), (.mov
  (.t 30)), none, []⟩]) (.seq (.region [⟨(some 31), (.mov (.t 3)), none, []⟩, ⟨(some 32), (.mov (.t 4)), none, []⟩, ⟨(some 33), (.bin .mul (.t 31) (.t 32)), none, []⟩, ⟨(some 34), (.mksl 2 8 [(.int .i64 0)] (.t 33) (.t 33)), none, []⟩,
  ⟨(some 5), (.mov (.t 34)), none, []⟩]) (.seq (.seq (.region [⟨(some 6), (.mov (.c (.int .i64 0))), none, []⟩]) (.block 0 (.loop (.seq (.seq (.region [⟨(some 35), (.mov (.t 6)), none, []⟩, ⟨(some 36), (.mov (.t 5)), none, []⟩, ⟨(some 37),
  (.len 1 (.t 36)), none, []⟩, ⟨(some 38), (.bin .lss (.t 35) (.t 37)), none, []⟩]) (.cond (.t 38) .skip (.exit 0))) (.seq (.block 1 (.region [⟨(some 41), (.mov (.t 5)), none, []⟩, ⟨(some 42), (.mov (.t 6)), none, []⟩, ⟨(some 43), (.idx 1
  (.t 41) (.t 42)), none, []⟩, ⟨none, (.store none 1 (.t 43) (.c (.int .i64 (-1)))), none, []⟩])) (.region [⟨(some 39), (.mov (.t 6)), none, []⟩, ⟨(some 40), (.bin .add (.t 39) (.c (.int .i64 1))), none, []⟩, ⟨(some 6), (.mov (.t 40)), none,
  []⟩])))))) (.seq (.region [⟨(some 44), (.mov (.t 0)), none, []⟩, ⟨(some 45), (.nilck (.t 44)), none, []⟩, ⟨(some 46), (.lea 1 (.t 45)), none, []⟩, ⟨(some 47), (.load none none (.t 46)), none, []⟩, ⟨(some 48), (.mov (.t 4)), none, []⟩,
  ⟨(some 49), (.bin .mul (.t 47) (.t 48)), none, []⟩, ⟨(some 50), (.mk 2 1 [(.int .i64 0)] [(0, (1, (.t 49)))]), none, []⟩, ⟨(some 7), (.mov (.t 50)), none, []⟩]) (.seq (.region [⟨(some 51), (.mov (.t 5)), none, []⟩, ⟨(some 52), (.mov (.t
  0)), none, []⟩, ⟨(some 53), (.nilck (.t 52)), none, []⟩, ⟨(some 54), (.lea 1 (.t 53)), none, []⟩, ⟨(some 55), (.load none none (.t 54)), none, []⟩, ⟨(some 56), (.mov (.t 4)), none, []⟩, ⟨(some 57), (.bin .mul (.t 55) (.t 56)), none, []⟩,
  ⟨(some 58), (.idx 1 (.t 51) (.t 57)), none, []⟩, ⟨none, (.store none 1 (.t 58) (.c (.int .i64 0))), none, []⟩]) (.seq (.region [⟨(some 59), (.mov (.t 0)), none, []⟩, ⟨(some 60), (.nilck (.t 59)), none, []⟩, ⟨(some 61), (.lea 0 (.t 60)),
  none, []⟩, ⟨(some 62), (.load none none (.t 61)), none, []⟩, ⟨(some 63), (.build [(.int .i64 0), (.int .i64 0), .nils, .nils] [(0, (1, (.t 62)))]), none, []⟩, ⟨(some 8), (.new 29 [(.int .i64 0), (.int .i64 0), .nils, .nils]), none, []⟩,
  ⟨none, (.store none 4 (.t 8) (.t 63)), none, []⟩]) (.seq (.seq (.region [⟨(some 9), (.mov (.c (.int .i64 0))), none, []⟩]) (.block 2 (.loop (.seq (.seq (.region [⟨(some 64), (.mov (.t 9)), none, []⟩, ⟨(some 65), (.mov (.t 7)), none, []⟩,
  ⟨(some 66), (.len 1 (.t 65)), none, []⟩, ⟨(some 67), (.bin .lss (.t 64) (.t 66)), none, []⟩]) (.cond (.t 67) .skip (.exit 2))) (.seq (.block 3 (.seq (.region [⟨(some 70), (.mov (.t 7)), none, []⟩, ⟨(some 71), (.mov (.t 9)), none, []⟩,
  ⟨(some 72), (.idx 1 (.t 70) (.t 71)), none, []⟩, ⟨(some 73), (.load none none (.t 72)), none, []⟩, ⟨(some 74), (.mov (.t 4)), none, []⟩, ⟨(some 75), (.bin .quo (.t 73) (.t 74)), none, []⟩, ⟨(some 10), (.mov (.t 75)), none, []⟩]) (.seq
  (.region [⟨(some 76), (.mk 2 0 [] []), none, []⟩, ⟨(some 11), (.mov (.t 76)), none, []⟩]) (.seq (.seq (.region [⟨(some 12), (.mov (.c (.int .i64 0))), none, []⟩]) (.block 4 (.loop (.seq (.seq (.region [⟨(some 77), (.mov (.t 12)), none,
  []⟩, ⟨(some 78), (.mov (.t 0)), none, []⟩, ⟨(some 79), (.nilck (.t 78)), none, []⟩, ⟨(some 80), (.lea 0 (.t 79)), none, []⟩, ⟨(some 81), (.load none none (.t 80)), none, []⟩, ⟨(some 82), (.call (.c (.fn 74 [])) [(.t 81)]), none, []⟩,
  ⟨(some 83), (.bin .lss (.t 77) (.t 82)), none, []⟩]) (.cond (.t 83) .skip (.exit 4))) (.seq (.block 5 (.seq (.region [⟨(some 86), (.mov (.t 0)), none, []⟩, ⟨(some 87), (.nilck (.t 86)), none, []⟩, ⟨(some 88), (.lea 0 (.t 87)), none, []⟩,
  ⟨(some 89), (.load none none (.t 88)), none, []⟩, ⟨(some 90), (.mov (.t 7)), none, []⟩, ⟨(some 91), (.mov (.t 9)), none, []⟩, ⟨(some 92), (.idx 1 (.t 90) (.t 91)), none, []⟩, ⟨(some 93), (.load none none (.t 92)), none, []⟩, ⟨(some 94),
  (.mov (.t 4)), none, []⟩, ⟨(some 95), (.bin .rem (.t 93) (.t 94)), none, []⟩, ⟨(some 96), (.mov (.t 12)), none, []⟩, ⟨(some 97), (.call (.c (.fn 115 [])) [(.t 89), (.t 95), (.t 96)]), none, []⟩, ⟨(some 13), (.mov (.t 97)), none, []⟩])
  (.seq (.seq (.region [⟨(some 98), (.mov (.t 13)), none, []⟩, ⟨(some 99), (.bin .lss (.t 98) (.c (.int .i64 0))), none, []⟩]) (.cond (.t 99) (.seq (.region [⟨(some 100), (.mov (.t 11)), none, []⟩, ⟨(some 101), (.mk 2 1 [(.int .i64 0)] [(0,
  (1, (.c (.int .i64 (-1)))))]), none, []⟩, ⟨(some 102), (.app 2 1 8 (.t 100) (.t 101)), none, []⟩, ⟨(some 11), (.mov (.t 102)), none, []⟩]) (.exit 5)) .skip)) (.seq (.region [⟨(some 103), (.mov (.t 0)), none, []⟩, ⟨(some 104), (.nilck (.t
  103)), none, []⟩, ⟨(some 105), (.lea 3 (.t 104)), none, []⟩, ⟨(some 106), (.load none none (.t 105)), none, []⟩, ⟨(some 107), (.mov (.t 10)), none, []⟩, ⟨(some 108), (.idx 1 (.t 106) (.t 107)), none, []⟩, ⟨(some 109), (.load none none (.t
  108)), none, []⟩, ⟨(some 110), (.mov (.t 12)), none, []⟩, ⟨(some 111), (.idx 1 (.t 109) (.t 110)), none, []⟩, ⟨(some 112), (.load none none (.t 111)), none, []⟩, ⟨(some 113), (.mov (.t 4)), none, []⟩, ⟨(some 114), (.bin .mul (.t 112) (.t
  113)), none, []⟩, ⟨(some 115), (.mov (.t 13)), none, []⟩, ⟨(some 116), (.bin .add (.t 114) (.t 115)), none, []⟩, ⟨(some 14), (.mov (.t 116)), none, []⟩]) (.seq (.seq (.region [⟨(some 117), (.mov (.t 5)), none, []⟩, ⟨(some 118), (.mov (.t
  14)), none, []⟩, ⟨(some 119), (.idx 1 (.t 117) (.t 118)), none, []⟩, ⟨(some 120), (.load none none (.t 119)), none, []⟩, ⟨(some 121), (.bin .lss (.t 120) (.c (.int .i64 0))), none, []⟩]) (.cond (.t 121) (.seq (.region [⟨(some 122), (.mov
  (.t 5)), none, []⟩, ⟨(some 123), (.mov (.t 14)), none, []⟩, ⟨(some 124), (.mov (.t 7)), none, []⟩, ⟨(some 125), (.len 1 (.t 124)), none, []⟩, ⟨(some 126), (.idx 1 (.t 122) (.t 123)), none, []⟩, ⟨none, (.store none 1 (.t 126) (.t 125)),
  none, []⟩]) (.region [⟨(some 127), (.mov (.t 7)), none, []⟩, ⟨(some 128), (.mov (.t 14)), none, []⟩, ⟨(some 129), (.mk 2 1 [(.int .i64 0)] [(0, (1, (.t 128)))]), none, []⟩, ⟨(some 130), (.app 2 1 8 (.t 127) (.t 129)), none, []⟩, ⟨(some 7),
  (.mov (.t 130)), none, []⟩])) .skip)) (.region [⟨(some 131), (.mov (.t 11)), none, []⟩, ⟨(some 132), (.mov (.t 5)), none, []⟩, ⟨(some 133), (.mov (.t 14)), none, []⟩, ⟨(some 134), (.idx 1 (.t 132) (.t 133)), none, []⟩, ⟨(some 135), (.load
  none none (.t 134)), none, []⟩, ⟨(some 136), (.mk 2 1 [(.int .i64 0)] [(0, (1, (.t 135)))]), none, []⟩, ⟨(some 137), (.app 2 1 8 (.t 131) (.t 136)), none, []⟩, ⟨(some 11), (.mov (.t 137)), none, []⟩])))))) (.region [⟨(some 84), (.mov (.t
  12)), none, []⟩, ⟨(some 85), (.bin .add (.t 84) (.c (.int .i64 1))), none, []⟩, ⟨(some 12), (.mov (.t 85)), none, []⟩])))))) (.seq (.region [⟨(some 138), (.lea 2 (.t 8)), none, []⟩, ⟨(some 139), (.load none none (.t 138)), none, []⟩,
  ⟨(some 140), (.mov (.t 0)), none, []⟩, ⟨(some 141), (.nilck (.t 140)), none, []⟩, ⟨(some 142), (.lea 2 (.t 141)), none, []⟩, ⟨(some 143), (.load none none (.t 142)), none, []⟩, ⟨(some 144), (.mov (.t 10)), none, []⟩, ⟨(some 145), (.idx 1
  (.t 143) (.t 144)), none, []⟩, ⟨(some 146), (.load none none (.t 145)), none, []⟩, ⟨(some 147), (.mk 4 1 [(.bool false)] [(0, (1, (.t 146)))]), none, []⟩, ⟨(some 148), (.app 4 1 1 (.t 139) (.t 147)), none, []⟩, ⟨(some 149), (.lea 2 (.t
  8)), none, []⟩, ⟨none, (.store none 1 (.t 149) (.t 148)), none, []⟩]) (.region [⟨(some 150), (.lea 3 (.t 8)), none, []⟩, ⟨(some 151), (.load none none (.t 150)), none, []⟩, ⟨(some 152), (.mov (.t 11)), none, []⟩, ⟨(some 153), (.mk 37 1
  [.nils] [(0, (1, (.t 152)))]), none, []⟩, ⟨(some 154), (.app 37 1 24 (.t 151) (.t 153)), none, []⟩, ⟨(some 155), (.lea 3 (.t 8)), none, []⟩, ⟨none, (.store none 1 (.t 155) (.t 154)), none, []⟩])))))) (.region [⟨(some 68), (.mov (.t 9)),
  none, []⟩, ⟨(some 69), (.bin .add (.t 68) (.c (.int .i64 1))), none, []⟩, ⟨(some 9), (.mov (.t 69)), none, []⟩])))))) (.seq (.region [⟨(some 156), (.mov (.t 7)), none, []⟩, ⟨(some 157), (.len 1 (.t 156)), none, []⟩, ⟨(some 15), (.mov (.t
  157)), none, []⟩]) (.seq (.seq (.region [⟨(some 16), (.mov (.c (.int .i64 0))), none, []⟩]) (.block 6 (.loop (.seq (.seq (.region [⟨(some 158), (.mov (.t 16)), none, []⟩, ⟨(some 159), (.lea 3 (.t 8)), none, []⟩, ⟨(some 160), (.load none
  none (.t 159)), none, []⟩, ⟨(some 161), (.len 1 (.t 160)), none, []⟩, ⟨(some 162), (.bin .lss (.t 158) (.t 161)), none, []⟩]) (.cond (.t 162) .skip (.exit 6))) (.seq (.block 7 (.seq (.region [⟨(some 17), (.mov (.c (.int .i64 0))), none,
  []⟩]) (.block 8 (.loop (.seq (.seq (.region [⟨(some 165), (.mov (.t 17)), none, []⟩, ⟨(some 166), (.lea 3 (.t 8)), none, []⟩, ⟨(some 167), (.load none none (.t 166)), none, []⟩, ⟨(some 168), (.mov (.t 16)), none, []⟩, ⟨(some 169), (.idx 1
  (.t 167) (.t 168)), none, []⟩, ⟨(some 170), (.load none none (.t 169)), none, []⟩, ⟨(some 171), (.len 1 (.t 170)), none, []⟩, ⟨(some 172), (.bin .lss (.t 165) (.t 171)), none, []⟩]) (.cond (.t 172) .skip (.exit 8))) (.seq (.block 9 (.seq
  (.region [⟨(some 175), (.lea 3 (.t 8)), none, []⟩, ⟨(some 176), (.load none none (.t 175)), none, []⟩, ⟨(some 177), (.mov (.t 16)), none, []⟩, ⟨(some 178), (.idx 1 (.t 176) (.t 177)), none, []⟩, ⟨(some 179), (.load none none (.t 178)),
  none, []⟩, ⟨(some 180), (.mov (.t 17)), none, []⟩, ⟨(some 181), (.idx 1 (.t 179) (.t 180)), none, []⟩, ⟨(some 182), (.load none none (.t 181)), none, []⟩, ⟨(some 183), (.bin .lss (.t 182) (.c (.int .i64 0))), none, []⟩]) (.cond (.t 183)
  (.region [⟨(some 184), (.lea 3 (.t 8)), none, []⟩, ⟨(some 185), (.load none none (.t 184)), none, []⟩, ⟨(some 186), (.mov (.t 16)), none, []⟩, ⟨(some 187), (.idx 1 (.t 185) (.t 186)), none, []⟩, ⟨(some 188), (.load none none (.t 187)),
  none, []⟩, ⟨(some 189), (.mov (.t 17)), none, []⟩, ⟨(some 190), (.mov (.t 15)), none, []⟩, ⟨(some 191), (.idx 1 (.t 188) (.t 189)), none, []⟩, ⟨none, (.store none 1 (.t 191) (.t 190)), none, []⟩]) .skip))) (.region [⟨(some 173), (.mov (.t
  17)), none, []⟩, ⟨(some 174), (.bin .add (.t 173) (.c (.int .i64 1))), none, []⟩, ⟨(some 17), (.mov (.t 174)), none, []⟩]))))))) (.region [⟨(some 163), (.mov (.t 16)), none, []⟩, ⟨(some 164), (.bin .add (.t 163) (.c (.int .i64 1))), none,
  []⟩, ⟨(some 16), (.mov (.t 164)), none, []⟩])))))) (.seq (.region [⟨(some 192), (.mk 2 0 [] []), none, []⟩, ⟨(some 18), (.mov (.t 192)), none, []⟩]) (.seq (.seq (.region [⟨(some 19), (.mov (.c (.int .i64 0))), none, []⟩]) (.block 10 (.loop
  (.seq (.seq (.region [⟨(some 193), (.mov (.t 19)), none, []⟩, ⟨(some 194), (.mov (.t 0)), none, []⟩, ⟨(some 195), (.nilck (.t 194)), none, []⟩, ⟨(some 196), (.lea 0 (.t 195)), none, []⟩, ⟨(some 197), (.load none none (.t 196)), none, []⟩,
  ⟨(some 198), (.call (.c (.fn 74 [])) [(.t 197)]), none, []⟩, ⟨(some 199), (.bin .lss (.t 193) (.t 198)), none, []⟩]) (.cond (.t 199) .skip (.exit 10))) (.seq (.block 11 (.region [⟨(some 202), (.mov (.t 18)), none, []⟩, ⟨(some 203), (.mov
  (.t 15)), none, []⟩, ⟨(some 204), (.mk 2 1 [(.int .i64 0)] [(0, (1, (.t 203)))]), none, []⟩, ⟨(some 205), (.app 2 1 8 (.t 202) (.t 204)), none, []⟩, ⟨(some 18), (.mov (.t 205)), none, []⟩])) (.region [⟨(some 200), (.mov (.t 19)), none,
  []⟩, ⟨(some 201), (.bin .add (.t 200) (.c (.int .i64 1))), none, []⟩, ⟨(some 19), (.mov (.t 201)), none, []⟩])))))) (.seq (.region [⟨(some 206), (.lea 2 (.t 8)), none, []⟩, ⟨(some 207), (.load none none (.t 206)), none, []⟩, ⟨(some 208),
  (.mk 4 1 [(.bool false)] [(0, (1, (.c (.bool false))))]), none, []⟩, ⟨(some 209), (.app 4 1 1 (.t 207) (.t 208)), none, []⟩, ⟨(some 210), (.lea 2 (.t 8)), none, []⟩, ⟨none, (.store none 1 (.t 210) (.t 209)), none, []⟩]) (.seq (.region
  [⟨(some 211), (.lea 3 (.t 8)), none, []⟩, ⟨(some 212), (.load none none (.t 211)), none, []⟩, ⟨(some 213), (.mov (.t 18)), none, []⟩, ⟨(some 214), (.mk 37 1 [.nils] [(0, (1, (.t 213)))]), none, []⟩, ⟨(some 215), (.app 37 1 24 (.t 212) (.t
  214)), none, []⟩, ⟨(some 216), (.lea 3 (.t 8)), none, []⟩, ⟨none, (.store none 1 (.t 216) (.t 215)), none, []⟩]) (.seq (.region [⟨(some 217), (.load none (some 4) (.t 8)), none, []⟩, ⟨none, (.store none 4 (.t 2) (.t 217)), none, []⟩])
  .ret))))))))))))))))⟩
theorem irOk92 : compFun Tryd.prog.underlying Tryd.prog.info? sq Tryd.f92 = some ir92 := by kernel_rfl
def ir93 : BFun := ⟨[(.tmp 4), (.tmp 5)], (.seq (.region [⟨(some 4), (.mov (.c .nils)), none, []⟩, ⟨(some 5), (.mov (.c (.int .i64 0))), none, []⟩]) (.seq (.region [⟨(some 11), (.mov (.t 1)), none, []⟩, ⟨(some 12), (.len 1 (.t 11)), none,
  []⟩, ⟨(some 6), (.mov (.t 12)), none, []⟩]) (.seq (.region [⟨(some 13), (.mov (.t 6)), none, []⟩, ⟨(some 14), (.mksl 2 8 [(.int .i64 0)] (.t 13) (.t 13)), none, []⟩, ⟨(some 7), (.mov (.t 14)), none, []⟩]) (.seq (.region [⟨(some 15), (.mk 2
  0 [] []), none, []⟩, ⟨(some 8), (.mov (.t 15)), none, []⟩]) (.seq (.seq (.region [⟨(some 9), (.mov (.c (.int .i64 0))), none, []⟩]) (.block 0 (.loop (.seq (.seq (.region [⟨(some 16), (.mov (.t 9)), none, []⟩, ⟨(some 17), (.mov (.t 6)),
  none, []⟩, ⟨(some 18), (.bin .lss (.t 16) (.t 17)), none, []⟩]) (.cond (.t 18) .skip (.exit 0))) (.seq (.block 1 (.seq (.region [⟨(some 21), (.mov (.t 7)), none, []⟩, ⟨(some 22), (.mov (.t 9)), none, []⟩, ⟨(some 23), (.idx 1 (.t 21) (.t
  22)), none, []⟩, ⟨none, (.store none 1 (.t 23) (.c (.int .i64 (-1)))), none, []⟩]) (.seq (.seq (.region [⟨(some 10), (.mov (.c (.int .i64 0))), none, []⟩]) (.block 2 (.loop (.seq (.seq (.region [⟨(some 24), (.mov (.t 10)), none, []⟩,
  ⟨(some 25), (.mov (.t 8)), none, []⟩, ⟨(some 26), (.len 1 (.t 25)), none, []⟩, ⟨(some 27), (.bin .lss (.t 24) (.t 26)), none, []⟩, ⟨(some 28), (.mov (.t 27)), none, []⟩, ⟨(some 29), (.mov (.t 7)), (some (28, true)), []⟩, ⟨(some 30), (.mov
  (.t 9)), (some (28, true)), []⟩, ⟨(some 31), (.idx 1 (.t 29) (.t 30)), (some (28, true)), []⟩, ⟨(some 32), (.load none none (.t 31)), (some (28, true)), []⟩, ⟨(some 33), (.bin .lss (.t 32) (.c (.int .i64 0))), (some (28, true)), []⟩,
  ⟨(some 34), (.pick (.t 28) (.t 33) (.c (.bool false))), none, []⟩]) (.cond (.t 34) .skip (.exit 2))) (.seq (.block 3 (.seq (.region [⟨(some 37), (.mov (.t 1)), none, []⟩, ⟨(some 38), (.mov (.t 8)), none, []⟩, ⟨(some 39), (.mov (.t 10)),
  none, []⟩, ⟨(some 40), (.idx 1 (.t 38) (.t 39)), none, []⟩, ⟨(some 41), (.load none none (.t 40)), none, []⟩, ⟨(some 42), (.idx 1 (.t 37) (.t 41)), none, []⟩, ⟨(some 43), (.load none none (.t 42)), none, []⟩, ⟨(some 44), (.mov (.t 1)),
  none, []⟩, ⟨(some 45), (.mov (.t 9)), none, []⟩, ⟨(some 46), (.idx 1 (.t 44) (.t 45)), none, []⟩, ⟨(some 47), (.load none none (.t 46)), none, []⟩, ⟨(some 48), (.bin .eql (.t 43) (.t 47)), none, []⟩, ⟨(some 49), (.mov (.t 48)), none, []⟩,
  ⟨(some 50), (.mov (.t 0)), (some (49, true)), []⟩, ⟨(some 51), (.mov (.t 1)), (some (49, true)), []⟩, ⟨(some 52), (.mov (.t 8)), (some (49, true)), []⟩, ⟨(some 53), (.mov (.t 10)), (some (49, true)), []⟩, ⟨(some 54), (.idx 1 (.t 52) (.t
  53)), (some (49, true)), []⟩, ⟨(some 55), (.load none none (.t 54)), (some (49, true)), []⟩, ⟨(some 56), (.mov (.t 9)), (some (49, true)), []⟩, ⟨(some 57), (.call (.c (.fn 116 [])) [(.t 50), (.t 51), (.t 55), (.t 56)]), (some (49, true)),
  []⟩, ⟨(some 58), (.pick (.t 49) (.t 57) (.c (.bool false))), none, []⟩]) (.cond (.t 58) (.region [⟨(some 59), (.mov (.t 7)), none, []⟩, ⟨(some 60), (.mov (.t 9)), none, []⟩, ⟨(some 61), (.mov (.t 10)), none, []⟩, ⟨(some 62), (.idx 1 (.t
  59) (.t 60)), none, []⟩, ⟨none, (.store none 1 (.t 62) (.t 61)), none, []⟩]) .skip))) (.region [⟨(some 35), (.mov (.t 10)), none, []⟩, ⟨(some 36), (.bin .add (.t 35) (.c (.int .i64 1))), none, []⟩, ⟨(some 10), (.mov (.t 36)), none,
  []⟩])))))) (.seq (.region [⟨(some 63), (.mov (.t 7)), none, []⟩, ⟨(some 64), (.mov (.t 9)), none, []⟩, ⟨(some 65), (.idx 1 (.t 63) (.t 64)), none, []⟩, ⟨(some 66), (.load none none (.t 65)), none, []⟩, ⟨(some 67), (.bin .lss (.t 66) (.c
  (.int .i64 0))), none, []⟩]) (.cond (.t 67) (.seq (.region [⟨(some 68), (.mov (.t 7)), none, []⟩, ⟨(some 69), (.mov (.t 9)), none, []⟩, ⟨(some 70), (.mov (.t 8)), none, []⟩, ⟨(some 71), (.len 1 (.t 70)), none, []⟩, ⟨(some 72), (.idx 1 (.t
  68) (.t 69)), none, []⟩, ⟨none, (.store none 1 (.t 72) (.t 71)), none, []⟩]) (.region [⟨(some 73), (.mov (.t 8)), none, []⟩, ⟨(some 74), (.mov (.t 9)), none, []⟩, ⟨(some 75), (.mk 2 1 [(.int .i64 0)] [(0, (1, (.t 74)))]), none, []⟩, ⟨(some
  76), (.app 2 1 8 (.t 73) (.t 75)), none, []⟩, ⟨(some 8), (.mov (.t 76)), none, []⟩])) .skip))))) (.region [⟨(some 19), (.mov (.t 9)), none, []⟩, ⟨(some 20), (.bin .add (.t 19) (.c (.int .i64 1))), none, []⟩, ⟨(some 9), (.mov (.t 20)),
  none, []⟩])))))) (.seq (.region [⟨(some 77), (.mov (.t 7)), none, []⟩, ⟨(some 78), (.mov (.t 8)), none, []⟩, ⟨(some 79), (.len 1 (.t 78)), none, []⟩, ⟨(some 4), (.mov (.t 77)), none, []⟩, ⟨(some 5), (.mov (.t 79)), none, []⟩]) .ret))))))⟩
theorem irOk93 : compFun Tryd.prog.underlying Tryd.prog.info? sq Tryd.f93 = some ir93 := by kernel_rfl
def ir95 : BFun := ⟨[(.tmp 4)], (.seq (.region [⟨(some 4), (.mov (.c (.int .i64 0))), none, []⟩]) (.seq (.region [⟨(some 7), (.mov (.t 0)), none, []⟩, ⟨(some 8), (.mov (.t 1)), none, []⟩, ⟨(some 9), (.call (.c (.fn 96 [])) [(.t 7), (.t 8)]),
  none, []⟩, ⟨(some 5), (.mov (.t 9)), none, []⟩]) (.seq (.seq (.region [⟨(some 6), (.mov (.c (.int .i64 0))), none, []⟩]) (.block 0 (.loop (.seq (.seq (.region [⟨(some 10), (.mov (.t 6)), none, []⟩, ⟨(some 11), (.mov (.t 0)), none, []⟩,
  ⟨(some 12), (.nilck (.t 11)), none, []⟩, ⟨(some 13), (.lea 2 (.t 12)), none, []⟩, ⟨(some 14), (.load none none (.t 13)), none, []⟩, ⟨(some 15), (.len 1 (.t 14)), none, []⟩, ⟨(some 16), (.bin .lss (.t 10) (.t 15)), none, []⟩]) (.cond (.t
  16) .skip (.exit 0))) (.seq (.block 1 (.seq (.region [⟨(some 19), (.mov (.t 0)), none, []⟩, ⟨(some 20), (.nilck (.t 19)), none, []⟩, ⟨(some 21), (.lea 2 (.t 20)), none, []⟩, ⟨(some 22), (.load none none (.t 21)), none, []⟩, ⟨(some 23),
  (.mov (.t 6)), none, []⟩, ⟨(some 24), (.idx 1 (.t 22) (.t 23)), none, []⟩, ⟨(some 25), (.load none none (.t 24)), none, []⟩, ⟨(some 26), (.mov (.t 25)), none, []⟩, ⟨(some 27), (.mov (.t 5)), (some (26, true)), []⟩, ⟨(some 28), (.mov (.t
  1)), (some (26, true)), []⟩, ⟨(some 29), (.idx 1 (.t 27) (.t 28)), (some (26, true)), []⟩, ⟨(some 30), (.load none none (.t 29)), (some (26, true)), []⟩, ⟨(some 31), (.mov (.t 6)), (some (26, true)), []⟩, ⟨(some 32), (.idx 1 (.t 30) (.t
  31)), (some (26, true)), []⟩, ⟨(some 33), (.load none none (.t 32)), (some (26, true)), []⟩, ⟨(some 34), (.pick (.t 26) (.t 33) (.c (.bool false))), none, []⟩]) (.cond (.t 34) (.seq (.region [⟨(some 4), (.mov (.c (.int .i64 1))), none,
  []⟩]) .ret) .skip))) (.region [⟨(some 17), (.mov (.t 6)), none, []⟩, ⟨(some 18), (.bin .add (.t 17) (.c (.int .i64 1))), none, []⟩, ⟨(some 6), (.mov (.t 18)), none, []⟩])))))) (.seq (.region [⟨(some 4), (.mov (.c (.int .i64 0))), none,
  []⟩]) .ret))))⟩
theorem irOk95 : compFun Tryd.prog.underlying Tryd.prog.info? sq Tryd.f95 = some ir95 := by kernel_rfl
def ir96 : BFun := ⟨[(.tmp 4)], (.seq (.region [⟨(some 4), (.mov (.c .nils)), none, []⟩]) (.seq (.region [⟨(some 10), (.mov (.t 0)), none, []⟩, ⟨(some 11), (.nilck (.t 10)), none, []⟩, ⟨(some 12), (.lea 2 (.t 11)), none, []⟩, ⟨(some 13),
  (.load none none (.t 12)), none, []⟩, ⟨(some 14), (.len 1 (.t 13)), none, []⟩, ⟨(some 15), (.mksl 4 1 [(.bool false)] (.t 14) (.t 14)), none, []⟩, ⟨(some 5), (.mov (.t 15)), none, []⟩]) (.seq (.region [⟨(some 16), (.mov (.t 5)), none, []⟩,
  ⟨(some 17), (.mov (.t 0)), none, []⟩, ⟨(some 18), (.nilck (.t 17)), none, []⟩, ⟨(some 19), (.lea 1 (.t 18)), none, []⟩, ⟨(some 20), (.load none none (.t 19)), none, []⟩, ⟨(some 21), (.idx 1 (.t 16) (.t 20)), none, []⟩, ⟨none, (.store none
  1 (.t 21) (.c (.bool true))), none, []⟩]) (.seq (.region [⟨(some 22), (.mov (.t 5)), none, []⟩, ⟨(some 23), (.mk 22 1 [.nils] [(0, (1, (.t 22)))]), none, []⟩, ⟨(some 6), (.mov (.t 23)), none, []⟩]) (.seq (.seq (.region [⟨(some 7), (.mov
  (.c (.int .i64 0))), none, []⟩]) (.block 0 (.loop (.seq (.seq (.region [⟨(some 24), (.mov (.t 7)), none, []⟩, ⟨(some 25), (.mov (.t 1)), none, []⟩, ⟨(some 26), (.bin .lss (.t 24) (.t 25)), none, []⟩]) (.cond (.t 26) .skip (.exit 0))) (.seq
  (.block 1 (.seq (.region [⟨(some 29), (.mov (.t 0)), none, []⟩, ⟨(some 30), (.nilck (.t 29)), none, []⟩, ⟨(some 31), (.lea 2 (.t 30)), none, []⟩, ⟨(some 32), (.load none none (.t 31)), none, []⟩, ⟨(some 33), (.len 1 (.t 32)), none, []⟩,
  ⟨(some 34), (.mksl 4 1 [(.bool false)] (.t 33) (.t 33)), none, []⟩, ⟨(some 8), (.mov (.t 34)), none, []⟩]) (.seq (.seq (.region [⟨(some 9), (.mov (.c (.int .i64 0))), none, []⟩]) (.block 2 (.loop (.seq (.seq (.region [⟨(some 35), (.mov (.t
  9)), none, []⟩, ⟨(some 36), (.mov (.t 5)), none, []⟩, ⟨(some 37), (.len 1 (.t 36)), none, []⟩, ⟨(some 38), (.bin .lss (.t 35) (.t 37)), none, []⟩]) (.cond (.t 38) .skip (.exit 2))) (.seq (.block 3 (.seq (.region [⟨(some 41), (.mov (.t 5)),
  none, []⟩, ⟨(some 42), (.mov (.t 9)), none, []⟩, ⟨(some 43), (.idx 1 (.t 41) (.t 42)), none, []⟩, ⟨(some 44), (.load none none (.t 43)), none, []⟩]) (.cond (.t 44) (.seq (.region [⟨(some 45), (.mov (.t 8)), none, []⟩, ⟨(some 46), (.mov (.t
  0)), none, []⟩, ⟨(some 47), (.nilck (.t 46)), none, []⟩, ⟨(some 48), (.lea 3 (.t 47)), none, []⟩, ⟨(some 49), (.load none none (.t 48)), none, []⟩, ⟨(some 50), (.mov (.t 9)), none, []⟩, ⟨(some 51), (.idx 1 (.t 49) (.t 50)), none, []⟩,
  ⟨(some 52), (.load none none (.t 51)), none, []⟩, ⟨(some 53), (.idx 1 (.t 52) (.c (.int .i64 0))), none, []⟩, ⟨(some 54), (.load none none (.t 53)), none, []⟩, ⟨(some 55), (.idx 1 (.t 45) (.t 54)), none, []⟩, ⟨none, (.store none 1 (.t 55)
  (.c (.bool true))), none, []⟩]) (.region [⟨(some 56), (.mov (.t 8)), none, []⟩, ⟨(some 57), (.mov (.t 0)), none, []⟩, ⟨(some 58), (.nilck (.t 57)), none, []⟩, ⟨(some 59), (.lea 3 (.t 58)), none, []⟩, ⟨(some 60), (.load none none (.t 59)),
  none, []⟩, ⟨(some 61), (.mov (.t 9)), none, []⟩, ⟨(some 62), (.idx 1 (.t 60) (.t 61)), none, []⟩, ⟨(some 63), (.load none none (.t 62)), none, []⟩, ⟨(some 64), (.idx 1 (.t 63) (.c (.int .i64 1))), none, []⟩, ⟨(some 65), (.load none none
  (.t 64)), none, []⟩, ⟨(some 66), (.idx 1 (.t 56) (.t 65)), none, []⟩, ⟨none, (.store none 1 (.t 66) (.c (.bool true))), none, []⟩])) .skip))) (.region [⟨(some 39), (.mov (.t 9)), none, []⟩, ⟨(some 40), (.bin .add (.t 39) (.c (.int .i64
  1))), none, []⟩, ⟨(some 9), (.mov (.t 40)), none, []⟩])))))) (.seq (.region [⟨(some 67), (.mov (.t 6)), none, []⟩, ⟨(some 68), (.mov (.t 8)), none, []⟩, ⟨(some 69), (.mk 22 1 [.nils] [(0, (1, (.t 68)))]), none, []⟩, ⟨(some 70), (.app 22 1
  24 (.t 67) (.t 69)), none, []⟩, ⟨(some 6), (.mov (.t 70)), none, []⟩]) (.region [⟨(some 71), (.mov (.t 8)), none, []⟩, ⟨(some 5), (.mov (.t 71)), none, []⟩]))))) (.region [⟨(some 27), (.mov (.t 7)), none, []⟩, ⟨(some 28), (.bin .add (.t
  27) (.c (.int .i64 1))), none, []⟩, ⟨(some 7), (.mov (.t 28)), none, []⟩])))))) (.seq (.region [⟨(some 72), (.mov (.t 6)), none, []⟩, ⟨(some 4), (.mov (.t 72)), none, []⟩]) .ret))))))⟩
theorem irOk96 : compFun Tryd.prog.underlying Tryd.prog.info? sq Tryd.f96 = some ir96 := by kernel_rfl
def ir97 : BFun := ⟨[(.tmp 8)], (.seq (.region [⟨(some 8), (.mov (.c .nils)), none, []⟩]) (.seq (.region [⟨(some 11), (.mk 4 0 [] []), none, []⟩, ⟨(some 9), (.mov (.t 11)), none, []⟩]) (.seq (.seq (.region [⟨(some 10), (.mov (.c (.int .i64
  0))), none, []⟩]) (.block 0 (.loop (.seq (.seq (.region [⟨(some 12), (.mov (.t 10)), none, []⟩, ⟨(some 13), (.mov (.t 1)), none, []⟩, ⟨(some 14), (.len 1 (.t 13)), none, []⟩, ⟨(some 15), (.bin .lss (.t 12) (.t 14)), none, []⟩]) (.cond (.t
  15) .skip (.exit 0))) (.seq (.block 1 (.region [⟨(some 18), (.mov (.t 9)), none, []⟩, ⟨(some 19), (.mov (.t 1)), none, []⟩, ⟨(some 20), (.mov (.t 10)), none, []⟩, ⟨(some 21), (.idx 1 (.t 19) (.t 20)), none, []⟩, ⟨(some 22), (.load none
  none (.t 21)), none, []⟩, ⟨(some 23), (.mov (.t 22)), none, []⟩, ⟨(some 24), (.mov (.t 2)), (some (23, true)), []⟩, ⟨(some 25), (.mov (.t 0)), (some (23, true)), []⟩, ⟨(some 26), (.nilck (.t 25)), (some (23, true)), []⟩, ⟨(some 27), (.lea
  3 (.t 26)), (some (23, true)), []⟩, ⟨(some 28), (.load none none (.t 27)), (some (23, true)), []⟩, ⟨(some 29), (.mov (.t 10)), (some (23, true)), []⟩, ⟨(some 30), (.idx 1 (.t 28) (.t 29)), (some (23, true)), []⟩, ⟨(some 31), (.load none
  none (.t 30)), (some (23, true)), []⟩, ⟨(some 32), (.mov (.t 3)), (some (23, true)), []⟩, ⟨(some 33), (.idx 1 (.t 31) (.t 32)), (some (23, true)), []⟩, ⟨(some 34), (.load none none (.t 33)), (some (23, true)), []⟩, ⟨(some 35), (.idx 1 (.t
  24) (.t 34)), (some (23, true)), []⟩, ⟨(some 36), (.load none none (.t 35)), (some (23, true)), []⟩, ⟨(some 37), (.pick (.t 23) (.t 36) (.c (.bool false))), none, []⟩, ⟨(some 38), (.mk 4 1 [(.bool false)] [(0, (1, (.t 37)))]), none, []⟩,
  ⟨(some 39), (.app 4 1 1 (.t 18) (.t 38)), none, []⟩, ⟨(some 9), (.mov (.t 39)), none, []⟩])) (.region [⟨(some 16), (.mov (.t 10)), none, []⟩, ⟨(some 17), (.bin .add (.t 16) (.c (.int .i64 1))), none, []⟩, ⟨(some 10), (.mov (.t 17)), none,
  []⟩])))))) (.seq (.region [⟨(some 40), (.mov (.t 9)), none, []⟩, ⟨(some 8), (.mov (.t 40)), none, []⟩]) .ret))))⟩
theorem irOk97 : compFun Tryd.prog.underlying Tryd.prog.info? sq Tryd.f97 = some ir97 := by kernel_rfl
def ir98 : BFun := ⟨[(.tmp 2)], (.seq (.region [⟨(some 2), (.mov (.c (.bool false))), none, []⟩]) (.seq (.seq (.region [⟨(some 3), (.mov (.c (.int .i64 0))), none, []⟩]) (.block 0 (.loop (.seq (.seq (.region [⟨(some 4), (.mov (.t 3)), none,
  []⟩, ⟨(some 5), (.mov (.t 0)), none, []⟩, ⟨(some 6), (.len 1 (.t 5)), none, []⟩, ⟨(some 7), (.bin .lss (.t 4) (.t 6)), none, []⟩]) (.cond (.t 7) .skip (.exit 0))) (.seq (.block 1 (.seq (.region [⟨(some 10), (.mov (.t 0)), none, []⟩, ⟨(some
  11), (.mov (.t 3)), none, []⟩, ⟨(some 12), (.idx 1 (.t 10) (.t 11)), none, []⟩, ⟨(some 13), (.load none none (.t 12)), none, []⟩]) (.cond (.t 13) (.seq (.region [⟨(some 2), (.mov (.c (.bool true))), none, []⟩]) .ret) .skip))) (.region
  [⟨(some 8), (.mov (.t 3)), none, []⟩, ⟨(some 9), (.bin .add (.t 8) (.c (.int .i64 1))), none, []⟩, ⟨(some 3), (.mov (.t 9)), none, []⟩])))))) (.seq (.region [⟨(some 2), (.mov (.c (.bool false))), none, []⟩]) .ret)))⟩
theorem irOk98 : compFun Tryd.prog.underlying Tryd.prog.info? sq Tryd.f98 = some ir98 := by kernel_rfl
def ir99 : BFun := ⟨[(.tmp 4)], (.seq (.region [⟨(some 4), (.mov (.c .nils)), none, []⟩]) (.seq (.region [⟨(some 5), (.mov (.c .nils)), none, []⟩]) (.seq (.block 0 (.loop (.seq (.seq (.region [⟨(some 6), (.mov (.t 0)), none, []⟩, ⟨(some 7),
  (.bin .gtr (.t 6) (.c (.int .i64 0))), none, []⟩]) (.cond (.t 7) .skip (.exit 0))) (.seq (.block 1 (.seq (.region [⟨(some 10), (.mov (.t 5)), none, []⟩, ⟨(some 11), (.mov (.t 1)), none, []⟩, ⟨(some 12), (.bin .rem (.t 11) (.c (.int .i64
  3))), none, []⟩, ⟨(some 13), (.mk 3 1 [(.int .i64 0)] [(0, (1, (.t 12)))]), none, []⟩, ⟨(some 14), (.app 3 1 8 (.t 10) (.t 13)), none, []⟩, ⟨(some 5), (.mov (.t 14)), none, []⟩]) (.region [⟨(some 15), (.mov (.t 1)), none, []⟩, ⟨(some 16),
  (.bin .quo (.t 15) (.c (.int .i64 3))), none, []⟩, ⟨(some 1), (.mov (.t 16)), none, []⟩]))) (.region [⟨(some 8), (.mov (.t 0)), none, []⟩, ⟨(some 9), (.bin .sub (.t 8) (.c (.int .i64 1))), none, []⟩, ⟨(some 0), (.mov (.t 9)), none,
  []⟩]))))) (.seq (.region [⟨(some 17), (.mov (.t 5)), none, []⟩, ⟨(some 4), (.mov (.t 17)), none, []⟩]) .ret))))⟩
theorem irOk99 : compFun Tryd.prog.underlying Tryd.prog.info? sq Tryd.f99 = some ir99 := by kernel_rfl
def ir100 : BFun := ⟨[(.cell 10 (some 4)), (.tmp 11)], (.seq (.region [⟨(some 6), (.box 114 (.t 1)), none, []⟩, ⟨(some 10), (.new 62 [(.int .i64 0), (.int .i64 0), .nils, .nils]), none, []⟩, ⟨(some 11), (.mov (.c (.bool false))), none, []⟩])
  (.seq (.region [⟨(some 22), (.mov (.t 0)), none, []⟩, ⟨(some 23), (.build [(.int .i64 0), (.int .i64 0), .nils, .nils] [(0, (1, (.t 22)))]), none, []⟩, ⟨(some 12), (.new 62 [(.int .i64 0), (.int .i64 0), .nils, .nils]), none, []⟩, ⟨none,
  (.store none 4 (.t 12) (.t 23)), none, []⟩]) (.seq (.region [⟨(some 24), .mkmap, none, []⟩, ⟨(some 25), (.load none (some 2) (.t 6)), none, []⟩, ⟨none, (.mset 5 (.t 24) (.t 25) (.c (.int .i64 0))), none, []⟩, ⟨(some 26), (.mov (.t 24)),
  none, []⟩, ⟨(some 13), (.mov (.t 26)), none, []⟩]) (.seq (.region [⟨(some 27), (.load none (some 2) (.t 6)), none, []⟩, ⟨(some 28), (.mk 114 1 [(.int .i64 0), (.int .i64 0)] [(0, (2, (.t 27)))]), none, []⟩, ⟨(some 14), (.mov (.t 28)),
  none, []⟩]) (.seq (.seq (.region [⟨(some 15), (.mov (.c (.int .i64 0))), none, []⟩]) (.block 0 (.loop (.seq (.seq (.region [⟨(some 29), (.mov (.t 15)), none, []⟩, ⟨(some 30), (.mov (.t 14)), none, []⟩, ⟨(some 31), (.len 1 (.t 30)), none,
  []⟩, ⟨(some 32), (.bin .lss (.t 29) (.t 31)), none, []⟩]) (.cond (.t 32) .skip (.exit 0))) (.seq (.block 1 (.seq (.region [⟨(some 35), (.mov (.t 14)), none, []⟩, ⟨(some 36), (.mov (.t 15)), none, []⟩, ⟨(some 37), (.idx 2 (.t 35) (.t 36)),
  none, []⟩, ⟨(some 38), (.load none (some 2) (.t 37)), none, []⟩, ⟨(some 16), (.new 114 [(.int .i64 0), (.int .i64 0)]), none, []⟩, ⟨none, (.store none 2 (.t 16) (.t 38)), none, []⟩]) (.seq (.region [⟨(some 17), (.mov (.c .nils)), none,
  []⟩]) (.seq (.seq (.region [⟨(some 18), (.mov (.c (.int .i64 0))), none, []⟩]) (.block 2 (.loop (.seq (.seq (.region [⟨(some 39), (.mov (.t 18)), none, []⟩, ⟨(some 40), (.mov (.t 0)), none, []⟩, ⟨(some 41), (.call (.c (.fn 60 [])) [(.t
  40)]), none, []⟩, ⟨(some 42), (.bin .lss (.t 39) (.t 41)), none, []⟩]) (.cond (.t 42) .skip (.exit 2))) (.seq (.block 3 (.seq (.region [⟨(some 45), (.mov (.t 4)), none, []⟩, ⟨(some 46), (.load none (some 2) (.t 16)), none, []⟩, ⟨(some 47),
  (.mov (.t 18)), none, []⟩, ⟨(some 48), (.call (.t 45) [(.t 46), (.t 47)]), none, []⟩, ⟨(some 19), (.new 114 [(.int .i64 0), (.int .i64 0)]), none, []⟩, ⟨none, (.store none 2 (.t 19) (.t 48)), none, []⟩]) (.seq (.region [⟨(some 50), (.mov
  (.t 13)), none, []⟩, ⟨(some 51), (.load none (some 2) (.t 19)), none, []⟩, ⟨(some 52), (.look 5 true (.int .i64 0) (.t 50) (.t 51)), none, []⟩, ⟨(some 49), (.mov (.t 52)), none, []⟩, ⟨(some 53), (.ext 0 (.t 49)), none, []⟩, ⟨(some 54),
  (.ext 1 (.t 49)), none, []⟩, ⟨(some 20), (.mov (.t 53)), none, []⟩, ⟨(some 21), (.mov (.t 54)), none, []⟩]) (.seq (.seq (.region [⟨(some 55), (.mov (.t 21)), none, []⟩, ⟨(some 56), (.not (.t 55)), none, []⟩]) (.cond (.t 56) (.seq (.region
  [⟨(some 57), (.mov (.t 14)), none, []⟩, ⟨(some 58), (.len 1 (.t 57)), none, []⟩, ⟨(some 20), (.mov (.t 58)), none, []⟩]) (.seq (.region [⟨(some 59), (.mov (.t 13)), none, []⟩, ⟨(some 60), (.load none (some 2) (.t 19)), none, []⟩, ⟨(some
  61), (.mov (.t 20)), none, []⟩, ⟨none, (.mset 5 (.t 59) (.t 60) (.t 61)), none, []⟩]) (.seq (.region [⟨(some 62), (.mov (.t 14)), none, []⟩, ⟨(some 63), (.load none (some 2) (.t 19)), none, []⟩, ⟨(some 64), (.mk 114 1 [(.int .i64 0), (.int
  .i64 0)] [(0, (2, (.t 63)))]), none, []⟩, ⟨(some 65), (.app 114 2 16 (.t 62) (.t 64)), none, []⟩, ⟨(some 14), (.mov (.t 65)), none, []⟩]) (.seq (.region [⟨(some 66), (.mov (.t 2)), none, []⟩, ⟨(some 67), (.bin .gtr (.t 66) (.c (.int .i64
  0))), none, []⟩, ⟨(some 68), (.mov (.t 67)), none, []⟩, ⟨(some 69), (.mov (.t 14)), (some (68, true)), []⟩, ⟨(some 70), (.len 1 (.t 69)), (some (68, true)), []⟩, ⟨(some 71), (.mov (.t 2)), (some (68, true)), []⟩, ⟨(some 72), (.bin .gtr (.t
  70) (.t 71)), (some (68, true)), []⟩, ⟨(some 73), (.pick (.t 68) (.t 72) (.c (.bool false))), none, []⟩]) (.cond (.t 73) (.seq (.region [⟨(some 74), (.build [(.int .i64 0), (.int .i64 0), .nils, .nils] []), none, []⟩, ⟨none, (.store none 4
  (.t 10) (.t 74)), none, []⟩, ⟨(some 11), (.mov (.c (.bool false))), none, []⟩]) .ret) .skip))))) .skip)) (.region [⟨(some 75), (.mov (.t 17)), none, []⟩, ⟨(some 76), (.mov (.t 20)), none, []⟩, ⟨(some 77), (.mk 3 1 [(.int .i64 0)] [(0, (1,
  (.t 76)))]), none, []⟩, ⟨(some 78), (.app 3 1 8 (.t 75) (.t 77)), none, []⟩, ⟨(some 17), (.mov (.t 78)), none, []⟩]))))) (.region [⟨(some 43), (.mov (.t 18)), none, []⟩, ⟨(some 44), (.bin .add (.t 43) (.c (.int .i64 1))), none, []⟩, ⟨(some
  18), (.mov (.t 44)), none, []⟩])))))) (.seq (.region [⟨(some 79), (.lea 2 (.t 12)), none, []⟩, ⟨(some 80), (.load (some 62) none (.t 79)), none, []⟩, ⟨(some 81), (.mov (.t 3)), none, []⟩, ⟨(some 82), (.load none (some 2) (.t 16)), none,
  []⟩, ⟨(some 83), (.call (.t 81) [(.t 82)]), none, [62]⟩, ⟨(some 84), (.mk 4 1 [(.bool false)] [(0, (1, (.t 83)))]), none, []⟩, ⟨(some 85), (.app 4 1 1 (.t 80) (.t 84)), none, []⟩, ⟨(some 86), (.lea 2 (.t 12)), none, []⟩, ⟨none, (.store
  none 1 (.t 86) (.t 85)), none, []⟩]) (.region [⟨(some 87), (.lea 3 (.t 12)), none, []⟩, ⟨(some 88), (.load none none (.t 87)), none, []⟩, ⟨(some 89), (.mov (.t 17)), none, []⟩, ⟨(some 90), (.mk 65 1 [.nils] [(0, (1, (.t 89)))]), none, []⟩,
  ⟨(some 91), (.app 65 1 24 (.t 88) (.t 90)), none, []⟩, ⟨(some 92), (.lea 3 (.t 12)), none, []⟩, ⟨none, (.store none 1 (.t 92) (.t 91)), none, []⟩])))))) (.region [⟨(some 33), (.mov (.t 15)), none, []⟩, ⟨(some 34), (.bin .add (.t 33) (.c
  (.int .i64 1))), none, []⟩, ⟨(some 15), (.mov (.t 34)), none, []⟩])))))) (.seq (.region [⟨(some 93), (.load none (some 4) (.t 12)), none, []⟩, ⟨none, (.store none 4 (.t 10) (.t 93)), none, []⟩, ⟨(some 11), (.mov (.c (.bool true))), none,
  []⟩]) .ret))))))⟩
theorem irOk100 : compFun Tryd.prog.underlying Tryd.prog.info? sq Tryd.f100 = some ir100 := by kernel_rfl
def ir101 : BFun := ⟨[(.tmp 3)], (.seq (.region [⟨(some 2), (.box 114 (.t 0)), none, []⟩, ⟨(some 3), (.mov (.c (.bool false))), none, []⟩]) (.seq (.region [⟨(some 4), (.lea 1 (.t 2)), none, []⟩, ⟨(some 5), (.load none none (.t 4)), none,
  []⟩, ⟨(some 6), (.bin .geq (.t 5) (.c (.int .i64 0))), none, []⟩, ⟨(some 7), (.mov (.t 6)), none, []⟩, ⟨(some 8), (.lea 2 (.t 1)), (some (7, true)), []⟩, ⟨(some 9), (.load none none (.t 8)), (some (7, true)), []⟩, ⟨(some 10), (.lea 0 (.t
  2)), (some (7, true)), []⟩, ⟨(some 11), (.load none none (.t 10)), (some (7, true)), []⟩, ⟨(some 12), (.idx 1 (.t 9) (.t 11)), (some (7, true)), []⟩, ⟨(some 13), (.load none none (.t 12)), (some (7, true)), []⟩, ⟨(some 14), (.pick (.t 7)
  (.t 13) (.c (.bool false))), none, []⟩, ⟨(some 3), (.mov (.t 14)), none, []⟩]) .ret))⟩
theorem irOk101 : compFun Tryd.prog.underlying Tryd.prog.info? sq Tryd.f101 = some ir101 := by kernel_rfl
def ir102 : BFun := ⟨[(.cell 6 (some 2))], (.seq (.region [⟨(some 4), (.box 114 (.t 0)), none, []⟩, ⟨(some 6), (.new 114 [(.int .i64 0), (.int .i64 0)]), none, []⟩]) (.seq (.seq (.region [⟨(some 7), (.lea 1 (.t 4)), none, []⟩, ⟨(some 8),
  (.load none none (.t 7)), none, []⟩, ⟨(some 9), (.bin .lss (.t 8) (.c (.int .i64 0))), none, []⟩, ⟨(some 10), (.mov (.t 9)), none, []⟩, ⟨(some 11), (.lea 1 (.t 4)), (some (10, false)), []⟩, ⟨(some 12), (.load none none (.t 11)), (some (10,
  false)), []⟩, ⟨(some 13), (.load none none (.t 2)), (some (10, false)), []⟩, ⟨(some 14), (.mov (.t 1)), (some (10, false)), []⟩, ⟨(some 15), (.idx 1 (.t 13) (.t 14)), (some (10, false)), []⟩, ⟨(some 16), (.load none none (.t 15)), (some
  (10, false)), []⟩, ⟨(some 17), (.bin .andNot (.t 12) (.t 16)), (some (10, false)), []⟩, ⟨(some 18), (.bin .neq (.t 17) (.c (.int .i64 0))), (some (10, false)), []⟩, ⟨(some 19), (.pick (.t 10) (.c (.bool true)) (.t 18)), none, []⟩]) (.cond
  (.t 19) (.seq (.region [⟨(some 20), (.build [(.int .i64 0), (.int .i64 0)] [(1, (1, (.c (.int .i64 (-1)))))]), none, []⟩, ⟨none, (.store none 2 (.t 6) (.t 20)), none, []⟩]) .ret) .skip)) (.seq (.region [⟨(some 21), (.lea 3 (.t 3)), none,
  []⟩, ⟨(some 22), (.load none none (.t 21)), none, []⟩, ⟨(some 23), (.lea 0 (.t 4)), none, []⟩, ⟨(some 24), (.load none none (.t 23)), none, []⟩, ⟨(some 25), (.idx 1 (.t 22) (.t 24)), none, []⟩, ⟨(some 26), (.load none none (.t 25)), none,
  []⟩, ⟨(some 27), (.mov (.t 1)), none, []⟩, ⟨(some 28), (.idx 1 (.t 26) (.t 27)), none, []⟩, ⟨(some 29), (.load none none (.t 28)), none, []⟩, ⟨(some 30), (.load none none (.t 2)), none, []⟩, ⟨(some 31), (.mov (.t 1)), none, []⟩, ⟨(some
  32), (.idx 1 (.t 30) (.t 31)), none, []⟩, ⟨(some 33), (.load none none (.t 32)), none, []⟩, ⟨(some 34), (.build [(.int .i64 0), (.int .i64 0)] [(0, (1, (.t 29))), (1, (1, (.t 33)))]), none, []⟩, ⟨none, (.store none 2 (.t 6) (.t 34)), none,
  []⟩]) .ret)))⟩
theorem irOk102 : compFun Tryd.prog.underlying Tryd.prog.info? sq Tryd.f102 = some ir102 := by kernel_rfl
def ir103 : BFun := ⟨[(.cell 2 (some 4))], (.seq (.region [⟨(some 1), (.box 62 (.t 0)), none, []⟩, ⟨(some 2), (.new 62 [(.int .i64 0), (.int .i64 0), .nils, .nils]), none, []⟩]) (.seq (.region [⟨(some 21), (.lea 2 (.t 1)), none, []⟩, ⟨(some
  22), (.load none none (.t 21)), none, []⟩, ⟨(some 23), (.len 1 (.t 22)), none, []⟩, ⟨(some 24), (.mksl 3 8 [(.int .i64 0)] (.t 23) (.t 23)), none, []⟩, ⟨(some 3), (.new 65 [.nils]), none, []⟩, ⟨none, (.store none 1 (.t 3) (.t 24)), none,
  []⟩]) (.seq (.seq (.region [⟨(some 25), (.lea 2 (.t 1)), none, []⟩, ⟨(some 26), (.load none none (.t 25)), none, []⟩, ⟨(some 27), (.len 1 (.t 26)), none, []⟩, ⟨(some 28), (.mov (.c (.int .i64 0))), none, []⟩]) (.block 0 (.loop (.seq
  (.region [⟨(some 29), (.bin .lss (.t 28) (.t 27)), none, []⟩]) (.seq (.cond (.t 29) .skip (.exit 0)) (.seq (.block 1 (.seq (.region [⟨(some 30), (.mov (.t 28)), none, []⟩, ⟨(some 31), (.idx 1 (.t 26) (.t 28)), none, []⟩, ⟨(some 32), (.load
  none none (.t 31)), none, []⟩, ⟨(some 4), (.mov (.t 30)), none, []⟩, ⟨(some 5), (.mov (.t 32)), none, []⟩]) (.seq (.region [⟨(some 33), (.mov (.t 5)), none, []⟩]) (.cond (.t 33) (.region [⟨(some 34), (.load none none (.t 3)), none, []⟩,
  ⟨(some 35), (.mov (.t 4)), none, []⟩, ⟨(some 36), (.idx 1 (.t 34) (.t 35)), none, []⟩, ⟨none, (.store none 1 (.t 36) (.c (.int .i64 1))), none, []⟩]) .skip)))) (.region [⟨(some 37), (.bin .add (.t 28) (.c (.int .i64 1))), none, []⟩, ⟨(some
  28), (.mov (.t 37)), none, []⟩]))))))) (.seq (.seq (.region [⟨(some 6), (.mov (.c (.int .i64 0))), none, []⟩]) (.block 2 (.loop (.block 3 (.seq (.region [⟨(some 38), .mkmap, none, []⟩, ⟨(some 7), (.mov (.t 38)), none, []⟩]) (.seq (.region
  [⟨(some 39), (.load none none (.t 3)), none, []⟩, ⟨(some 40), (.len 1 (.t 39)), none, []⟩, ⟨(some 41), (.mksl 3 8 [(.int .i64 0)] (.t 40) (.t 40)), none, []⟩, ⟨(some 8), (.mov (.t 41)), none, []⟩]) (.seq (.seq (.region [⟨(some 42), (.lea 3
  (.t 1)), none, []⟩, ⟨(some 43), (.load none none (.t 42)), none, []⟩, ⟨(some 44), (.len 1 (.t 43)), none, []⟩, ⟨(some 45), (.mov (.c (.int .i64 0))), none, []⟩]) (.block 4 (.loop (.seq (.region [⟨(some 46), (.bin .lss (.t 45) (.t 44)),
  none, []⟩]) (.seq (.cond (.t 46) .skip (.exit 4)) (.seq (.block 5 (.seq (.region [⟨(some 47), (.mov (.t 45)), none, []⟩, ⟨(some 48), (.idx 1 (.t 43) (.t 45)), none, []⟩, ⟨(some 49), (.load none none (.t 48)), none, []⟩, ⟨(some 9), (.mov
  (.t 47)), none, []⟩, ⟨(some 10), (.mov (.t 49)), none, []⟩]) (.seq (.region [⟨(some 50), (.load none none (.t 3)), none, []⟩, ⟨(some 51), (.mov (.t 9)), none, []⟩, ⟨(some 52), (.idx 1 (.t 50) (.t 51)), none, []⟩, ⟨(some 53), (.load none
  none (.t 52)), none, []⟩, ⟨(some 54), (.call (.c (.fn 118 [])) [(.t 53)]), none, []⟩, ⟨(some 11), (.mov (.t 54)), none, []⟩]) (.seq (.seq (.region [⟨(some 55), (.mov (.t 10)), none, []⟩, ⟨(some 56), (.len 1 (.t 55)), none, []⟩, ⟨(some 57),
  (.mov (.c (.int .i64 0))), none, []⟩]) (.block 6 (.loop (.seq (.region [⟨(some 58), (.bin .lss (.t 57) (.t 56)), none, []⟩]) (.seq (.cond (.t 58) .skip (.exit 6)) (.seq (.block 7 (.seq (.region [⟨(some 59), (.idx 1 (.t 55) (.t 57)), none,
  []⟩, ⟨(some 60), (.load none none (.t 59)), none, []⟩, ⟨(some 13), (.mov (.t 60)), none, []⟩]) (.region [⟨(some 61), (.mov (.t 11)), none, []⟩, ⟨(some 62), (.load none none (.t 3)), none, []⟩, ⟨(some 63), (.mov (.t 13)), none, []⟩, ⟨(some
  64), (.idx 1 (.t 62) (.t 63)), none, []⟩, ⟨(some 65), (.load none none (.t 64)), none, []⟩, ⟨(some 66), (.call (.c (.fn 118 [])) [(.t 65)]), none, []⟩, ⟨(some 67), (.bin .add (.c (.str ⟨#[44]⟩)) (.t 66)), none, []⟩, ⟨(some 68), (.bin .add
  (.t 61) (.t 67)), none, []⟩, ⟨(some 11), (.mov (.t 68)), none, []⟩]))) (.region [⟨(some 69), (.bin .add (.t 57) (.c (.int .i64 1))), none, []⟩, ⟨(some 57), (.mov (.t 69)), none, []⟩]))))))) (.seq (.region [⟨(some 71), (.mov (.t 7)), none,
  []⟩, ⟨(some 72), (.mov (.t 11)), none, []⟩, ⟨(some 73), (.look 1 true (.int .i64 0) (.t 71) (.t 72)), none, []⟩, ⟨(some 70), (.mov (.t 73)), none, []⟩, ⟨(some 74), (.ext 0 (.t 70)), none, []⟩, ⟨(some 75), (.ext 1 (.t 70)), none, []⟩,
  ⟨(some 14), (.mov (.t 74)), none, []⟩, ⟨(some 15), (.mov (.t 75)), none, []⟩]) (.seq (.seq (.region [⟨(some 76), (.mov (.t 15)), none, []⟩, ⟨(some 77), (.not (.t 76)), none, []⟩]) (.cond (.t 77) (.seq (.region [⟨(some 78), (.mov (.t 7)),
  none, []⟩, ⟨(some 79), (.len 2 (.t 78)), none, []⟩, ⟨(some 14), (.mov (.t 79)), none, []⟩]) (.region [⟨(some 80), (.mov (.t 7)), none, []⟩, ⟨(some 81), (.mov (.t 11)), none, []⟩, ⟨(some 82), (.mov (.t 14)), none, []⟩, ⟨none, (.mset 1 (.t
  80) (.t 81) (.t 82)), none, []⟩])) .skip)) (.region [⟨(some 83), (.mov (.t 8)), none, []⟩, ⟨(some 84), (.mov (.t 9)), none, []⟩, ⟨(some 85), (.mov (.t 14)), none, []⟩, ⟨(some 86), (.idx 1 (.t 83) (.t 84)), none, []⟩, ⟨none, (.store none 1
  (.t 86) (.t 85)), none, []⟩]))))))) (.region [⟨(some 87), (.bin .add (.t 45) (.c (.int .i64 1))), none, []⟩, ⟨(some 45), (.mov (.t 87)), none, []⟩]))))))) (.seq (.region [⟨(some 88), (.mov (.t 8)), none, []⟩, ⟨none, (.store none 1 (.t 3)
  (.t 88)), none, []⟩]) (.seq (.seq (.region [⟨(some 89), (.mov (.t 7)), none, []⟩, ⟨(some 90), (.len 2 (.t 89)), none, []⟩, ⟨(some 91), (.mov (.t 6)), none, []⟩, ⟨(some 92), (.bin .eql (.t 90) (.t 91)), none, []⟩]) (.cond (.t 92) (.exit 2)
  .skip)) (.region [⟨(some 93), (.mov (.t 7)), none, []⟩, ⟨(some 94), (.len 2 (.t 93)), none, []⟩, ⟨(some 6), (.mov (.t 94)), none, []⟩])))))))))) (.seq (.region [⟨(some 95), (.load none none (.t 3)), none, []⟩, ⟨(some 96), (.len 1 (.t 95)),
  none, []⟩, ⟨(some 97), (.mksl 3 8 [(.int .i64 0)] (.t 96) (.t 96)), none, []⟩, ⟨(some 16), (.new 65 [.nils]), none, []⟩, ⟨none, (.store none 1 (.t 16) (.t 97)), none, []⟩]) (.seq (.seq (.region [⟨(some 98), (.load none none (.t 3)), none,
  []⟩, ⟨(some 99), (.len 1 (.t 98)), none, []⟩, ⟨(some 100), (.mov (.c (.int .i64 0))), none, []⟩]) (.block 8 (.loop (.seq (.region [⟨(some 101), (.bin .lss (.t 100) (.t 99)), none, []⟩]) (.seq (.cond (.t 101) .skip (.exit 8)) (.seq (.block
  9 (.seq (.region [⟨(some 102), (.mov (.t 100)), none, []⟩, ⟨(some 103), (.idx 1 (.t 98) (.t 100)), none, []⟩, ⟨(some 104), (.load none none (.t 103)), none, []⟩, ⟨(some 17), (.mov (.t 102)), none, []⟩, ⟨(some 18), (.mov (.t 104)), none,
  []⟩]) (.region [⟨(some 105), (.load none none (.t 16)), none, []⟩, ⟨(some 106), (.mov (.t 18)), none, []⟩, ⟨(some 107), (.mov (.t 17)), none, []⟩, ⟨(some 108), (.idx 1 (.t 105) (.t 106)), none, []⟩, ⟨none, (.store none 1 (.t 108) (.t
  107)), none, []⟩]))) (.region [⟨(some 109), (.bin .add (.t 100) (.c (.int .i64 1))), none, []⟩, ⟨(some 100), (.mov (.t 109)), none, []⟩]))))))) (.seq (.region [⟨(some 111), (.lea 0 (.t 1)), none, []⟩, ⟨(some 112), (.load none none (.t
  111)), none, []⟩, ⟨(some 113), (.load none none (.t 3)), none, []⟩, ⟨(some 114), (.lea 1 (.t 1)), none, []⟩, ⟨(some 115), (.load none none (.t 114)), none, []⟩, ⟨(some 116), (.idx 1 (.t 113) (.t 115)), none, []⟩, ⟨(some 117), (.load none
  none (.t 116)), none, []⟩, ⟨(some 118), (.mkfn 119 [(.t 1), (.t 16)]), none, []⟩, ⟨(some 119), (.mkfn 120 [(.t 3), (.t 1), (.t 16)]), none, []⟩, ⟨(some 120), (.call (.c (.fn 88 [])) [(.t 112), (.t 117), (.c (.int .i64 0)), (.t 118), (.t
  119)]), none, []⟩, ⟨(some 110), (.mov (.t 120)), none, []⟩, ⟨(some 121), (.ext 0 (.t 110)), none, []⟩, ⟨(some 122), (.ext 1 (.t 110)), none, []⟩, ⟨(some 19), (.new 62 [(.int .i64 0), (.int .i64 0), .nils, .nils]), none, []⟩, ⟨none, (.store
  none 4 (.t 19) (.t 121)), none, []⟩, ⟨(some 20), (.mov (.t 122)), none, []⟩]) (.seq (.region [⟨(some 123), (.load none (some 4) (.t 19)), none, []⟩, ⟨none, (.store none 4 (.t 2) (.t 123)), none, []⟩]) .ret))))))))⟩
theorem irOk103 : compFun Tryd.prog.underlying Tryd.prog.info? sq Tryd.f103 = some ir103 := by kernel_rfl
def ir106 : BFun := ⟨[(.cell 10 (some 4)), (.tmp 11)], (.seq (.region [⟨(some 10), (.new 62 [(.int .i64 0), (.int .i64 0), .nils, .nils]), none, []⟩, ⟨(some 11), (.mov (.c (.bool false))), none, []⟩]) (.seq (.region [⟨(some 22), (.mov (.t
  0)), none, []⟩, ⟨(some 23), (.build [(.int .i64 0), (.int .i64 0), .nils, .nils] [(0, (1, (.t 22)))]), none, []⟩, ⟨(some 12), (.new 62 [(.int .i64 0), (.int .i64 0), .nils, .nils]), none, []⟩, ⟨none, (.store none 4 (.t 12) (.t 23)), none,
  []⟩]) (.seq (.region [⟨(some 24), .mkmap, none, []⟩, ⟨(some 25), (.mov (.t 1)), none, []⟩, ⟨none, (.mset 1 (.t 24) (.t 25) (.c (.int .i64 0))), none, []⟩, ⟨(some 26), (.mov (.t 24)), none, []⟩, ⟨(some 13), (.mov (.t 26)), none, []⟩]) (.seq
  (.region [⟨(some 27), (.mov (.t 1)), none, []⟩, ⟨(some 28), (.mk 9 1 [(.str ⟨#[]⟩)] [(0, (1, (.t 27)))]), none, []⟩, ⟨(some 14), (.mov (.t 28)), none, []⟩]) (.seq (.seq (.region [⟨(some 15), (.mov (.c (.int .i64 0))), none, []⟩]) (.block 0
  (.loop (.seq (.seq (.region [⟨(some 29), (.mov (.t 15)), none, []⟩, ⟨(some 30), (.mov (.t 14)), none, []⟩, ⟨(some 31), (.len 1 (.t 30)), none, []⟩, ⟨(some 32), (.bin .lss (.t 29) (.t 31)), none, []⟩]) (.cond (.t 32) .skip (.exit 0))) (.seq
  (.block 1 (.seq (.region [⟨(some 35), (.mov (.t 14)), none, []⟩, ⟨(some 36), (.mov (.t 15)), none, []⟩, ⟨(some 37), (.idx 1 (.t 35) (.t 36)), none, []⟩, ⟨(some 38), (.load none none (.t 37)), none, []⟩, ⟨(some 16), (.mov (.t 38)), none,
  []⟩]) (.seq (.region [⟨(some 17), (.mov (.c .nils)), none, []⟩]) (.seq (.seq (.region [⟨(some 18), (.mov (.c (.int .i64 0))), none, []⟩]) (.block 2 (.loop (.seq (.seq (.region [⟨(some 39), (.mov (.t 18)), none, []⟩, ⟨(some 40), (.mov (.t
  0)), none, []⟩, ⟨(some 41), (.call (.c (.fn 60 [])) [(.t 40)]), none, []⟩, ⟨(some 42), (.bin .lss (.t 39) (.t 41)), none, []⟩]) (.cond (.t 42) .skip (.exit 2))) (.seq (.block 3 (.seq (.region [⟨(some 45), (.mov (.t 4)), none, []⟩, ⟨(some
  46), (.mov (.t 16)), none, []⟩, ⟨(some 47), (.mov (.t 18)), none, []⟩, ⟨(some 48), (.call (.t 45) [(.t 46), (.t 47)]), none, []⟩, ⟨(some 19), (.mov (.t 48)), none, []⟩]) (.seq (.region [⟨(some 50), (.mov (.t 13)), none, []⟩, ⟨(some 51),
  (.mov (.t 19)), none, []⟩, ⟨(some 52), (.look 1 true (.int .i64 0) (.t 50) (.t 51)), none, []⟩, ⟨(some 49), (.mov (.t 52)), none, []⟩, ⟨(some 53), (.ext 0 (.t 49)), none, []⟩, ⟨(some 54), (.ext 1 (.t 49)), none, []⟩, ⟨(some 20), (.mov (.t
  53)), none, []⟩, ⟨(some 21), (.mov (.t 54)), none, []⟩]) (.seq (.seq (.region [⟨(some 55), (.mov (.t 21)), none, []⟩, ⟨(some 56), (.not (.t 55)), none, []⟩]) (.cond (.t 56) (.seq (.region [⟨(some 57), (.mov (.t 14)), none, []⟩, ⟨(some 58),
  (.len 1 (.t 57)), none, []⟩, ⟨(some 20), (.mov (.t 58)), none, []⟩]) (.seq (.region [⟨(some 59), (.mov (.t 13)), none, []⟩, ⟨(some 60), (.mov (.t 19)), none, []⟩, ⟨(some 61), (.mov (.t 20)), none, []⟩, ⟨none, (.mset 1 (.t 59) (.t 60) (.t
  61)), none, []⟩]) (.seq (.region [⟨(some 62), (.mov (.t 14)), none, []⟩, ⟨(some 63), (.mov (.t 19)), none, []⟩, ⟨(some 64), (.mk 9 1 [(.str ⟨#[]⟩)] [(0, (1, (.t 63)))]), none, []⟩, ⟨(some 65), (.app 9 1 16 (.t 62) (.t 64)), none, []⟩,
  ⟨(some 14), (.mov (.t 65)), none, []⟩]) (.seq (.region [⟨(some 66), (.mov (.t 2)), none, []⟩, ⟨(some 67), (.bin .gtr (.t 66) (.c (.int .i64 0))), none, []⟩, ⟨(some 68), (.mov (.t 67)), none, []⟩, ⟨(some 69), (.mov (.t 14)), (some (68,
  true)), []⟩, ⟨(some 70), (.len 1 (.t 69)), (some (68, true)), []⟩, ⟨(some 71), (.mov (.t 2)), (some (68, true)), []⟩, ⟨(some 72), (.bin .gtr (.t 70) (.t 71)), (some (68, true)), []⟩, ⟨(some 73), (.pick (.t 68) (.t 72) (.c (.bool false))),
  none, []⟩]) (.cond (.t 73) (.seq (.region [⟨(some 74), (.build [(.int .i64 0), (.int .i64 0), .nils, .nils] []), none, []⟩, ⟨none, (.store none 4 (.t 10) (.t 74)), none, []⟩, ⟨(some 11), (.mov (.c (.bool false))), none, []⟩]) .ret)
  .skip))))) .skip)) (.region [⟨(some 75), (.mov (.t 17)), none, []⟩, ⟨(some 76), (.mov (.t 20)), none, []⟩, ⟨(some 77), (.mk 3 1 [(.int .i64 0)] [(0, (1, (.t 76)))]), none, []⟩, ⟨(some 78), (.app 3 1 8 (.t 75) (.t 77)), none, []⟩, ⟨(some
  17), (.mov (.t 78)), none, []⟩]))))) (.region [⟨(some 43), (.mov (.t 18)), none, []⟩, ⟨(some 44), (.bin .add (.t 43) (.c (.int .i64 1))), none, []⟩, ⟨(some 18), (.mov (.t 44)), none, []⟩])))))) (.seq (.region [⟨(some 79), (.lea 2 (.t 12)),
  none, []⟩, ⟨(some 80), (.load (some 62) none (.t 79)), none, []⟩, ⟨(some 81), (.mov (.t 3)), none, []⟩, ⟨(some 82), (.mov (.t 16)), none, []⟩, ⟨(some 83), (.call (.t 81) [(.t 82)]), none, [62]⟩, ⟨(some 84), (.mk 4 1 [(.bool false)] [(0,
  (1, (.t 83)))]), none, []⟩, ⟨(some 85), (.app 4 1 1 (.t 80) (.t 84)), none, []⟩, ⟨(some 86), (.lea 2 (.t 12)), none, []⟩, ⟨none, (.store none 1 (.t 86) (.t 85)), none, []⟩]) (.region [⟨(some 87), (.lea 3 (.t 12)), none, []⟩, ⟨(some 88),
  (.load none none (.t 87)), none, []⟩, ⟨(some 89), (.mov (.t 17)), none, []⟩, ⟨(some 90), (.mk 65 1 [.nils] [(0, (1, (.t 89)))]), none, []⟩, ⟨(some 91), (.app 65 1 24 (.t 88) (.t 90)), none, []⟩, ⟨(some 92), (.lea 3 (.t 12)), none, []⟩,
  ⟨none, (.store none 1 (.t 92) (.t 91)), none, []⟩])))))) (.region [⟨(some 33), (.mov (.t 15)), none, []⟩, ⟨(some 34), (.bin .add (.t 33) (.c (.int .i64 1))), none, []⟩, ⟨(some 15), (.mov (.t 34)), none, []⟩])))))) (.seq (.region [⟨(some
  93), (.load none (some 4) (.t 12)), none, []⟩, ⟨none, (.store none 4 (.t 10) (.t 93)), none, []⟩, ⟨(some 11), (.mov (.c (.bool true))), none, []⟩]) .ret))))))⟩
theorem irOk106 : compFun Tryd.prog.underlying Tryd.prog.info? sq Tryd.f106 = some ir106 := by kernel_rfl
def ir109 : BFun := ⟨[(.cell 2 (some 4)), (.tmp 3)], (.seq (.region [⟨(some 1), (.box 62 (.t 0)), none, []⟩, ⟨(some 2), (.new 29 [(.int .i64 0), (.int .i64 0), .nils, .nils]), none, []⟩, ⟨(some 3), (.mov (.c (.int .i64 0))), none, []⟩])
  (.seq (.seq (.region [⟨(some 7), (.lea 2 (.t 1)), none, []⟩, ⟨(some 8), (.load none none (.t 7)), none, []⟩, ⟨(some 9), (.len 1 (.t 8)), none, []⟩, ⟨(some 10), (.bin .gtr (.t 9) (.c (.int .i64 150))), none, []⟩]) (.cond (.t 10) (.seq
  (.region [⟨(some 11), (.build [(.int .i64 0), (.int .i64 0), .nils, .nils] []), none, []⟩, ⟨none, (.store none 4 (.t 2) (.t 11)), none, []⟩, ⟨(some 3), (.mov (.c (.int .i64 3))), none, []⟩]) .ret) .skip)) (.seq (.region [⟨(some 12), (.lea
  0 (.t 1)), none, []⟩, ⟨(some 13), (.load (some 62) none (.t 12)), none, []⟩, ⟨(some 14), (.lea 1 (.t 1)), none, []⟩, ⟨(some 15), (.load (some 62) none (.t 14)), none, []⟩, ⟨(some 16), (.lea 2 (.t 1)), none, []⟩, ⟨(some 17), (.load none
  none (.t 16)), none, []⟩, ⟨(some 18), (.call (.c (.fn 64 [])) [(.t 17)]), none, [62]⟩, ⟨(some 19), (.build [(.int .i64 0), (.int .i64 0), .nils, .nils] [(0, (1, (.t 13))), (1, (1, (.t 15))), (2, (1, (.t 18)))]), none, []⟩, ⟨(some 4), (.new
  29 [(.int .i64 0), (.int .i64 0), .nils, .nils]), none, []⟩, ⟨none, (.store none 4 (.t 4) (.t 19)), none, []⟩]) (.seq (.seq (.region [⟨(some 20), (.lea 3 (.t 1)), none, []⟩, ⟨(some 21), (.load none none (.t 20)), none, []⟩, ⟨(some 22),
  (.len 1 (.t 21)), none, []⟩, ⟨(some 23), (.mov (.c (.int .i64 0))), none, []⟩]) (.block 0 (.loop (.seq (.region [⟨(some 24), (.bin .lss (.t 23) (.t 22)), none, []⟩]) (.seq (.cond (.t 24) .skip (.exit 0)) (.seq (.block 1 (.seq (.region
  [⟨(some 25), (.idx 1 (.t 21) (.t 23)), none, []⟩, ⟨(some 26), (.load none none (.t 25)), none, []⟩, ⟨(some 6), (.mov (.t 26)), none, []⟩]) (.region [⟨(some 27), (.lea 3 (.t 4)), none, []⟩, ⟨(some 28), (.load (some 29) none (.t 27)), none,
  []⟩, ⟨(some 29), (.mov (.t 6)), none, []⟩, ⟨(some 30), (.call (.c (.fn 122 [])) [(.t 29)]), none, [29]⟩, ⟨(some 31), (.mk 37 1 [.nils] [(0, (1, (.t 30)))]), none, []⟩, ⟨(some 32), (.app 37 1 24 (.t 28) (.t 31)), none, []⟩, ⟨(some 33),
  (.lea 3 (.t 4)), none, []⟩, ⟨none, (.store none 1 (.t 33) (.t 32)), none, []⟩]))) (.region [⟨(some 34), (.bin .add (.t 23) (.c (.int .i64 1))), none, []⟩, ⟨(some 23), (.mov (.t 34)), none, []⟩]))))))) (.seq (.region [⟨(some 35), (.load
  none (some 4) (.t 4)), none, []⟩, ⟨none, (.store none 4 (.t 2) (.t 35)), none, []⟩, ⟨(some 3), (.mov (.c (.int .i64 0))), none, []⟩]) .ret)))))⟩
theorem irOk109 : compFun Tryd.prog.underlying Tryd.prog.info? sq Tryd.f109 = some ir109 := by kernel_rfl
def ir110 : BFun := ⟨[(.cell 4 (some 4))], (.seq (.region [⟨(some 4), (.new 29 [(.int .i64 0), (.int .i64 0), .nils, .nils]), none, []⟩]) (.seq (.region [⟨(some 11), (.mov (.t 1)), none, []⟩, ⟨(some 12), (.nilck (.t 11)), none, []⟩, ⟨(some
  13), (.lea 2 (.t 12)), none, []⟩, ⟨(some 14), (.load none none (.t 13)), none, []⟩, ⟨(some 15), (.len 1 (.t 14)), none, []⟩, ⟨(some 5), (.mov (.t 15)), none, []⟩]) (.seq (.region [⟨(some 16), (.mov (.t 0)), none, []⟩, ⟨(some 17), (.nilck
  (.t 16)), none, []⟩, ⟨(some 18), (.lea 0 (.t 17)), none, []⟩, ⟨(some 19), (.load none none (.t 18)), none, []⟩, ⟨(some 20), (.mov (.t 0)), none, []⟩, ⟨(some 21), (.nilck (.t 20)), none, []⟩, ⟨(some 22), (.lea 1 (.t 21)), none, []⟩, ⟨(some
  23), (.load none none (.t 22)), none, []⟩, ⟨(some 24), (.mov (.t 5)), none, []⟩, ⟨(some 25), (.bin .mul (.t 23) (.t 24)), none, []⟩, ⟨(some 26), (.mov (.t 1)), none, []⟩, ⟨(some 27), (.nilck (.t 26)), none, []⟩, ⟨(some 28), (.lea 1 (.t
  27)), none, []⟩, ⟨(some 29), (.load none none (.t 28)), none, []⟩, ⟨(some 30), (.bin .add (.t 25) (.t 29)), none, []⟩, ⟨(some 31), (.build [(.int .i64 0), (.int .i64 0), .nils, .nils] [(0, (1, (.t 19))), (1, (1, (.t 30)))]), none, []⟩,
  ⟨(some 6), (.new 29 [(.int .i64 0), (.int .i64 0), .nils, .nils]), none, []⟩, ⟨none, (.store none 4 (.t 6) (.t 31)), none, []⟩]) (.seq (.seq (.region [⟨(some 7), (.mov (.c (.int .i64 0))), none, []⟩]) (.block 0 (.loop (.seq (.seq (.region
  [⟨(some 32), (.mov (.t 7)), none, []⟩, ⟨(some 33), (.mov (.t 0)), none, []⟩, ⟨(some 34), (.nilck (.t 33)), none, []⟩, ⟨(some 35), (.lea 2 (.t 34)), none, []⟩, ⟨(some 36), (.load none none (.t 35)), none, []⟩, ⟨(some 37), (.len 1 (.t 36)),
  none, []⟩, ⟨(some 38), (.bin .lss (.t 32) (.t 37)), none, []⟩]) (.cond (.t 38) .skip (.exit 0))) (.seq (.block 1 (.seq (.region [⟨(some 8), (.mov (.c (.int .i64 0))), none, []⟩]) (.block 2 (.loop (.seq (.seq (.region [⟨(some 41), (.mov (.t
  8)), none, []⟩, ⟨(some 42), (.mov (.t 1)), none, []⟩, ⟨(some 43), (.nilck (.t 42)), none, []⟩, ⟨(some 44), (.lea 2 (.t 43)), none, []⟩, ⟨(some 45), (.load none none (.t 44)), none, []⟩, ⟨(some 46), (.len 1 (.t 45)), none, []⟩, ⟨(some 47),
  (.bin .lss (.t 41) (.t 46)), none, []⟩]) (.cond (.t 47) .skip (.exit 2))) (.seq (.block 3 (.seq (.region [⟨(some 50), (.mk 2 0 [] []), none, []⟩, ⟨(some 9), (.mov (.t 50)), none, []⟩]) (.seq (.seq (.region [⟨(some 10), (.mov (.c (.int .i64
  0))), none, []⟩]) (.block 4 (.loop (.seq (.seq (.region [⟨(some 51), (.mov (.t 10)), none, []⟩, ⟨(some 52), (.mov (.t 0)), none, []⟩, ⟨(some 53), (.nilck (.t 52)), none, []⟩, ⟨(some 54), (.lea 3 (.t 53)), none, []⟩, ⟨(some 55), (.load none
  none (.t 54)), none, []⟩, ⟨(some 56), (.mov (.t 7)), none, []⟩, ⟨(some 57), (.idx 1 (.t 55) (.t 56)), none, []⟩, ⟨(some 58), (.load none none (.t 57)), none, []⟩, ⟨(some 59), (.len 1 (.t 58)), none, []⟩, ⟨(some 60), (.bin .lss (.t 51) (.t
  59)), none, []⟩]) (.cond (.t 60) .skip (.exit 4))) (.seq (.block 5 (.region [⟨(some 63), (.mov (.t 9)), none, []⟩, ⟨(some 64), (.mov (.t 0)), none, []⟩, ⟨(some 65), (.nilck (.t 64)), none, []⟩, ⟨(some 66), (.lea 3 (.t 65)), none, []⟩,
  ⟨(some 67), (.load none none (.t 66)), none, []⟩, ⟨(some 68), (.mov (.t 7)), none, []⟩, ⟨(some 69), (.idx 1 (.t 67) (.t 68)), none, []⟩, ⟨(some 70), (.load none none (.t 69)), none, []⟩, ⟨(some 71), (.mov (.t 10)), none, []⟩, ⟨(some 72),
  (.idx 1 (.t 70) (.t 71)), none, []⟩, ⟨(some 73), (.load none none (.t 72)), none, []⟩, ⟨(some 74), (.mov (.t 5)), none, []⟩, ⟨(some 75), (.bin .mul (.t 73) (.t 74)), none, []⟩, ⟨(some 76), (.mov (.t 1)), none, []⟩, ⟨(some 77), (.nilck (.t
  76)), none, []⟩, ⟨(some 78), (.lea 3 (.t 77)), none, []⟩, ⟨(some 79), (.load none none (.t 78)), none, []⟩, ⟨(some 80), (.mov (.t 8)), none, []⟩, ⟨(some 81), (.idx 1 (.t 79) (.t 80)), none, []⟩, ⟨(some 82), (.load none none (.t 81)), none,
  []⟩, ⟨(some 83), (.mov (.t 10)), none, []⟩, ⟨(some 84), (.idx 1 (.t 82) (.t 83)), none, []⟩, ⟨(some 85), (.load none none (.t 84)), none, []⟩, ⟨(some 86), (.bin .add (.t 75) (.t 85)), none, []⟩, ⟨(some 87), (.mk 2 1 [(.int .i64 0)] [(0,
  (1, (.t 86)))]), none, []⟩, ⟨(some 88), (.app 2 1 8 (.t 63) (.t 87)), none, []⟩, ⟨(some 9), (.mov (.t 88)), none, []⟩])) (.region [⟨(some 61), (.mov (.t 10)), none, []⟩, ⟨(some 62), (.bin .add (.t 61) (.c (.int .i64 1))), none, []⟩, ⟨(some
  10), (.mov (.t 62)), none, []⟩])))))) (.seq (.region [⟨(some 89), (.lea 2 (.t 6)), none, []⟩, ⟨(some 90), (.load none none (.t 89)), none, []⟩, ⟨(some 91), (.mov (.t 0)), none, []⟩, ⟨(some 92), (.nilck (.t 91)), none, []⟩, ⟨(some 93),
  (.lea 2 (.t 92)), none, []⟩, ⟨(some 94), (.load none none (.t 93)), none, []⟩, ⟨(some 95), (.mov (.t 7)), none, []⟩, ⟨(some 96), (.idx 1 (.t 94) (.t 95)), none, []⟩, ⟨(some 97), (.load none none (.t 96)), none, []⟩, ⟨(some 98), (.mov (.t
  1)), none, []⟩, ⟨(some 99), (.nilck (.t 98)), none, []⟩, ⟨(some 100), (.lea 2 (.t 99)), none, []⟩, ⟨(some 101), (.load none none (.t 100)), none, []⟩, ⟨(some 102), (.mov (.t 8)), none, []⟩, ⟨(some 103), (.idx 1 (.t 101) (.t 102)), none,
  []⟩, ⟨(some 104), (.load none none (.t 103)), none, []⟩, ⟨(some 105), (.beq true (.t 97) (.t 104)), none, []⟩, ⟨(some 106), (.mk 4 1 [(.bool false)] [(0, (1, (.t 105)))]), none, []⟩, ⟨(some 107), (.app 4 1 1 (.t 90) (.t 106)), none, []⟩,
  ⟨(some 108), (.lea 2 (.t 6)), none, []⟩, ⟨none, (.store none 1 (.t 108) (.t 107)), none, []⟩]) (.region [⟨(some 109), (.lea 3 (.t 6)), none, []⟩, ⟨(some 110), (.load none none (.t 109)), none, []⟩, ⟨(some 111), (.mov (.t 9)), none, []⟩,
  ⟨(some 112), (.mk 37 1 [.nils] [(0, (1, (.t 111)))]), none, []⟩, ⟨(some 113), (.app 37 1 24 (.t 110) (.t 112)), none, []⟩, ⟨(some 114), (.lea 3 (.t 6)), none, []⟩, ⟨none, (.store none 1 (.t 114) (.t 113)), none, []⟩]))))) (.region [⟨(some
  48), (.mov (.t 8)), none, []⟩, ⟨(some 49), (.bin .add (.t 48) (.c (.int .i64 1))), none, []⟩, ⟨(some 8), (.mov (.t 49)), none, []⟩]))))))) (.region [⟨(some 39), (.mov (.t 7)), none, []⟩, ⟨(some 40), (.bin .add (.t 39) (.c (.int .i64 1))),
  none, []⟩, ⟨(some 7), (.mov (.t 40)), none, []⟩])))))) (.seq (.region [⟨(some 115), (.load none (some 4) (.t 6)), none, []⟩, ⟨none, (.store none 4 (.t 4) (.t 115)), none, []⟩]) .ret)))))⟩
theorem irOk110 : compFun Tryd.prog.underlying Tryd.prog.info? sq Tryd.f110 = some ir110 := by kernel_rfl
def ir111 : BFun := ⟨[(.cell 10 (some 4)), (.tmp 11)], (.seq (.region [⟨(some 6), (.box 123 (.t 1)), none, []⟩, ⟨(some 10), (.new 62 [(.int .i64 0), (.int .i64 0), .nils, .nils]), none, []⟩, ⟨(some 11), (.mov (.c (.bool false))), none, []⟩])
  (.seq (.region [⟨(some 22), (.mov (.t 0)), none, []⟩, ⟨(some 23), (.build [(.int .i64 0), (.int .i64 0), .nils, .nils] [(0, (1, (.t 22)))]), none, []⟩, ⟨(some 12), (.new 62 [(.int .i64 0), (.int .i64 0), .nils, .nils]), none, []⟩, ⟨none,
  (.store none 4 (.t 12) (.t 23)), none, []⟩]) (.seq (.region [⟨(some 24), .mkmap, none, []⟩, ⟨(some 25), (.load none (some 2) (.t 6)), none, []⟩, ⟨none, (.mset 5 (.t 24) (.t 25) (.c (.int .i64 0))), none, []⟩, ⟨(some 26), (.mov (.t 24)),
  none, []⟩, ⟨(some 13), (.mov (.t 26)), none, []⟩]) (.seq (.region [⟨(some 27), (.load none (some 2) (.t 6)), none, []⟩, ⟨(some 28), (.mk 123 1 [(.int .i64 0), (.int .i64 0)] [(0, (2, (.t 27)))]), none, []⟩, ⟨(some 14), (.mov (.t 28)),
  none, []⟩]) (.seq (.seq (.region [⟨(some 15), (.mov (.c (.int .i64 0))), none, []⟩]) (.block 0 (.loop (.seq (.seq (.region [⟨(some 29), (.mov (.t 15)), none, []⟩, ⟨(some 30), (.mov (.t 14)), none, []⟩, ⟨(some 31), (.len 1 (.t 30)), none,
  []⟩, ⟨(some 32), (.bin .lss (.t 29) (.t 31)), none, []⟩]) (.cond (.t 32) .skip (.exit 0))) (.seq (.block 1 (.seq (.region [⟨(some 35), (.mov (.t 14)), none, []⟩, ⟨(some 36), (.mov (.t 15)), none, []⟩, ⟨(some 37), (.idx 2 (.t 35) (.t 36)),
  none, []⟩, ⟨(some 38), (.load none (some 2) (.t 37)), none, []⟩, ⟨(some 16), (.new 123 [(.int .i64 0), (.int .i64 0)]), none, []⟩, ⟨none, (.store none 2 (.t 16) (.t 38)), none, []⟩]) (.seq (.region [⟨(some 17), (.mov (.c .nils)), none,
  []⟩]) (.seq (.seq (.region [⟨(some 18), (.mov (.c (.int .i64 0))), none, []⟩]) (.block 2 (.loop (.seq (.seq (.region [⟨(some 39), (.mov (.t 18)), none, []⟩, ⟨(some 40), (.mov (.t 0)), none, []⟩, ⟨(some 41), (.call (.c (.fn 60 [])) [(.t
  40)]), none, []⟩, ⟨(some 42), (.bin .lss (.t 39) (.t 41)), none, []⟩]) (.cond (.t 42) .skip (.exit 2))) (.seq (.block 3 (.seq (.region [⟨(some 45), (.mov (.t 4)), none, []⟩, ⟨(some 46), (.load none (some 2) (.t 16)), none, []⟩, ⟨(some 47),
  (.mov (.t 18)), none, []⟩, ⟨(some 48), (.call (.t 45) [(.t 46), (.t 47)]), none, []⟩, ⟨(some 19), (.new 123 [(.int .i64 0), (.int .i64 0)]), none, []⟩, ⟨none, (.store none 2 (.t 19) (.t 48)), none, []⟩]) (.seq (.region [⟨(some 50), (.mov
  (.t 13)), none, []⟩, ⟨(some 51), (.load none (some 2) (.t 19)), none, []⟩, ⟨(some 52), (.look 5 true (.int .i64 0) (.t 50) (.t 51)), none, []⟩, ⟨(some 49), (.mov (.t 52)), none, []⟩, ⟨(some 53), (.ext 0 (.t 49)), none, []⟩, ⟨(some 54),
  (.ext 1 (.t 49)), none, []⟩, ⟨(some 20), (.mov (.t 53)), none, []⟩, ⟨(some 21), (.mov (.t 54)), none, []⟩]) (.seq (.seq (.region [⟨(some 55), (.mov (.t 21)), none, []⟩, ⟨(some 56), (.not (.t 55)), none, []⟩]) (.cond (.t 56) (.seq (.region
  [⟨(some 57), (.mov (.t 14)), none, []⟩, ⟨(some 58), (.len 1 (.t 57)), none, []⟩, ⟨(some 20), (.mov (.t 58)), none, []⟩]) (.seq (.region [⟨(some 59), (.mov (.t 13)), none, []⟩, ⟨(some 60), (.load none (some 2) (.t 19)), none, []⟩, ⟨(some
  61), (.mov (.t 20)), none, []⟩, ⟨none, (.mset 5 (.t 59) (.t 60) (.t 61)), none, []⟩]) (.seq (.region [⟨(some 62), (.mov (.t 14)), none, []⟩, ⟨(some 63), (.load none (some 2) (.t 19)), none, []⟩, ⟨(some 64), (.mk 123 1 [(.int .i64 0), (.int
  .i64 0)] [(0, (2, (.t 63)))]), none, []⟩, ⟨(some 65), (.app 123 2 16 (.t 62) (.t 64)), none, []⟩, ⟨(some 14), (.mov (.t 65)), none, []⟩]) (.seq (.region [⟨(some 66), (.mov (.t 2)), none, []⟩, ⟨(some 67), (.bin .gtr (.t 66) (.c (.int .i64
  0))), none, []⟩, ⟨(some 68), (.mov (.t 67)), none, []⟩, ⟨(some 69), (.mov (.t 14)), (some (68, true)), []⟩, ⟨(some 70), (.len 1 (.t 69)), (some (68, true)), []⟩, ⟨(some 71), (.mov (.t 2)), (some (68, true)), []⟩, ⟨(some 72), (.bin .gtr (.t
  70) (.t 71)), (some (68, true)), []⟩, ⟨(some 73), (.pick (.t 68) (.t 72) (.c (.bool false))), none, []⟩]) (.cond (.t 73) (.seq (.region [⟨(some 74), (.build [(.int .i64 0), (.int .i64 0), .nils, .nils] []), none, []⟩, ⟨none, (.store none 4
  (.t 10) (.t 74)), none, []⟩, ⟨(some 11), (.mov (.c (.bool false))), none, []⟩]) .ret) .skip))))) .skip)) (.region [⟨(some 75), (.mov (.t 17)), none, []⟩, ⟨(some 76), (.mov (.t 20)), none, []⟩, ⟨(some 77), (.mk 3 1 [(.int .i64 0)] [(0, (1,
  (.t 76)))]), none, []⟩, ⟨(some 78), (.app 3 1 8 (.t 75) (.t 77)), none, []⟩, ⟨(some 17), (.mov (.t 78)), none, []⟩]))))) (.region [⟨(some 43), (.mov (.t 18)), none, []⟩, ⟨(some 44), (.bin .add (.t 43) (.c (.int .i64 1))), none, []⟩, ⟨(some
  18), (.mov (.t 44)), none, []⟩])))))) (.seq (.region [⟨(some 79), (.lea 2 (.t 12)), none, []⟩, ⟨(some 80), (.load (some 62) none (.t 79)), none, []⟩, ⟨(some 81), (.mov (.t 3)), none, []⟩, ⟨(some 82), (.load none (some 2) (.t 16)), none,
  []⟩, ⟨(some 83), (.call (.t 81) [(.t 82)]), none, [62]⟩, ⟨(some 84), (.mk 4 1 [(.bool false)] [(0, (1, (.t 83)))]), none, []⟩, ⟨(some 85), (.app 4 1 1 (.t 80) (.t 84)), none, []⟩, ⟨(some 86), (.lea 2 (.t 12)), none, []⟩, ⟨none, (.store
  none 1 (.t 86) (.t 85)), none, []⟩]) (.region [⟨(some 87), (.lea 3 (.t 12)), none, []⟩, ⟨(some 88), (.load none none (.t 87)), none, []⟩, ⟨(some 89), (.mov (.t 17)), none, []⟩, ⟨(some 90), (.mk 65 1 [.nils] [(0, (1, (.t 89)))]), none, []⟩,
  ⟨(some 91), (.app 65 1 24 (.t 88) (.t 90)), none, []⟩, ⟨(some 92), (.lea 3 (.t 12)), none, []⟩, ⟨none, (.store none 1 (.t 92) (.t 91)), none, []⟩])))))) (.region [⟨(some 33), (.mov (.t 15)), none, []⟩, ⟨(some 34), (.bin .add (.t 33) (.c
  (.int .i64 1))), none, []⟩, ⟨(some 15), (.mov (.t 34)), none, []⟩])))))) (.seq (.region [⟨(some 93), (.load none (some 4) (.t 12)), none, []⟩, ⟨none, (.store none 4 (.t 10) (.t 93)), none, []⟩, ⟨(some 11), (.mov (.c (.bool true))), none,
  []⟩]) .ret))))))⟩
theorem irOk111 : compFun Tryd.prog.underlying Tryd.prog.info? sq Tryd.f111 = some ir111 := by kernel_rfl
def ir112 : BFun := ⟨[(.tmp 5)], (.seq (.region [⟨(some 4), (.box 123 (.t 0)), none, []⟩, ⟨(some 5), (.mov (.c (.bool false))), none, []⟩]) (.seq (.region [⟨(some 6), (.load none none (.t 1)), none, []⟩, ⟨(some 7), (.lea 2 (.t 2)), none,
  []⟩, ⟨(some 8), (.load none none (.t 7)), none, []⟩, ⟨(some 9), (.idxa 2 1 (.t 4) (.c (.int .i64 0))), none, []⟩, ⟨(some 10), (.load none none (.t 9)), none, []⟩, ⟨(some 11), (.idx 1 (.t 8) (.t 10)), none, []⟩, ⟨(some 12), (.load none none
  (.t 11)), none, []⟩, ⟨(some 13), (.lea 2 (.t 3)), none, []⟩, ⟨(some 14), (.load none none (.t 13)), none, []⟩, ⟨(some 15), (.idxa 2 1 (.t 4) (.c (.int .i64 1))), none, []⟩, ⟨(some 16), (.load none none (.t 15)), none, []⟩, ⟨(some 17),
  (.idx 1 (.t 14) (.t 16)), none, []⟩, ⟨(some 18), (.load none none (.t 17)), none, []⟩, ⟨(some 19), (.call (.t 6) [(.t 12), (.t 18)]), none, []⟩, ⟨(some 5), (.mov (.t 19)), none, []⟩]) .ret))⟩
theorem irOk112 : compFun Tryd.prog.underlying Tryd.prog.info? sq Tryd.f112 = some ir112 := by kernel_rfl
def ir113 : BFun := ⟨[(.cell 6 (some 2))], (.seq (.region [⟨(some 4), (.box 123 (.t 0)), none, []⟩, ⟨(some 6), (.new 123 [(.int .i64 0), (.int .i64 0)]), none, []⟩]) (.seq (.region [⟨(some 7), (.lea 3 (.t 2)), none, []⟩, ⟨(some 8), (.load
  none none (.t 7)), none, []⟩, ⟨(some 9), (.idxa 2 1 (.t 4) (.c (.int .i64 0))), none, []⟩, ⟨(some 10), (.load none none (.t 9)), none, []⟩, ⟨(some 11), (.idx 1 (.t 8) (.t 10)), none, []⟩, ⟨(some 12), (.load none none (.t 11)), none, []⟩,
  ⟨(some 13), (.mov (.t 1)), none, []⟩, ⟨(some 14), (.idx 1 (.t 12) (.t 13)), none, []⟩, ⟨(some 15), (.load none none (.t 14)), none, []⟩, ⟨(some 16), (.lea 3 (.t 3)), none, []⟩, ⟨(some 17), (.load none none (.t 16)), none, []⟩, ⟨(some 18),
  (.idxa 2 1 (.t 4) (.c (.int .i64 1))), none, []⟩, ⟨(some 19), (.load none none (.t 18)), none, []⟩, ⟨(some 20), (.idx 1 (.t 17) (.t 19)), none, []⟩, ⟨(some 21), (.load none none (.t 20)), none, []⟩, ⟨(some 22), (.mov (.t 1)), none, []⟩,
  ⟨(some 23), (.idx 1 (.t 21) (.t 22)), none, []⟩, ⟨(some 24), (.load none none (.t 23)), none, []⟩, ⟨(some 25), (.build [(.int .i64 0), (.int .i64 0)] [(0, (1, (.t 15))), (1, (1, (.t 24)))]), none, []⟩, ⟨none, (.store none 2 (.t 6) (.t
  25)), none, []⟩]) .ret))⟩
theorem irOk113 : compFun Tryd.prog.underlying Tryd.prog.info? sq Tryd.f113 = some ir113 := by kernel_rfl
def ir114 : BFun := ⟨[(.tmp 4)], (.seq (.region [⟨(some 4), (.mov (.c (.bool false))), none, []⟩]) (.seq (.region [⟨(some 5), (.mov (.t 0)), none, []⟩, ⟨(some 6), (.mov (.t 1)), none, []⟩, ⟨(some 7), (.call (.c (.fn 123 [])) [(.t 5), (.t
  6)]), none, []⟩, ⟨(some 8), (.bin .geq (.t 7) (.c (.int .i64 0))), none, []⟩, ⟨(some 4), (.mov (.t 8)), none, []⟩]) .ret))⟩
theorem irOk114 : compFun Tryd.prog.underlying Tryd.prog.info? sq Tryd.f114 = some ir114 := by kernel_rfl
def ir115 : BFun := ⟨[(.tmp 6)], (.seq (.region [⟨(some 6), (.mov (.c (.int .i64 0))), none, []⟩]) (.seq (.seq (.region [⟨(some 7), (.mov (.c (.int .i64 0))), none, []⟩]) (.block 0 (.loop (.seq (.seq (.region [⟨(some 9), (.mov (.t 7)), none,
  []⟩, ⟨(some 10), (.mov (.t 0)), none, []⟩, ⟨(some 11), (.bin .lss (.t 9) (.t 10)), none, []⟩]) (.cond (.t 11) .skip (.exit 0))) (.seq (.block 1 (.seq (.region [⟨(some 14), (.mov (.t 2)), none, []⟩, ⟨(some 15), (.mov (.t 7)), none, []⟩,
  ⟨(some 16), (.call (.c (.fn 124 [])) [(.t 14), (.t 15)]), none, []⟩, ⟨(some 17), (.bin .eql (.t 16) (.c (.int .i64 2))), none, []⟩, ⟨(some 8), (.mov (.t 17)), none, []⟩]) (.seq (.seq (.region [⟨(some 18), (.mov (.t 8)), none, []⟩, ⟨(some
  19), (.not (.t 18)), none, []⟩, ⟨(some 20), (.mov (.t 19)), none, []⟩, ⟨(some 21), (.mov (.t 1)), (some (20, true)), []⟩, ⟨(some 22), (.mov (.t 7)), (some (20, true)), []⟩, ⟨(some 23), (.conv .u64 (.t 22)), (some (20, true)), []⟩, ⟨(some
  24), (.bin .shr (.t 21) (.t 23)), (some (20, true)), []⟩, ⟨(some 25), (.bin .and (.t 24) (.c (.int .i64 1))), (some (20, true)), []⟩, ⟨(some 26), (.bin .eql (.t 25) (.c (.int .i64 1))), (some (20, true)), []⟩, ⟨(some 27), (.pick (.t 20)
  (.t 26) (.c (.bool false))), none, []⟩]) (.cond (.t 27) (.seq (.region [⟨(some 6), (.mov (.c (.int .i64 (-1)))), none, []⟩]) .ret) .skip)) (.seq (.region [⟨(some 28), (.mov (.t 8)), none, []⟩]) (.cond (.t 28) (.region [⟨(some 29), (.mov
  (.t 1)), none, []⟩, ⟨(some 30), (.mov (.t 7)), none, []⟩, ⟨(some 31), (.conv .u64 (.t 30)), none, []⟩, ⟨(some 32), (.bin .shl (.c (.int .i64 1)) (.t 31)), none, []⟩, ⟨(some 33), (.bin .or (.t 29) (.t 32)), none, []⟩, ⟨(some 1), (.mov (.t
  33)), none, []⟩]) .skip))))) (.region [⟨(some 12), (.mov (.t 7)), none, []⟩, ⟨(some 13), (.bin .add (.t 12) (.c (.int .i64 1))), none, []⟩, ⟨(some 7), (.mov (.t 13)), none, []⟩])))))) (.seq (.region [⟨(some 34), (.mov (.t 1)), none, []⟩,
  ⟨(some 6), (.mov (.t 34)), none, []⟩]) .ret)))⟩
theorem irOk115 : compFun Tryd.prog.underlying Tryd.prog.info? sq Tryd.f115 = some ir115 := by kernel_rfl
def ir116 : BFun := ⟨[(.tmp 8)], (.seq (.region [⟨(some 8), (.mov (.c (.bool false))), none, []⟩]) (.seq (.seq (.region [⟨(some 9), (.mov (.c (.int .i64 0))), none, []⟩]) (.block 0 (.loop (.seq (.seq (.region [⟨(some 10), (.mov (.t 9)),
  none, []⟩, ⟨(some 11), (.mov (.t 0)), none, []⟩, ⟨(some 12), (.nilck (.t 11)), none, []⟩, ⟨(some 13), (.lea 3 (.t 12)), none, []⟩, ⟨(some 14), (.load none none (.t 13)), none, []⟩, ⟨(some 15), (.mov (.t 2)), none, []⟩, ⟨(some 16), (.idx 1
  (.t 14) (.t 15)), none, []⟩, ⟨(some 17), (.load none none (.t 16)), none, []⟩, ⟨(some 18), (.len 1 (.t 17)), none, []⟩, ⟨(some 19), (.bin .lss (.t 10) (.t 18)), none, []⟩]) (.cond (.t 19) .skip (.exit 0))) (.seq (.block 1 (.seq (.region
  [⟨(some 22), (.mov (.t 1)), none, []⟩, ⟨(some 23), (.mov (.t 0)), none, []⟩, ⟨(some 24), (.nilck (.t 23)), none, []⟩, ⟨(some 25), (.lea 3 (.t 24)), none, []⟩, ⟨(some 26), (.load none none (.t 25)), none, []⟩, ⟨(some 27), (.mov (.t 2)),
  none, []⟩, ⟨(some 28), (.idx 1 (.t 26) (.t 27)), none, []⟩, ⟨(some 29), (.load none none (.t 28)), none, []⟩, ⟨(some 30), (.mov (.t 9)), none, []⟩, ⟨(some 31), (.idx 1 (.t 29) (.t 30)), none, []⟩, ⟨(some 32), (.load none none (.t 31)),
  none, []⟩, ⟨(some 33), (.idx 1 (.t 22) (.t 32)), none, []⟩, ⟨(some 34), (.load none none (.t 33)), none, []⟩, ⟨(some 35), (.mov (.t 1)), none, []⟩, ⟨(some 36), (.mov (.t 0)), none, []⟩, ⟨(some 37), (.nilck (.t 36)), none, []⟩, ⟨(some 38),
  (.lea 3 (.t 37)), none, []⟩, ⟨(some 39), (.load none none (.t 38)), none, []⟩, ⟨(some 40), (.mov (.t 3)), none, []⟩, ⟨(some 41), (.idx 1 (.t 39) (.t 40)), none, []⟩, ⟨(some 42), (.load none none (.t 41)), none, []⟩, ⟨(some 43), (.mov (.t
  9)), none, []⟩, ⟨(some 44), (.idx 1 (.t 42) (.t 43)), none, []⟩, ⟨(some 45), (.load none none (.t 44)), none, []⟩, ⟨(some 46), (.idx 1 (.t 35) (.t 45)), none, []⟩, ⟨(some 47), (.load none none (.t 46)), none, []⟩, ⟨(some 48), (.bin .neq
  (.t 34) (.t 47)), none, []⟩]) (.cond (.t 48) (.seq (.region [⟨(some 8), (.mov (.c (.bool false))), none, []⟩]) .ret) .skip))) (.region [⟨(some 20), (.mov (.t 9)), none, []⟩, ⟨(some 21), (.bin .add (.t 20) (.c (.int .i64 1))), none, []⟩,
  ⟨(some 9), (.mov (.t 21)), none, []⟩])))))) (.seq (.region [⟨(some 8), (.mov (.c (.bool true))), none, []⟩]) .ret)))⟩
theorem irOk116 : compFun Tryd.prog.underlying Tryd.prog.info? sq Tryd.f116 = some ir116 := by kernel_rfl
def ir119 : BFun := ⟨[(.tmp 4)], (.seq (.region [⟨(some 4), (.mov (.c (.bool false))), none, []⟩]) (.seq (.region [⟨(some 5), (.lea 2 (.t 1)), none, []⟩, ⟨(some 6), (.load none none (.t 5)), none, []⟩, ⟨(some 7), (.load none none (.t 2)),
  none, []⟩, ⟨(some 8), (.mov (.t 0)), none, []⟩, ⟨(some 9), (.idx 1 (.t 7) (.t 8)), none, []⟩, ⟨(some 10), (.load none none (.t 9)), none, []⟩, ⟨(some 11), (.idx 1 (.t 6) (.t 10)), none, []⟩, ⟨(some 12), (.load none none (.t 11)), none,
  []⟩, ⟨(some 4), (.mov (.t 12)), none, []⟩]) .ret))⟩
theorem irOk119 : compFun Tryd.prog.underlying Tryd.prog.info? sq Tryd.f119 = some ir119 := by kernel_rfl
def ir120 : BFun := ⟨[(.tmp 7)], (.seq (.region [⟨(some 7), (.mov (.c (.int .i64 0))), none, []⟩]) (.seq (.region [⟨(some 8), (.load none none (.t 2)), none, []⟩, ⟨(some 9), (.lea 3 (.t 3)), none, []⟩, ⟨(some 10), (.load none none (.t 9)),
  none, []⟩, ⟨(some 11), (.load none none (.t 4)), none, []⟩, ⟨(some 12), (.mov (.t 0)), none, []⟩, ⟨(some 13), (.idx 1 (.t 11) (.t 12)), none, []⟩, ⟨(some 14), (.load none none (.t 13)), none, []⟩, ⟨(some 15), (.idx 1 (.t 10) (.t 14)),
  none, []⟩, ⟨(some 16), (.load none none (.t 15)), none, []⟩, ⟨(some 17), (.mov (.t 1)), none, []⟩, ⟨(some 18), (.idx 1 (.t 16) (.t 17)), none, []⟩, ⟨(some 19), (.load none none (.t 18)), none, []⟩, ⟨(some 20), (.idx 1 (.t 8) (.t 19)),
  none, []⟩, ⟨(some 21), (.load none none (.t 20)), none, []⟩, ⟨(some 7), (.mov (.t 21)), none, []⟩]) .ret))⟩
theorem irOk120 : compFun Tryd.prog.underlying Tryd.prog.info? sq Tryd.f120 = some ir120 := by kernel_rfl
def ir122 : BFun := ⟨[(.tmp 2)], (.seq (.region [⟨(some 2), (.mov (.c .nils)), none, []⟩]) (.seq (.region [⟨(some 3), (.mov (.c .nils)), none, []⟩]) (.seq (.seq (.region [⟨(some 6), (.mov (.t 0)), none, []⟩, ⟨(some 7), (.len 1 (.t 6)), none,
  []⟩, ⟨(some 8), (.mov (.c (.int .i64 0))), none, []⟩]) (.block 0 (.loop (.seq (.region [⟨(some 9), (.bin .lss (.t 8) (.t 7)), none, []⟩]) (.seq (.cond (.t 9) .skip (.exit 0)) (.seq (.block 1 (.seq (.region [⟨(some 10), (.idx 1 (.t 6) (.t
  8)), none, []⟩, ⟨(some 11), (.load none none (.t 10)), none, []⟩, ⟨(some 5), (.mov (.t 11)), none, []⟩]) (.region [⟨(some 12), (.mov (.t 3)), none, []⟩, ⟨(some 13), (.mov (.t 5)), none, []⟩, ⟨(some 14), (.mk 2 1 [(.int .i64 0)] [(0, (1,
  (.t 13)))]), none, []⟩, ⟨(some 15), (.app 2 1 8 (.t 12) (.t 14)), none, []⟩, ⟨(some 3), (.mov (.t 15)), none, []⟩]))) (.region [⟨(some 16), (.bin .add (.t 8) (.c (.int .i64 1))), none, []⟩, ⟨(some 8), (.mov (.t 16)), none, []⟩])))))))
  (.seq (.region [⟨(some 17), (.mov (.t 3)), none, []⟩, ⟨(some 2), (.mov (.t 17)), none, []⟩]) .ret))))⟩
theorem irOk122 : compFun Tryd.prog.underlying Tryd.prog.info? sq Tryd.f122 = some ir122 := by kernel_rfl
def ir123 : BFun := ⟨[(.tmp 4)], (.seq (.region [⟨(some 4), (.mov (.c (.int .i64 0))), none, []⟩]) (.seq (.seq (.region [⟨(some 6), (.mov (.t 0)), none, []⟩, ⟨(some 7), (.len 1 (.t 6)), none, []⟩, ⟨(some 8), (.mov (.c (.int .i64 0))), none,
  []⟩]) (.block 0 (.loop (.seq (.region [⟨(some 9), (.bin .lss (.t 8) (.t 7)), none, []⟩]) (.seq (.cond (.t 9) .skip (.exit 0)) (.seq (.block 1 (.seq (.region [⟨(some 10), (.mov (.t 8)), none, []⟩, ⟨(some 5), (.mov (.t 10)), none, []⟩])
  (.seq (.region [⟨(some 11), (.mov (.t 1)), none, []⟩, ⟨(some 12), (.mov (.t 0)), none, []⟩, ⟨(some 13), (.mov (.t 5)), none, []⟩, ⟨(some 14), (.idx 1 (.t 12) (.t 13)), none, []⟩, ⟨(some 15), (.load none none (.t 14)), none, []⟩, ⟨(some
  16), (.beq false (.t 11) (.t 15)), none, []⟩]) (.cond (.t 16) (.seq (.region [⟨(some 17), (.mov (.t 5)), none, []⟩, ⟨(some 4), (.mov (.t 17)), none, []⟩]) .ret) .skip)))) (.region [⟨(some 18), (.bin .add (.t 8) (.c (.int .i64 1))), none,
  []⟩, ⟨(some 8), (.mov (.t 18)), none, []⟩]))))))) (.seq (.region [⟨(some 4), (.mov (.c (.int .i64 (-1)))), none, []⟩]) .ret)))⟩
theorem irOk123 : compFun Tryd.prog.underlying Tryd.prog.info? sq Tryd.f123 = some ir123 := by kernel_rfl
def ir124 : BFun := ⟨[(.tmp 4)], (.seq (.region [⟨(some 4), (.mov (.c (.int .i64 0))), none, []⟩]) (.seq (.region [⟨(some 5), (.mov (.t 0)), none, []⟩, ⟨(some 6), (.mov (.t 1)), none, []⟩, ⟨(some 7), (.call (.c (.fn 91 [])) [(.t 6)]), none,
  []⟩, ⟨(some 8), (.bin .quo (.t 5) (.t 7)), none, []⟩, ⟨(some 9), (.bin .rem (.t 8) (.c (.int .i64 3))), none, []⟩, ⟨(some 4), (.mov (.t 9)), none, []⟩]) .ret))⟩
theorem irOk124 : compFun Tryd.prog.underlying Tryd.prog.info? sq Tryd.f124 = some ir124 := by kernel_rfl
def fnOf : Nat → Option BFun
  | 3 => some ir3
  | 4 => some ir4
  | 5 => some ir5
  | 7 => some ir7
  | 8 => some ir8
  | 9 => some ir9
  | 10 => some ir10
  | 11 => some ir11
  | 12 => some ir12
  | 13 => some ir13
  | 14 => some ir14
  | 15 => some ir15
  | 17 => some ir17
  | 19 => some ir19
  | 23 => some ir23
  | 24 => some ir24
  | 25 => some ir25
  | 26 => some ir26
  | 27 => some ir27
  | 28 => some ir28
  | 29 => some ir29
  | 30 => some ir30
  | 31 => some ir31
  | 32 => some ir32
  | 33 => some ir33
  | 34 => some ir34
  | 35 => some ir35
  | 36 => some ir36
  | 37 => some ir37
  | 38 => some ir38
  | 39 => some ir39
  | 40 => some ir40
  | 41 => some ir41
  | 42 => some ir42
  | 43 => some ir43
  | 44 => some ir44
  | 45 => some ir45
  | 46 => some ir46
  | 47 => some ir47
  | 49 => some ir49
  | 55 => some ir55
  | 56 => some ir56
  | 57 => some ir57
  | 58 => some ir58
  | 59 => some ir59
  | 60 => some ir60
  | 61 => some ir61
  | 62 => some ir62
  | 63 => some ir63
  | 64 => some ir64
  | 65 => some ir65
  | 66 => some ir66
  | 67 => some ir67
  | 69 => some ir69
  | 70 => some ir70
  | 71 => some ir71
  | 72 => some ir72
  | 74 => some ir74
  | 79 => some ir79
  | 81 => some ir81
  | 82 => some ir82
  | 83 => some ir83
  | 84 => some ir84
  | 85 => some ir85
  | 86 => some ir86
  | 87 => some ir87
  | 88 => some ir88
  | 89 => some ir89
  | 90 => some ir90
  | 91 => some ir91
  | 92 => some ir92
  | 93 => some ir93
  | 95 => some ir95
  | 96 => some ir96
  | 97 => some ir97
  | 98 => some ir98
  | 99 => some ir99
  | 100 => some ir100
  | 101 => some ir101
  | 102 => some ir102
  | 103 => some ir103
  | 106 => some ir106
  | 109 => some ir109
  | 110 => some ir110
  | 111 => some ir111
  | 112 => some ir112
  | 113 => some ir113
  | 114 => some ir114
  | 115 => some ir115
  | 116 => some ir116
  | 119 => some ir119
  | 120 => some ir120
  | 122 => some ir122
  | 123 => some ir123
  | 124 => some ir124
  | _ => none
def gam (base : Nat) : Ctx := ⟨base, fnOf, itoaB 118⟩
theorem linked (base : Nat) : Linked Tryd.prog sq (gam base) := by
  intro f bfn h
  simp only [gam, fnOf] at h
  split at h
  · cases h; exact ⟨Tryd.f3, Tryd.func3, irOk3, by kernel_rfl⟩
  · cases h; exact ⟨Tryd.f4, Tryd.func4, irOk4, by kernel_rfl⟩
  · cases h; exact ⟨Tryd.f5, Tryd.func5, irOk5, by kernel_rfl⟩
  · cases h; exact ⟨Tryd.f7, Tryd.func7, irOk7, by kernel_rfl⟩
  · cases h; exact ⟨Tryd.f8, Tryd.func8, irOk8, by kernel_rfl⟩
  · cases h; exact ⟨Tryd.f9, Tryd.func9, irOk9, by kernel_rfl⟩
  · cases h; exact ⟨Tryd.f10, Tryd.func10, irOk10, by kernel_rfl⟩
  · cases h; exact ⟨Tryd.f11, Tryd.func11, irOk11, by kernel_rfl⟩
  · cases h; exact ⟨Tryd.f12, Tryd.func12, irOk12, by kernel_rfl⟩
  · cases h; exact ⟨Tryd.f13, Tryd.func13, irOk13, by kernel_rfl⟩
  · cases h; exact ⟨Tryd.f14, Tryd.func14, irOk14, by kernel_rfl⟩
  · cases h; exact ⟨Tryd.f15, Tryd.func15, irOk15, by kernel_rfl⟩
  · cases h; exact ⟨Tryd.f17, Tryd.func17, irOk17, by kernel_rfl⟩
  · cases h; exact ⟨Tryd.f19, Tryd.func19, irOk19, by kernel_rfl⟩
  · cases h; exact ⟨Tryd.f23, Tryd.func23, irOk23, by kernel_rfl⟩
  · cases h; exact ⟨Tryd.f24, Tryd.func24, irOk24, by kernel_rfl⟩
  · cases h; exact ⟨Tryd.f25, Tryd.func25, irOk25, by kernel_rfl⟩
  · cases h; exact ⟨Tryd.f26, Tryd.func26, irOk26, by kernel_rfl⟩
  · cases h; exact ⟨Tryd.f27, Tryd.func27, irOk27, by kernel_rfl⟩
  · cases h; exact ⟨Tryd.f28, Tryd.func28, irOk28, by kernel_rfl⟩
  · cases h; exact ⟨Tryd.f29, Tryd.func29, irOk29, by kernel_rfl⟩
  · cases h; exact ⟨Tryd.f30, Tryd.func30, irOk30, by kernel_rfl⟩
  · cases h; exact ⟨Tryd.f31, Tryd.func31, irOk31, by kernel_rfl⟩
  · cases h; exact ⟨Tryd.f32, Tryd.func32, irOk32, by kernel_rfl⟩
  · cases h; exact ⟨Tryd.f33, Tryd.func33, irOk33, by kernel_rfl⟩
  · cases h; exact ⟨Tryd.f34, Tryd.func34, irOk34, by kernel_rfl⟩
  · cases h; exact ⟨Tryd.f35, Tryd.func35, irOk35, by kernel_rfl⟩
  · cases h; exact ⟨Tryd.f36, Tryd.func36, irOk36, by kernel_rfl⟩
  · cases h; exact ⟨Tryd.f37, Tryd.func37, irOk37, by kernel_rfl⟩
  · cases h; exact ⟨Tryd.f38, Tryd.func38, irOk38, by kernel_rfl⟩
  · cases h; exact ⟨Tryd.f39, Tryd.func39, irOk39, by kernel_rfl⟩
  · cases h; exact ⟨Tryd.f40, Tryd.func40, irOk40, by kernel_rfl⟩
  · cases h; exact ⟨Tryd.f41, Tryd.func41, irOk41, by kernel_rfl⟩
  · cases h; exact ⟨Tryd.f42, Tryd.func42, irOk42, by kernel_rfl⟩
  · cases h; exact ⟨Tryd.f43, Tryd.func43, irOk43, by kernel_rfl⟩
  · cases h; exact ⟨Tryd.f44, Tryd.func44, irOk44, by kernel_rfl⟩
  · cases h; exact ⟨Tryd.f45, Tryd.func45, irOk45, by kernel_rfl⟩
  · cases h; exact ⟨Tryd.f46, Tryd.func46, irOk46, by kernel_rfl⟩
  · cases h; exact ⟨Tryd.f47, Tryd.func47, irOk47, by kernel_rfl⟩
  · cases h; exact ⟨Tryd.f49, Tryd.func49, irOk49, by kernel_rfl⟩
  · cases h; exact ⟨Tryd.f55, Tryd.func55, irOk55, by kernel_rfl⟩
  · cases h; exact ⟨Tryd.f56, Tryd.func56, irOk56, by kernel_rfl⟩
  · cases h; exact ⟨Tryd.f57, Tryd.func57, irOk57, by kernel_rfl⟩
  · cases h; exact ⟨Tryd.f58, Tryd.func58, irOk58, by kernel_rfl⟩
  · cases h; exact ⟨Tryd.f59, Tryd.func59, irOk59, by kernel_rfl⟩
  · cases h; exact ⟨Tryd.f60, Tryd.func60, irOk60, by kernel_rfl⟩
  · cases h; exact ⟨Tryd.f61, Tryd.func61, irOk61, by kernel_rfl⟩
  · cases h; exact ⟨Tryd.f62, Tryd.func62, irOk62, by kernel_rfl⟩
  · cases h; exact ⟨Tryd.f63, Tryd.func63, irOk63, by kernel_rfl⟩
  · cases h; exact ⟨Tryd.f64, Tryd.func64, irOk64, by kernel_rfl⟩
  · cases h; exact ⟨Tryd.f65, Tryd.func65, irOk65, by kernel_rfl⟩
  · cases h; exact ⟨Tryd.f66, Tryd.func66, irOk66, by kernel_rfl⟩
  · cases h; exact ⟨Tryd.f67, Tryd.func67, irOk67, by kernel_rfl⟩
  · cases h; exact ⟨Tryd.f69, Tryd.func69, irOk69, by kernel_rfl⟩
  · cases h; exact ⟨Tryd.f70, Tryd.func70, irOk70, by kernel_rfl⟩
  · cases h; exact ⟨Tryd.f71, Tryd.func71, irOk71, by kernel_rfl⟩
  · cases h; exact ⟨Tryd.f72, Tryd.func72, irOk72, by kernel_rfl⟩
  · cases h; exact ⟨Tryd.f74, Tryd.func74, irOk74, by kernel_rfl⟩
  · cases h; exact ⟨Tryd.f79, Tryd.func79, irOk79, by kernel_rfl⟩
  · cases h; exact ⟨Tryd.f81, Tryd.func81, irOk81, by kernel_rfl⟩
  · cases h; exact ⟨Tryd.f82, Tryd.func82, irOk82, by kernel_rfl⟩
  · cases h; exact ⟨Tryd.f83, Tryd.func83, irOk83, by kernel_rfl⟩
  · cases h; exact ⟨Tryd.f84, Tryd.func84, irOk84, by kernel_rfl⟩
  · cases h; exact ⟨Tryd.f85, Tryd.func85, irOk85, by kernel_rfl⟩
  · cases h; exact ⟨Tryd.f86, Tryd.func86, irOk86, by kernel_rfl⟩
  · cases h; exact ⟨Tryd.f87, Tryd.func87, irOk87, by kernel_rfl⟩
  · cases h; exact ⟨Tryd.f88, Tryd.func88, irOk88, by kernel_rfl⟩
  · cases h; exact ⟨Tryd.f89, Tryd.func89, irOk89, by kernel_rfl⟩
  · cases h; exact ⟨Tryd.f90, Tryd.func90, irOk90, by kernel_rfl⟩
  · cases h; exact ⟨Tryd.f91, Tryd.func91, irOk91, by kernel_rfl⟩
  · cases h; exact ⟨Tryd.f92, Tryd.func92, irOk92, by kernel_rfl⟩
  · cases h; exact ⟨Tryd.f93, Tryd.func93, irOk93, by kernel_rfl⟩
  · cases h; exact ⟨Tryd.f95, Tryd.func95, irOk95, by kernel_rfl⟩
  · cases h; exact ⟨Tryd.f96, Tryd.func96, irOk96, by kernel_rfl⟩
  · cases h; exact ⟨Tryd.f97, Tryd.func97, irOk97, by kernel_rfl⟩
  · cases h; exact ⟨Tryd.f98, Tryd.func98, irOk98, by kernel_rfl⟩
  · cases h; exact ⟨Tryd.f99, Tryd.func99, irOk99, by kernel_rfl⟩
  · cases h; exact ⟨Tryd.f100, Tryd.func100, irOk100, by kernel_rfl⟩
  · cases h; exact ⟨Tryd.f101, Tryd.func101, irOk101, by kernel_rfl⟩
  · cases h; exact ⟨Tryd.f102, Tryd.func102, irOk102, by kernel_rfl⟩
  · cases h; exact ⟨Tryd.f103, Tryd.func103, irOk103, by kernel_rfl⟩
  · cases h; exact ⟨Tryd.f106, Tryd.func106, irOk106, by kernel_rfl⟩
  · cases h; exact ⟨Tryd.f109, Tryd.func109, irOk109, by kernel_rfl⟩
  · cases h; exact ⟨Tryd.f110, Tryd.func110, irOk110, by kernel_rfl⟩
  · cases h; exact ⟨Tryd.f111, Tryd.func111, irOk111, by kernel_rfl⟩
  · cases h; exact ⟨Tryd.f112, Tryd.func112, irOk112, by kernel_rfl⟩
  · cases h; exact ⟨Tryd.f113, Tryd.func113, irOk113, by kernel_rfl⟩
  · cases h; exact ⟨Tryd.f114, Tryd.func114, irOk114, by kernel_rfl⟩
  · cases h; exact ⟨Tryd.f115, Tryd.func115, irOk115, by kernel_rfl⟩
  · cases h; exact ⟨Tryd.f116, Tryd.func116, irOk116, by kernel_rfl⟩
  · cases h; exact ⟨Tryd.f119, Tryd.func119, irOk119, by kernel_rfl⟩
  · cases h; exact ⟨Tryd.f120, Tryd.func120, irOk120, by kernel_rfl⟩
  · cases h; exact ⟨Tryd.f122, Tryd.func122, irOk122, by kernel_rfl⟩
  · cases h; exact ⟨Tryd.f123, Tryd.func123, irOk123, by kernel_rfl⟩
  · cases h; exact ⟨Tryd.f124, Tryd.func124, irOk124, by kernel_rfl⟩
  · cases h
end Go.Proofs.YtcnkhkmapgbodaaDoor.W
end
